/- Ythkpnkmbmlbefaa: part 6 of 6 of the proof that the law TopoDistances returns true for every input, its arguments reading as before. No condition. -/
import Derived.Test.YthkpnkmbmlbefaaMTopoDistances1
import Derived.Test.YthkpnkmbmlbefaaMTopoDistances2
import Derived.Test.YthkpnkmbmlbefaaMTopoDistances3
import Derived.Test.YthkpnkmbmlbefaaMTopoDistances4
import Derived.KernelRfl
import Derived.Test.YthkpnkmbmlbefaaMTopoDistances5
import Derived.Deep.Slices
import Derived.DataReads
import Derived.Test.YthkpnkmbmlbefaaRows
import Derived.WalkKit
import Derived.ProofKit
import Derived.OpenShut
import Derived.ShutString
import Derived.ChangeOld
import Derived.Below
import Derived.SizedLaws
import Derived.WideShapes
namespace Go.Proofs.Ythkpnkmbmlbefaa.X
open Go.RowKit Go.Proofs.YthkpnkmbmlbefaaW.PrintWords Go.Proofs.YthkpnkmbmlbefaaW.PrintLast Go.Proofs.YthkpnkmbmlbefaaW.PrintMore
attribute [local go_sem] max2_int min2_int max_two min_two max_three min_three max_four min_four   -- for this text's walks alone
set_option linter.unusedVariables false
set_option linter.unusedSimpArgs false

def WFi64 (x : Int) : Prop := (Lit.int .i64 x).wf = true
def WF37 (x : S37) : Prop := WFi64 x.f0 ∧ WFi64 x.f1 ∧ WFi64 x.f2 ∧ WFi64 x.f3
def WFL37 (x : List (S37)) : Prop := x.length ≤ 9223372036854775807 ∧ ∀ y ∈ x, WF37 y
def WF24 (x : S24) : Prop := WFi64 x.f0 ∧ WFL37 x.f1
end Go.Proofs.Ythkpnkmbmlbefaa.X

/- Plain words of this seat: rounds, wrapped numbers, lists by index; the check of graphs: the program's and the reference's tell the same. -/
namespace Go.Proofs.Ythkpnkmbmlbefaa.PB
open Go.RowKit Go.Proofs.Ythkpnkmbmlbefaa.X Go.Proofs.YthkpnkmbmlbefaaW.PrintWords Go.Proofs.YthkpnkmbmlbefaaW.PrintLast

section
variable {α β : Type} {f g h : Nat → Option α} {r : α} {c : Prop} [Decidable c]
theorem Ev.pos (hc : c) (h : Ev f r) : Ev (fun n => if c then f n else g n) r := Ev.congr (fun _ => if_pos hc) h
theorem Ev.neg (hc : ¬ c) (h : Ev g r) : Ev (fun n => if c then f n else g n) r := Ev.congr (fun _ => if_neg hc) h
theorem Ev.ite_ (h1 : c → Ev f r) (h2 : ¬ c → Ev g r) : Ev (fun n => if c then f n else g n) r := by
  by_cases hc : c
  · exact Ev.pos hc (h1 hc)
  · exact Ev.neg hc (h2 hc)
theorem Ev.bind' {g : Nat → Option α} {f : Nat → α → Option β} {r : β} (a : α) (h : Ev g a) (k : Ev (fun n => f n a) r) : Ev (fun n => (g n).bind (f n)) r := Ev.bind h k
theorem Ev.some_bind {f : Nat → α → Option β} {a : α} {r : β} (k : Ev (fun n => f n a) r) : Ev (fun n => (some a).bind (f n)) r := k
theorem Ev.const {x : Option α} (h : x = some r) : Ev (fun _ => x) r := ⟨0, fun _ _ => h⟩
theorem Ev.uniq {r r' : α} (h : Ev f r) (h' : Ev f r') : r = r' := by
  obtain ⟨K, h⟩ := h
  obtain ⟨K', h'⟩ := h'
  have h1 := h (max K K') (by omega)
  have h2 := h' (max K K') (by omega)
  rw [h1] at h2
  exact Option.some.inj h2
end
theorem wrap_id {x : Int} (h0 : -9223372036854775808 ≤ x) (h1 : x < 9223372036854775808) : wrap64 x = x := by
  unfold wrap64; omega
theorem wrap_nat {i : Nat} (h : i < 9223372036854775807) : wrap64 ((i : Int) + 1) = ((i + 1 : Nat) : Int) := by
  rw [wrap_id (by omega) (by omega)]; rfl
theorem rd37 (l : List S37) (i : Nat) : rd_T37 l (i : Int) = l.getD i z37 := by simp [rd_T37]
theorem rdI (l : List Int) (i : Nat) : rd l (i : Int) = l.getD i 0 := by simp [rd]
theorem rdL3 (l : List (List Int)) (i : Nat) : rd_L3 l (i : Int) = l.getD i [] := by simp [rd_L3]

/-! ### Rows of numbers alike -/
theorem eq_from (x y : List Int) (hx : x.length < 9223372036854775807) (he : x.length = y.length) : ∀ d i, i + d = x.length → Ev (fun k => slices_Equal_int_int.l0 k x y x.length i) (decide (x.drop i = y.drop i)) := by
  intro d
  induction d with
  | zero =>
    intro i hi
    refine Ev.step (fun k => by rw [slices_Equal_int_int.l0]) ?_
    refine Ev.neg (by omega) (Ev.const ?_)
    rw [List.drop_of_length_le (by omega), List.drop_of_length_le (by omega)]
    simp
  | succ d ih =>
    intro i hi
    refine Ev.step (fun k => by rw [slices_Equal_int_int.l0]) ?_
    refine Ev.pos (by omega) (Ev.pos (by omega) (Ev.pos (by omega) (Ev.pos (by omega) ?_)))
    rw [rdI, rdI]
    have e1 : x.drop i = x.getD i 0 :: x.drop (i + 1) := by
      rw [List.drop_eq_getElem_cons (by omega)]; simp [List.getD, show i < x.length by omega]
    have e2 : y.drop i = y.getD i 0 :: y.drop (i + 1) := by
      rw [List.drop_eq_getElem_cons (by omega)]; simp [List.getD, show i < y.length by omega]
    refine Ev.ite_ (fun h => ?_) (fun h => Ev.const ?_)
    · rw [wrap_nat (by omega), e1, e2]
      have := ih (i + 1) (by omega)
      rw [h]
      simp only [List.cons.injEq, true_and]
      exact this
    · rw [e1, e2]
      have : ¬ (x.getD i 0 :: x.drop (i + 1) = y.getD i 0 :: y.drop (i + 1)) := fun q => h (by injection q)
      simp only [this, decide_false]
theorem eq_ints (x y : List Int) (hx : x.length < 9223372036854775807) : Ev (fun k => slices_Equal_int_int.f k x y) (decide (x = y)) := by
  unfold slices_Equal_int_int.f
  refine Ev.ite_ (fun h => ?_) (fun h => Ev.const ?_)
  · have he : x.length = y.length := by omega
    have := eq_from x y hx he x.length 0 (by omega)
    simpa using this
  · have : ¬ x = y := fun e => h (by rw [e])
    simp [this]

/-! ### Check -/
/-- An edge with its ends within the limits. -/
def OkE (a : Int) (e : S37) : Prop := 0 ≤ e.f0 ∧ e.f0 < a ∧ 0 ≤ e.f2 ∧ e.f2 < a ∧ 1 ≤ e.f1 ∧ e.f1 ≤ 8 ∧ 1 ≤ e.f3 ∧ e.f3 ≤ 8
instance (a : Int) (e : S37) : Decidable (OkE a e) := by unfold OkE; infer_instance
def hasEnd (e : S37) (q : Int × Int) : Prop := (e.f0 = q.1 ∧ e.f1 = q.2) ∨ (e.f2 = q.1 ∧ e.f3 = q.2)
instance (e : S37) (q : Int × Int) : Decidable (hasEnd e q) := by unfold hasEnd; infer_instance
/-- One of the n edges from j on has this end. -/
def usedFrom (l : List S37) (q : Int × Int) : Nat → Nat → Bool
  | 0, _ => false
  | d + 1, j => if hasEnd (l.getD j z37) q then true else usedFrom l q d (j + 1)
def chkFrom (a : Int) (l : List S37) : Nat → Nat → Int
  | 0, _ => 0
  | d + 1, i => if OkE a (l.getD i z37) then (if (l.getD i z37).f0 = (l.getD i z37).f2 then 18 else if usedFrom l ((l.getD i z37).f0, (l.getD i z37).f1) i 0 = true then 10 else if usedFrom l ((l.getD i z37).f2, (l.getD i z37).f3) i 0 = true then 10 else chkFrom a l d (i + 1)) else 3
def chk (a : Int) (l : List S37) : Int := if a < 1 ∨ a > 24 then 3 else if (l.length : Int) > 64 then 6 else chkFrom a l l.length 0
theorem usedFrom_iff (l : List S37) (q : Int × Int) : ∀ d j, usedFrom l q d j = true ↔ ∃ i, j ≤ i ∧ i < j + d ∧ hasEnd (l.getD i z37) q
  | 0, j => by simp [usedFrom]; omega
  | d + 1, j => by
    unfold usedFrom
    by_cases h : hasEnd (l.getD j z37) q
    · rw [if_pos h]
      exact ⟨fun _ => ⟨j, by omega, by omega, h⟩, fun _ => rfl⟩
    · rw [if_neg h, usedFrom_iff l q d (j + 1)]
      constructor
      · rintro ⟨i, h1, h2, h3⟩; exact ⟨i, by omega, by omega, h3⟩
      · rintro ⟨i, h1, h2, h3⟩
        refine ⟨i, ?_, by omega, h3⟩
        rcases Nat.lt_or_ge j i with q | q
        · omega
        · obtain rfl : i = j := by omega
          exact absurd h3 h
theorem impl_from (a : Int) (l : List S37) (hn : l.length ≤ 64) : ∀ d i ks, i + d = l.length → (∀ q, q ∈ ks ↔ usedFrom l q i 0 = true) → Ev (fun k => topo_Check.l0 k l i a ks) (chkFrom a l d i) := by
  intro d
  induction d with
  | zero =>
    intro i ks hi _
    refine Ev.step (fun k => by rw [topo_Check.l0]) ?_
    exact Ev.neg (by omega) (Ev.const rfl)
  | succ d ih =>
    intro i ks hi hks
    refine Ev.step (fun k => by rw [topo_Check.l0]) ?_
    refine Ev.pos (by omega) (Ev.pos (by omega) (Ev.pos (by omega) ?_))
    rw [rd37]
    unfold topo_ends.f
    refine Ev.some_bind ?_
    dsimp only
    have hnext := ih (i + 1) ((((l.getD i z37).f2, (l.getD i z37).f3)) :: ((l.getD i z37).f0, (l.getD i z37).f1) :: ks) (by omega) (fun q => by
      rw [usedFrom_iff]
      simp only [List.mem_cons]
      rw [hks q, usedFrom_iff]
      constructor
      · rintro (h | h | ⟨j, h1, h2, h3⟩)
        · exact ⟨i, by omega, by omega, .inr (by rw [h]; exact ⟨rfl, rfl⟩)⟩
        · exact ⟨i, by omega, by omega, .inl (by rw [h]; exact ⟨rfl, rfl⟩)⟩
        · exact ⟨j, by omega, by omega, h3⟩
      · rintro ⟨j, h1, h2, h3⟩
        by_cases hj : j = i
        · subst hj
          rcases h3 with ⟨h3, h4⟩ | ⟨h3, h4⟩
          · exact .inr (.inl (by rw [h3, h4]))
          · exact .inl (by rw [h3, h4])
        · exact .inr (.inr ⟨j, h1, by omega, h3⟩))
    have k1 := hks ((l.getD i z37).f0, (l.getD i z37).f1)
    have k2 := hks ((l.getD i z37).f2, (l.getD i z37).f3)
    unfold chkFrom
    generalize l.getD i z37 = e at *
    have bad : ¬ OkE a e → ∀ r : Int, Ev (fun _ : Nat => some 3) (if OkE a e then r else 3) := fun h r => by rw [if_neg h]; exact Ev.const rfl
    refine Ev.step (fun k => by rw [topo_Check.l1]) ?_
    refine Ev.pos rfl (Ev.ite_ (fun h1 => bad (by unfold OkE; omega) _) (fun h1 => Ev.ite_ (fun h2 => bad (by unfold OkE; omega) _) (fun h2 => Ev.ite_ (fun h3 => bad (by unfold OkE; omega) _) (fun h3 => Ev.ite_ (fun h4 => bad (by unfold OkE; omega) _) (fun h4 => ?_)))))
    refine Ev.step (fun k => by rw [topo_Check.l1]) ?_
    refine Ev.neg (by decide) (Ev.pos rfl (Ev.ite_ (fun h5 => bad (by unfold OkE; omega) _) (fun h5 => Ev.ite_ (fun h6 => bad (by unfold OkE; omega) _) (fun h6 => Ev.ite_ (fun h7 => bad (by unfold OkE; omega) _) (fun h7 => Ev.ite_ (fun h8 => bad (by unfold OkE; omega) _) (fun h8 => ?_))))))
    refine Ev.step (fun k => by rw [topo_Check.l1]) ?_
    refine Ev.neg (by decide) (Ev.neg (by decide) ?_)
    rw [if_pos (by unfold OkE; omega)]
    refine Ev.ite_ (fun h9 => ?_) (fun h9 => ?_)
    · rw [if_pos h9]; exact Ev.const rfl
    · rw [if_neg h9]
      refine Ev.ite_ (fun h10 => ?_) (fun h10 => ?_)
      · rw [if_pos (k1.1 h10)]; exact Ev.const rfl
      · rw [if_neg (fun q => h10 (k1.2 q))]
        refine Ev.ite_ (fun h11 => ?_) (fun h11 => ?_)
        · rw [if_pos (k2.1 h11)]; exact Ev.const rfl
        · rw [if_neg (fun q => h11 (k2.2 q)), wrap_nat (by omega)]
          exact hnext
theorem impl_check (a : Int) (l : List S37) : Ev (fun k => topo_Check.f k a l) (chk a l) := by
  unfold topo_Check.f chk
  refine Ev.ite_ (fun h => ?_) (fun h => ?_)
  · rw [if_pos (.inl h)]
    refine Ev.step (fun k => by rw [topo_Check.j0]) ?_
    exact Ev.pos rfl (Ev.const rfl)
  · refine Ev.step (fun k => by rw [topo_Check.j0]) ?_
    refine Ev.ite_ (fun h1 => ?_) (fun h1 => ?_)
    · rw [if_pos (.inr (of_decide_eq_true h1))]; exact Ev.const rfl
    · have h1' : ¬ a > 24 := by simpa using h1
      rw [if_neg (by omega)]
      refine Ev.pos (by omega) (Ev.ite_ (fun h2 => ?_) (fun h2 => ?_))
      · rw [if_pos h2]; exact Ev.const rfl
      · rw [if_neg h2]
        exact impl_from a l (by omega) l.length 0 [] (by omega) (fun q => by simp [usedFrom])
end Go.Proofs.Ythkpnkmbmlbefaa.PB

/- Distances in a graph, as the chapter's rules determine them; the search in waves, the reference's rounds, and the way down give what they determine. -/
namespace Go.Proofs.Ythkpnkmbmlbefaa.PB
open Go.RowKit Go.Proofs.Ythkpnkmbmlbefaa Go.Proofs.Ythkpnkmbmlbefaa.X Go.Proofs.YthkpnkmbmlbefaaW.PrintWords Go.Proofs.YthkpnkmbmlbefaaW.PrintLast
structure IsDist (N : Nat) (adj : Nat → Nat → Prop) (a : Nat) (d : Nat → Int) : Prop where
  zero : d a = 0
  only : ∀ x, x < N → d x = 0 → x = a
  low : ∀ x, x < N → -1 ≤ d x
  edge : ∀ x y, adj x y → 0 ≤ d x → 0 ≤ d y ∧ d y ≤ d x + 1
  back : ∀ x, x < N → 0 < d x → ∃ y, adj y x ∧ d y = d x - 1
section
variable {N : Nat} {adj : Nat → Nat → Prop} {a : Nat} {d d' : Nat → Int}
theorem IsDist.le (hr : ∀ x y, adj x y → x < N ∧ y < N) (h : IsDist N adj a d) (h' : IsDist N adj a d') : ∀ (n : Nat) (x : Nat), x < N → d x = n → 0 ≤ d' x ∧ d' x ≤ n
  | 0, x, hx, e => by
    have := h.only x hx (by simpa using e)
    subst this
    have := h'.zero
    omega
  | n + 1, x, hx, e => by
    obtain ⟨y, ha, hy⟩ := h.back x hx (by omega)
    have h1 := IsDist.le hr h h' n y (hr _ _ ha).1 (by omega)
    have h2 := h'.edge y x ha h1.1
    omega
theorem IsDist.uniq (hr : ∀ x y, adj x y → x < N ∧ y < N) (h : IsDist N adj a d) (h' : IsDist N adj a d') (x : Nat) (hx : x < N) : d x = d' x := by
  have l1 := h.low x hx
  have l2 := h'.low x hx
  rcases Int.lt_or_le (d x) 0 with q | q
  · rcases Int.lt_or_le (d' x) 0 with q' | q'
    · omega
    · have := h'.le hr h (d' x).toNat x hx (by omega)
      omega
  · have h1 := h.le hr h' (d x).toNat x hx (by omega)
    have h2 := h'.le hr h (d' x).toNat x hx (by omega)
    omega
theorem pigeon : ∀ (N n : Nat) (f : Nat → Nat), (∀ i, i < n → f i < N) → (∀ i j, i < n → j < n → f i = f j → i = j) → n ≤ N
  | 0, n, f, h, _ => by
    rcases Nat.eq_zero_or_pos n with h0 | h0
    · omega
    · exact absurd (h 0 h0) (by omega)
  | N + 1, n, f, h, hi => by
    by_cases q : ∃ i, i < n ∧ f i = N
    · obtain ⟨i0, h0, e0⟩ := q
      have := pigeon N (n - 1) (fun j => if j < i0 then f j else f (j + 1)) (fun j hj => by
        split
        · rename_i hlt
          have h1 := h j (by omega)
          have h2 : f j ≠ N := fun e => by have := hi j i0 (by omega) h0 (by omega); omega
          omega
        · rename_i hlt
          have h1 := h (j + 1) (by omega)
          have h2 : f (j + 1) ≠ N := fun e => by have := hi (j + 1) i0 (by omega) h0 (by omega); omega
          omega) (fun i j hi' hj' e => by
        split at e <;> split at e
        · exact hi i j (by omega) (by omega) e
        · have := hi i (j + 1) (by omega) (by omega) e; omega
        · have := hi (i + 1) j (by omega) (by omega) e; omega
        · have := hi (i + 1) (j + 1) (by omega) (by omega) e; omega)
      omega
    · have := pigeon N n f (fun i hi' => by
        have h1 := h i hi'
        have h2 : f i ≠ N := fun e => q ⟨i, hi', e⟩
        omega) hi
      omega
theorem IsDist.levels (hr : ∀ x y, adj x y → x < N ∧ y < N) (h : IsDist N adj a d) : ∀ (n : Nat) (x : Nat), x < N → d x = n → ∀ k : Nat, k ≤ n → ∃ y, y < N ∧ d y = k
  | 0, x, hx, e, k, hk => ⟨x, hx, by omega⟩
  | n + 1, x, hx, e, k, hk => by
    by_cases q : k = n + 1
    · exact ⟨x, hx, by omega⟩
    · obtain ⟨y, ha, hy⟩ := h.back x hx (by omega)
      exact IsDist.levels hr h n y (hr _ _ ha).1 (by omega) k (by omega)
theorem IsDist.lt (hr : ∀ x y, adj x y → x < N ∧ y < N) (h : IsDist N adj a d) (x : Nat) (hx : x < N) : d x < N := by
  rcases Int.lt_or_le (d x) 0 with q | q
  · omega
  · have h1 := h.levels hr (d x).toNat x hx (by omega)
    have h2 : ∀ k : Nat, ∃ y, k ≤ (d x).toNat → (y < N ∧ d y = k) := fun k => by
      by_cases hk : k ≤ (d x).toNat
      · obtain ⟨y, hy⟩ := h1 k hk
        exact ⟨y, fun _ => hy⟩
      · exact ⟨0, fun h => absurd h hk⟩
    have := pigeon N ((d x).toNat + 1) (fun k => Classical.choose (h2 k)) (fun i hi => (Classical.choose_spec (h2 i) (by omega)).1) (fun i j hi hj e => by
      have e1 := (Classical.choose_spec (h2 i) (by omega)).2
      have e2 := (Classical.choose_spec (h2 j) (by omega)).2
      rw [e] at e1
      omega)
    omega
end
section
variable {N : Nat} {adj : Nat → Nat → Prop} {a : Nat}
def gd (l : List Int) (i : Nat) : Int := l.getD i 0
theorem gd_set {l : List Int} {i : Nat} (h : i < l.length) (v : Int) (j : Nat) : gd (l.set i v) j = if j = i then v else gd l j := by
  unfold gd
  by_cases q : j = i
  · subst q; simp [h]
  · rw [if_neg q]; simp [List.getD, Ne.symm q]
def push (x : Nat) (s : List Int × List Nat) (y : Nat) : List Int × List Nat := if gd s.1 y < 0 then (s.1.set y (gd s.1 x + 1), s.2 ++ [y]) else s
structure Base (N : Nat) (adj : Nat → Nat → Prop) (a : Nat) (d : List Int) (w : List Nat) : Prop where
  len : d.length = N
  node : ∀ x ∈ w, x < N ∧ 0 ≤ gd d x
  zero : gd d a = 0
  only : ∀ x, x < N → gd d x = 0 → x = a
  low : ∀ x, x < N → -1 ≤ gd d x
  back : ∀ x, x < N → 0 < gd d x → ∃ y, adj y x ∧ gd d y = gd d x - 1
  order : w.Pairwise (fun x y => gd d x ≤ gd d y)
structure Outer (N : Nat) (adj : Nat → Nat → Prop) (a : Nat) (d : List Int) (w : List Nat) : Prop extends Base N adj a d w where
  closed : ∀ z, z < N → 0 ≤ gd d z → z ∈ w ∨ ∀ y, adj z y → 0 ≤ gd d y ∧ gd d y ≤ gd d z + 1
  head : ∀ x ∈ w, ∀ z, z < N → gd d z ≤ gd d x + 1
structure Inner (N : Nat) (adj : Nat → Nat → Prop) (a : Nat) (x : Nat) (done : List Nat) (d : List Int) (w : List Nat) : Prop extends Base N adj a d w where
  hx : x < N ∧ 0 ≤ gd d x
  closed : ∀ z, z < N → 0 ≤ gd d z → z ∈ w ∨ z = x ∨ ∀ y, adj z y → 0 ≤ gd d y ∧ gd d y ≤ gd d z + 1
  did : ∀ y ∈ done, 0 ≤ gd d y ∧ gd d y ≤ gd d x + 1
  top : ∀ z, z < N → gd d z ≤ gd d x + 1
  wave : ∀ u ∈ w, gd d x ≤ gd d u
theorem Inner.push (hr : ∀ x y, adj x y → x < N ∧ y < N) {x : Nat} {done : List Nat} {d : List Int} {w : List Nat} (h : Inner N adj a x done d w) {y : Nat} (hy : adj x y) :
    Inner N adj a x (y :: done) (push x (d, w) y).1 (push x (d, w) y).2 := by
  have hyN := (hr _ _ hy).2
  unfold PB.push
  by_cases q : gd d y < 0
  · simp only [if_pos q]
    have g : ∀ j, gd (d.set y (gd d x + 1)) j = if j = y then gd d x + 1 else gd d j := fun j => gd_set (by rw [h.len]; exact hyN) _ j
    have hxy : x ≠ y := fun e => by subst e; have := h.hx.2; omega
    have gp : ∀ j, 0 ≤ gd d j → gd (d.set y (gd d x + 1)) j = gd d j := fun j hj => by
      rw [g, if_neg (fun e => by subst e; omega)]
    have gx : gd (d.set y (gd d x + 1)) x = gd d x := gp x h.hx.2
    have gy : gd (d.set y (gd d x + 1)) y = gd d x + 1 := by rw [g, if_pos rfl]
    have hx0 := h.hx.2
    refine { len := by simp [h.len], node := ?_, zero := ?_, only := ?_, low := ?_, back := ?_, order := ?_, hx := ⟨h.hx.1, by rw [gx]; exact hx0⟩, closed := ?_, did := ?_, top := ?_, wave := ?_ }
    · intro u hu
      rcases List.mem_append.1 hu with hu | hu
      · have := h.node u hu
        rw [gp u this.2]; exact this
      · obtain rfl := List.mem_singleton.1 hu
        rw [gy]; exact ⟨hyN, by omega⟩
    · rw [gp a (by have := h.zero; omega)]; exact h.zero
    · intro u hu e
      rw [g] at e
      split at e
      · omega
      · exact h.only u hu e
    · intro u hu
      rw [g]
      split
      · omega
      · exact h.low u hu
    · intro u hu e
      rw [g] at e ⊢
      split at e
      · rename_i q2
        subst q2
        rw [if_pos rfl]
        exact ⟨x, hy, by rw [gx]; omega⟩
      · rename_i q2
        rw [if_neg q2]
        obtain ⟨v, hv, e2⟩ := h.back u hu e
        exact ⟨v, hv, by rw [gp v (by omega)]; exact e2⟩
    · refine List.pairwise_append.2 ⟨?_, by simp, ?_⟩
      · refine (List.Pairwise.and_mem.1 h.order).imp ?_
        rintro u v ⟨hu, hv, huv⟩
        rw [gp u (h.node u hu).2, gp v (h.node v hv).2]; exact huv
      · intro u hu v hv
        obtain rfl := List.mem_singleton.1 hv
        rw [gp u (h.node u hu).2, gy]
        exact h.top u (h.node u hu).1
    · intro z hz e
      rw [g] at e
      split at e
      · rename_i q2
        exact .inl (by simp [q2])
      · rcases h.closed z hz e with q3 | q3 | q3
        · exact .inl (by simp [q3])
        · exact .inr (.inl q3)
        · refine .inr (.inr fun v hv => ?_)
          have := q3 v hv
          rw [gp v this.1, gp z e]
          exact this
    · intro v hv
      rw [gx]
      rcases List.mem_cons.1 hv with rfl | hv
      · rw [gy]; omega
      · have := h.did v hv
        rw [gp v this.1]; exact this
    · intro z hz
      rw [gx, g]
      split
      · omega
      · exact h.top z hz
    · intro u hu
      rw [gx]
      rcases List.mem_append.1 hu with hu | hu
      · rw [gp u (h.node u hu).2]; exact h.wave u hu
      · obtain rfl := List.mem_singleton.1 hu
        rw [gy]; omega
  · simp only [if_neg q]
    exact { h with
      did := fun v hv => by
        rcases List.mem_cons.1 hv with rfl | hv
        · exact ⟨by omega, h.top v hyN⟩
        · exact h.did v hv }
theorem Outer.inner {x : Nat} {d : List Int} {w : List Nat} (h : Outer N adj a d (x :: w)) : Inner N adj a x [] d w :=
  { len := h.len, node := fun u hu => h.node u (List.mem_cons_of_mem _ hu), zero := h.zero, only := h.only, low := h.low, back := h.back, order := (List.pairwise_cons.1 h.order).2,
    hx := h.node x List.mem_cons_self, closed := fun z hz e => by
      rcases h.closed z hz e with q | q
      · rcases List.mem_cons.1 q with q | q
        · exact .inr (.inl q)
        · exact .inl q
      · exact .inr (.inr q)
    did := fun y hy => by simp at hy
    top := h.head x List.mem_cons_self
    wave := (List.pairwise_cons.1 h.order).1 }
theorem Inner.outer {x : Nat} {done : List Nat} {d : List Int} {w : List Nat} (h : Inner N adj a x done d w) (hd : ∀ y, adj x y → y ∈ done) : Outer N adj a d w :=
  { h with
    closed := fun z hz e => by
      rcases h.closed z hz e with q | q | q
      · exact .inl q
      · subst q
        exact .inr fun y hy => h.did y (hd y hy)
      · exact .inr q
    head := fun u hu z hz => by have := h.top z hz; have := h.wave u hu; omega }
theorem Outer.dist {d : List Int} (h : Outer N adj a d []) (hr : ∀ x y, adj x y → x < N ∧ y < N) : IsDist N adj a (gd d) :=
  { zero := h.zero, only := h.only, low := h.low, back := h.back, edge := fun x y hxy e => by
      rcases h.closed x (hr _ _ hxy).1 e with q | q
      · simp at q
      · exact q y hxy }
theorem Outer.init (ha : a < N) : Outer N adj a ((List.replicate N (-1)).set a 0) [a] := by
  have g : ∀ j, gd ((List.replicate N (-1)).set a 0) j = if j = a then 0 else gd (List.replicate N (-1)) j := fun j => gd_set (by simpa using ha) _ j
  have gn : ∀ j, j < N → gd (List.replicate N (-1)) j = -1 := fun j hj => by simp [gd, List.getD, hj]
  have ga : gd ((List.replicate N (-1)).set a 0) a = 0 := by rw [g, if_pos rfl]
  refine { len := by simp, node := fun x hx => ?_, zero := ga, only := fun x hx e => ?_, low := fun x hx => ?_, back := fun x hx e => ?_, order := by simp, closed := fun z hz e => ?_, head := fun x hx z hz => ?_ }
  · obtain rfl := List.mem_singleton.1 hx
    exact ⟨ha, by omega⟩
  · rw [g] at e
    split at e
    · assumption
    · rw [gn x hx] at e; omega
  · rw [g]; split
    · omega
    · rw [gn x hx]; omega
  · rw [g] at e
    split at e
    · omega
    · rw [gn x hx] at e; omega
  · rw [g] at e
    split at e
    · rename_i q; simp [q]
    · rw [gn z hz] at e; omega
  · obtain rfl := List.mem_singleton.1 hx
    rw [ga, g]; split
    · omega
    · rw [gn z hz]; omega
/-- How many are without a number. -/
def negs (d : List Int) : Nat := d.countP (fun v => decide (v < 0))
theorem push_size {x y : Nat} {d : List Int} {w : List Nat} (hy : y < d.length) (hx : 0 ≤ gd d x) : negs (push x (d, w) y).1 + (push x (d, w) y).2.length = negs d + w.length := by
  unfold push
  by_cases q : gd d y < 0
  · simp only [if_pos q]
    have : negs (d.set y (gd d x + 1)) + 1 = negs d := by
      unfold negs
      rw [List.countP_set hy]
      have e : d[y] = gd d y := by simp [gd, hy]
      rw [e]
      have hp : 0 < d.countP (fun v => decide (v < 0)) := List.countP_pos_iff.2 ⟨d[y], List.getElem_mem hy, by rw [e]; simpa using q⟩
      rw [if_pos (by simpa using q), if_neg (by simp; omega)]
      omega
    simp only [List.length_append, List.length_singleton]
    omega
  · simp only [if_neg q]
end
/-! Rounds of the reference. -/
section
def better (d e : Int) : Int := if e ≥ 0 ∧ (d < 0 ∨ e + 1 < d) then e + 1 else d
def upd (d : List Int) (x y : Nat) : List Int := d.set x (better (gd d x) (gd d y))
def relax (d : List Int) (p : Nat × Nat) : List Int := upd (upd d p.1 p.2) p.2 p.1
def adjOf (es : List (Nat × Nat)) (x y : Nat) : Prop := (x, y) ∈ es ∨ (y, x) ∈ es
variable {N : Nat} {adj : Nat → Nat → Prop} {a : Nat} {D : Nat → Int}
structure Over (N : Nat) (D : Nat → Int) (e : List Int) : Prop where
  len : e.length = N
  over : ∀ x, x < N → gd e x = -1 ∨ (0 ≤ D x ∧ D x ≤ gd e x)
theorem Over.upd (hD : IsDist N adj a D) (hr : ∀ x y, adj x y → x < N ∧ y < N) (hs : ∀ x y, adj x y → adj y x) {e : List Int} (h : Over N D e) {x y : Nat} (hxy : adj x y) :
    Over N D (upd e x y) ∧ (∀ z, z < N → 0 ≤ D z → gd e z = D z → gd (upd e x y) z = D z) ∧ (0 ≤ D y → gd e y = D y → D x = D y + 1 → gd (upd e x y) x = D x) := by
  obtain ⟨hx, hy⟩ := hr _ _ hxy
  have g : ∀ j, gd (PB.upd e x y) j = if j = x then better (gd e x) (gd e y) else gd e j := fun j => gd_set (by rw [h.len]; exact hx) _ j
  have ex := h.over x hx
  have ey := h.over y hy
  have lx := hD.low x hx
  have key : 0 ≤ gd e y → 0 ≤ D x ∧ D x ≤ gd e y + 1 := fun q => by
    have := hD.edge y x (hs _ _ hxy) (by omega)
    omega
  refine ⟨⟨by simp [PB.upd, h.len], fun z hz => ?_⟩, fun z hz h0 e1 => ?_, fun h0 e1 e2 => ?_⟩
  · rw [g]
    split
    · rename_i q; subst q
      unfold better
      split
      · rename_i c; have := key c.1; omega
      · exact ex
    · exact h.over z hz
  · rw [g]
    split
    · rename_i q; subst q
      unfold better
      split
      · rename_i c; have := key c.1; omega
      · exact e1
    · exact e1
  · rw [g, if_pos rfl]
    unfold better
    split
    · omega
    · omega
theorem Over.relax (hD : IsDist N adj a D) (hr : ∀ x y, adj x y → x < N ∧ y < N) (hs : ∀ x y, adj x y → adj y x) {e : List Int} (h : Over N D e) {p : Nat × Nat} (hp : adj p.1 p.2) :
    Over N D (relax e p) ∧ (∀ z, z < N → 0 ≤ D z → gd e z = D z → gd (relax e p) z = D z) ∧ (∀ x y, (p = (x, y) ∨ p = (y, x)) → 0 ≤ D y → gd e y = D y → D x = D y + 1 → gd (relax e p) x = D x) := by
  obtain ⟨h1, k1, r1⟩ := h.upd hD hr hs hp
  obtain ⟨h2, k2, r2⟩ := h1.upd hD hr hs (hs _ _ hp)
  refine ⟨h2, fun z hz h0 e1 => k2 z hz h0 (k1 z hz h0 e1), fun x y hxy h0 e1 e2 => ?_⟩
  rcases hxy with rfl | rfl
  · exact k2 _ (hr _ _ hp).1 (by omega) (r1 h0 e1 e2)
  · exact r2 h0 (k1 _ (hr _ _ hp).1 h0 e1) e2
def rounds (es : List (Nat × Nat)) : Nat → List Int → List Int
  | 0, d => d
  | n + 1, d => rounds es n (es.foldl relax d)
end
/-! The closure that goes down. -/
section
variable {N : Nat} {adj : Nat → Nat → Prop}
inductive Conn (adj : Nat → Nat → Prop) : Nat → Nat → Prop
  | refl (x : Nat) : Conn adj x x
  | step {x y z : Nat} : Conn adj x y → adj y z → Conn adj x z
theorem Conn.trans {x y z : Nat} (h : Conn adj x y) (k : Conn adj y z) : Conn adj x z := by
  induction k with
  | refl => exact h
  | step _ e ih => exact ih.step e
theorem Conn.symm (hs : ∀ x y, adj x y → adj y x) {x y : Nat} (h : Conn adj x y) : Conn adj y x := by
  induction h with
  | refl => exact .refl _
  | step _ e ih => exact ((Conn.refl _).step (hs _ _ e)).trans ih
/-- What one way down has done. -/
structure Down (N : Nat) (adj : Nat → Nat → Prop) (x : Nat) (least : Int) (c r : List Int) : Prop where
  len : r.length = N
  old : ∀ z, 0 ≤ gd c z → gd r z = gd c z
  new : ∀ z, z < N → gd c z < 0 → gd r z = gd c z ∨ (gd r z = least ∧ (∀ y, adj z y → 0 ≤ gd r y) ∧ Conn adj x z)
theorem Down.trans {x : Nat} {least : Int} {c r q : List Int} (h0 : 0 ≤ least) (h : Down N adj x least c r) (k : Down N adj x least r q) : Down N adj x least c q :=
  ⟨k.len, fun z hz => by have := h.old z hz; rw [k.old z (by omega), this], fun z hz e => by
    rcases h.new z hz e with e1 | ⟨e1, e2, e3⟩
    · rcases k.new z hz (by omega) with e4 | e4
      · exact .inl (by omega)
      · exact .inr e4
    · exact .inr ⟨by rw [k.old z (by omega), e1], fun y hy => by rw [k.old y (e2 y hy)]; exact e2 y hy, e3⟩⟩
end
section
variable {N : Nat}
/-- What the rows of neighbors say. -/
structure Rows (N : Nat) (next : List (List Int)) (adj : Nat → Nat → Prop) : Prop where
  len : next.length = N
  short : ∀ x, x < N → (next.getD x []).length < 4611686018427387904
  mem : ∀ x, x < N → ∀ y ∈ next.getD x [], ∃ z : Nat, y = z ∧ z < N ∧ adj x z
  all : ∀ x y, adj x y → x < N ∧ y < N ∧ (y : Int) ∈ next.getD x []
variable {next : List (List Int)} {adj : Nat → Nat → Prop}
theorem getD_in {α : Type} {l : List α} {j : Nat} (h : j < l.length) (d : α) : l.getD j d ∈ l := by
  rw [List.getD_eq_getElem?_getD, List.getElem?_eq_getElem h]; exact List.getElem_mem h
theorem Down.refl {x : Nat} {least : Int} {c : List Int} (h : c.length = N) : Down N adj x least c c := ⟨h, fun _ _ => rfl, fun _ _ _ => .inl rfl⟩
theorem Down.from {x y : Nat} {least : Int} {c r : List Int} (h : Down N adj y least c r) (hc : Conn adj x y) : Down N adj x least c r :=
  ⟨h.len, h.old, fun z hz e => by
    rcases h.new z hz e with q | ⟨q1, q2, q3⟩
    · exact .inl q
    · exact .inr ⟨q1, q2, hc.trans q3⟩⟩
theorem negs_set {c : List Int} {x : Nat} (hx : x < c.length) (hn : gd c x < 0) {v : Int} (hv : 0 ≤ v) : negs (c.set x v) + 1 = negs c := by
  unfold negs
  rw [List.countP_set hx]
  have e : c[x] = gd c x := by simp [gd, hx]
  rw [e]
  have hp : 0 < c.countP (fun v => decide (v < 0)) := List.countP_pos_iff.2 ⟨c[x], List.getElem_mem hx, by rw [e]; simpa using hn⟩
  rw [if_pos (by simpa using hn), if_neg (by simp; omega)]
  omega
theorem visit_ok (hR : Rows N next adj) {least : Int} (hl : 0 ≤ least) : ∀ (m : Nat) (c : List Int), c.length = N → negs c ≤ m → ∀ x : Nat, x < N →
    ∃ r, Ev (fun k => HV.visit k next c (x : Int) least) r ∧ Down N adj x least c r ∧ 0 ≤ gd r x ∧ negs r ≤ negs c := by
  intro m
  induction m with
  | zero =>
    intro c hc hm x hx
    have hge : 0 ≤ gd c x := by
      rcases Int.lt_or_le (gd c x) 0 with q | q
      · have := negs_set (by omega) q (Int.le_refl 0); omega
      · exact q
    refine ⟨c, Ev.step (fun k => by rw [HV.visit]) (Ev.pos (by omega) (Ev.pos (by omega) (Ev.pos (by rw [rdI]; exact hge) (Ev.const rfl)))), Down.refl hc, hge, Nat.le_refl _⟩
  | succ m ih =>
    intro c hc hm x hx
    by_cases q : 0 ≤ gd c x
    · exact ⟨c, Ev.step (fun k => by rw [HV.visit]) (Ev.pos (by omega) (Ev.pos (by omega) (Ev.pos (by rw [rdI]; exact q) (Ev.const rfl)))), Down.refl hc, q, Nat.le_refl _⟩
    · have hn := negs_set (c := c) (by omega) (Int.not_le.1 q) hl
      have g : ∀ j, gd (c.set x least) j = if j = x then least else gd c j := fun j => gd_set (by omega) _ j
      have hrow := hR.mem x hx
      have hsh := hR.short x hx
      have hV : ∀ d j, j + d = (next.getD x []).length → ∀ c1 : List Int, c1.length = N → negs c1 ≤ m →
          ∃ r, Ev (fun k => HV.visits k next (next.getD x []) (j : Int) c1 least) r ∧ Down N adj x least c1 r ∧ (∀ i, j ≤ i → i < (next.getD x []).length → 0 ≤ gd r ((next.getD x []).getD i 0).toNat) ∧ negs r ≤ negs c1 := by
        intro d
        induction d with
        | zero =>
          intro j hj c1 h1 h2
          exact ⟨c1, Ev.step (fun k => by rw [HV.visits]) (Ev.neg (by omega) (Ev.const rfl)), Down.refl h1, fun i h3 h4 => by omega, Nat.le_refl _⟩
        | succ d ihd =>
          intro j hj c1 h1 h2
          have hjl : j < (next.getD x []).length := by omega
          obtain ⟨y, hy, hyN, hadj⟩ := hrow ((next.getD x []).getD j 0) (getD_in hjl 0)
          obtain ⟨r1, e1, d1, p1, n1⟩ := ih c1 h1 h2 y hyN
          obtain ⟨r, e2, d2, p2, n2⟩ := ihd (j + 1) (by omega) r1 d1.len (by omega)
          refine ⟨r, Ev.step (fun k => by rw [HV.visits]) (Ev.pos (by omega) (Ev.pos (by omega) (Ev.bind' r1 ?_ ?_))), ?_, ?_, by omega⟩
          · rw [rdI, hy]; exact e1
          · rw [wrap_nat (by omega)]; exact e2
          · exact (d1.from ((Conn.refl x).step hadj)).trans hl d2
          · intro i h3 h4
            by_cases qi : i = j
            · subst qi
              rw [hy, Int.toNat_natCast, d2.old y p1]; exact p1
            · exact p2 i (by omega) h4
      obtain ⟨r, e, dn, p, n⟩ := hV _ 0 (Nat.zero_add _) (c.set x least) (by simpa using hc) (by omega)
      have hx' : gd r x = least := by rw [dn.old x (by rw [g, if_pos rfl]; exact hl), g, if_pos rfl]
      refine ⟨r, Ev.step (fun k => by rw [HV.visit]) (Ev.pos (by omega) (Ev.pos (by omega) (Ev.neg (by rw [rdI]; exact q) (Ev.pos (by have := hR.len; omega) ?_)))), ⟨dn.len, fun z hz => ?_, fun z hz e1 => ?_⟩, by omega, by omega⟩
      · rw [rdL3, Int.toNat_natCast]; exact e
      · have hzx : z ≠ x := fun h => by subst h; exact q hz
        have : gd (c.set x least) z = gd c z := by rw [g, if_neg hzx]
        rw [dn.old z (by omega), this]
      · by_cases hzx : z = x
        · subst hzx
          refine .inr ⟨hx', fun y hy => ?_, .refl _⟩
          obtain ⟨_, _, hm'⟩ := hR.all z y hy
          obtain ⟨i, hi, he⟩ := List.mem_iff_getElem.1 hm'
          have := p i (Nat.zero_le _) hi
          rw [List.getD_eq_getElem?_getD, List.getElem?_eq_getElem hi, Option.getD_some, he, Int.toNat_natCast] at this
          exact this
        · have h2 : gd (c.set x least) z = gd c z := by rw [g, if_neg hzx]
          rcases dn.new z hz (by omega) with q1 | q1
          · exact .inl (by omega)
          · exact .inr q1
/-- After the first i nodes have been visited. -/
structure Comps (N : Nat) (adj : Nat → Nat → Prop) (i : Nat) (c : List Int) : Prop where
  len : c.length = N
  low : ∀ z, z < N → -1 ≤ gd c z
  seen : ∀ z, z < i → z < N → 0 ≤ gd c z
  lab : ∀ z, z < N → 0 ≤ gd c z → ∃ b : Nat, gd c z = b ∧ b ≤ z ∧ b < N ∧ gd c b = b ∧ Conn adj b z
  edge : ∀ z y, adj z y → 0 ≤ gd c z → gd c y = gd c z
theorem Comps.init (hr : ∀ x y, adj x y → x < N ∧ y < N) : Comps N adj 0 (List.replicate N (-1)) := by
  have gn : ∀ j, j < N → gd (List.replicate N (-1)) j = -1 := fun j hj => by simp [gd, List.getD, hj]
  exact ⟨by simp, fun z hz => by rw [gn z hz]; omega, fun z hz => by omega, fun z hz h => by rw [gn z hz] at h; omega, fun z y h h1 => by
    rw [gn z (hr _ _ h).1] at h1; omega⟩
theorem Comps.conn {i : Nat} {c : List Int} (h : Comps N adj i c) {x y : Nat} (hc : Conn adj x y) (h0 : 0 ≤ gd c x) : gd c y = gd c x := by
  induction hc with
  | refl => rfl
  | step _ e ih => rw [h.edge _ _ e (by omega), ih]
theorem Comps.step (hs : ∀ x y, adj x y → adj y x) (hr : ∀ x y, adj x y → x < N ∧ y < N) {i : Nat} {c r : List Int} (h : Comps N adj i c) (hi : i < N) (hd : Down N adj i (i : Int) c r) (h0 : 0 ≤ gd r i) : Comps N adj (i + 1) r := by
  have key : ∀ z, z < N → gd c z < 0 → 0 ≤ gd r z → gd r z = i ∧ (∀ y, adj z y → 0 ≤ gd r y) ∧ Conn adj i z ∧ i ≤ z := fun z hz e1 e2 => by
    rcases hd.new z hz e1 with q | ⟨q1, q2, q3⟩
    · omega
    · refine ⟨q1, q2, q3, ?_⟩
      rcases Nat.lt_or_ge z i with q | q
      · have := h.seen z q hz; omega
      · exact q
  have hci : ∀ z, z < N → gd c z < 0 → 0 ≤ gd r z → gd c i < 0 := fun z hz e1 e2 => by
    rcases Int.lt_or_le (gd c i) 0 with q | q
    · exact q
    · have := h.conn (key z hz e1 e2).2.2.1 q; omega
  refine ⟨hd.len, fun z hz => ?_, fun z hz hz' => ?_, fun z hz e => ?_, fun z y hzy e => ?_⟩
  · rcases Int.lt_or_le (gd c z) 0 with q | q
    · rcases hd.new z hz q with q1 | q1
      · have := h.low z hz; omega
      · omega
    · rw [hd.old z q]; omega
  · by_cases q : z = i
    · subst q; exact h0
    · have := h.seen z (by omega) hz'
      rw [hd.old z this]; exact this
  · rcases Int.lt_or_le (gd c z) 0 with q | q
    · obtain ⟨k1, k2, k3, k4⟩ := key z hz q e
      exact ⟨i, k1, k4, hi, (key i hi (hci z hz q e) h0).1, k3⟩
    · obtain ⟨b, k1, k2, k3, k4, k5⟩ := h.lab z hz q
      exact ⟨b, by rw [hd.old z q, k1], k2, k3, by rw [hd.old b (by omega), k4], k5⟩
  · obtain ⟨hz, hy⟩ := hr _ _ hzy
    rcases Int.lt_or_le (gd c z) 0 with q | q
    · obtain ⟨k1, k2, k3, k4⟩ := key z hz q e
      have hy0 := k2 y hzy
      rcases Int.lt_or_le (gd c y) 0 with q2 | q2
      · rw [(key y hy q2 hy0).1, k1]
      · have := h.edge y z (hs _ _ hzy) q2; omega
    · have := h.edge z y hzy q
      rw [hd.old y (by omega), hd.old z q, this]
theorem IsDist.conn (hr : ∀ x y, adj x y → x < N ∧ y < N) {a : Nat} {d : Nat → Int} (h : IsDist N adj a d) {x : Nat} (hx : x < N) : 0 ≤ d x ↔ Conn adj a x := by
  constructor
  · intro h0
    have : ∀ (n : Nat) (x : Nat), x < N → d x = n → Conn adj a x := by
      intro n
      induction n with
      | zero => intro x hx e; rw [h.only x hx (by omega)]; exact .refl _
      | succ n ih =>
        intro x hx e
        obtain ⟨y, ha, hy⟩ := h.back x hx (by omega)
        exact (ih y (hr _ _ ha).1 (by omega)).step ha
    exact this (d x).toNat x hx (by omega)
  · intro hc
    clear hx
    induction hc with
    | refl => rw [h.zero]; omega
    | step _ e ih => exact (h.edge _ _ e ih).1
/-- The label is the least node that is not out of reach. -/
theorem Comps.least (hs : ∀ x y, adj x y → adj y x) (hr : ∀ x y, adj x y → x < N ∧ y < N) {c : List Int} (h : Comps N adj N c) {i : Nat} (hi : i < N) {d : Nat → Int} (hd : IsDist N adj i d) :
    ∃ b : Nat, gd c i = b ∧ b < N ∧ 0 ≤ d b ∧ ∀ k, k < N → 0 ≤ d k → b ≤ k := by
  obtain ⟨b, h1, h2, h3, h4, h5⟩ := h.lab i hi (h.seen i hi hi)
  refine ⟨b, h1, h3, (hd.conn hr h3).2 (h5.symm hs), fun k hk h0 => ?_⟩
  have := h.conn ((hd.conn hr hk).1 h0) (h.seen i hi hi)
  obtain ⟨b', k1, k2, _⟩ := h.lab k hk (h.seen k hk hk)
  omega
end
end Go.Proofs.Ythkpnkmbmlbefaa.PB

/- The rows of neighbors: what the program's rows hold, in order. -/
namespace Go.Proofs.Ythkpnkmbmlbefaa.PB
open Go.RowKit Go.Proofs.Ythkpnkmbmlbefaa Go.Proofs.Ythkpnkmbmlbefaa.X Go.Proofs.YthkpnkmbmlbefaaW.PrintWords Go.Proofs.YthkpnkmbmlbefaaW.PrintLast

/-! ### What a valid graph is -/
/-- A graph that the check lets pass. -/
structure Valid (a : Int) (l : List S37) : Prop where
  pos : 1 ≤ a
  most : a ≤ 24
  few : l.length ≤ 64
  ok : ∀ i, i < l.length → OkE a (l.getD i z37)
  loop : ∀ i, i < l.length → (l.getD i z37).f0 ≠ (l.getD i z37).f2
  once0 : ∀ i j, j < i → i < l.length → ¬ hasEnd (l.getD j z37) ((l.getD i z37).f0, (l.getD i z37).f1)
  once1 : ∀ i j, j < i → i < l.length → ¬ hasEnd (l.getD j z37) ((l.getD i z37).f2, (l.getD i z37).f3)
theorem chkFrom_ok {a : Int} {l : List S37} : ∀ {d i}, i + d = l.length → chkFrom a l d i = 0 → ∀ i', i ≤ i' → i' < l.length → OkE a (l.getD i' z37) ∧ (l.getD i' z37).f0 ≠ (l.getD i' z37).f2 ∧ (∀ j, j < i' → ¬ hasEnd (l.getD j z37) ((l.getD i' z37).f0, (l.getD i' z37).f1)) ∧ (∀ j, j < i' → ¬ hasEnd (l.getD j z37) ((l.getD i' z37).f2, (l.getD i' z37).f3))
  | 0, i, hi, _, i', h1, h2 => by omega
  | d + 1, i, hi, h, i', h1, h2 => by
    unfold chkFrom at h
    split at h
    · rename_i hok
      split at h
      · omega
      · rename_i hloop
        split at h
        · omega
        · rename_i hu1
          split at h
          · omega
          · rename_i hu2
            rw [usedFrom_iff] at hu1 hu2
            by_cases q : i' = i
            · subst q
              exact ⟨hok, hloop, fun j hj hh => hu1 ⟨j, by omega, by omega, hh⟩, fun j hj hh => hu2 ⟨j, by omega, by omega, hh⟩⟩
            · exact chkFrom_ok (by omega) h i' (by omega) h2
    · omega
theorem chk_valid {a : Int} {l : List S37} (h : chk a l = 0) : Valid a l := by
  unfold chk at h
  split at h
  · omega
  · split at h
    · omega
    · have k := chkFrom_ok (i := 0) (by omega) h
      exact ⟨by omega, by omega, by omega, fun i hi => (k i (by omega) hi).1, fun i hi => (k i (by omega) hi).2.1, fun i j hj hi => (k i (by omega) hi).2.2.1 j hj, fun i j hj hi => (k i (by omega) hi).2.2.2 j hj⟩

/-! ### The edges as pairs of nodes -/
def es (l : List S37) : List (Nat × Nat) := l.map fun e => (e.f0.toNat, e.f2.toNat)
theorem OkE.nat {a : Int} {e : S37} (h : OkE a e) : ∃ x y : Nat, e.f0 = x ∧ e.f2 = y ∧ x < a.toNat ∧ y < a.toNat := by
  unfold OkE at h
  exact ⟨e.f0.toNat, e.f2.toNat, by omega, by omega, by omega, by omega⟩
theorem Valid.mem {a : Int} {l : List S37} (h : Valid a l) {e : S37} (he : e ∈ l) : OkE a e ∧ e.f0 ≠ e.f2 := by
  obtain ⟨i, hi, rfl⟩ := List.mem_iff_getElem.1 he
  have h1 := h.ok i hi
  have h2 := h.loop i hi
  rw [List.getD_eq_getElem?_getD, List.getElem?_eq_getElem hi, Option.getD_some] at h1 h2
  exact ⟨h1, h2⟩
theorem adj_symm (l : List (Nat × Nat)) (x y : Nat) (h : adjOf l x y) : adjOf l y x := Or.symm h
theorem Valid.range {a : Int} {l : List S37} (h : Valid a l) (x y : Nat) (hxy : adjOf (es l) x y) : x < a.toNat ∧ y < a.toNat := by
  have key : ∀ u v : Nat, (u, v) ∈ es l → u < a.toNat ∧ v < a.toNat := fun u v hu => by
    obtain ⟨e, he, e1⟩ := List.mem_map.1 hu
    obtain ⟨x', y', h1, h2, h3, h4⟩ := (h.mem he).1.nat
    injection e1 with e1 e2
    omega
  rcases hxy with q | q
  · exact key _ _ q
  · exact (key _ _ q).symm

/-! ### The rows -/
def addE (rows : List (List Int)) (e : S37) : List (List Int) :=
  let r1 := rows.set e.f0.toNat (rows.getD e.f0.toNat [] ++ [e.f2])
  r1.set e.f2.toNat (r1.getD e.f2.toNat [] ++ [e.f0])
structure Raw (N : Nat) (l : List S37) (i : Nat) (rows : List (List Int)) : Prop where
  len : rows.length = N
  short : ∀ x, x < N → (rows.getD x []).length ≤ 2 * i
  mem : ∀ x, x < N → ∀ y : Int, y ∈ rows.getD x [] ↔ ∃ j, j < i ∧ (((l.getD j z37).f0 = x ∧ (l.getD j z37).f2 = y) ∨ ((l.getD j z37).f2 = x ∧ (l.getD j z37).f0 = y))
theorem getD_set {α : Type} {l : List α} {i : Nat} (h : i < l.length) (v : α) (j : Nat) (z : α) : (l.set i v).getD j z = if j = i then v else l.getD j z := by
  by_cases q : j = i
  · subst q; simp [h]
  · rw [if_neg q]; simp [List.getD, Ne.symm q]
theorem Raw.step {N : Nat} {a : Int} {l : List S37} {i : Nat} {rows : List (List Int)} (h : Raw N l i rows) (hok : OkE a (l.getD i z37)) (hN : N = a.toNat) : Raw N l (i + 1) (addE rows (l.getD i z37)) := by
  obtain ⟨u, v, hu, hv, hul, hvl⟩ := hok.nat
  subst hN
  have hlen := h.len
  unfold addE
  simp only [hu, hv, Int.toNat_natCast]
  have g1 : ∀ j, (rows.set u (rows.getD u [] ++ [(v : Int)])).getD j [] = if j = u then rows.getD u [] ++ [(v : Int)] else rows.getD j [] := fun j => getD_set (by omega) _ _ _
  have g2 : ∀ j (w : List Int), ((rows.set u (rows.getD u [] ++ [(v : Int)])).set v w).getD j [] = if j = v then w else (rows.set u (rows.getD u [] ++ [(v : Int)])).getD j [] := fun j w => getD_set (by rw [List.length_set]; omega) _ _ _
  refine ⟨by simp [hlen], fun x hx => ?_, fun x hx y => ?_⟩
  · have h1 := h.short x hx
    have h2 := h.short u hul
    have h3 := h.short v hvl
    rw [g2]
    split
    · rw [List.length_append, g1]
      split
      · rw [List.length_append]; simp; simp at h2; omega
      · simp; simp at h3; omega
    · rw [g1]
      split
      · rw [List.length_append]; simp; simp at h2; omega
      · omega
  · have hm := h.mem x hx y
    have split_ : (∃ j, j < i + 1 ∧ (((l.getD j z37).f0 = x ∧ (l.getD j z37).f2 = y) ∨ ((l.getD j z37).f2 = x ∧ (l.getD j z37).f0 = y))) ↔ (y ∈ rows.getD x [] ∨ ((u : Int) = x ∧ (v : Int) = y) ∨ ((v : Int) = x ∧ (u : Int) = y)) := by
      rw [hm]
      constructor
      · rintro ⟨j, hj, hh⟩
        by_cases q : j = i
        · subst q; rw [hu, hv] at hh; exact .inr hh
        · exact .inl ⟨j, by omega, hh⟩
      · rintro (⟨j, hj, hh⟩ | hh)
        · exact ⟨j, by omega, hh⟩
        · exact ⟨i, by omega, by rw [hu, hv]; exact hh⟩
    rw [split_, g2]
    by_cases q1 : x = v
    · subst q1
      rw [if_pos rfl, List.mem_append, g1]
      by_cases q2 : x = u
      · subst q2
        rw [if_pos rfl, List.mem_append]
        simp only [List.mem_singleton]
        constructor
        · rintro ((h1 | h1) | h1)
          · exact .inl h1
          · exact .inr (.inl ⟨by simp, h1.symm⟩)
          · exact .inr (.inl ⟨by simp, h1.symm⟩)
        · rintro (h1 | h1 | h1)
          · exact .inl (.inl h1)
          · exact .inr h1.2.symm
          · exact .inr h1.2.symm
      · rw [if_neg q2]
        simp only [List.mem_singleton]
        constructor
        · rintro (h1 | h1)
          · exact .inl h1
          · exact .inr (.inr ⟨by simp, h1.symm⟩)
        · rintro (h1 | h1 | h1)
          · exact .inl h1
          · exact absurd h1.1 (by omega)
          · exact .inr h1.2.symm
    · rw [if_neg q1, g1]
      by_cases q2 : x = u
      · subst q2
        rw [if_pos rfl, List.mem_append]
        simp only [List.mem_singleton]
        constructor
        · rintro (h1 | h1)
          · exact .inl h1
          · exact .inr (.inl ⟨by simp, h1.symm⟩)
        · rintro (h1 | h1 | h1)
          · exact .inl h1
          · exact .inr h1.2.symm
          · exact absurd h1.1 (by omega)
      · rw [if_neg q2]
        constructor
        · exact .inl
        · rintro (h1 | h1 | h1)
          · exact h1
          · exact absurd h1.1 (by omega)
          · exact absurd h1.1 (by omega)
theorem Raw.init (N : Nat) (l : List S37) : Raw N l 0 (List.replicate N []) :=
  ⟨by simp, fun x hx => by simp [List.getD, hx], fun x hx y => by simp [List.getD, hx]⟩
def rawFrom (l : List S37) : Nat → Nat → List (List Int) → List (List Int)
  | 0, _, rows => rows
  | d + 1, i, rows => rawFrom l d (i + 1) (addE rows (l.getD i z37))
def sortI (l : List Int) : List Int := l.mergeSort fun x y => decide (x ≤ y)
theorem sortI_sorted (z : List Int) : (sortI z).Pairwise (· ≤ ·) := by
  have := List.pairwise_mergeSort (le := fun a b : Int => decide (a ≤ b)) (fun a b c h1 h2 => by simp at *; omega) (fun a b => by simp; omega) z
  exact this.imp (fun h => by simpa using h)
theorem sortI_is {x y : List Int} (h : x.Perm y) (hs : y.Pairwise (· ≤ ·)) : sortI x = y :=
  List.Perm.eq_of_pairwise (fun _ _ _ _ h1 h2 => Int.le_antisymm h1 h2) (sortI_sorted x) hs ((List.mergeSort_perm x _).trans h)
theorem sortI_len (l : List Int) : (sortI l).length = l.length := (List.mergeSort_perm l _).length_eq
theorem sortI_mem {l : List Int} {y : Int} : y ∈ sortI l ↔ y ∈ l := (List.mergeSort_perm l _).mem_iff
def nb (a : Int) (l : List S37) : List (List Int) := (rawFrom l l.length 0 (List.replicate a.toNat [])).map sortI
theorem rawFrom_raw {N : Nat} {a : Int} {l : List S37} (h : Valid a l) (hN : N = a.toNat) : ∀ d i rows, i + d = l.length → Raw N l i rows → Raw N l l.length (rawFrom l d i rows)
  | 0, i, rows, hi, hr => by
    obtain rfl : i = l.length := by omega
    exact hr
  | d + 1, i, rows, hi, hr => rawFrom_raw h hN d (i + 1) _ (by omega) (hr.step (h.ok i (by omega)) hN)
theorem nb_get (a : Int) (l : List S37) (x : Nat) : (nb a l).getD x [] = sortI ((rawFrom l l.length 0 (List.replicate a.toNat [])).getD x []) := by
  unfold nb
  simp only [List.getD_eq_getElem?_getD, List.getElem?_map]
  cases (rawFrom l l.length 0 (List.replicate a.toNat []))[x]? with
  | none => simp [sortI]
  | some r => rfl
theorem Valid.raw {a : Int} {l : List S37} (h : Valid a l) : Raw a.toNat l l.length (rawFrom l l.length 0 (List.replicate a.toNat [])) := rawFrom_raw h rfl _ _ _ (by omega) (Raw.init _ _)
theorem Valid.nb_mem {a : Int} {l : List S37} (h : Valid a l) {x : Nat} (hx : x < a.toNat) (y : Int) : y ∈ (nb a l).getD x [] ↔ ∃ z : Nat, y = z ∧ z < a.toNat ∧ adjOf (es l) x z := by
  rw [nb_get, sortI_mem, h.raw.mem x hx]
  constructor
  · rintro ⟨j, hj, hh⟩
    obtain ⟨u, v, hu, hv, hul, hvl⟩ := (h.ok j hj).nat
    have hm : (u, v) ∈ es l := List.mem_map.2 ⟨l.getD j z37, getD_in hj _, by rw [hu, hv]; rfl⟩
    rw [hu, hv] at hh
    rcases hh with ⟨h1, h2⟩ | ⟨h1, h2⟩
    · obtain rfl : u = x := by omega
      exact ⟨v, h2.symm, hvl, .inl hm⟩
    · obtain rfl : v = x := by omega
      exact ⟨u, h2.symm, hul, .inr hm⟩
  · rintro ⟨z, rfl, hz, hadj⟩
    rcases hadj with q | q
    · obtain ⟨e, he, e1⟩ := List.mem_map.1 q
      obtain ⟨j, hj, e2⟩ := List.mem_iff_getElem.1 he
      obtain ⟨u, v, hu, hv, _, _⟩ := (h.mem he).1.nat
      injection e1 with e3 e4
      refine ⟨j, hj, .inl ?_⟩
      rw [List.getD_eq_getElem?_getD, List.getElem?_eq_getElem hj, Option.getD_some, e2]
      omega
    · obtain ⟨e, he, e1⟩ := List.mem_map.1 q
      obtain ⟨j, hj, e2⟩ := List.mem_iff_getElem.1 he
      obtain ⟨u, v, hu, hv, _, _⟩ := (h.mem he).1.nat
      injection e1 with e3 e4
      refine ⟨j, hj, .inr ?_⟩
      rw [List.getD_eq_getElem?_getD, List.getElem?_eq_getElem hj, Option.getD_some, e2]
      omega
theorem Valid.nb_len {a : Int} {l : List S37} (h : Valid a l) : (nb a l).length = a.toNat := by
  unfold nb; rw [List.length_map]; exact h.raw.len
theorem Valid.nb_short {a : Int} {l : List S37} (h : Valid a l) {x : Nat} (hx : x < a.toNat) : ((nb a l).getD x []).length ≤ 128 := by
  rw [nb_get, sortI_len]
  have := h.raw.short x hx
  have := h.few
  omega
theorem Valid.rows {a : Int} {l : List S37} (h : Valid a l) : Rows a.toNat (nb a l) (adjOf (es l)) :=
  ⟨h.nb_len, fun x hx => by have := h.nb_short hx; omega, fun x hx y hy => (h.nb_mem hx y).1 hy, fun x y hxy => ⟨(h.range x y hxy).1, (h.range x y hxy).2, (h.nb_mem (h.range x y hxy).1 y).2 ⟨y, rfl, (h.range x y hxy).2, hxy⟩⟩⟩
theorem sort_loop (rows : List (List Int)) (hsh : ∀ x, x < rows.length → (rows.getD x []).length ≤ 128) (hn : rows.length ≤ 24) : ∀ d i (cur : List (List Int)), i + d = rows.length → cur = (rows.take i).map sortI ++ rows.drop i → Ev (fun k => topo_neighbors.l1 k cur rows.length i) (rows.map sortI) := by
  intro d
  induction d with
  | zero =>
    intro i cur hi hc
    refine Ev.step (fun k => by rw [topo_neighbors.l1]) ?_
    refine Ev.neg (by omega) (Ev.const ?_)
    rw [hc, List.take_of_length_le (by omega), List.drop_of_length_le (by omega), List.append_nil]
  | succ d ih =>
    intro i cur hi hc
    have hil : i < rows.length := by omega
    have hlen : cur.length = rows.length := by rw [hc]; simp; omega
    have hget : cur.getD i [] = rows.getD i [] := by
      rw [hc]
      simp [List.getD, List.getElem?_append, Nat.min_eq_left (Nat.le_of_lt hil)]
    refine Ev.step (fun k => by rw [topo_neighbors.l1]) ?_
    refine Ev.pos (by omega) (Ev.pos (by omega) (Ev.pos (by omega) (Ev.bind' (sortI (rows.getD i [])) (Ev.const ?_) ?_)))
    · rw [rdL3, hget]
      unfold slices_Sort_int_int.f
      rw [if_pos (by have := hsh i hil; omega)]
      rfl
    · rw [wrap_nat (by omega), Int.toNat_natCast]
      refine ih (i + 1) _ (by omega) ?_
      rw [hc]
      apply List.ext_getElem?
      intro j
      have hmin : min i rows.length = i := by omega
      have hmin2 : min (i + 1) rows.length = i + 1 := by omega
      simp only [List.getElem?_set, List.getElem?_append, List.length_map, List.length_take, List.getElem?_map, List.getElem?_take, List.getElem?_drop, List.length_append, List.length_drop, hmin, hmin2]
      by_cases q1 : i = j
      · subst q1
        simp [hil, List.getD]
        omega
      · rw [if_neg q1]
        by_cases q2 : j < i
        · simp [q2, show j < i + 1 by omega]
        · have q3 : ¬ j < i + 1 := by omega
          simp only [q2, q3, if_false]
          congr 1
          omega
theorem impl_nb_from {a : Int} {l : List S37} (h : Valid a l) (r : List (List Int)) : ∀ d i rows, i + d = l.length → Raw a.toNat l i rows → Ev (fun k => topo_neighbors.l1 k (rawFrom l d i rows) ((rawFrom l d i rows).length : Int) 0) r → Ev (fun k => topo_neighbors.l0 k rows l l.length i) r := by
  intro d
  induction d with
  | zero =>
    intro i rows hi hr hk
    refine Ev.step (fun k => by rw [topo_neighbors.l0]) ?_
    exact Ev.neg (by omega) hk
  | succ d ih =>
    intro i rows hi hr hk
    have hil : i < l.length := by omega
    have hok := h.ok i hil
    have hfew := h.few
    obtain ⟨u, v, hu, hv, hul, hvl⟩ := hok.nat
    have hlen := hr.len
    have hst := hr.step hok rfl
    have s1 := hr.short u hul
    have s2 := hst.short v hvl
    refine Ev.step (fun k => by rw [topo_neighbors.l0]) ?_
    have hk2 := ih (i + 1) (addE rows (l.getD i z37)) (by omega) hst hk
    unfold addE at hk2 hst s2
    simp only [hu, hv, Int.toNat_natCast] at hk2 s2
    refine Ev.pos (by omega) (Ev.pos (by omega) (Ev.pos (by omega) ?_))
    rw [rd37, hu, hv, wrap_nat (by omega)]
    simp only [rdL3, Int.toNat_natCast]
    refine Ev.pos (by omega) (Ev.pos (by omega) (Ev.pos (by omega) (Ev.some_bind (Ev.pos (by omega) (Ev.pos (by omega) (Ev.pos ?_ ?_))))))
    · rw [getD_set (by omega)]
      have s3 := hr.short v hvl
      split
      · rw [List.length_append]; simp; simp at s1; omega
      · omega
    · exact hk2
theorem impl_nb {a : Int} {l : List S37} (h : Valid a l) : Ev (fun k => topo_neighbors.f k a l) (nb a l) := by
  unfold topo_neighbors.f
  have h1 := h.pos
  have h2 := h.most
  refine Ev.pos (by omega) (Ev.pos (by omega) (impl_nb_from h _ l.length 0 _ (by omega) (Raw.init _ _) ?_))
  have hr := h.raw
  refine sort_loop _ (fun x hx => ?_) (by rw [hr.len]; omega) _ 0 _ (Nat.zero_add _) (by simp)
  have := hr.short x (by rw [← hr.len]; exact hx)
  have := h.few
  omega
end Go.Proofs.Ythkpnkmbmlbefaa.PB

/- The examples of the chapter on graphs, reckoned. -/
namespace Go.Proofs.Ythkpnkmbmlbefaa.PB
open Go.RowKit Go.Proofs.Ythkpnkmbmlbefaa Go.Proofs.Ythkpnkmbmlbefaa.X Go.Proofs.YthkpnkmbmlbefaaW.PrintWords Go.Proofs.YthkpnkmbmlbefaaW.PrintLast
def exG : List S37 := [⟨0, 1, 2, 1⟩, ⟨3, 1, 2, 2⟩, ⟨0, 2, 1, 1⟩]
theorem exG_valid : Valid 4 exG := chk_valid (by kernel_rfl)
theorem ex0_valid : Valid 2 [] := chk_valid (by kernel_rfl)
theorem exG_nb : nb 4 exG = [[1, 2], [0], [0, 3], [2]] := by
  have h : rawFrom exG exG.length 0 (List.replicate (4 : Int).toNat []) = [[2, 1], [0], [0, 3], [2]] := by kernel_rfl
  unfold nb
  rw [h]
  simp only [List.map_cons, List.map_nil]
  rw [sortI_is (x := [2, 1]) (y := [1, 2]) (by decide) (by decide), sortI_is (x := [0]) (y := [0]) (by decide) (by decide), sortI_is (x := [0, 3]) (y := [0, 3]) (by decide) (by decide), sortI_is (x := [2]) (y := [2]) (by decide) (by decide)]
theorem ex0_nb : nb 2 [] = [[], []] := by
  unfold nb
  rw [show rawFrom [] ([] : List S37).length 0 (List.replicate (2 : Int).toNat []) = [[], []] by kernel_rfl]
  simp [sortI]
theorem exN : Ev (fun k => topo_neighbors.f k 4 exG) [[1, 2], [0], [0, 3], [2]] := exG_nb ▸ impl_nb exG_valid
theorem ex0N : Ev (fun k => topo_neighbors.f k 2 []) [[], []] := ex0_nb ▸ impl_nb ex0_valid
theorem exC : Ev (fun k => topo_Check.f k 4 exG) 0 := impl_check 4 exG
theorem ex0C : Ev (fun k => topo_Check.f k 2 []) 0 := impl_check 2 []
theorem ex_peer : Ev (fun k => topo_Peer.f k 4 exG 2 2) (3, 1, true) :=
  Ev.of (fun k => topo_Peer.mono _ _ _ _ k) (show topo_Peer.f 60 4 exG 2 2 = some (3, 1, true) by kernel_rfl)
theorem ex_knows (x : Int) (h : 0 ≤ x ∧ x < 4) : Ev (fun k => topo_knows.f k 4 exG x) true := by
  unfold topo_knows.f
  exact Ev.bind' _ exC (Ev.pos rfl (Ev.pos h.1 (Ev.const (by simp [h.2]))))
theorem ex_dist : Ev (fun k => topo_Dist.f k 4 exG 3) [2, 3, 1, 0] := by
  unfold topo_Dist.f
  exact Ev.bind' _ (ex_knows 3 (by decide)) (Ev.pos rfl (Ev.bind' _ exN (Ev.bind' _ (Ev.of (fun k => topo_distances.mono _ _ k) (show topo_distances.f 60 [[1, 2], [0], [0, 3], [2]] 3 = some [2, 3, 1, 0] by kernel_rfl)) (Ev.const rfl))))
theorem ex0_dist : Ev (fun k => topo_Dist.f k 2 [] 0) [0, -1] := by
  unfold topo_Dist.f topo_knows.f
  exact Ev.bind' true (Ev.bind' _ ex0C (Ev.pos rfl (Ev.pos (by decide) (Ev.const (by decide))))) (Ev.pos rfl (Ev.bind' _ ex0N (Ev.bind' _ (Ev.of (fun k => topo_distances.mono _ _ k) (show topo_distances.f 60 [[], []] 0 = some [0, -1] by kernel_rfl)) (Ev.const rfl))))
theorem ex_path : Ev (fun k => topo_Path.f k 4 exG 3 1) [3, 2, 0, 1] := by
  unfold topo_Path.f
  refine Ev.bind' _ (ex_knows 3 (by decide)) (Ev.pos rfl (Ev.bind' _ (ex_knows 1 (by decide)) ?_))
  refine Ev.step (fun k => by rw [topo_Path.j0]) ?_
  refine Ev.neg (by decide) (Ev.bind' _ exN (Ev.bind' _ (Ev.of (fun k => topo_distances.mono _ _ k) (show topo_distances.f 60 [[1, 2], [0], [0, 3], [2]] 1 = some [1, 0, 2, 3] by kernel_rfl)) ?_))
  refine Ev.pos (by decide) (Ev.pos (by decide) (Ev.neg (by decide) ?_))
  exact Ev.of (fun k => (topo_Path.mono_l k).2.1 _ _ _ _ _) (show topo_Path.l0 60 3 1 [[1, 2], [0], [0, 3], [2]] [1, 0, 2, 3] [3] = some [3, 2, 0, 1] by kernel_rfl)
theorem ex0_comp : Ev (fun k => topo_Comp.f k 2 []) [0, 1] := by
  unfold topo_Comp.f
  refine Ev.bind' _ ex0C (Ev.pos rfl (Ev.bind' _ ex0N (Ev.pos (by decide) (Ev.pos (by decide) ?_))))
  exact Ev.of (fun k => (topo_Comp.mono_l k).1 _ _ _) (show topo_Comp.l0 60 [[], []] (List.replicate (2 : Int).toNat 0) 0 = some [0, 1] by kernel_rfl)
theorem ex_diam : Ev (fun k => topo_Diameter.f k 4 exG) 3 := by
  unfold topo_Diameter.f
  refine Ev.bind' _ exC (Ev.pos rfl (Ev.bind' _ exN ?_))
  exact Ev.of (fun k => topo_Diameter.mono_l k _ _ _ _) (show topo_Diameter.l0 60 [[1, 2], [0], [0, 3], [2]] 0 4 0 = some 3 by kernel_rfl)
theorem eq_true' (x : List Int) (hx : x.length < 9223372036854775807) : Ev (fun k => slices_Equal_int_int.f k x x) true := by
  have := eq_ints x x hx
  simpa using this
theorem awake18 : Ev (fun k => timesynclaw18_awake.f k) true := by
  unfold timesynclaw18_awake.f
  refine Ev.some_bind (Ev.bind' (3, 1, true) ex_peer (Ev.pos rfl (Ev.pos rfl (Ev.pos rfl (Ev.bind' _ ex_dist (Ev.bind' _ (eq_true' _ (by decide)) (Ev.pos rfl (Ev.bind' _ ex_path (Ev.bind' _ (eq_true' _ (by decide)) (Ev.pos rfl (Ev.bind' _ ex0_dist (Ev.bind' _ (eq_true' _ (by decide)) (Ev.pos rfl ?_)))))))))))))
  exact Ev.bind' _ ex0_comp (Ev.bind' _ (eq_true' _ (by decide)) (Ev.pos rfl (Ev.bind' _ ex_diam (Ev.const rfl))))
theorem awake18' : Ev (fun k => (timesynclaw18_awake.f k).bind fun t => some t) true := Ev.bind' true awake18 (Ev.const rfl)
end Go.Proofs.Ythkpnkmbmlbefaa.PB

/- Distances: the program's search in waves and the reference's rounds give the numbers that the chapter's rules determine. -/
namespace Go.Proofs.Ythkpnkmbmlbefaa.PB
open Go.RowKit Go.Proofs.Ythkpnkmbmlbefaa Go.Proofs.Ythkpnkmbmlbefaa.X Go.Proofs.YthkpnkmbmlbefaaW.PrintWords Go.Proofs.YthkpnkmbmlbefaaW.PrintLast

theorem rd_gd (l : List Int) (i : Nat) : rd l (i : Int) = gd l i := rdI l i
theorem fill_set (i d : Nat) : (List.replicate i (-1 : Int) ++ List.replicate (d + 1) 0).set i (-1) = List.replicate (i + 1) (-1) ++ List.replicate d 0 := by
  rw [List.set_append_right _ _ (by simp), List.length_replicate, Nat.sub_self, List.replicate_succ, List.set_cons_zero, List.replicate_succ', List.append_assoc]
  rfl
theorem set_nat {l : List Int} {v : Int} (x : Nat) : l.set ((x : Int)).toNat v = l.set x v := by rw [Int.toNat_natCast]
/-! ### The search in waves -/
def toI (w : List Nat) : List Int := w.map fun n : Nat => (n : Int)
theorem toI_len (w : List Nat) : (toI w).length = w.length := by simp [toI]
section
variable {N a : Nat} {next : List (List Int)} {adj : Nat → Nat → Prop}
theorem push_high {x y : Nat} {d : List Int} {w : List Nat} (hlen : d.length = N) (hx : x < N) (hy : y < N) (hx0 : 0 ≤ gd d x) (h : ∀ z, z < N → gd d z + (negs d : Int) < N) (z : Nat) (hz : z < N) : gd (push x (d, w) y).1 z + (negs (push x (d, w) y).1 : Int) < N := by
  have hs := push_size (x := x) (y := y) (d := d) (w := w) (by omega) hx0
  unfold push at hs ⊢
  by_cases q : gd d y < 0
  · simp only [if_pos q] at hs ⊢
    rw [List.length_append, List.length_singleton] at hs
    rw [gd_set (by omega)]
    have h1 := h x hx
    have h2 := h z hz
    split <;> omega
  · simp only [if_neg q]
    exact h z hz
theorem bfs_ok (hR : Rows N next adj) (hN : N ≤ 24) : ∀ (m : Nat) (d : List Int) (w : List Nat), m ≤ 24 → Outer N adj a d w → negs d + w.length ≤ m → (∀ z, z < N → gd d z + (negs d : Int) < N) →
    ∃ r, Ev (fun k => topo_distances.l1 k next d (toI w)) r ∧ Outer N adj a r [] := by
  intro m
  induction m with
  | zero =>
    intro d w _ h hm _
    have hw : w = [] := List.length_eq_zero_iff.1 (by omega)
    subst hw
    refine ⟨d, ?_, h⟩
    refine Ev.step (fun k => by rw [topo_distances.l1]) ?_
    exact Ev.neg (by simp [toI]) (Ev.const rfl)
  | succ m ih =>
    intro d w hm24 h hm hhigh
    cases w with
    | nil =>
      refine ⟨d, ?_, h⟩
      refine Ev.step (fun k => by rw [topo_distances.l1]) ?_
      exact Ev.neg (by simp [toI]) (Ev.const rfl)
    | cons x w =>
      have hr : ∀ u v, adj u v → u < N ∧ v < N := fun u v q => ⟨(hR.all u v q).1, (hR.all u v q).2.1⟩
      have hx := (h.node x List.mem_cons_self).1
      have hrow := hR.mem x hx
      have hsh := hR.short x hx
      have hnl := hR.len
      rw [List.length_cons] at hm
      have hI : ∀ e j done d w, j + e = (next.getD x []).length → Inner N adj a x done d w → (∀ i, i < j → ∀ z : Nat, (next.getD x []).getD i 0 = z → z ∈ done) → negs d + w.length ≤ m → (∀ z, z < N → gd d z + (negs d : Int) < N) →
          ∃ r, Ev (fun k => topo_distances.l2 k next d (toI w) x (next.getD x []) (next.getD x []).length j) r ∧ Outer N adj a r [] := by
        intro e
        induction e with
        | zero =>
          intro j done d w hj hin hdone hm2 hh
          obtain ⟨r, h1, h2⟩ := ih d w (by omega) (hin.outer (fun y hy => by
            obtain ⟨_, _, hmem⟩ := hR.all x y hy
            obtain ⟨i, hi, he⟩ := List.mem_iff_getElem.1 hmem
            refine hdone i (by omega) y ?_
            rw [List.getD_eq_getElem?_getD, List.getElem?_eq_getElem hi, Option.getD_some, he])) hm2 hh
          refine ⟨r, ?_, h2⟩
          refine Ev.step (fun k => by rw [topo_distances.l2]) ?_
          exact Ev.neg (by omega) h1
        | succ e ihe =>
          intro j done d w hj hin hdone hm2 hh
          have hjl : j < (next.getD x []).length := by omega
          obtain ⟨y, hy, hyN, hadj⟩ := hrow ((next.getD x []).getD j 0) (getD_in hjl 0)
          have hlen := hin.len
          have hx0 := hin.hx.2
          have hsz := push_size (x := x) (y := y) (d := d) (w := w) (by omega) hx0
          have hhi := push_high (w := w) hlen hx hyN hx0 hh
          have hin2 := hin.push hr hadj
          obtain ⟨r, h1, h2⟩ := ihe (j + 1) (y :: done) (push x (d, w) y).1 (push x (d, w) y).2 (by omega) hin2 (fun i hi z hz => by
            by_cases q : i = j
            · subst q
              have : z = y := by rw [hy] at hz; omega
              subst this; exact List.mem_cons_self
            · exact List.mem_cons_of_mem _ (hdone i (by omega) z hz)) (by omega) hhi
          refine ⟨r, ?_, h2⟩
          refine Ev.step (fun k => by rw [topo_distances.l2]) ?_
          refine Ev.pos (by omega) (Ev.pos (by omega) (Ev.pos (by omega) ?_))
          rw [rdI, hy, rd_gd, rd_gd, wrap_nat (by omega), set_nat]
          unfold push at h1
          have b1 := hh x hx
          refine Ev.pos (by omega) (Ev.pos (by omega) (Ev.ite_ (fun q => ?_) (fun q => ?_)))
          · simp only [if_pos q] at h1
            refine Ev.pos (by omega) (Ev.pos (by omega) (Ev.pos (by rw [toI_len]; omega) ?_))
            rw [wrap_id (by omega) (by omega), show toI w ++ [(y : Int)] = toI (w ++ [y]) by simp [toI]]
            exact h1
          · simp only [if_neg q] at h1
            exact h1
      obtain ⟨r, h1, h2⟩ := hI _ 0 [] d w (Nat.zero_add _) h.inner (fun i hi => by omega) (by omega) hhigh
      refine ⟨r, ?_, h2⟩
      refine Ev.step (fun k => by rw [topo_distances.l1]) ?_
      have e1 : rd (toI (x :: w)) 0 = (x : Int) := rfl
      have e2 : (toI (x :: w)).drop ((1 : Int)).toNat = toI w := rfl
      rw [e1, e2, rdL3]
      refine Ev.pos (by rw [toI_len, List.length_cons]; omega) (Ev.pos (by rw [toI_len, List.length_cons]; omega) (Ev.pos (by rw [toI_len, List.length_cons]; omega) (Ev.pos (by omega) (Ev.pos (by omega) h1))))
theorem fill_ok (hN : N ≤ 24) {x1 : Int} {r : List Int} (hr : Ev (fun k => if 0 ≤ x1 then (if x1 < ((List.replicate N (-1 : Int)).length : Int) then (topo_distances.l1 k next ((List.replicate N (-1 : Int)).set x1.toNat 0) [x1]) else none) else none) r) :
    ∀ d i, i + d = N → Ev (fun k => topo_distances.l0 k next x1 (List.replicate i (-1 : Int) ++ List.replicate d 0) (N : Int) i) r := by
  intro d
  induction d with
  | zero =>
    intro i hi
    refine Ev.step (fun k => by rw [topo_distances.l0]) ?_
    obtain rfl : i = N := by omega
    rw [List.replicate_zero, List.append_nil]
    exact Ev.neg (by omega) hr
  | succ d ih =>
    intro i hi
    refine Ev.step (fun k => by rw [topo_distances.l0]) ?_
    refine Ev.pos (by omega) (Ev.pos (by omega) (Ev.pos (by simp; omega) ?_))
    rw [wrap_nat (by omega), set_nat, fill_set]
    exact ih (i + 1) (by omega)
theorem negs_init (ha : a < N) : negs ((List.replicate N (-1 : Int)).set a 0) + 1 = N := by
  have := negs_set (c := List.replicate N (-1 : Int)) (x := a) (by simpa using ha) (by simp [gd, List.getD, ha]) (v := 0) (by omega)
  rw [this]
  simp [negs, List.countP_replicate]
theorem distances_ok (hR : Rows N next adj) (hN : N ≤ 24) (ha : a < N) : ∃ r, Ev (fun k => topo_distances.f k next a) r ∧ r.length = N ∧ IsDist N adj a (gd r) := by
  have hr : ∀ u v, adj u v → u < N ∧ v < N := fun u v q => ⟨(hR.all u v q).1, (hR.all u v q).2.1⟩
  have hn := negs_init ha
  have h0 : Outer N adj a ((List.replicate N (-1 : Int)).set a 0) [a] := Outer.init ha
  have g : ∀ j, gd ((List.replicate N (-1)).set a 0) j = if j = a then 0 else gd (List.replicate N (-1)) j := fun j => gd_set (by simpa using ha) _ j
  have gn : ∀ j, j < N → gd (List.replicate N (-1)) j = -1 := fun j hj => by simp [gd, List.getD, hj]
  obtain ⟨r, h1, h2⟩ := bfs_ok hR hN N _ _ hN h0 (by simp; omega) (fun z hz => by rw [g]; split
                                                                                  · omega
                                                                                  · rw [gn z hz]; omega)
  refine ⟨r, ?_, h2.len, h2.dist hr⟩
  unfold topo_distances.f
  have hnl := hR.len
  rw [hnl]
  refine Ev.pos (by omega) (Ev.pos (by omega) (Ev.some_bind ?_))
  rw [Int.toNat_natCast, List.length_replicate]
  have := fill_ok (next := next) (x1 := (a : Int)) hN (r := r) (Ev.pos (by omega) (Ev.pos (by simpa using ha) (by rw [set_nat]; exact h1))) N 0 (by omega)
  simpa using this
end
/-- The distances that the chapter determines. -/
theorem Valid.dist {a : Int} {l : List S37} (h : Valid a l) {x : Nat} (hx : x < a.toNat) : ∃ r, Ev (fun k => topo_distances.f k (nb a l) x) r ∧ r.length = a.toNat ∧ IsDist a.toNat (adjOf (es l)) x (gd r) :=
  distances_ok h.rows (by have := h.most; omega) hx
open Classical in
noncomputable def dst (a : Int) (l : List S37) (x : Nat) : List Int := if h : Valid a l ∧ x < a.toNat then Classical.choose (h.1.dist h.2) else []
theorem Valid.dst_ev {a : Int} {l : List S37} (h : Valid a l) {x : Nat} (hx : x < a.toNat) : Ev (fun k => topo_distances.f k (nb a l) x) (dst a l x) := by
  unfold dst; rw [dif_pos ⟨h, hx⟩]; exact (Classical.choose_spec (h.dist hx)).1
theorem Valid.dst_len {a : Int} {l : List S37} (h : Valid a l) {x : Nat} (hx : x < a.toNat) : (dst a l x).length = a.toNat := by
  unfold dst; rw [dif_pos ⟨h, hx⟩]; exact (Classical.choose_spec (h.dist hx)).2.1
theorem Valid.dst_is {a : Int} {l : List S37} (h : Valid a l) {x : Nat} (hx : x < a.toNat) : IsDist a.toNat (adjOf (es l)) x (gd (dst a l x)) := by
  unfold dst; rw [dif_pos ⟨h, hx⟩]; exact (Classical.choose_spec (h.dist hx)).2.2
/-! ### knows, Dist -/
def isNode (a x : Int) : Prop := 0 ≤ x ∧ x < a
instance (a x : Int) : Decidable (isNode a x) := by unfold isNode; infer_instance
theorem impl_knows (a : Int) (l : List S37) (x : Int) : Ev (fun k => topo_knows.f k a l x) (decide (chk a l = 0 ∧ isNode a x)) := by
  unfold topo_knows.f
  refine Ev.bind' _ (impl_check a l) (Ev.ite_ (fun h => Ev.ite_ (fun h1 => Ev.const ?_) (fun h1 => Ev.const ?_)) (fun h => Ev.const ?_))
  · simp only [h, isNode, true_and]
    congr 1
    by_cases q : x < a <;> simp [q] <;> omega
  · have : ¬ (chk a l = 0 ∧ isNode a x) := fun q => h1 q.2.1
    simp [this]
  · simp [h]
/-- The answer of Dist. -/
noncomputable def distR (a : Int) (l : List S37) (x : Int) : List Int := if chk a l = 0 ∧ isNode a x then dst a l x.toNat else []
theorem impl_dist (a : Int) (l : List S37) (x : Int) : Ev (fun k => topo_Dist.f k a l x) (distR a l x) := by
  unfold topo_Dist.f distR
  refine Ev.bind' _ (impl_knows a l x) (Ev.ite_ (fun h => ?_) (fun h => ?_))
  · have h := of_decide_eq_true h
    rw [if_pos h]
    have hv := chk_valid h.1
    have hx := h.2
    unfold isNode at hx
    have := hv.dst_ev (x := x.toNat) (by omega)
    rw [Int.toNat_of_nonneg hx.1] at this
    exact Ev.bind' _ (impl_nb hv) (Ev.bind' _ this (Ev.const rfl))
  · rw [if_neg (by simpa using h)]
    exact Ev.const rfl
/-! ### The reference's rounds -/
/-- Numbers within bounds. -/
def Small (N c : Nat) (d : List Int) : Prop := d.length = N ∧ ∀ x, x < N → -1 ≤ gd d x ∧ gd d x ≤ c
theorem Small.upd {N c : Nat} {d : List Int} (h : Small N c d) {x y : Nat} (hx : x < N) (hy : y < N) : Small N (c + 1) (upd d x y) := by
  refine ⟨by simp [PB.upd, h.1], fun z hz => ?_⟩
  have h1 := h.2 z hz
  have h2 := h.2 y hy
  have h3 := h.2 x hx
  unfold PB.upd
  rw [gd_set (by rw [h.1]; exact hx)]
  split
  · unfold better
    split <;> omega
  · omega
theorem Small.relax {N c : Nat} {d : List Int} (h : Small N c d) {p : Nat × Nat} (hx : p.1 < N) (hy : p.2 < N) : Small N (c + 2) (relax d p) := (h.upd hx hy).upd hy hx
end Go.Proofs.Ythkpnkmbmlbefaa.PB

/- Components, paths, the diameter: the program and the reference give the same. -/
namespace Go.Proofs.Ythkpnkmbmlbefaa.PB
open Go.RowKit Go.Proofs.Ythkpnkmbmlbefaa Go.Proofs.Ythkpnkmbmlbefaa.X Go.Proofs.YthkpnkmbmlbefaaW.PrintWords Go.Proofs.YthkpnkmbmlbefaaW.PrintLast
/-! ### Components -/
theorem comp_l1 {a : Int} {l : List S37} (h : Valid a l) : ∀ d i c, i + d = a.toNat → Comps a.toNat (adjOf (es l)) i c → ∃ r, Ev (fun k => topo_Comp.l1 k (nb a l) c i) r ∧ Comps a.toNat (adjOf (es l)) a.toNat r := by
  have hmost := h.most
  intro d
  induction d with
  | zero =>
    intro i c hi hc
    obtain rfl : i = a.toNat := by omega
    have hlen := hc.len
    refine ⟨c, ?_, hc⟩
    refine Ev.step (fun k => by rw [topo_Comp.l1]) ?_
    exact Ev.neg (by omega) (Ev.const rfl)
  | succ d ih =>
    intro i c hi hc
    have hlen := hc.len
    obtain ⟨t, h1, h2, h3, _⟩ := visit_ok h.rows (least := (i : Int)) (by omega) (negs c) c hlen (Nat.le_refl _) i (by omega)
    obtain ⟨r, h4, h5⟩ := ih (i + 1) t (by omega) (hc.step (adj_symm _) h.range (by omega) h2 h3)
    refine ⟨r, ?_, h5⟩
    refine Ev.step (fun k => by rw [topo_Comp.l1]) ?_
    refine Ev.pos (by omega) (Ev.bind' t h1 ?_)
    rw [wrap_nat (by omega)]
    exact h4
theorem comp_l0 {a : Int} {l : List S37} (h : Valid a l) (r : List Int) (hr : Ev (fun k => topo_Comp.l1 k (nb a l) (List.replicate a.toNat (-1)) 0) r) : ∀ d i, i + d = a.toNat → Ev (fun k => topo_Comp.l0 k (nb a l) (List.replicate i (-1 : Int) ++ List.replicate d 0) i) r := by
  have hmost := h.most
  intro d
  induction d with
  | zero =>
    intro i hi
    refine Ev.step (fun k => by rw [topo_Comp.l0]) ?_
    obtain rfl : i = a.toNat := by omega
    rw [List.replicate_zero, List.append_nil]
    exact Ev.neg (by simp) hr
  | succ d ih =>
    intro i hi
    refine Ev.step (fun k => by rw [topo_Comp.l0]) ?_
    refine Ev.pos (by simp; omega) (Ev.pos (by omega) ?_)
    rw [wrap_nat (by omega), set_nat, fill_set]
    exact ih (i + 1) (by omega)
theorem impl_comp (a : Int) (l : List S37) : (chk a l ≠ 0 ∧ Ev (fun k => topo_Comp.f k a l) []) ∨ (chk a l = 0 ∧ ∃ r, Ev (fun k => topo_Comp.f k a l) r ∧ Comps a.toNat (adjOf (es l)) a.toNat r) := by
  by_cases h : chk a l = 0
  · refine .inr ⟨h, ?_⟩
    have hv := chk_valid h
    have h1 := hv.pos
    have h2 := hv.most
    obtain ⟨r, k1, k2⟩ := comp_l1 hv a.toNat 0 _ (by omega) (Comps.init hv.range)
    refine ⟨r, ?_, k2⟩
    unfold topo_Comp.f
    refine Ev.bind' _ (impl_check a l) (Ev.pos h (Ev.bind' _ (impl_nb hv) (Ev.pos (by omega) (Ev.pos (by omega) ?_))))
    have := comp_l0 hv r k1 a.toNat 0 (by omega)
    simpa using this
  · refine .inl ⟨h, ?_⟩
    unfold topo_Comp.f
    exact Ev.bind' _ (impl_check a l) (Ev.neg h (Ev.const rfl))
theorem distR_valid {a : Int} {l : List S37} (h : chk a l = 0) {i : Nat} (hi : i < a.toNat) : distR a l i = dst a l i := by
  unfold distR
  rw [if_pos ⟨h, by unfold isNode; omega⟩, Int.toNat_natCast]
/-! ### The diameter -/
def mxFrom (d : List Int) : Nat → Nat → Int → Int
  | 0, _, v => v
  | e + 1, j, v => mxFrom d e (j + 1) (mx v (gd d j))
theorem mx_assoc (u v w : Int) : mx (mx u v) w = mx u (mx v w) := by
  unfold mx; repeat' split
  all_goals omega
theorem mxFrom_mx (d : List Int) : ∀ e j (u v : Int), mxFrom d e j (mx u v) = mx u (mxFrom d e j v)
  | 0, j, u, v => rfl
  | e + 1, j, u, v => by
    unfold mxFrom
    rw [mx_assoc, mxFrom_mx d e (j + 1) u]
theorem max_l0 (d : List Int) (hd : d.length ≤ 24) : ∀ e j v, j + e = d.length → Ev (fun k => slices_Max_int_int.l0 k d v j) (mxFrom d e j v) := by
  intro e
  induction e with
  | zero =>
    intro j v hj
    refine Ev.step (fun k => by rw [slices_Max_int_int.l0]) ?_
    exact Ev.neg (by omega) (Ev.const rfl)
  | succ e ih =>
    intro j v hj
    refine Ev.step (fun k => by rw [slices_Max_int_int.l0]) ?_
    rw [rd_gd, wrap_nat (by omega)]
    exact Ev.pos (by omega) (Ev.pos (by omega) (ih (j + 1) _ (by omega)))
/-! ### Paths -/
def joins (e : S37) (x y : Int) : Prop := (e.f0 = x ∧ e.f2 = y) ∨ (e.f0 = y ∧ e.f2 = x)
instance (e : S37) (x y : Int) : Decidable (joins e x y) := by unfold joins; infer_instance
section
variable {a : Int} {l : List S37} {d : List Int} {acc : List Int} {r : List Int}
end
end Go.Proofs.Ythkpnkmbmlbefaa.PB

/- The rows of distances of all nodes; the diameter as the greatest of them; a valid graph passes the check. -/
namespace Go.Proofs.Ythkpnkmbmlbefaa.PB
open Go.RowKit Go.Proofs.Ythkpnkmbmlbefaa Go.Proofs.Ythkpnkmbmlbefaa.X Go.Proofs.YthkpnkmbmlbefaaW.PrintWords Go.Proofs.YthkpnkmbmlbefaaW.PrintLast Go.Proofs.YthkpnkmbmlbefaaW.PrintMore
/-! ### All rows -/
noncomputable def rowsFrom (a : Int) (l : List S37) : Nat → Nat → List (List Int)
  | 0, _ => []
  | d + 1, i => dst a l i :: rowsFrom a l d (i + 1)
theorem rowsFrom_len (a : Int) (l : List S37) : ∀ d i, (rowsFrom a l d i).length = d
  | 0, _ => rfl
  | d + 1, i => by simp [rowsFrom, rowsFrom_len a l d (i + 1)]
theorem rowsFrom_get (a : Int) (l : List S37) : ∀ d i j, j < d → (rowsFrom a l d i).getD j [] = dst a l (i + j)
  | 0, _, _, h => by omega
  | d + 1, i, 0, _ => by simp [rowsFrom]
  | d + 1, i, j + 1, h => by
    have := rowsFrom_get a l d (i + 1) j (by omega)
    unfold rowsFrom
    rw [List.getD_cons_succ, this]
    congr 1
    omega
noncomputable def allRows (a : Int) (l : List S37) : List (List Int) := rowsFrom a l a.toNat 0
theorem allRows_len (a : Int) (l : List S37) : (allRows a l).length = a.toNat := rowsFrom_len _ _ _ _
theorem allRows_get (a : Int) (l : List S37) {i : Nat} (hi : i < a.toNat) : (allRows a l).getD i [] = dst a l i := by
  unfold allRows; rw [rowsFrom_get a l _ _ _ hi, Nat.zero_add]
theorem sound_l0 {a : Int} {l : List S37} (h0 : chk a l = 0) : ∀ d i acc, i + d = a.toNat → acc.length ≤ i → Ev (fun k => timesynclaw18_sound.l0 k acc a i a l) (acc ++ rowsFrom a l d i, true) := by
  have h := chk_valid h0
  have hmost := h.most
  intro d
  induction d with
  | zero =>
    intro i acc hi ha
    refine Ev.step (fun k => by rw [timesynclaw18_sound.l0]) ?_
    exact Ev.neg (by omega) (Ev.const (by simp [rowsFrom]))
  | succ d ih =>
    intro i acc hi ha
    have hia : i < a.toNat := by omega
    have hlen := h.dst_len hia
    have hd := impl_dist a l i
    rw [distR_valid h0 hia] at hd
    refine Ev.step (fun k => by rw [timesynclaw18_sound.l0]) ?_
    refine Ev.pos (by omega) (Ev.bind' _ hd (Ev.pos (by omega) (Ev.pos (by omega) ?_)))
    rw [wrap_nat (by omega)]
    have := ih (i + 1) (acc ++ [dst a l i]) (by omega) (by simp; omega)
    simpa [rowsFrom] using this
theorem sound_ok {a : Int} {l : List S37} (h0 : chk a l = 0) : Ev (fun k => timesynclaw18_sound.f k a l) (allRows a l, true) := by
  unfold timesynclaw18_sound.f
  have := sound_l0 h0 a.toNat 0 [] (by omega) (by simp)
  simpa [allRows] using this
/-! ### The diameter -/
end Go.Proofs.Ythkpnkmbmlbefaa.PB

/- The pure statement of TopoDistances: distances are what the chapter's rules say, Comp has the least node in reach, Diameter is the greatest distance. -/
namespace Go.Proofs.Ythkpnkmbmlbefaa.PureTopoDistances
open Go.RowKit Go.Proofs.Ythkpnkmbmlbefaa.X Go.Proofs.Ythkpnkmbmlbefaa.PB Go.Proofs.YthkpnkmbmlbefaaW.PrintWords Go.Proofs.YthkpnkmbmlbefaaW.PrintLast Go.Proofs.YthkpnkmbmlbefaaW.PrintMore
section
variable {a : Int} {l : List S37} (h : Valid a l)
include h
/-! ### Distances are symmetric -/
theorem near_le {b c : Nat} (hb : b < a.toNat) (hc : c < a.toNat) (hbc : adjOf (es l) b c) : ∀ (n : Nat) (z : Nat), z < a.toNat → gd (dst a l b) z = n → 0 ≤ gd (dst a l c) z ∧ gd (dst a l c) z ≤ n + 1 := by
  have hB := h.dst_is hb
  have hC := h.dst_is hc
  intro n
  induction n with
  | zero =>
    intro z hz e
    have := hB.only z hz (by omega)
    subst this
    have h1 := hC.edge c z hbc.symm (by have := hC.zero; omega)
    have := hC.zero
    omega
  | succ n ih =>
    intro z hz e
    obtain ⟨y, hy, e2⟩ := hB.back z hz (by omega)
    have h1 := ih y (h.range _ _ hy).1 (by omega)
    have h2 := hC.edge y z hy h1.1
    omega
theorem first_step {b : Nat} (hb : b < a.toNat) : ∀ (n : Nat) (z : Nat), z < a.toNat → gd (dst a l b) z = (n + 1 : Nat) → ∃ c, adjOf (es l) c b ∧ 0 ≤ gd (dst a l c) z ∧ gd (dst a l c) z ≤ n := by
  have hB := h.dst_is hb
  intro n
  induction n with
  | zero =>
    intro z hz e
    obtain ⟨y, hy, e2⟩ := hB.back z hz (by omega)
    have := hB.only y (h.range _ _ hy).1 (by omega)
    subst this
    refine ⟨z, hy.symm, ?_⟩
    have := (h.dst_is hz).zero
    omega
  | succ n ih =>
    intro z hz e
    obtain ⟨y, hy, e2⟩ := hB.back z hz (by omega)
    obtain ⟨c, hc, c1, c2⟩ := ih y (h.range _ _ hy).1 (by omega)
    have := (h.dst_is (h.range _ _ hc).1).edge y z hy c1
    exact ⟨c, hc, by omega, by omega⟩
theorem dst_symm {i b : Nat} (hi : i < a.toNat) (hb : b < a.toNat) : gd (dst a l b) i = gd (dst a l i) b := by
  have hI : IsDist a.toNat (adjOf (es l)) i (fun b => gd (dst a l b) i) := by
    refine ⟨(h.dst_is hi).zero, fun x hx e => ((h.dst_is hx).only i hi e).symm, fun x hx => (h.dst_is hx).low i hi, fun x y hxy e => ?_, fun x hx e => ?_⟩
    · obtain ⟨hx, hy⟩ := h.range x y hxy
      have := near_le h hx hy hxy (gd (dst a l x) i).toNat i hi (by omega)
      omega
    · obtain ⟨c, hc, c1, c2⟩ := first_step h hx ((gd (dst a l x) i).toNat - 1) i hi (by omega)
      obtain ⟨hcN, _⟩ := h.range c x hc
      have := near_le h hcN hx hc (gd (dst a l c) i).toNat i hi (by omega)
      refine ⟨c, hc, ?_⟩
      omega
  exact IsDist.uniq h.range hI (h.dst_is hi) b hb
end
/-! ### The greatest of all -/
noncomputable def mostFrom (a : Int) (l : List S37) : Nat → Nat → Int → Int
  | 0, _, m => m
  | e + 1, i, m => mostFrom a l e (i + 1) (mxFrom (dst a l i) a.toNat 0 m)
theorem diam_most {a : Int} {l : List S37} (h0 : chk a l = 0) : ∀ e i m, i + e = a.toNat → Ev (fun k => topo_Diameter.l0 k (nb a l) m a i) (mostFrom a l e i m) := by
  have h := chk_valid h0
  have hmost := h.most
  intro e
  induction e with
  | zero =>
    intro i m hi
    refine Ev.step (fun k => by rw [topo_Diameter.l0]) ?_
    exact Ev.neg (by omega) (Ev.const rfl)
  | succ e ih =>
    intro i m hi
    have hia : i < a.toNat := by omega
    have hlen := h.dst_len hia
    have h1 := ih (i + 1) (mxFrom (dst a l i) a.toNat 0 m) (by omega)
    refine Ev.step (fun k => by rw [topo_Diameter.l0]) ?_
    obtain ⟨n, hn⟩ : ∃ n, a.toNat = n + 1 := ⟨a.toNat - 1, by omega⟩
    refine Ev.pos (by omega) (Ev.bind' _ (h.dst_ev hia) (Ev.bind' (mxFrom (dst a l i) n 1 (gd (dst a l i) 0)) ?_ ?_))
    · unfold slices_Max_int_int.f
      exact Ev.neg (by omega) (Ev.pos (by omega) (max_l0 _ (by omega) n 1 _ (by omega)))
    · rw [wrap_nat (by omega), ← mxFrom_mx]
      rw [hn] at h1
      unfold mostFrom
      rw [hn]
      exact h1
theorem index_ok (d : List Int) (hd : d.length ≤ 24) (b : Nat) (hb : b < d.length) (h0 : 0 ≤ gd d b) (hl : ∀ k, k < d.length → 0 ≤ gd d k → b ≤ k) : ∀ e j, j + e = b → Ev (fun k => slices_IndexFunc_int_int_38.l0 k d j) (b : Int) := by
  intro e
  induction e with
  | zero =>
    intro j hj
    obtain rfl : j = b := by omega
    refine Ev.step (fun k => by rw [slices_IndexFunc_int_int_38.l0]) ?_
    rw [rd_gd]
    exact Ev.pos (by omega) (Ev.pos (by omega) (Ev.pos h0 (Ev.const rfl)))
  | succ e ih =>
    intro j hj
    refine Ev.step (fun k => by rw [slices_IndexFunc_int_int_38.l0]) ?_
    rw [rd_gd, wrap_nat (by omega)]
    exact Ev.pos (by omega) (Ev.pos (by omega) (Ev.neg (fun q => by have := hl j (by omega) q; omega) (ih (j + 1) (by omega))))
/-! ### The law -/
def bd (l : List Bool) (i : Nat) : Bool := l.getD i false
theorem rd_bd (l : List Bool) (i : Nat) : rdOf false l (i : Int) = bd l i := by simp [rdOf, bd]
theorem set_natB {l : List Bool} {v : Bool} (x : Nat) : l.set ((x : Int)).toNat v = l.set x v := by rw [Int.toNat_natCast]
theorem bd_set {l : List Bool} {i : Nat} (h : i < l.length) (v : Bool) (j : Nat) : bd (l.set i v) j = if j = i then v else bd l j := getD_set h v j false
/-- After the first j edges: who has a nearer neighbor is marked. -/
def Near (a : Int) (l : List S37) (i j : Nat) (n : List Bool) : Prop :=
  n.length = a.toNat ∧ bd n i = true ∧ ∀ j', j' < j → ∀ u v : Nat, (l.getD j' z37).f0 = u → (l.getD j' z37).f2 = v → (gd (dst a l i) v = gd (dst a l i) u - 1 → bd n u = true) ∧ (gd (dst a l i) u = gd (dst a l i) v - 1 → bd n v = true)
section
variable {a : Int} {l : List S37} (h0 : chk a l = 0) {C : List Int} (hC : Comps a.toNat (adjOf (es l)) a.toNat C)
include h0
theorem near_all {i : Nat} (hi : i < a.toNat) {n : List Bool} (hn : Near a l i l.length n) (z : Nat) (hz : z < a.toNat) (hz0 : 0 ≤ gd (dst a l i) z) : bd n z = true := by
  have h := chk_valid h0
  have hD := h.dst_is hi
  by_cases q : gd (dst a l i) z = 0
  · have := hD.only z hz q
    subst this; exact hn.2.1
  · obtain ⟨y, hy, e⟩ := hD.back z hz (by omega)
    rcases hy with q | q
    · obtain ⟨ed, he, e1⟩ := List.mem_map.1 q
      obtain ⟨j, hj, e2⟩ := List.mem_iff_getElem.1 he
      obtain ⟨u, v, hu, hv, _, _⟩ := (h.mem he).1.nat
      injection e1 with e3 e4
      rw [hu, Int.toNat_natCast] at e3
      rw [hv, Int.toNat_natCast] at e4
      subst e3; subst e4
      have hg : l.getD j z37 = ed := by rw [List.getD_eq_getElem?_getD, List.getElem?_eq_getElem hj, Option.getD_some, e2]
      exact (hn.2.2 j hj u v (by rw [hg]; exact hu) (by rw [hg]; exact hv)).2 e
    · obtain ⟨ed, he, e1⟩ := List.mem_map.1 q
      obtain ⟨j, hj, e2⟩ := List.mem_iff_getElem.1 he
      obtain ⟨u, v, hu, hv, _, _⟩ := (h.mem he).1.nat
      injection e1 with e3 e4
      rw [hu, Int.toNat_natCast] at e3
      rw [hv, Int.toNat_natCast] at e4
      subst e3; subst e4
      have hg : l.getD j z37 = ed := by rw [List.getD_eq_getElem?_getD, List.getElem?_eq_getElem hj, Option.getD_some, e2]
      exact (hn.2.2 j hj u v (by rw [hg]; exact hu) (by rw [hg]; exact hv)).1 e
theorem l1_ok {i : Nat} (hi : i < a.toNat) {m : Int} {r : Bool} (hk : ∀ n : List Bool, Near a l i l.length n → Ev (fun k => timesynclaw18_TopoDistances.l2 k (allRows a l) C m i n a.toNat i (dst a l i) (dst a l i).length 0 a l) r) :
    ∀ e j n, j + e = l.length → Near a l i j n → Ev (fun k => timesynclaw18_TopoDistances.l1 k (allRows a l) C m i n a.toNat i l l.length j a l) r := by
  have h := chk_valid h0
  have hfew := h.few
  have hmost := h.most
  have hlen := h.dst_len hi
  have hal := allRows_len a l
  have hD := h.dst_is hi
  intro e
  induction e with
  | zero =>
    intro j n hj hn
    obtain rfl : j = l.length := by omega
    refine Ev.step (fun k => by rw [timesynclaw18_TopoDistances.l1]) ?_
    rw [rdL3, allRows_get a l hi]
    exact Ev.neg (by omega) (Ev.pos (by omega) (Ev.pos (by omega) (hk n hn)))
  | succ e ih =>
    intro j n hj hn
    have hjl : j < l.length := by omega
    obtain ⟨u, v, hu, hv, hul, hvl⟩ := (h.ok j hjl).nat
    have hm : (u, v) ∈ es l := List.mem_map.2 ⟨l.getD j z37, getD_in hjl _, by rw [hu, hv]; rfl⟩
    have e1 := hD.edge u v (.inl hm)
    have e2 := hD.edge v u (.inr hm)
    have b1 := hD.low u hul
    have b2 := hD.low v hvl
    have t1 := hD.lt h.range u hul
    have t2 := hD.lt h.range v hvl
    have hnl := hn.1
    have hNext : ∀ n' : List Bool, n'.length = a.toNat → (∀ z, bd n z = true → bd n' z = true) → (gd (dst a l i) v = gd (dst a l i) u - 1 → bd n' u = true) → (gd (dst a l i) u = gd (dst a l i) v - 1 → bd n' v = true) → Near a l i (j + 1) n' := fun n' k1 k2 k3 k4 => by
      refine ⟨k1, k2 i hn.2.1, fun j' hj' u' v' hu' hv' => ?_⟩
      by_cases q : j' = j
      · subst q
        obtain rfl : u' = u := by omega
        obtain rfl : v' = v := by omega
        exact ⟨k3, k4⟩
      · have := hn.2.2 j' (by omega) u' v' hu' hv'
        exact ⟨fun q2 => k2 _ (this.1 q2), fun q2 => k2 _ (this.2 q2)⟩
    have w1 : wrap64 (gd (dst a l i) u - gd (dst a l i) v) = gd (dst a l i) u - gd (dst a l i) v := wrap_id (by omega) (by omega)
    have w2 : wrap64 (gd (dst a l i) v - gd (dst a l i) u) = gd (dst a l i) v - gd (dst a l i) u := wrap_id (by omega) (by omega)
    have w3 : wrap64 (gd (dst a l i) u - 1) = gd (dst a l i) u - 1 := wrap_id (by omega) (by omega)
    have w4 : wrap64 (gd (dst a l i) v - 1) = gd (dst a l i) v - 1 := wrap_id (by omega) (by omega)
    have sets : ∀ (n : List Bool), n.length = a.toNat → ∀ (x : Nat) (b : Bool), x < a.toNat → (bd n x = true → b = true) → (n.set x b).length = a.toNat ∧ (∀ z, bd n z = true → bd (n.set x b) z = true) ∧ bd (n.set x b) x = b := fun n hn x b hx hb => by
      refine ⟨by simp [hn], fun z hz => ?_, ?_⟩
      · rw [bd_set (by omega)]
        split
        · rename_i q; subst q; exact hb hz
        · exact hz
      · rw [bd_set (by omega), if_pos rfl]
    refine Ev.step (fun k => by rw [timesynclaw18_TopoDistances.l1]) ?_
    rw [rd37, hu, hv, rdL3, allRows_get a l hi, rd_gd, rd_gd, w1, w2, w3, w4, wrap_nat (by omega)]
    refine Ev.pos (by omega) (Ev.pos (by omega) (Ev.pos (by omega) (Ev.pos (by omega) (Ev.pos (by omega) (Ev.pos (by omega) (Ev.pos (by omega) (Ev.pos (by omega) (Ev.pos (by omega) (Ev.neg (by omega) (Ev.neg (by omega) (Ev.neg ?_ (Ev.pos (by omega) (Ev.ite_ (fun q => Ev.some_bind (Ev.pos (by omega) ?_)) (fun q => Ev.some_bind (Ev.pos (by omega) ?_)))))))))))))))
    · by_cases q : gd (dst a l i) u < 0
      · have q2 : gd (dst a l i) v < 0 := by omega
        simp [q, q2]
      · have q2 : ¬ gd (dst a l i) v < 0 := by omega
        simp [q, q2]
    · obtain ⟨s1, s2, s3⟩ := sets n hnl u true hul (fun _ => rfl)
      rw [set_natB, show rdOf false (n.set u true) (v : Int) = bd (n.set u true) v from rd_bd _ _]
      refine Ev.ite_ (fun q2 => ?_) (fun q2 => ?_)
      · obtain ⟨k1, k2, k3⟩ := sets (n.set u true) s1 v true hvl (fun _ => rfl)
        rw [set_natB]
        exact ih (j + 1) _ (by omega) (hNext _ k1 (fun z hz => k2 z (s2 z hz)) (fun _ => k2 u s3) (fun _ => k3))
      · obtain ⟨k1, k2, k3⟩ := sets (n.set u true) s1 v (gd (dst a l i) u == gd (dst a l i) v - 1) hvl (fun q3 => absurd q3 q2)
        rw [set_natB]
        exact ih (j + 1) _ (by omega) (hNext _ k1 (fun z hz => k2 z (s2 z hz)) (fun _ => k2 u s3) (fun e => by rw [k3]; simpa using e))
    · have q' : ¬ bd n u = true := by rw [rd_bd] at q; exact q
      obtain ⟨s1, s2, s3⟩ := sets n hnl u (gd (dst a l i) v == gd (dst a l i) u - 1) hul (fun q3 => absurd q3 q')
      rw [set_natB, show rdOf false (n.set u (gd (dst a l i) v == gd (dst a l i) u - 1)) (v : Int) = bd (n.set u (gd (dst a l i) v == gd (dst a l i) u - 1)) v from rd_bd _ _]
      have kA : ∀ n' : List Bool, (∀ z, bd (n.set u (gd (dst a l i) v == gd (dst a l i) u - 1)) z = true → bd n' z = true) → gd (dst a l i) v = gd (dst a l i) u - 1 → bd n' u = true := fun n' k2 e => k2 u (by rw [s3]; simpa using e)
      refine Ev.ite_ (fun q2 => ?_) (fun q2 => ?_)
      · obtain ⟨k1, k2, k3⟩ := sets _ s1 v true hvl (fun _ => rfl)
        rw [set_natB]
        exact ih (j + 1) _ (by omega) (hNext _ k1 (fun z hz => k2 z (s2 z hz)) (kA _ k2) (fun _ => k3))
      · obtain ⟨k1, k2, k3⟩ := sets _ s1 v (gd (dst a l i) u == gd (dst a l i) v - 1) hvl (fun q3 => absurd q3 q2)
        rw [set_natB]
        exact ih (j + 1) _ (by omega) (hNext _ k1 (fun z hz => k2 z (s2 z hz)) (kA _ k2) (fun e => by rw [k3]; simpa using e))
include hC
theorem comp_iff {i b : Nat} (hi : i < a.toNat) (hb : b < a.toNat) : 0 ≤ gd (dst a l i) b ↔ gd C b = gd C i := by
  have h := chk_valid h0
  rw [(h.dst_is hi).conn h.range hb]
  constructor
  · intro hc
    exact hC.conn hc (hC.seen i hi hi)
  · intro e
    obtain ⟨x, x1, _, _, _, x5⟩ := hC.lab i hi (hC.seen i hi hi)
    obtain ⟨y, y1, _, _, _, y5⟩ := hC.lab b hb (hC.seen b hb hb)
    obtain rfl : x = y := by omega
    exact (x5.symm (adj_symm _)).trans y5
theorem l2_ok {i : Nat} (hi : i < a.toNat) {n : List Bool} (hn : Near a l i l.length n) {r : Bool} (m0 : Int) (hk : Ev (fun k => timesynclaw18_TopoDistances.l0 k (allRows a l) C (mxFrom (dst a l i) a.toNat 0 m0) a.toNat (wrap64 ((i : Int) + 1)) a l) r) :
    ∀ e b m, b + e = a.toNat → mxFrom (dst a l i) e b m = mxFrom (dst a l i) a.toNat 0 m0 → Ev (fun k => timesynclaw18_TopoDistances.l2 k (allRows a l) C m i n a.toNat i (dst a l i) (dst a l i).length b a l) r := by
  have h := chk_valid h0
  have hmost := h.most
  have hlen := h.dst_len hi
  have hal := allRows_len a l
  have hcl := hC.len
  have hD := h.dst_is hi
  intro e
  induction e with
  | zero =>
    intro b m hb hm
    obtain ⟨x, x1, x2, x3, x4⟩ := hC.least (adj_symm _) h.range hi hD
    refine Ev.step (fun k => by rw [timesynclaw18_TopoDistances.l2]) ?_
    rw [rdL3 (allRows a l) i, allRows_get a l hi, rd_gd C i]
    refine Ev.neg (by omega) (Ev.pos (by omega) (Ev.pos (by omega) (Ev.pos (by omega) (Ev.bind' (x : Int) ?_ (Ev.pos x1 ?_)))))
    · exact index_ok (dst a l i) (by omega) x (by omega) x3 (fun k k1 k2 => x4 k (by omega) k2) x 0 (by omega)
    · have hm' : m = mxFrom (dst a l i) a.toNat 0 m0 := hm
      rw [hm']; exact hk
  | succ e ih =>
    intro b m hb hm
    have hbN : b < a.toNat := by omega
    have low := hD.low b hbN
    have hsym := dst_symm h hi hbN
    have hbl := h.dst_len hbN
    have hiff := comp_iff h0 hC hi hbN
    have next := ih (b + 1) (mx m (gd (dst a l i) b)) (by omega) hm
    have hz : gd (dst a l i) b = 0 ↔ b = i := ⟨fun e => hD.only b hbN e, fun e => by rw [e]; exact hD.zero⟩
    have hnl := hn.1
    refine Ev.step (fun k => by rw [timesynclaw18_TopoDistances.l2]) ?_
    rw [rd_gd (dst a l i) b, rdL3 (allRows a l) b, allRows_get a l hbN, rd_gd (dst a l b) i, rd_gd C b, rd_gd C i, wrap_nat (by omega)]
    refine Ev.pos (by omega) (Ev.pos (by omega) (Ev.pos (by omega) (Ev.neg (by omega) (Ev.neg ?_ (Ev.ite_ (fun q => Ev.pos (by omega) (Ev.pos ?_ (Ev.pos (by omega) (Ev.pos (by omega) (Ev.pos (by omega) (Ev.pos hsym.symm (Ev.pos (by omega) (Ev.pos (by omega) (Ev.pos (hiff.1 q) (Ev.neg (by omega) next)))))))))) (fun q => Ev.pos (by omega) (Ev.pos (by omega) (Ev.pos (by omega) (Ev.pos hsym.symm (Ev.pos (by omega) (Ev.pos (by omega) (Ev.pos (by omega) (Ev.neg (fun e => q (hiff.2 e)) next)))))))))))))
    · by_cases q : b = i
      · have q2 := hz.2 q
        subst q
        simp [q2]
      · have q2 : ¬ gd (dst a l i) b = 0 := fun e => q (hz.1 e)
        have q3 : ¬ (i : Int) = (b : Int) := by omega
        have e1 : (gd (dst a l i) b == 0) = false := beq_eq_false_iff_ne.mpr q2
        have e2 : ((i : Int) == (b : Int)) = false := beq_eq_false_iff_ne.mpr q3
        rw [e1, e2]
        simp
    · rw [rd_bd]; exact near_all h0 hi hn b hbN q
theorem l0_ok : ∀ e i m, i + e = a.toNat → mostFrom a l e i m = mostFrom a l a.toNat 0 0 → Ev (fun k => timesynclaw18_TopoDistances.l0 k (allRows a l) C m a.toNat i a l) true := by
  have h := chk_valid h0
  have hmost := h.most
  have hpos := h.pos
  intro e
  induction e with
  | zero =>
    intro i m hi hm
    refine Ev.step (fun k => by rw [timesynclaw18_TopoDistances.l0]) ?_
    have hd : Ev (fun k => topo_Diameter.f k a l) (mostFrom a l a.toNat 0 0) := by
      unfold topo_Diameter.f
      exact Ev.bind' _ (impl_check a l) (Ev.pos h0 (Ev.bind' _ (impl_nb h) (diam_most h0 a.toNat 0 0 (by omega))))
    exact Ev.neg (by omega) (Ev.bind' _ hd (Ev.pos hm.symm awake18'))
  | succ e ih =>
    intro i m hi hm
    have hia : i < a.toNat := by omega
    refine Ev.step (fun k => by rw [timesynclaw18_TopoDistances.l0]) ?_
    refine Ev.pos (by omega) (Ev.pos (by omega) (Ev.pos (by omega) (Ev.some_bind (Ev.pos (by omega) (Ev.pos (by simp; omega) ?_)))))
    rw [set_natB]
    refine l1_ok h0 hia (fun n hn => l2_ok h0 hC hia hn m ?_ a.toNat 0 m (by omega) rfl) l.length 0 _ (by omega) ⟨by simp, ?_, fun j' hj' => by omega⟩
    · rw [wrap_nat (by omega)]
      exact ih (i + 1) _ (by omega) hm
    · rw [bd_set (by simpa using hia), if_pos rfl]
end
theorem TopoDistances : ∀ (x0 : S24), WF24 x0 → ∃ k, timesynclaw18_TopoDistances.f k x0.f0 x0.f1 = some true := by
  intro g _
  refine Ev.rounds ?_
  unfold timesynclaw18_TopoDistances.f timesynclaw18_long.f
  have T : Ev (fun k => timesynclaw18_TopoDistances.j0 k true g.f0 g.f1) true := by
    refine Ev.step (fun k => by rw [timesynclaw18_TopoDistances.j0]) ?_
    exact Ev.pos rfl awake18'
  refine Ev.some_bind (Ev.ite_ (fun _ => T) (fun _ => Ev.bind' _ (impl_check g.f0 g.f1) ?_))
  by_cases h0 : chk g.f0 g.f1 = 0
  · have h := chk_valid h0
    have hpos := h.pos
    rcases impl_comp g.f0 g.f1 with ⟨hne, _⟩ | ⟨_, C, c1, c2⟩
    · exact absurd h0 hne
    · rw [h0]
      refine Ev.step (fun k => by rw [timesynclaw18_TopoDistances.j0]) ?_
      have hcl := c2.len
      refine Ev.neg (by simp) (Ev.bind' _ (sound_ok h0) (Ev.bind' _ c1 (Ev.pos rfl ?_)))
      refine Ev.step (fun k => by rw [timesynclaw18_TopoDistances.j1]) ?_
      dsimp only
      rw [allRows_len]
      have := l0_ok h0 c2 g.f0.toNat 0 0 (by omega) rfl
      exact Ev.neg (by simp; omega) this
  · have : (chk g.f0 g.f1 != 0) = true := bne_iff_ne.mpr h0
    rw [this]; exact T
end Go.Proofs.Ythkpnkmbmlbefaa.PureTopoDistances

/- What an argument reads as, in the printed words: a type's reading gives cells of its kind, and bounds on the numbers. -/
namespace Go.Proofs.Ythkpnkmbmlbefaa.HO
open Go.RowKit Go.Proofs.YthkpnkmbmlbefaaW.PrintWords Go.Deep

structure Opens {α : Type} (P : Program) (t : TypeId) (d : Kd α) (B : α → Prop) : Prop where
  out : ∀ {H : Type} (enc : TypeId × Value → H) (w : World) (base : Nat) (spare : Nat → Bool) (held : Bool) (fuel : Nat) (cs : List Value) (x : DataW H × List MemPlace),
    DataW.trod enc P w base spare held fuel t cs = some x → ∃ a : α, d.K w a cs ∧ B a

theorem opens_int {P : Program} {t : TypeId} {k : IntKind} (ht : P.underlying t = some (.int k)) : Opens P t (Kd.int k) (fun n => (Lit.int k n).wf = true) := by
  constructor
  intro H enc w base spare held fuel cs x h
  obtain ⟨n, rfl, _, hw⟩ := DataW.trod_int ht h
  exact ⟨n, rfl, hw⟩
theorem opens_slice {α : Type} [Inhabited α] {P : Program} {t e : TypeId} {d : Kd α} {B : α → Prop} (he : Opens P e d B) (ht : P.underlying t = some (.slice e)) (hs : P.cellsOf e = d.sz) :
    Opens P t (Kd.slice e d) (fun xs => xs.length ≤ 9223372036854775807 ∧ ∀ x ∈ xs, B x) := by
  constructor
  intro H enc w base spare held fuel cs x h
  rcases open_slice ht h with ⟨rfl, _⟩ | ⟨a, len, cap, m, n, D, Pl, rfl, _, hl, hm, hmm, _, hx⟩
  · exact ⟨[], ⟨none, 0, rfl, Nat.le_refl _, rfl, by simp, fun h => by simp at h⟩, by simp, by simp⟩
  · have hlm : len ≤ m := by rw [hmm]; split <;> omega
    obtain ⟨X, hX⟩ := choose_lt (α := α) (n := len) (p := fun i x => B x ∧ ∃ c, c.length = d.sz ∧ d.K w x c ∧ ∀ j u, c[j]? = some u → w.cell? (a.add (i * d.sz + j)) = some u) (fun i hi => by
      obtain ⟨cs', h1, h2⟩ := hx i (Nat.lt_of_lt_of_le hi hlm)
      obtain ⟨x, hK, hB⟩ := he.out enc w base spare held n cs' _ h2
      refine ⟨x, hB, cs', d.K_len hK, hK, fun j u hj => ?_⟩
      obtain ⟨_, h4, h5⟩ := World.cells?_some h1
      have hj' : j < cs'.length := (List.getElem?_eq_some_iff.1 hj).1
      have h6 := h5 j (by rw [h4] at hj'; exact hj')
      rw [Go.Deep.add_add, hs] at h6
      rw [h6, hj])
    refine ⟨(List.range len).map X, ⟨some a, cap, by simp, by simpa using hl, by simp, ?_, fun h0 => ⟨a, rfl, fun j p hp => ?_⟩⟩, ?_, ?_⟩
    · have : cap ≤ 9223372036854775807 := by simpa [maxLen] using hm
      simp only [List.length_map, List.length_range]; omega
    · have hj : j < len := by
        have := (List.getElem?_eq_some_iff.1 hp).1
        simpa using this
      have : X j = p := by simpa [hj] using hp
      subst this
      obtain ⟨_, c, h1, h2, h3⟩ := hX j hj
      exact ⟨c, h1, h2, h3⟩
    · have : cap ≤ 9223372036854775807 := by simpa [maxLen] using hm
      simp only [List.length_map, List.length_range]; omega
    · intro x hx
      obtain ⟨j, hj, rfl⟩ := List.mem_map.1 hx
      exact (hX j (List.mem_range.1 hj)).1

/-- The fields from cell 'off' on. -/
structure OpF {α : Type} (P : Program) (off : Nat) (fs : List Field) (d : Kd α) (B : α → Prop) : Prop where
  out : ∀ {H : Type} (enc : TypeId × Value → H) (w : World) (base : Nat) (spare : Nat → Bool) (held : Bool) (n : Nat) (cs : List Value), cs.length = off + d.sz →
    (∀ f ∈ fs, ∃ y, DataW.trod enc P w base spare held n f.type ((cs.drop f.offset).take (P.cellsOf f.type)) = some y) → ∃ a : α, d.K w a (cs.drop off) ∧ B a
theorem opF_one {α : Type} {P : Program} {off : Nat} {f : Field} {d : Kd α} {B : α → Prop} (h : Opens P f.type d B) (ho : f.offset = off) (hs : P.cellsOf f.type = d.sz) : OpF P off [f] d B := by
  constructor
  intro H enc w base spare held n cs hl hf
  obtain ⟨y, hy⟩ := hf f (by simp)
  rw [ho, hs, List.take_of_length_le (by rw [List.length_drop]; omega)] at hy
  exact h.out enc w base spare held n _ _ hy
theorem opF_cons {α β : Type} {P : Program} {off : Nat} {f : Field} {fs : List Field} {d : Kd α} {d' : Kd β} {B : α → Prop} {B' : β → Prop} (h : Opens P f.type d B) (ho : f.offset = off) (hs : P.cellsOf f.type = d.sz) (hr : OpF P (off + d.sz) fs d' B') :
    OpF P off (f :: fs) (Kd.pair d d') (fun p => B p.1 ∧ B' p.2) := by
  constructor
  intro H enc w base spare held n cs hl hf
  obtain ⟨y, hy⟩ := hf f (by simp)
  rw [ho, hs] at hy
  have hl' : cs.length = off + (d.sz + d'.sz) := hl
  obtain ⟨a, hK, hB⟩ := h.out enc w base spare held n _ _ hy
  obtain ⟨b, hK', hB'⟩ := hr.out enc w base spare held n cs (by omega) (fun g hg => hf g (by simp [hg]))
  refine ⟨(a, b), ⟨(cs.drop off).take d.sz, cs.drop (off + d.sz), ?_, hK, hK'⟩, hB, hB'⟩
  rw [← List.drop_drop]
  exact (List.take_append_drop _ _).symm
theorem opens_struct {α β : Type} {P : Program} {t : TypeId} {fs : Array Field} {d : Kd α} {B : α → Prop} (f : β → α) (g : α → β) (hfg : ∀ a, f (g a) = a) (h : OpF P 0 fs.toList d B) (ht : P.underlying t = some (.struct fs)) (hs : P.cellsOf t = d.sz) :
    Opens P t (Kd.iso d f) (fun x => B (f x)) := by
  constructor
  intro H enc w base spare held fuel cs x hx
  obtain ⟨xs, n, _, _, hl, hlen, hf⟩ := DataW.trod_struct ht hx
  obtain ⟨a, hK, hB⟩ := h.out enc w base spare held n cs (by omega) (fun q hq => by
    obtain ⟨i, hi⟩ := List.mem_iff_getElem?.1 hq
    have hi' : fs[i]? = some q := by simpa using hi
    have hlt : i < xs.length := by
      have := (Array.getElem?_eq_some_iff.1 hi').1
      omega
    exact ⟨xs[i], by rw [hf i q hi', List.getElem?_eq_getElem hlt]⟩)
  refine ⟨g a, ?_, by show B (f (g a)); rw [hfg]; exact hB⟩
  show d.K w (f (g a)) cs
  rw [hfg]
  exact hK
end Go.Proofs.Ythkpnkmbmlbefaa.HO

/- The row of TopoDistances: for every input the law returns true, and each argument reads as it read before: out of its pure statement (YthkpnkmbmlbefaaPureTopoDistances) and the printed walk. No condition. -/
namespace Go.Proofs.Ythkpnkmbmlbefaa.topoDistances
open Go.ChangeShapes Go.WideShapes Go.ChangeAt Go.RowKit Go.Proofs.Ythkpnkmbmlbefaa.X Go.Proofs.YthkpnkmbmlbefaaW.PrintWords
open Go.ChangeMaps (open_string shut_string)
set_option linter.unusedVariables false
theorem own : ownKnob Try.prog.godebug = none := by kernel_rfl
theorem laidOut : laidOutB Try.prog = true := by kernel_rfl
theorem opens3 : HO.Opens Try.prog 3 (Kd.int .i64) WFi64 := HO.opens_int Try.underlying3
theorem opens37 : HO.Opens Try.prog 37 k37 WF37 := HO.opens_struct (d := (Kd.pair (Kd.int .i64) (Kd.pair (Kd.int .i64) (Kd.pair (Kd.int .i64) (Kd.int .i64))))) (B := fun p => WFi64 p.1 ∧ WFi64 p.2.1 ∧ WFi64 p.2.2.1 ∧ WFi64 p.2.2.2) (fun x : S37 => (x.f0, x.f1, x.f2, x.f3)) (fun p => (⟨p.1, p.2.1, p.2.2.1, p.2.2.2⟩ : S37)) (fun _ => rfl) (HO.opF_cons (B := WFi64) (B' := (fun p : (Int) × (Int) × (Int) => WFi64 p.1 ∧ WFi64 p.2.1 ∧ WFi64 p.2.2)) opens3 rfl (by kernel_rfl) (HO.opF_cons (B := WFi64) (B' := (fun p : (Int) × (Int) => WFi64 p.1 ∧ WFi64 p.2)) opens3 rfl (by kernel_rfl) (HO.opF_cons (B := WFi64) (B' := WFi64) opens3 rfl (by kernel_rfl) (HO.opF_one opens3 rfl (by kernel_rfl))))) Try.underlying37 (by kernel_rfl)
theorem opens22 : HO.Opens Try.prog 22 (Kd.slice 37 k37) WFL37 := haveI : Inhabited S37 := ⟨z37⟩; HO.opens_slice opens37 Try.underlying22 (by kernel_rfl)
theorem opens24 : HO.Opens Try.prog 24 k24 WF24 := HO.opens_struct (d := (Kd.pair (Kd.int .i64) (Kd.slice 37 k37))) (B := fun p => WFi64 p.1 ∧ WFL37 p.2) (fun x : S24 => (x.f0, x.f1)) (fun p => (⟨p.1, p.2⟩ : S24)) (fun _ => rfl) (HO.opF_cons (B := WFi64) (B' := WFL37) opens3 rfl (by kernel_rfl) (HO.opF_one opens22 rfl (by kernel_rfl))) Try.underlying24 (by kernel_rfl)
set_option maxRecDepth 100000 in
theorem lifted (os : Os) (started : os.Started) (H : Type) (enc : TypeId × Value → H) :
    ReturnsInHanded {} Try.checked os 8 .any (Rows.topoDistancesSpec.pre6 enc Try.prog Try.f8 Rows.topoDistancesRow.domain false) (Rows.topoDistancesSpec.post enc Try.prog Try.f8 false true false false) := by
  refine returnsInHanded_of_change_sized (C := Try.checked) own started (by kernel_rfl) Try.func8
    (ChangeSpec.witness6 (enc := enc) (C := Try.checked) false ⟨#[], #[.agg #[.int .i64 0, .slice none 0 0]], []⟩ 8 (by kernel_rfl) (by kernel_rfl) (by kernel_rfl) (by kernel_rfl)) ?_
  intro W base args ds gs before hval0 hW hcnd hsz0 _
  have hval : ∀ (j : Nat) t v, Try.f8.params[j]? = some t → args[j]? = some v → Value.okWide Try.prog W .any base t v := hval0
  have hW' := hW
  obtain ⟨p, q, hA0, hV, rfl, hfz, hnd⟩ := hW
  have hA : DataW.TrodAll enc Try.prog W 0 (fun _ => true) true Try.f8.params.toList args.toList ds p := hA0
  rw [Try.params8] at hA hval
  obtain ⟨v0, vs0, d0, ds0, p0, q0, hargs, rfl, rfl, h0, r0⟩ := trodAll_cons hA
  obtain ⟨rfl, rfl, rfl⟩ := trodAll_nil r0
  obtain rfl : args = #[v0] := by cases args; simp_all
  obtain ⟨rfl, rfl⟩ := trodVars_none hV
  have k0 := h0
  have lt0 : ∀ x ∈ p0, x.block < W.heap.size := by obtain ⟨m, hm⟩ := k0; exact DataW.trod_lt m _ _ _ hm
  obtain ⟨fuel0, hf0⟩ := h0
  obtain ⟨x0, K0, B0⟩ := opens24.out enc W 0 _ true fuel0 _ _ hf0
  obtain ⟨cs0, rfl, hs0⟩ := okWide_struct Try.underlying24 (hval 0 24 v0 rfl rfl)
  obtain ⟨A0_1, c0_1, e0, hc0_1, hr0_1⟩ := k24_open K0
  obtain ⟨cl0⟩ := cs0
  simp only [Value.cells] at e0
  subst e0
  clear hA0 hval0 hsz0
  obtain ⟨k, hp⟩ := PureTopoDistances.TopoDistances x0 B0
  refine (timesynclaw18_TopoDistances.calls k x0.f0 _ _ x0.f1 true W hr0_1 hc0_1 hp).mono fun e W' ⟨he, bel0⟩ => ?_
  have bel := bel0
  subst he
  exact ⟨_, rfl, _, _, _, [], _, [], hW', trodAll_mk1 (shut_bool Try.underlying4 _), (trodAll_cons_mk (Below.trod laidOut (by kernel_rfl) (of_decide_eq_true (by kernel_rfl)) k0 bel lt0) trodAll_mk0), rfl, bel.frame _, fun h => by cases h⟩
theorem over : Rows.topoDistancesRow.holds Try.pinned (OpenSpec.ofChange Rows.topoDistancesSpec) :=
  OpenClaim.holds_of_wide 8 Try.f8 rfl rfl rfl rfl rfl rfl rfl ⟨rfl, rfl, rfl, rfl, rfl⟩ rfl rfl rfl rfl rfl (by kernel_rfl) Try.func8 (by kernel_rfl)
    (of_decide_eq_true (by kernel_rfl)) (by unfold Func.isWrapper; first | (rw [if_pos (by decide +kernel)]; kernel_rfl) | (rw [if_neg (by decide +kernel)]; exact ⟨rfl, rfl⟩))
    (fun os started H enc _ => lifted os started H enc)
#print axioms over
end Go.Proofs.Ythkpnkmbmlbefaa.topoDistances
namespace Go.Proofs.Ythkpnkmbmlbefaa
/-- The row of TopoDistances. -/
theorem topoDistances_holds : Rows.TopoDistancesSaid := topoDistances.over
end Go.Proofs.Ythkpnkmbmlbefaa
