/- Ythkpnkmbmlbefaa: part 6 of 6 of the proof that the law TopoWays returns true for every input, its arguments reading as before. No condition. -/
import Derived.Test.YthkpnkmbmlbefaaMTopoWays5
import Derived.Test.YthkpnkmbmlbefaaMTopoWays3
import Derived.Test.YthkpnkmbmlbefaaMTopoWays2
import Derived.Test.YthkpnkmbmlbefaaMTopoWays4
import Derived.KernelRfl
import Derived.Test.YthkpnkmbmlbefaaMTopoWays1
import Derived.Deep.Slices
import Derived.DataReads
import Derived.Test.YthkpnkmbmlbefaaRows
import Derived.WalkKit
import Derived.ProofKit
import Derived.OpenShut
import Derived.ShutString
import Derived.ChangeOld
import Derived.Below
import Derived.SizedLaws
import Derived.WideShapes
/- The rows of neighbors: what the program's rows hold, in order. -/
namespace Go.Proofs.Ythkpnkmbmlbefaa.PB
open Go.RowKit Go.Proofs.Ythkpnkmbmlbefaa Go.Proofs.Ythkpnkmbmlbefaa.X Go.Proofs.YthkpnkmbmlbefaaW.PrintWords Go.Proofs.YthkpnkmbmlbefaaW.PrintLast

/-! ### What a valid graph is -/
/-- A graph that the check lets pass. -/
structure Valid (a : Int) (l : List S37) : Prop where
  pos : 1 ≤ a
  most : a ≤ 24
  few : l.length ≤ 64
  ok : ∀ i, i < l.length → OkE a (l.getD i z37)
  loop : ∀ i, i < l.length → (l.getD i z37).f0 ≠ (l.getD i z37).f2
  once0 : ∀ i j, j < i → i < l.length → ¬ hasEnd (l.getD j z37) ((l.getD i z37).f0, (l.getD i z37).f1)
  once1 : ∀ i j, j < i → i < l.length → ¬ hasEnd (l.getD j z37) ((l.getD i z37).f2, (l.getD i z37).f3)
theorem chkFrom_ok {a : Int} {l : List S37} : ∀ {d i}, i + d = l.length → chkFrom a l d i = 0 → ∀ i', i ≤ i' → i' < l.length → OkE a (l.getD i' z37) ∧ (l.getD i' z37).f0 ≠ (l.getD i' z37).f2 ∧ (∀ j, j < i' → ¬ hasEnd (l.getD j z37) ((l.getD i' z37).f0, (l.getD i' z37).f1)) ∧ (∀ j, j < i' → ¬ hasEnd (l.getD j z37) ((l.getD i' z37).f2, (l.getD i' z37).f3))
  | 0, i, hi, _, i', h1, h2 => by omega
  | d + 1, i, hi, h, i', h1, h2 => by
    unfold chkFrom at h
    split at h
    · rename_i hok
      split at h
      · omega
      · rename_i hloop
        split at h
        · omega
        · rename_i hu1
          split at h
          · omega
          · rename_i hu2
            rw [usedFrom_iff] at hu1 hu2
            by_cases q : i' = i
            · subst q
              exact ⟨hok, hloop, fun j hj hh => hu1 ⟨j, by omega, by omega, hh⟩, fun j hj hh => hu2 ⟨j, by omega, by omega, hh⟩⟩
            · exact chkFrom_ok (by omega) h i' (by omega) h2
    · omega
theorem chk_valid {a : Int} {l : List S37} (h : chk a l = 0) : Valid a l := by
  unfold chk at h
  split at h
  · omega
  · split at h
    · omega
    · have k := chkFrom_ok (i := 0) (by omega) h
      exact ⟨by omega, by omega, by omega, fun i hi => (k i (by omega) hi).1, fun i hi => (k i (by omega) hi).2.1, fun i j hj hi => (k i (by omega) hi).2.2.1 j hj, fun i j hj hi => (k i (by omega) hi).2.2.2 j hj⟩

/-! ### The edges as pairs of nodes -/
def es (l : List S37) : List (Nat × Nat) := l.map fun e => (e.f0.toNat, e.f2.toNat)
theorem OkE.nat {a : Int} {e : S37} (h : OkE a e) : ∃ x y : Nat, e.f0 = x ∧ e.f2 = y ∧ x < a.toNat ∧ y < a.toNat := by
  unfold OkE at h
  exact ⟨e.f0.toNat, e.f2.toNat, by omega, by omega, by omega, by omega⟩
theorem Valid.mem {a : Int} {l : List S37} (h : Valid a l) {e : S37} (he : e ∈ l) : OkE a e ∧ e.f0 ≠ e.f2 := by
  obtain ⟨i, hi, rfl⟩ := List.mem_iff_getElem.1 he
  have h1 := h.ok i hi
  have h2 := h.loop i hi
  rw [List.getD_eq_getElem?_getD, List.getElem?_eq_getElem hi, Option.getD_some] at h1 h2
  exact ⟨h1, h2⟩
theorem Valid.range {a : Int} {l : List S37} (h : Valid a l) (x y : Nat) (hxy : adjOf (es l) x y) : x < a.toNat ∧ y < a.toNat := by
  have key : ∀ u v : Nat, (u, v) ∈ es l → u < a.toNat ∧ v < a.toNat := fun u v hu => by
    obtain ⟨e, he, e1⟩ := List.mem_map.1 hu
    obtain ⟨x', y', h1, h2, h3, h4⟩ := (h.mem he).1.nat
    injection e1 with e1 e2
    omega
  rcases hxy with q | q
  · exact key _ _ q
  · exact (key _ _ q).symm

/-! ### The rows -/
def addE (rows : List (List Int)) (e : S37) : List (List Int) :=
  let r1 := rows.set e.f0.toNat (rows.getD e.f0.toNat [] ++ [e.f2])
  r1.set e.f2.toNat (r1.getD e.f2.toNat [] ++ [e.f0])
structure Raw (N : Nat) (l : List S37) (i : Nat) (rows : List (List Int)) : Prop where
  len : rows.length = N
  short : ∀ x, x < N → (rows.getD x []).length ≤ 2 * i
  mem : ∀ x, x < N → ∀ y : Int, y ∈ rows.getD x [] ↔ ∃ j, j < i ∧ (((l.getD j z37).f0 = x ∧ (l.getD j z37).f2 = y) ∨ ((l.getD j z37).f2 = x ∧ (l.getD j z37).f0 = y))
theorem getD_set {α : Type} {l : List α} {i : Nat} (h : i < l.length) (v : α) (j : Nat) (z : α) : (l.set i v).getD j z = if j = i then v else l.getD j z := by
  by_cases q : j = i
  · subst q; simp [h]
  · rw [if_neg q]; simp [List.getD, Ne.symm q]
theorem Raw.step {N : Nat} {a : Int} {l : List S37} {i : Nat} {rows : List (List Int)} (h : Raw N l i rows) (hok : OkE a (l.getD i z37)) (hN : N = a.toNat) : Raw N l (i + 1) (addE rows (l.getD i z37)) := by
  obtain ⟨u, v, hu, hv, hul, hvl⟩ := hok.nat
  subst hN
  have hlen := h.len
  unfold addE
  simp only [hu, hv, Int.toNat_natCast]
  have g1 : ∀ j, (rows.set u (rows.getD u [] ++ [(v : Int)])).getD j [] = if j = u then rows.getD u [] ++ [(v : Int)] else rows.getD j [] := fun j => getD_set (by omega) _ _ _
  have g2 : ∀ j (w : List Int), ((rows.set u (rows.getD u [] ++ [(v : Int)])).set v w).getD j [] = if j = v then w else (rows.set u (rows.getD u [] ++ [(v : Int)])).getD j [] := fun j w => getD_set (by rw [List.length_set]; omega) _ _ _
  refine ⟨by simp [hlen], fun x hx => ?_, fun x hx y => ?_⟩
  · have h1 := h.short x hx
    have h2 := h.short u hul
    have h3 := h.short v hvl
    rw [g2]
    split
    · rw [List.length_append, g1]
      split
      · rw [List.length_append]; simp; simp at h2; omega
      · simp; simp at h3; omega
    · rw [g1]
      split
      · rw [List.length_append]; simp; simp at h2; omega
      · omega
  · have hm := h.mem x hx y
    have split_ : (∃ j, j < i + 1 ∧ (((l.getD j z37).f0 = x ∧ (l.getD j z37).f2 = y) ∨ ((l.getD j z37).f2 = x ∧ (l.getD j z37).f0 = y))) ↔ (y ∈ rows.getD x [] ∨ ((u : Int) = x ∧ (v : Int) = y) ∨ ((v : Int) = x ∧ (u : Int) = y)) := by
      rw [hm]
      constructor
      · rintro ⟨j, hj, hh⟩
        by_cases q : j = i
        · subst q; rw [hu, hv] at hh; exact .inr hh
        · exact .inl ⟨j, by omega, hh⟩
      · rintro (⟨j, hj, hh⟩ | hh)
        · exact ⟨j, by omega, hh⟩
        · exact ⟨i, by omega, by rw [hu, hv]; exact hh⟩
    rw [split_, g2]
    by_cases q1 : x = v
    · subst q1
      rw [if_pos rfl, List.mem_append, g1]
      by_cases q2 : x = u
      · subst q2
        rw [if_pos rfl, List.mem_append]
        simp only [List.mem_singleton]
        constructor
        · rintro ((h1 | h1) | h1)
          · exact .inl h1
          · exact .inr (.inl ⟨by simp, h1.symm⟩)
          · exact .inr (.inl ⟨by simp, h1.symm⟩)
        · rintro (h1 | h1 | h1)
          · exact .inl (.inl h1)
          · exact .inr h1.2.symm
          · exact .inr h1.2.symm
      · rw [if_neg q2]
        simp only [List.mem_singleton]
        constructor
        · rintro (h1 | h1)
          · exact .inl h1
          · exact .inr (.inr ⟨by simp, h1.symm⟩)
        · rintro (h1 | h1 | h1)
          · exact .inl h1
          · exact absurd h1.1 (by omega)
          · exact .inr h1.2.symm
    · rw [if_neg q1, g1]
      by_cases q2 : x = u
      · subst q2
        rw [if_pos rfl, List.mem_append]
        simp only [List.mem_singleton]
        constructor
        · rintro (h1 | h1)
          · exact .inl h1
          · exact .inr (.inl ⟨by simp, h1.symm⟩)
        · rintro (h1 | h1 | h1)
          · exact .inl h1
          · exact .inr h1.2.symm
          · exact absurd h1.1 (by omega)
      · rw [if_neg q2]
        constructor
        · exact .inl
        · rintro (h1 | h1 | h1)
          · exact h1
          · exact absurd h1.1 (by omega)
          · exact absurd h1.1 (by omega)
theorem Raw.init (N : Nat) (l : List S37) : Raw N l 0 (List.replicate N []) :=
  ⟨by simp, fun x hx => by simp [List.getD, hx], fun x hx y => by simp [List.getD, hx]⟩
def rawFrom (l : List S37) : Nat → Nat → List (List Int) → List (List Int)
  | 0, _, rows => rows
  | d + 1, i, rows => rawFrom l d (i + 1) (addE rows (l.getD i z37))
def sortI (l : List Int) : List Int := l.mergeSort fun x y => decide (x ≤ y)
theorem sortI_sorted (z : List Int) : (sortI z).Pairwise (· ≤ ·) := by
  have := List.pairwise_mergeSort (le := fun a b : Int => decide (a ≤ b)) (fun a b c h1 h2 => by simp at *; omega) (fun a b => by simp; omega) z
  exact this.imp (fun h => by simpa using h)
theorem sortI_is {x y : List Int} (h : x.Perm y) (hs : y.Pairwise (· ≤ ·)) : sortI x = y :=
  List.Perm.eq_of_pairwise (fun _ _ _ _ h1 h2 => Int.le_antisymm h1 h2) (sortI_sorted x) hs ((List.mergeSort_perm x _).trans h)
theorem sortI_len (l : List Int) : (sortI l).length = l.length := (List.mergeSort_perm l _).length_eq
theorem sortI_mem {l : List Int} {y : Int} : y ∈ sortI l ↔ y ∈ l := (List.mergeSort_perm l _).mem_iff
def nb (a : Int) (l : List S37) : List (List Int) := (rawFrom l l.length 0 (List.replicate a.toNat [])).map sortI
theorem rawFrom_raw {N : Nat} {a : Int} {l : List S37} (h : Valid a l) (hN : N = a.toNat) : ∀ d i rows, i + d = l.length → Raw N l i rows → Raw N l l.length (rawFrom l d i rows)
  | 0, i, rows, hi, hr => by
    obtain rfl : i = l.length := by omega
    exact hr
  | d + 1, i, rows, hi, hr => rawFrom_raw h hN d (i + 1) _ (by omega) (hr.step (h.ok i (by omega)) hN)
theorem nb_get (a : Int) (l : List S37) (x : Nat) : (nb a l).getD x [] = sortI ((rawFrom l l.length 0 (List.replicate a.toNat [])).getD x []) := by
  unfold nb
  simp only [List.getD_eq_getElem?_getD, List.getElem?_map]
  cases (rawFrom l l.length 0 (List.replicate a.toNat []))[x]? with
  | none => simp [sortI]
  | some r => rfl
theorem Valid.raw {a : Int} {l : List S37} (h : Valid a l) : Raw a.toNat l l.length (rawFrom l l.length 0 (List.replicate a.toNat [])) := rawFrom_raw h rfl _ _ _ (by omega) (Raw.init _ _)
theorem Valid.nb_mem {a : Int} {l : List S37} (h : Valid a l) {x : Nat} (hx : x < a.toNat) (y : Int) : y ∈ (nb a l).getD x [] ↔ ∃ z : Nat, y = z ∧ z < a.toNat ∧ adjOf (es l) x z := by
  rw [nb_get, sortI_mem, h.raw.mem x hx]
  constructor
  · rintro ⟨j, hj, hh⟩
    obtain ⟨u, v, hu, hv, hul, hvl⟩ := (h.ok j hj).nat
    have hm : (u, v) ∈ es l := List.mem_map.2 ⟨l.getD j z37, getD_in hj _, by rw [hu, hv]; rfl⟩
    rw [hu, hv] at hh
    rcases hh with ⟨h1, h2⟩ | ⟨h1, h2⟩
    · obtain rfl : u = x := by omega
      exact ⟨v, h2.symm, hvl, .inl hm⟩
    · obtain rfl : v = x := by omega
      exact ⟨u, h2.symm, hul, .inr hm⟩
  · rintro ⟨z, rfl, hz, hadj⟩
    rcases hadj with q | q
    · obtain ⟨e, he, e1⟩ := List.mem_map.1 q
      obtain ⟨j, hj, e2⟩ := List.mem_iff_getElem.1 he
      obtain ⟨u, v, hu, hv, _, _⟩ := (h.mem he).1.nat
      injection e1 with e3 e4
      refine ⟨j, hj, .inl ?_⟩
      rw [List.getD_eq_getElem?_getD, List.getElem?_eq_getElem hj, Option.getD_some, e2]
      omega
    · obtain ⟨e, he, e1⟩ := List.mem_map.1 q
      obtain ⟨j, hj, e2⟩ := List.mem_iff_getElem.1 he
      obtain ⟨u, v, hu, hv, _, _⟩ := (h.mem he).1.nat
      injection e1 with e3 e4
      refine ⟨j, hj, .inr ?_⟩
      rw [List.getD_eq_getElem?_getD, List.getElem?_eq_getElem hj, Option.getD_some, e2]
      omega
theorem Valid.nb_len {a : Int} {l : List S37} (h : Valid a l) : (nb a l).length = a.toNat := by
  unfold nb; rw [List.length_map]; exact h.raw.len
theorem Valid.nb_short {a : Int} {l : List S37} (h : Valid a l) {x : Nat} (hx : x < a.toNat) : ((nb a l).getD x []).length ≤ 128 := by
  rw [nb_get, sortI_len]
  have := h.raw.short x hx
  have := h.few
  omega
theorem Valid.nb_sorted {a : Int} {l : List S37} (x : Nat) : ((nb a l).getD x []).Pairwise (· ≤ ·) := by rw [nb_get]; exact sortI_sorted _
theorem Valid.rows {a : Int} {l : List S37} (h : Valid a l) : Rows a.toNat (nb a l) (adjOf (es l)) :=
  ⟨h.nb_len, fun x hx => by have := h.nb_short hx; omega, fun x hx y hy => (h.nb_mem hx y).1 hy, fun x y hxy => ⟨(h.range x y hxy).1, (h.range x y hxy).2, (h.nb_mem (h.range x y hxy).1 y).2 ⟨y, rfl, (h.range x y hxy).2, hxy⟩⟩⟩
theorem sort_loop (rows : List (List Int)) (hsh : ∀ x, x < rows.length → (rows.getD x []).length ≤ 128) (hn : rows.length ≤ 24) : ∀ d i (cur : List (List Int)), i + d = rows.length → cur = (rows.take i).map sortI ++ rows.drop i → Ev (fun k => topo_neighbors.l1 k cur rows.length i) (rows.map sortI) := by
  intro d
  induction d with
  | zero =>
    intro i cur hi hc
    refine Ev.step (fun k => by rw [topo_neighbors.l1]) ?_
    refine Ev.neg (by omega) (Ev.const ?_)
    rw [hc, List.take_of_length_le (by omega), List.drop_of_length_le (by omega), List.append_nil]
  | succ d ih =>
    intro i cur hi hc
    have hil : i < rows.length := by omega
    have hlen : cur.length = rows.length := by rw [hc]; simp; omega
    have hget : cur.getD i [] = rows.getD i [] := by
      rw [hc]
      simp [List.getD, List.getElem?_append, Nat.min_eq_left (Nat.le_of_lt hil)]
    refine Ev.step (fun k => by rw [topo_neighbors.l1]) ?_
    refine Ev.pos (by omega) (Ev.pos (by omega) (Ev.pos (by omega) (Ev.bind' (sortI (rows.getD i [])) (Ev.const ?_) ?_)))
    · rw [rdL3, hget]
      unfold slices_Sort_int_int.f
      rw [if_pos (by have := hsh i hil; omega)]
      rfl
    · rw [wrap_nat (by omega), Int.toNat_natCast]
      refine ih (i + 1) _ (by omega) ?_
      rw [hc]
      apply List.ext_getElem?
      intro j
      have hmin : min i rows.length = i := by omega
      have hmin2 : min (i + 1) rows.length = i + 1 := by omega
      simp only [List.getElem?_set, List.getElem?_append, List.length_map, List.length_take, List.getElem?_map, List.getElem?_take, List.getElem?_drop, List.length_append, List.length_drop, hmin, hmin2]
      by_cases q1 : i = j
      · subst q1
        simp [hil, List.getD]
        omega
      · rw [if_neg q1]
        by_cases q2 : j < i
        · simp [q2, show j < i + 1 by omega]
        · have q3 : ¬ j < i + 1 := by omega
          simp only [q2, q3, if_false]
          congr 1
          omega
theorem impl_nb_from {a : Int} {l : List S37} (h : Valid a l) (r : List (List Int)) : ∀ d i rows, i + d = l.length → Raw a.toNat l i rows → Ev (fun k => topo_neighbors.l1 k (rawFrom l d i rows) ((rawFrom l d i rows).length : Int) 0) r → Ev (fun k => topo_neighbors.l0 k rows l l.length i) r := by
  intro d
  induction d with
  | zero =>
    intro i rows hi hr hk
    refine Ev.step (fun k => by rw [topo_neighbors.l0]) ?_
    exact Ev.neg (by omega) hk
  | succ d ih =>
    intro i rows hi hr hk
    have hil : i < l.length := by omega
    have hok := h.ok i hil
    have hfew := h.few
    obtain ⟨u, v, hu, hv, hul, hvl⟩ := hok.nat
    have hlen := hr.len
    have hst := hr.step hok rfl
    have s1 := hr.short u hul
    have s2 := hst.short v hvl
    refine Ev.step (fun k => by rw [topo_neighbors.l0]) ?_
    have hk2 := ih (i + 1) (addE rows (l.getD i z37)) (by omega) hst hk
    unfold addE at hk2 hst s2
    simp only [hu, hv, Int.toNat_natCast] at hk2 s2
    refine Ev.pos (by omega) (Ev.pos (by omega) (Ev.pos (by omega) ?_))
    rw [rd37, hu, hv, wrap_nat (by omega)]
    simp only [rdL3, Int.toNat_natCast]
    refine Ev.pos (by omega) (Ev.pos (by omega) (Ev.pos (by omega) (Ev.some_bind (Ev.pos (by omega) (Ev.pos (by omega) (Ev.pos ?_ ?_))))))
    · rw [getD_set (by omega)]
      have s3 := hr.short v hvl
      split
      · rw [List.length_append]; simp; simp at s1; omega
      · omega
    · exact hk2
theorem impl_nb {a : Int} {l : List S37} (h : Valid a l) : Ev (fun k => topo_neighbors.f k a l) (nb a l) := by
  unfold topo_neighbors.f
  have h1 := h.pos
  have h2 := h.most
  refine Ev.pos (by omega) (Ev.pos (by omega) (impl_nb_from h _ l.length 0 _ (by omega) (Raw.init _ _) ?_))
  have hr := h.raw
  refine sort_loop _ (fun x hx => ?_) (by rw [hr.len]; omega) _ 0 _ (Nat.zero_add _) (by simp)
  have := hr.short x (by rw [← hr.len]; exact hx)
  have := h.few
  omega
end Go.Proofs.Ythkpnkmbmlbefaa.PB

/- The examples of the chapter on graphs, reckoned. -/
namespace Go.Proofs.Ythkpnkmbmlbefaa.PB
open Go.RowKit Go.Proofs.Ythkpnkmbmlbefaa Go.Proofs.Ythkpnkmbmlbefaa.X Go.Proofs.YthkpnkmbmlbefaaW.PrintWords Go.Proofs.YthkpnkmbmlbefaaW.PrintLast
def exG : List S37 := [⟨0, 1, 2, 1⟩, ⟨3, 1, 2, 2⟩, ⟨0, 2, 1, 1⟩]
theorem exG_valid : Valid 4 exG := chk_valid (by kernel_rfl)
theorem ex0_valid : Valid 2 [] := chk_valid (by kernel_rfl)
theorem exG_nb : nb 4 exG = [[1, 2], [0], [0, 3], [2]] := by
  have h : rawFrom exG exG.length 0 (List.replicate (4 : Int).toNat []) = [[2, 1], [0], [0, 3], [2]] := by kernel_rfl
  unfold nb
  rw [h]
  simp only [List.map_cons, List.map_nil]
  rw [sortI_is (x := [2, 1]) (y := [1, 2]) (by decide) (by decide), sortI_is (x := [0]) (y := [0]) (by decide) (by decide), sortI_is (x := [0, 3]) (y := [0, 3]) (by decide) (by decide), sortI_is (x := [2]) (y := [2]) (by decide) (by decide)]
theorem ex0_nb : nb 2 [] = [[], []] := by
  unfold nb
  rw [show rawFrom [] ([] : List S37).length 0 (List.replicate (2 : Int).toNat []) = [[], []] by kernel_rfl]
  simp [sortI]
theorem exN : Ev (fun k => topo_neighbors.f k 4 exG) [[1, 2], [0], [0, 3], [2]] := exG_nb ▸ impl_nb exG_valid
theorem ex0N : Ev (fun k => topo_neighbors.f k 2 []) [[], []] := ex0_nb ▸ impl_nb ex0_valid
theorem exC : Ev (fun k => topo_Check.f k 4 exG) 0 := impl_check 4 exG
theorem ex0C : Ev (fun k => topo_Check.f k 2 []) 0 := impl_check 2 []
theorem ex_peer : Ev (fun k => topo_Peer.f k 4 exG 2 2) (3, 1, true) :=
  Ev.of (fun k => topo_Peer.mono _ _ _ _ k) (show topo_Peer.f 60 4 exG 2 2 = some (3, 1, true) by kernel_rfl)
theorem ex_knows (x : Int) (h : 0 ≤ x ∧ x < 4) : Ev (fun k => topo_knows.f k 4 exG x) true := by
  unfold topo_knows.f
  exact Ev.bind' _ exC (Ev.pos rfl (Ev.pos h.1 (Ev.const (by simp [h.2]))))
theorem ex_dist : Ev (fun k => topo_Dist.f k 4 exG 3) [2, 3, 1, 0] := by
  unfold topo_Dist.f
  exact Ev.bind' _ (ex_knows 3 (by decide)) (Ev.pos rfl (Ev.bind' _ exN (Ev.bind' _ (Ev.of (fun k => topo_distances.mono _ _ k) (show topo_distances.f 60 [[1, 2], [0], [0, 3], [2]] 3 = some [2, 3, 1, 0] by kernel_rfl)) (Ev.const rfl))))
theorem ex0_dist : Ev (fun k => topo_Dist.f k 2 [] 0) [0, -1] := by
  unfold topo_Dist.f topo_knows.f
  exact Ev.bind' true (Ev.bind' _ ex0C (Ev.pos rfl (Ev.pos (by decide) (Ev.const (by decide))))) (Ev.pos rfl (Ev.bind' _ ex0N (Ev.bind' _ (Ev.of (fun k => topo_distances.mono _ _ k) (show topo_distances.f 60 [[], []] 0 = some [0, -1] by kernel_rfl)) (Ev.const rfl))))
theorem ex_path : Ev (fun k => topo_Path.f k 4 exG 3 1) [3, 2, 0, 1] := by
  unfold topo_Path.f
  refine Ev.bind' _ (ex_knows 3 (by decide)) (Ev.pos rfl (Ev.bind' _ (ex_knows 1 (by decide)) ?_))
  refine Ev.step (fun k => by rw [topo_Path.j0]) ?_
  refine Ev.neg (by decide) (Ev.bind' _ exN (Ev.bind' _ (Ev.of (fun k => topo_distances.mono _ _ k) (show topo_distances.f 60 [[1, 2], [0], [0, 3], [2]] 1 = some [1, 0, 2, 3] by kernel_rfl)) ?_))
  refine Ev.pos (by decide) (Ev.pos (by decide) (Ev.neg (by decide) ?_))
  exact Ev.of (fun k => (topo_Path.mono_l k).2.1 _ _ _ _ _) (show topo_Path.l0 60 3 1 [[1, 2], [0], [0, 3], [2]] [1, 0, 2, 3] [3] = some [3, 2, 0, 1] by kernel_rfl)
theorem ex0_comp : Ev (fun k => topo_Comp.f k 2 []) [0, 1] := by
  unfold topo_Comp.f
  refine Ev.bind' _ ex0C (Ev.pos rfl (Ev.bind' _ ex0N (Ev.pos (by decide) (Ev.pos (by decide) ?_))))
  exact Ev.of (fun k => (topo_Comp.mono_l k).1 _ _ _) (show topo_Comp.l0 60 [[], []] (List.replicate (2 : Int).toNat 0) 0 = some [0, 1] by kernel_rfl)
theorem ex_diam : Ev (fun k => topo_Diameter.f k 4 exG) 3 := by
  unfold topo_Diameter.f
  refine Ev.bind' _ exC (Ev.pos rfl (Ev.bind' _ exN ?_))
  exact Ev.of (fun k => topo_Diameter.mono_l k _ _ _ _) (show topo_Diameter.l0 60 [[1, 2], [0], [0, 3], [2]] 0 4 0 = some 3 by kernel_rfl)
theorem eq_true' (x : List Int) (hx : x.length < 9223372036854775807) : Ev (fun k => slices_Equal_int_int.f k x x) true := by
  have := eq_ints x x hx
  simpa using this
theorem awake18 : Ev (fun k => timesynclaw18_awake.f k) true := by
  unfold timesynclaw18_awake.f
  refine Ev.some_bind (Ev.bind' (3, 1, true) ex_peer (Ev.pos rfl (Ev.pos rfl (Ev.pos rfl (Ev.bind' _ ex_dist (Ev.bind' _ (eq_true' _ (by decide)) (Ev.pos rfl (Ev.bind' _ ex_path (Ev.bind' _ (eq_true' _ (by decide)) (Ev.pos rfl (Ev.bind' _ ex0_dist (Ev.bind' _ (eq_true' _ (by decide)) (Ev.pos rfl ?_)))))))))))))
  exact Ev.bind' _ ex0_comp (Ev.bind' _ (eq_true' _ (by decide)) (Ev.pos rfl (Ev.bind' _ ex_diam (Ev.const rfl))))
theorem awake18' : Ev (fun k => (timesynclaw18_awake.f k).bind fun t => some t) true := Ev.bind' true awake18 (Ev.const rfl)
end Go.Proofs.Ythkpnkmbmlbefaa.PB

/- Distances: the program's search in waves and the reference's rounds give the numbers that the chapter's rules determine. -/
namespace Go.Proofs.Ythkpnkmbmlbefaa.PB
open Go.RowKit Go.Proofs.Ythkpnkmbmlbefaa Go.Proofs.Ythkpnkmbmlbefaa.X Go.Proofs.YthkpnkmbmlbefaaW.PrintWords Go.Proofs.YthkpnkmbmlbefaaW.PrintLast

theorem rd_gd (l : List Int) (i : Nat) : rd l (i : Int) = gd l i := rdI l i
theorem fill_set (i d : Nat) : (List.replicate i (-1 : Int) ++ List.replicate (d + 1) 0).set i (-1) = List.replicate (i + 1) (-1) ++ List.replicate d 0 := by
  rw [List.set_append_right _ _ (by simp), List.length_replicate, Nat.sub_self, List.replicate_succ, List.set_cons_zero, List.replicate_succ', List.append_assoc]
  rfl
theorem set_nat {l : List Int} {v : Int} (x : Nat) : l.set ((x : Int)).toNat v = l.set x v := by rw [Int.toNat_natCast]
/-! ### The search in waves -/
def toI (w : List Nat) : List Int := w.map fun n : Nat => (n : Int)
theorem toI_len (w : List Nat) : (toI w).length = w.length := by simp [toI]
section
variable {N a : Nat} {next : List (List Int)} {adj : Nat → Nat → Prop}
theorem push_high {x y : Nat} {d : List Int} {w : List Nat} (hlen : d.length = N) (hx : x < N) (hy : y < N) (hx0 : 0 ≤ gd d x) (h : ∀ z, z < N → gd d z + (negs d : Int) < N) (z : Nat) (hz : z < N) : gd (push x (d, w) y).1 z + (negs (push x (d, w) y).1 : Int) < N := by
  have hs := push_size (x := x) (y := y) (d := d) (w := w) (by omega) hx0
  unfold push at hs ⊢
  by_cases q : gd d y < 0
  · simp only [if_pos q] at hs ⊢
    rw [List.length_append, List.length_singleton] at hs
    rw [gd_set (by omega)]
    have h1 := h x hx
    have h2 := h z hz
    split <;> omega
  · simp only [if_neg q]
    exact h z hz
theorem bfs_ok (hR : Rows N next adj) (hN : N ≤ 24) : ∀ (m : Nat) (d : List Int) (w : List Nat), m ≤ 24 → Outer N adj a d w → negs d + w.length ≤ m → (∀ z, z < N → gd d z + (negs d : Int) < N) →
    ∃ r, Ev (fun k => topo_distances.l1 k next d (toI w)) r ∧ Outer N adj a r [] := by
  intro m
  induction m with
  | zero =>
    intro d w _ h hm _
    have hw : w = [] := List.length_eq_zero_iff.1 (by omega)
    subst hw
    refine ⟨d, ?_, h⟩
    refine Ev.step (fun k => by rw [topo_distances.l1]) ?_
    exact Ev.neg (by simp [toI]) (Ev.const rfl)
  | succ m ih =>
    intro d w hm24 h hm hhigh
    cases w with
    | nil =>
      refine ⟨d, ?_, h⟩
      refine Ev.step (fun k => by rw [topo_distances.l1]) ?_
      exact Ev.neg (by simp [toI]) (Ev.const rfl)
    | cons x w =>
      have hr : ∀ u v, adj u v → u < N ∧ v < N := fun u v q => ⟨(hR.all u v q).1, (hR.all u v q).2.1⟩
      have hx := (h.node x List.mem_cons_self).1
      have hrow := hR.mem x hx
      have hsh := hR.short x hx
      have hnl := hR.len
      rw [List.length_cons] at hm
      have hI : ∀ e j done d w, j + e = (next.getD x []).length → Inner N adj a x done d w → (∀ i, i < j → ∀ z : Nat, (next.getD x []).getD i 0 = z → z ∈ done) → negs d + w.length ≤ m → (∀ z, z < N → gd d z + (negs d : Int) < N) →
          ∃ r, Ev (fun k => topo_distances.l2 k next d (toI w) x (next.getD x []) (next.getD x []).length j) r ∧ Outer N adj a r [] := by
        intro e
        induction e with
        | zero =>
          intro j done d w hj hin hdone hm2 hh
          obtain ⟨r, h1, h2⟩ := ih d w (by omega) (hin.outer (fun y hy => by
            obtain ⟨_, _, hmem⟩ := hR.all x y hy
            obtain ⟨i, hi, he⟩ := List.mem_iff_getElem.1 hmem
            refine hdone i (by omega) y ?_
            rw [List.getD_eq_getElem?_getD, List.getElem?_eq_getElem hi, Option.getD_some, he])) hm2 hh
          refine ⟨r, ?_, h2⟩
          refine Ev.step (fun k => by rw [topo_distances.l2]) ?_
          exact Ev.neg (by omega) h1
        | succ e ihe =>
          intro j done d w hj hin hdone hm2 hh
          have hjl : j < (next.getD x []).length := by omega
          obtain ⟨y, hy, hyN, hadj⟩ := hrow ((next.getD x []).getD j 0) (getD_in hjl 0)
          have hlen := hin.len
          have hx0 := hin.hx.2
          have hsz := push_size (x := x) (y := y) (d := d) (w := w) (by omega) hx0
          have hhi := push_high (w := w) hlen hx hyN hx0 hh
          have hin2 := hin.push hr hadj
          obtain ⟨r, h1, h2⟩ := ihe (j + 1) (y :: done) (push x (d, w) y).1 (push x (d, w) y).2 (by omega) hin2 (fun i hi z hz => by
            by_cases q : i = j
            · subst q
              have : z = y := by rw [hy] at hz; omega
              subst this; exact List.mem_cons_self
            · exact List.mem_cons_of_mem _ (hdone i (by omega) z hz)) (by omega) hhi
          refine ⟨r, ?_, h2⟩
          refine Ev.step (fun k => by rw [topo_distances.l2]) ?_
          refine Ev.pos (by omega) (Ev.pos (by omega) (Ev.pos (by omega) ?_))
          rw [rdI, hy, rd_gd, rd_gd, wrap_nat (by omega), set_nat]
          unfold push at h1
          have b1 := hh x hx
          refine Ev.pos (by omega) (Ev.pos (by omega) (Ev.ite_ (fun q => ?_) (fun q => ?_)))
          · simp only [if_pos q] at h1
            refine Ev.pos (by omega) (Ev.pos (by omega) (Ev.pos (by rw [toI_len]; omega) ?_))
            rw [wrap_id (by omega) (by omega), show toI w ++ [(y : Int)] = toI (w ++ [y]) by simp [toI]]
            exact h1
          · simp only [if_neg q] at h1
            exact h1
      obtain ⟨r, h1, h2⟩ := hI _ 0 [] d w (Nat.zero_add _) h.inner (fun i hi => by omega) (by omega) hhigh
      refine ⟨r, ?_, h2⟩
      refine Ev.step (fun k => by rw [topo_distances.l1]) ?_
      have e1 : rd (toI (x :: w)) 0 = (x : Int) := rfl
      have e2 : (toI (x :: w)).drop ((1 : Int)).toNat = toI w := rfl
      rw [e1, e2, rdL3]
      refine Ev.pos (by rw [toI_len, List.length_cons]; omega) (Ev.pos (by rw [toI_len, List.length_cons]; omega) (Ev.pos (by rw [toI_len, List.length_cons]; omega) (Ev.pos (by omega) (Ev.pos (by omega) h1))))
theorem fill_ok (hN : N ≤ 24) {x1 : Int} {r : List Int} (hr : Ev (fun k => if 0 ≤ x1 then (if x1 < ((List.replicate N (-1 : Int)).length : Int) then (topo_distances.l1 k next ((List.replicate N (-1 : Int)).set x1.toNat 0) [x1]) else none) else none) r) :
    ∀ d i, i + d = N → Ev (fun k => topo_distances.l0 k next x1 (List.replicate i (-1 : Int) ++ List.replicate d 0) (N : Int) i) r := by
  intro d
  induction d with
  | zero =>
    intro i hi
    refine Ev.step (fun k => by rw [topo_distances.l0]) ?_
    obtain rfl : i = N := by omega
    rw [List.replicate_zero, List.append_nil]
    exact Ev.neg (by omega) hr
  | succ d ih =>
    intro i hi
    refine Ev.step (fun k => by rw [topo_distances.l0]) ?_
    refine Ev.pos (by omega) (Ev.pos (by omega) (Ev.pos (by simp; omega) ?_))
    rw [wrap_nat (by omega), set_nat, fill_set]
    exact ih (i + 1) (by omega)
theorem negs_init (ha : a < N) : negs ((List.replicate N (-1 : Int)).set a 0) + 1 = N := by
  have := negs_set (c := List.replicate N (-1 : Int)) (x := a) (by simpa using ha) (by simp [gd, List.getD, ha]) (v := 0) (by omega)
  rw [this]
  simp [negs, List.countP_replicate]
theorem distances_ok (hR : Rows N next adj) (hN : N ≤ 24) (ha : a < N) : ∃ r, Ev (fun k => topo_distances.f k next a) r ∧ r.length = N ∧ IsDist N adj a (gd r) := by
  have hr : ∀ u v, adj u v → u < N ∧ v < N := fun u v q => ⟨(hR.all u v q).1, (hR.all u v q).2.1⟩
  have hn := negs_init ha
  have h0 : Outer N adj a ((List.replicate N (-1 : Int)).set a 0) [a] := Outer.init ha
  have g : ∀ j, gd ((List.replicate N (-1)).set a 0) j = if j = a then 0 else gd (List.replicate N (-1)) j := fun j => gd_set (by simpa using ha) _ j
  have gn : ∀ j, j < N → gd (List.replicate N (-1)) j = -1 := fun j hj => by simp [gd, List.getD, hj]
  obtain ⟨r, h1, h2⟩ := bfs_ok hR hN N _ _ hN h0 (by simp; omega) (fun z hz => by rw [g]; split
                                                                                  · omega
                                                                                  · rw [gn z hz]; omega)
  refine ⟨r, ?_, h2.len, h2.dist hr⟩
  unfold topo_distances.f
  have hnl := hR.len
  rw [hnl]
  refine Ev.pos (by omega) (Ev.pos (by omega) (Ev.some_bind ?_))
  rw [Int.toNat_natCast, List.length_replicate]
  have := fill_ok (next := next) (x1 := (a : Int)) hN (r := r) (Ev.pos (by omega) (Ev.pos (by simpa using ha) (by rw [set_nat]; exact h1))) N 0 (by omega)
  simpa using this
end
/-- The distances that the chapter determines. -/
theorem Valid.dist {a : Int} {l : List S37} (h : Valid a l) {x : Nat} (hx : x < a.toNat) : ∃ r, Ev (fun k => topo_distances.f k (nb a l) x) r ∧ r.length = a.toNat ∧ IsDist a.toNat (adjOf (es l)) x (gd r) :=
  distances_ok h.rows (by have := h.most; omega) hx
open Classical in
noncomputable def dst (a : Int) (l : List S37) (x : Nat) : List Int := if h : Valid a l ∧ x < a.toNat then Classical.choose (h.1.dist h.2) else []
theorem Valid.dst_ev {a : Int} {l : List S37} (h : Valid a l) {x : Nat} (hx : x < a.toNat) : Ev (fun k => topo_distances.f k (nb a l) x) (dst a l x) := by
  unfold dst; rw [dif_pos ⟨h, hx⟩]; exact (Classical.choose_spec (h.dist hx)).1
theorem Valid.dst_len {a : Int} {l : List S37} (h : Valid a l) {x : Nat} (hx : x < a.toNat) : (dst a l x).length = a.toNat := by
  unfold dst; rw [dif_pos ⟨h, hx⟩]; exact (Classical.choose_spec (h.dist hx)).2.1
theorem Valid.dst_is {a : Int} {l : List S37} (h : Valid a l) {x : Nat} (hx : x < a.toNat) : IsDist a.toNat (adjOf (es l)) x (gd (dst a l x)) := by
  unfold dst; rw [dif_pos ⟨h, hx⟩]; exact (Classical.choose_spec (h.dist hx)).2.2
/-! ### knows, Dist -/
def isNode (a x : Int) : Prop := 0 ≤ x ∧ x < a
instance (a x : Int) : Decidable (isNode a x) := by unfold isNode; infer_instance
theorem impl_knows (a : Int) (l : List S37) (x : Int) : Ev (fun k => topo_knows.f k a l x) (decide (chk a l = 0 ∧ isNode a x)) := by
  unfold topo_knows.f
  refine Ev.bind' _ (impl_check a l) (Ev.ite_ (fun h => Ev.ite_ (fun h1 => Ev.const ?_) (fun h1 => Ev.const ?_)) (fun h => Ev.const ?_))
  · simp only [h, isNode, true_and]
    congr 1
    by_cases q : x < a <;> simp [q] <;> omega
  · have : ¬ (chk a l = 0 ∧ isNode a x) := fun q => h1 q.2.1
    simp [this]
  · simp [h]
/-- The answer of Dist. -/
noncomputable def distR (a : Int) (l : List S37) (x : Int) : List Int := if chk a l = 0 ∧ isNode a x then dst a l x.toNat else []
theorem impl_dist (a : Int) (l : List S37) (x : Int) : Ev (fun k => topo_Dist.f k a l x) (distR a l x) := by
  unfold topo_Dist.f distR
  refine Ev.bind' _ (impl_knows a l x) (Ev.ite_ (fun h => ?_) (fun h => ?_))
  · have h := of_decide_eq_true h
    rw [if_pos h]
    have hv := chk_valid h.1
    have hx := h.2
    unfold isNode at hx
    have := hv.dst_ev (x := x.toNat) (by omega)
    rw [Int.toNat_of_nonneg hx.1] at this
    exact Ev.bind' _ (impl_nb hv) (Ev.bind' _ this (Ev.const rfl))
  · rw [if_neg (by simpa using h)]
    exact Ev.const rfl
/-! ### The reference's rounds -/
/-- Numbers within bounds. -/
def Small (N c : Nat) (d : List Int) : Prop := d.length = N ∧ ∀ x, x < N → -1 ≤ gd d x ∧ gd d x ≤ c
theorem Small.upd {N c : Nat} {d : List Int} (h : Small N c d) {x y : Nat} (hx : x < N) (hy : y < N) : Small N (c + 1) (upd d x y) := by
  refine ⟨by simp [PB.upd, h.1], fun z hz => ?_⟩
  have h1 := h.2 z hz
  have h2 := h.2 y hy
  have h3 := h.2 x hx
  unfold PB.upd
  rw [gd_set (by rw [h.1]; exact hx)]
  split
  · unfold better
    split <;> omega
  · omega
theorem Small.relax {N c : Nat} {d : List Int} (h : Small N c d) {p : Nat × Nat} (hx : p.1 < N) (hy : p.2 < N) : Small N (c + 2) (relax d p) := (h.upd hx hy).upd hy hx
end Go.Proofs.Ythkpnkmbmlbefaa.PB

/- Components, paths, the diameter: the program and the reference give the same. -/
namespace Go.Proofs.Ythkpnkmbmlbefaa.PB
open Go.RowKit Go.Proofs.Ythkpnkmbmlbefaa Go.Proofs.Ythkpnkmbmlbefaa.X Go.Proofs.YthkpnkmbmlbefaaW.PrintWords Go.Proofs.YthkpnkmbmlbefaaW.PrintLast
/-! ### Components -/
theorem distR_valid {a : Int} {l : List S37} (h : chk a l = 0) {i : Nat} (hi : i < a.toNat) : distR a l i = dst a l i := by
  unfold distR
  rw [if_pos ⟨h, by unfold isNode; omega⟩, Int.toNat_natCast]
/-! ### The diameter -/
/-! ### Paths -/
def joins (e : S37) (x y : Int) : Prop := (e.f0 = x ∧ e.f2 = y) ∨ (e.f0 = y ∧ e.f2 = x)
instance (e : S37) (x y : Int) : Decidable (joins e x y) := by unfold joins; infer_instance
section
variable {a : Int} {l : List S37} {d : List Int} {acc : List Int} {r : List Int}
theorem path_find (h : Valid a l) (hd : d.length = a.toNat) (hsm : ∀ z, z < a.toNat → -1 ≤ gd d z ∧ gd d z ≤ 100) (hacc : acc.length ≤ 100) (x b : Nat) (hx : x < a.toNat) : ∀ e j, j + e = ((nb a l).getD x []).length → (∀ i, i < j → ∀ z : Nat, ((nb a l).getD x []).getD i 0 = z → gd d z ≠ gd d x - 1) → (∃ z, adjOf (es l) x z ∧ gd d z = gd d x - 1) →
    ∃ (y j0 : Nat), y < a.toNat ∧ j0 < ((nb a l).getD x []).length ∧ ((nb a l).getD x []).getD j0 0 = y ∧ gd d y = gd d x - 1 ∧ adjOf (es l) x y ∧ (∀ i, i < j0 → ∀ z : Nat, ((nb a l).getD x []).getD i 0 = z → gd d z ≠ gd d x - 1) ∧
      ∀ r, Ev (fun k => topo_Path.l0 k y b (nb a l) d (acc ++ [(y : Int)])) r → Ev (fun k => topo_Path.l1 k x b (nb a l) d acc ((nb a l).getD x []) ((nb a l).getD x []).length j) r := by
  have hmost := h.most
  have hsh := h.nb_short hx
  intro e
  induction e with
  | zero =>
    intro j hj hpre hex
    obtain ⟨z, hz, hzd⟩ := hex
    have hm := (h.nb_mem hx z).2 ⟨z, rfl, (h.range x z hz).2, hz⟩
    obtain ⟨i, hi, he⟩ := List.mem_iff_getElem.1 hm
    exact absurd hzd (hpre i (by omega) z (by rw [List.getD_eq_getElem?_getD, List.getElem?_eq_getElem hi, Option.getD_some, he]))
  | succ e ih =>
    intro j hj hpre hex
    have hjl : j < ((nb a l).getD x []).length := by omega
    obtain ⟨y, hy, hyN, hadj⟩ := (h.nb_mem hx _).1 (getD_in hjl 0)
    have b1 := hsm x hx
    have st : ∀ r, Ev (fun k => if gd d y = gd d x - 1 then topo_Path.l0 k y b (nb a l) d (acc ++ [(y : Int)]) else topo_Path.l1 k x b (nb a l) d acc ((nb a l).getD x []) ((nb a l).getD x []).length ((j + 1 : Nat) : Int)) r → Ev (fun k => topo_Path.l1 k x b (nb a l) d acc ((nb a l).getD x []) ((nb a l).getD x []).length j) r := fun r hr => by
      refine Ev.step (fun k => by rw [topo_Path.l1]) ?_
      rw [rdI, hy, rd_gd, rd_gd, wrap_nat (by omega), wrap_id (by omega) (by omega)]
      refine Ev.pos (by omega) (Ev.pos (by omega) (Ev.pos (by omega) (Ev.pos (by omega) (Ev.pos (by omega) (Ev.pos (by omega) (Ev.pos (by omega) (Ev.ite_ (fun q => Ev.pos (by omega) ?_) (fun q => ?_))))))))
      · exact Ev.congr (fun k => by rw [if_pos q]) hr
      · exact Ev.congr (fun k => by rw [if_neg q]) hr
    by_cases q : gd d y = gd d x - 1
    · exact ⟨y, j, hyN, hjl, hy, q, hadj, hpre, fun r hr => st r (Ev.pos q hr)⟩
    · obtain ⟨y', j0, k1, k2, k3, k4, k5, k6, k7⟩ := ih (j + 1) (by omega) (fun i hi z hz => by
        by_cases qi : i = j
        · subst qi
          have : z = y := by rw [hy] at hz; omega
          subst this; exact q
        · exact hpre i (by omega) z hz) hex
      exact ⟨y', j0, k1, k2, k3, k4, k5, k6, fun r hr => st r (Ev.neg q (k7 r hr))⟩
end
end Go.Proofs.Ythkpnkmbmlbefaa.PB

/- What Path gives, said without the reference: its length, its ends, each of its steps. -/
namespace Go.Proofs.Ythkpnkmbmlbefaa.PB
open Go.RowKit Go.Proofs.Ythkpnkmbmlbefaa Go.Proofs.Ythkpnkmbmlbefaa.X Go.Proofs.YthkpnkmbmlbefaaW.PrintWords Go.Proofs.YthkpnkmbmlbefaaW.PrintLast
/-- y is the least neighbor of x that is nearer to b. -/
def Step (a : Int) (l : List S37) (b : Nat) (u v : Int) : Prop :=
  ∃ x y : Nat, u = x ∧ v = y ∧ x < a.toNat ∧ y < a.toNat ∧ gd (dst a l b) y = gd (dst a l b) x - 1 ∧ adjOf (es l) x y ∧ ∀ z, z < y → ¬ (gd (dst a l b) z = gd (dst a l b) x - 1 ∧ adjOf (es l) x z)
theorem path_steps {a : Int} {l : List S37} (h : Valid a l) {b : Nat} (hb : b < a.toNat) : ∀ (n : Nat) (x : Nat) (acc : List Int), x < a.toNat → gd (dst a l b) x = n → acc.length + n ≤ 60 →
    ∃ t : List Int, Ev (fun k => topo_Path.l0 k x b (nb a l) (dst a l b) (acc ++ [(x : Int)])) (acc ++ (x : Int) :: t) ∧ t.length = n ∧ ((x : Int) :: t).getD n 0 = b ∧ ∀ i, i < n → Step a l b (((x : Int) :: t).getD i 0) (((x : Int) :: t).getD (i + 1) 0) := by
  have hD := h.dst_is hb
  have hlen := h.dst_len hb
  have hmost := h.most
  have hsm : ∀ z, z < a.toNat → -1 ≤ gd (dst a l b) z ∧ gd (dst a l b) z ≤ 100 := fun z hz => ⟨hD.low z hz, by have := hD.lt h.range z hz; omega⟩
  intro n
  induction n with
  | zero =>
    intro x acc hx hn h2
    have hxb : x = b := hD.only x hx (by omega)
    refine ⟨[], ?_, rfl, by simp [hxb], fun i hi => by omega⟩
    refine Ev.step (fun k => by rw [topo_Path.l0]) ?_
    exact Ev.pos (by omega) (Ev.const rfl)
  | succ n ih =>
    intro x acc hx hn h2
    have hxb : x ≠ b := fun q => by subst q; have := hD.zero; omega
    obtain ⟨z, hz, hzd⟩ := hD.back x hx (by omega)
    obtain ⟨y, j0, k1, k2, k3, k4, k5, k6, k7⟩ := path_find h hlen hsm (acc := acc ++ [(x : Int)]) (by simp; omega) x b hx _ 0 (Nat.zero_add _) (fun i hi => by omega) ⟨z, hz.symm, hzd⟩
    obtain ⟨t, t1, t2, t3, t4⟩ := ih y (acc ++ [(x : Int)]) k1 (by omega) (by simp; omega)
    refine ⟨(y : Int) :: t, ?_, by simp [t2], ?_, ?_⟩
    · refine Ev.step (fun k => by rw [topo_Path.l0]) ?_
      rw [rdL3]
      have hnl := h.nb_len
      have := k7 _ t1
      rw [List.append_assoc] at this
      exact Ev.neg (by omega) (Ev.pos (by omega) (Ev.pos (by omega) this))
    · simpa using t3
    · intro i hi
      cases i with
      | zero =>
        refine ⟨x, y, by simp, by simp, hx, k1, k4, k5, fun z hz hh => ?_⟩
        have hm := (h.nb_mem hx z).2 ⟨z, rfl, by omega, hh.2⟩
        obtain ⟨i, hi, he⟩ := List.mem_iff_getElem.1 hm
        have hgi : ((nb a l).getD x []).getD i 0 = z := by rw [List.getD_eq_getElem?_getD, List.getElem?_eq_getElem hi, Option.getD_some, he]
        rcases Nat.lt_or_ge i j0 with q | q
        · exact k6 i q z hgi (by omega)
        · have hs := Valid.nb_sorted (a := a) (l := l) x
          rcases Nat.lt_or_ge j0 i with q2 | q2
          · have := List.pairwise_iff_getElem.1 hs j0 i k2 hi q2
            rw [List.getD_eq_getElem?_getD, List.getElem?_eq_getElem k2, Option.getD_some] at k3
            rw [k3, he] at this
            omega
          · obtain rfl : i = j0 := by omega
            omega
      | succ i =>
        have := t4 i (by omega)
        simpa using this
section
variable {a : Int} {l : List S37} (h0 : chk a l = 0) {b n : Nat} (hb : b < a.toNat) (hn : n < a.toNat)
include h0 hb hn
theorem path_head {r : List Int} (hr : Ev (fun k => if gd (dst a l b) n < 0 then some [] else topo_Path.l0 k n b (nb a l) (dst a l b) [(n : Int)]) r) : Ev (fun k => topo_Path.f k a l n b) r := by
  have h := chk_valid h0
  have hlen := h.dst_len hb
  have k1 := impl_knows a l n
  have k2 := impl_knows a l b
  have n1 : isNode a (n : Int) := by unfold isNode; omega
  have n2 : isNode a (b : Int) := by unfold isNode; omega
  unfold topo_Path.f
  refine Ev.bind' _ k1 (Ev.pos (by simp [h0, n1]) (Ev.bind' _ k2 ?_))
  refine Ev.step (fun k => by rw [topo_Path.j0]) ?_
  refine Ev.neg (by simp [h0, n2]) (Ev.bind' _ (impl_nb h) (Ev.bind' _ (h.dst_ev hb) (Ev.pos (by omega) (Ev.pos (by omega) ?_))))
  rw [rd_gd]
  exact hr
theorem path_none (hneg : gd (dst a l b) n < 0) : Ev (fun k => topo_Path.f k a l n b) [] := path_head h0 hb hn (Ev.pos hneg (Ev.const rfl))
theorem path_some (hneg : ¬ gd (dst a l b) n < 0) : ∃ p : List Int, Ev (fun k => topo_Path.f k a l n b) p ∧ (p.length : Int) = gd (dst a l b) n + 1 ∧ p.getD 0 0 = n ∧ p.getD (p.length - 1) 0 = b ∧ ∀ i, i + 1 < p.length → Step a l b (p.getD i 0) (p.getD (i + 1) 0) := by
  have h := chk_valid h0
  have hlt := (h.dst_is hb).lt h.range n hn
  have hmost := h.most
  obtain ⟨m, hm⟩ : ∃ m : Nat, gd (dst a l b) n = m := ⟨(gd (dst a l b) n).toNat, by omega⟩
  obtain ⟨t, t1, t2, t3, t4⟩ := path_steps h hb m n [] hn hm (by simp; omega)
  refine ⟨(n : Int) :: t, path_head h0 hb hn (Ev.neg hneg t1), by simp [t2]; omega, by simp, ?_, fun i hi => t4 i (by simp [t2] at hi; omega)⟩
  rw [List.length_cons, t2, Nat.add_sub_cancel]
  exact t3
end
end Go.Proofs.Ythkpnkmbmlbefaa.PB

/- The pure statement of TopoWays: Path leads from a to b, is as long as the distance, and goes to the least nearer neighbor at each node. -/
namespace Go.Proofs.Ythkpnkmbmlbefaa.PureTopoWays
open Go.RowKit Go.Proofs.Ythkpnkmbmlbefaa.X Go.Proofs.Ythkpnkmbmlbefaa.PB Go.Proofs.YthkpnkmbmlbefaaW.PrintWords Go.Proofs.YthkpnkmbmlbefaaW.PrintLast Go.Proofs.YthkpnkmbmlbefaaW.PrintMore
section
variable {a : Int} {l : List S37} (h0 : chk a l = 0) {b : Nat} (hb : b < a.toNat)
/-- The next least one, after edge e. -/
def nextOf (d : List Int) (x : Int) (e : S37) (v : Int) : Int :=
  let v' := if e.f0 = x ∧ rd d e.f2 = rd d x - 1 then mn v e.f2 else v
  if e.f2 = x ∧ rd d e.f0 = rd d x - 1 then mn v' e.f0 else v'
include h0 hb
theorem l1_step {p row : List Int} {i : Int} {x : Nat} (hx : x < a.toNat) {r : Bool} (j : Nat) (hj : j < l.length) (v : Int)
    (hk : Ev (fun k => timesynclaw18_TopoWays.l1 k p (dst a l b) i x (nextOf (dst a l b) x (l.getD j z37) v) row row.length i l l.length ((j + 1 : Nat) : Int) a l) r) :
    Ev (fun k => timesynclaw18_TopoWays.l1 k p (dst a l b) i x v row row.length i l l.length j a l) r := by
  have h := chk_valid h0
  have hlen := h.dst_len hb
  have hok := h.ok j hj
  have hfew := h.few
  have hD := h.dst_is hb
  have w1 : wrap64 (rd (dst a l b) (x : Int) - 1) = rd (dst a l b) (x : Int) - 1 := by
    have h1 := hD.low x hx
    have h2 := hD.lt h.range x hx
    have h3 := h.most
    rw [rd_gd]
    exact wrap_id (by omega) (by omega)
  unfold OkE at hok
  refine Ev.step (fun k => by rw [timesynclaw18_TopoWays.l1]) ?_
  rw [rd37, w1]
  unfold nextOf at hk
  generalize l.getD j z37 = e at *
  have J : ∀ t : Bool, (t = true ↔ (e.f0 = x ∧ rd (dst a l b) e.f2 = rd (dst a l b) (x : Int) - 1)) → Ev (fun k => timesynclaw18_TopoWays.j4 k p (dst a l b) i x v row row.length i l l.length j t a l e.f0 e.f1 e.f2 e.f3) r := fun t ht => by
    refine Ev.step (fun k => by rw [timesynclaw18_TopoWays.j4]) ?_
    rw [w1, wrap_nat (by omega)]
    refine Ev.ite_ (fun q => ?_) (fun q => ?_)
    · simp only [if_pos (ht.1 q)] at hk
      refine Ev.ite_ (fun q1 => Ev.pos (by omega) (Ev.pos (by omega) (Ev.pos (by omega) (Ev.pos (by omega) (Ev.ite_ (fun q2 => ?_) (fun q2 => ?_)))))) (fun q1 => ?_)
      · rw [if_pos ⟨q1, q2⟩] at hk; exact hk
      · rw [if_neg (fun q3 => q2 q3.2)] at hk; exact hk
      · rw [if_neg (fun q3 => q1 q3.1)] at hk; exact hk
    · simp only [if_neg (fun q4 => q (ht.2 q4))] at hk
      refine Ev.ite_ (fun q1 => Ev.pos (by omega) (Ev.pos (by omega) (Ev.pos (by omega) (Ev.pos (by omega) (Ev.ite_ (fun q2 => ?_) (fun q2 => ?_)))))) (fun q1 => ?_)
      · rw [if_pos ⟨q1, q2⟩] at hk; exact hk
      · rw [if_neg (fun q3 => q2 q3.2)] at hk; exact hk
      · rw [if_neg (fun q3 => q1 q3.1)] at hk; exact hk
  refine Ev.pos (by omega) (Ev.pos (by omega) (Ev.pos (by omega) (Ev.ite_ (fun q => Ev.pos (by omega) (Ev.pos (by omega) (Ev.pos (by omega) (Ev.pos (by omega) (J _ ?_))))) (fun q => J _ ?_))))
  · simp only [beq_iff_eq]; exact ⟨fun q2 => ⟨q, q2⟩, fun q2 => q2.2⟩
  · exact ⟨fun q2 => by simp at q2, fun q2 => absurd q2.1 q⟩
/-- The edges ahead of j offer nothing below v. -/
def Least (a : Int) (l : List S37) (b : Nat) (x : Nat) (j : Nat) (v : Int) : Prop :=
  (v = a ∨ ∃ z : Nat, v = z ∧ adjOf (es l) x z ∧ gd (dst a l b) z = gd (dst a l b) x - 1) ∧ v ≤ a ∧
  ∀ i, i < j → (((l.getD i z37).f0 = x ∧ rd (dst a l b) (l.getD i z37).f2 = gd (dst a l b) x - 1) → v ≤ (l.getD i z37).f2) ∧ (((l.getD i z37).f2 = x ∧ rd (dst a l b) (l.getD i z37).f0 = gd (dst a l b) x - 1) → v ≤ (l.getD i z37).f0)
theorem l1_ok {p row : List Int} {i x y : Nat} (hx : x < a.toNat) (hy : y < a.toNat) (hyn : gd (dst a l b) y = gd (dst a l b) x - 1) (hxy : adjOf (es l) x y) (hleast : ∀ z, z < y → ¬ (gd (dst a l b) z = gd (dst a l b) x - 1 ∧ adjOf (es l) x z)) {r : Bool}
    (hk : Ev (fun k => timesynclaw18_TopoWays.l1 k p (dst a l b) i x y row row.length i l l.length l.length a l) r) :
    ∀ e j v, j + e = l.length → Least a l b x j v → Ev (fun k => timesynclaw18_TopoWays.l1 k p (dst a l b) i x v row row.length i l l.length j a l) r := by
  have h := chk_valid h0
  have hpos := h.pos
  intro e
  induction e with
  | zero =>
    intro j v hj hv
    obtain rfl : j = l.length := by omega
    obtain ⟨v1, v2, v3⟩ := hv
    have hvy : v = y := by
      have hle : v ≤ y := by
        rcases hxy with q | q
        · obtain ⟨e, he, e1⟩ := List.mem_map.1 q
          obtain ⟨i', hi', e2⟩ := List.mem_iff_getElem.1 he
          obtain ⟨u, w, hu, hw, _, _⟩ := (h.mem he).1.nat
          injection e1 with e3 e4
          have hg : l.getD i' z37 = e := by rw [List.getD_eq_getElem?_getD, List.getElem?_eq_getElem hi', Option.getD_some, e2]
          have := (v3 i' hi').1
          rw [hg, hu, hw, rd_gd] at this
          obtain rfl : u = x := by rw [hu, Int.toNat_natCast] at e3; exact e3
          obtain rfl : w = y := by rw [hw, Int.toNat_natCast] at e4; exact e4
          exact this ⟨rfl, hyn⟩
        · obtain ⟨e, he, e1⟩ := List.mem_map.1 q
          obtain ⟨i', hi', e2⟩ := List.mem_iff_getElem.1 he
          obtain ⟨u, w, hu, hw, _, _⟩ := (h.mem he).1.nat
          injection e1 with e3 e4
          have hg : l.getD i' z37 = e := by rw [List.getD_eq_getElem?_getD, List.getElem?_eq_getElem hi', Option.getD_some, e2]
          have := (v3 i' hi').2
          rw [hg, hu, hw, rd_gd] at this
          obtain rfl : u = y := by rw [hu, Int.toNat_natCast] at e3; exact e3
          obtain rfl : w = x := by rw [hw, Int.toNat_natCast] at e4; exact e4
          exact this ⟨rfl, hyn⟩
      rcases v1 with v1 | ⟨z, v1, hz, hzn⟩
      · omega
      · rcases Nat.lt_or_ge z y with q | q
        · exact absurd ⟨hzn, hz⟩ (hleast z q)
        · omega
    subst hvy
    exact hk
  | succ e ih =>
    intro j v hj hv
    have hjl : j < l.length := by omega
    obtain ⟨u, w, hu, hw, hul, hwl⟩ := (h.ok j hjl).nat
    have hm : (u, w) ∈ es l := List.mem_map.2 ⟨l.getD j z37, getD_in hjl _, by rw [hu, hw]; rfl⟩
    refine l1_step h0 hb hx j hjl v (ih (j + 1) _ (by omega) ?_)
    obtain ⟨v1, v2, v3⟩ := hv
    -- each of the two halves keeps what holds
    have half : ∀ (v : Int) (z : Nat), z < a.toNat → adjOf (es l) x z → gd (dst a l b) z = gd (dst a l b) x - 1 → (v = a ∨ ∃ z : Nat, v = z ∧ adjOf (es l) x z ∧ gd (dst a l b) z = gd (dst a l b) x - 1) → v ≤ a →
        (mn v z = a ∨ ∃ z' : Nat, mn v z = z' ∧ adjOf (es l) x z' ∧ gd (dst a l b) z' = gd (dst a l b) x - 1) ∧ mn v z ≤ v ∧ mn v z ≤ z := fun v z hz hadj hn k1 k2 => by
      unfold mn
      split
      · exact ⟨.inr ⟨z, rfl, hadj, hn⟩, by omega, by omega⟩
      · exact ⟨k1, by omega, by omega⟩
    have key : ∀ v' v'' : Int, ((v' = a ∨ ∃ z : Nat, v' = z ∧ adjOf (es l) x z ∧ gd (dst a l b) z = gd (dst a l b) x - 1) ∧ v' ≤ v ∧ (((u : Int) = x ∧ gd (dst a l b) w = gd (dst a l b) x - 1) → v' ≤ w)) →
        ((v'' = a ∨ ∃ z : Nat, v'' = z ∧ adjOf (es l) x z ∧ gd (dst a l b) z = gd (dst a l b) x - 1) ∧ v'' ≤ v' ∧ (((w : Int) = x ∧ gd (dst a l b) u = gd (dst a l b) x - 1) → v'' ≤ u)) → Least a l b x (j + 1) v'' := fun v' v'' k1 k2 => by
      refine ⟨k2.1, by have := k1.2.1; have := k2.2.1; omega, fun i hi => ?_⟩
      by_cases q : i = j
      · subst q
        rw [hu, hw, rd_gd, rd_gd]
        exact ⟨fun q2 => by have := k1.2.2 q2; have := k2.2.1; omega, fun q2 => k2.2.2 q2⟩
      · have := v3 i (by omega)
        exact ⟨fun q2 => by have := this.1 q2; have := k1.2.1; have := k2.2.1; omega, fun q2 => by have := this.2 q2; have := k1.2.1; have := k2.2.1; omega⟩
    unfold nextOf
    simp only [hu, hw, rd_gd]
    have first : ∀ v1 : Int, v1 = (if (u : Int) = x ∧ gd (dst a l b) w = gd (dst a l b) x - 1 then mn v w else v) → (v1 = a ∨ ∃ z : Nat, v1 = z ∧ adjOf (es l) x z ∧ gd (dst a l b) z = gd (dst a l b) x - 1) ∧ v1 ≤ v ∧ (((u : Int) = x ∧ gd (dst a l b) w = gd (dst a l b) x - 1) → v1 ≤ w) := fun v' e1 => by
      by_cases q : (u : Int) = x ∧ gd (dst a l b) w = gd (dst a l b) x - 1
      · rw [if_pos q] at e1
        subst e1
        obtain rfl : u = x := by omega
        obtain ⟨k1, k2, k3⟩ := half v w hwl (.inl hm) q.2 v1 v2
        exact ⟨k1, k2, fun _ => k3⟩
      · rw [if_neg q] at e1
        subst e1
        exact ⟨v1, Int.le_refl _, fun q2 => absurd q2 q⟩
    have f1 := first _ rfl
    generalize (if (u : Int) = x ∧ gd (dst a l b) w = gd (dst a l b) x - 1 then mn v w else v) = v' at f1 ⊢
    refine key v' _ f1 ?_
    by_cases q : (w : Int) = x ∧ gd (dst a l b) u = gd (dst a l b) x - 1
    · rw [if_pos q]
      obtain rfl : w = x := by omega
      obtain ⟨k1, k2, k3⟩ := half v' u hul (.inr hm) q.2 f1.1 (by have := f1.2.1; omega)
      exact ⟨k1, k2, fun _ => k3⟩
    · rw [if_neg q]
      exact ⟨f1.1, Int.le_refl _, fun q2 => absurd q2 q⟩
theorem l0_ok {p : List Int} (hp : p.length ≤ 100) (hst : ∀ i, i + 1 < p.length → Step a l b (p.getD i 0) (p.getD (i + 1) 0)) (hpl : 1 ≤ p.length) : ∀ e i, i + e + 1 = p.length → Ev (fun k => timesynclaw18_TopoWays.l0 k p (dst a l b) (p.take (p.length - 1)) (p.take (p.length - 1)).length i a l) true := by
  have h := chk_valid h0
  have hpos := h.pos
  have hrl : (p.take (p.length - 1)).length = p.length - 1 := by rw [List.length_take]; omega
  intro e
  induction e with
  | zero =>
    intro i hi
    refine Ev.step (fun k => by rw [timesynclaw18_TopoWays.l0]) ?_
    exact Ev.neg (by omega) awake18'
  | succ e ih =>
    intro i hi
    obtain ⟨x, y, hx, hy, hxN, hyN, hyn, hxy, hleast⟩ := hst i (by omega)
    refine Ev.step (fun k => by rw [timesynclaw18_TopoWays.l0]) ?_
    have e1 : rd (p.take (p.length - 1)) (i : Int) = (x : Int) := by
      rw [rdI, ← hx]
      simp [List.getD, show i < p.length - 1 by omega, show i < p.length by omega]
    rw [e1]
    refine Ev.pos (by omega) (Ev.pos (by omega) (Ev.pos (by omega) (l1_ok h0 hb hxN hyN hyn hxy hleast ?_ l.length 0 a (by omega) ⟨.inl rfl, Int.le_refl _, fun i hi => by omega⟩)))
    refine Ev.step (fun k => by rw [timesynclaw18_TopoWays.l1]) ?_
    have := ih (i + 1) (by omega)
    refine Ev.neg (by omega) ?_
    rw [wrap_nat (by omega), rdI, hy]
    exact Ev.pos (by omega) (Ev.pos (by omega) (Ev.pos rfl (Ev.neg (by omega) this)))
end
theorem mod_ok {a x : Int} (ha : 1 ≤ a) (hx : 0 ≤ x ∧ x ≤ 255) : ∃ n : Nat, Int.tmod (wrap64 x) a = n ∧ (n : Int) < a := by
  rw [wrap_id (by omega) (by omega), Int.tmod_eq_emod_of_nonneg hx.1]
  have h1 := Int.emod_nonneg x (by omega : a ≠ 0)
  have h2 := Int.emod_lt_of_pos x (by omega : 0 < a)
  exact ⟨(x % a).toNat, by omega, by omega⟩
theorem TopoWays : ∀ (x0 : S24) (a1 : Int) (a2 : Int), WF24 x0 → WFu8 a1 → WFu8 a2 → ∃ k, timesynclaw18_TopoWays.f k x0.f0 x0.f1 a1 a2 = some true := by
  intro g x y _ hx hy
  have hx' : 0 ≤ x ∧ x ≤ 255 := by
    simp [WFu8, Lit.wf] at hx
    have h1 : IntKind.u8.min = 0 := by decide
    have h2 : IntKind.u8.max = 255 := by decide
    omega
  have hy' : 0 ≤ y ∧ y ≤ 255 := by
    simp [WFu8, Lit.wf] at hy
    have h1 : IntKind.u8.min = 0 := by decide
    have h2 : IntKind.u8.max = 255 := by decide
    omega
  refine Ev.rounds ?_
  unfold timesynclaw18_TopoWays.f timesynclaw18_long.f
  have T : Ev (fun k => timesynclaw18_TopoWays.j0 k x y true g.f0 g.f1) true := by
    refine Ev.step (fun k => by rw [timesynclaw18_TopoWays.j0]) ?_
    exact Ev.pos rfl awake18'
  refine Ev.some_bind (Ev.ite_ (fun _ => T) (fun _ => Ev.bind' _ (impl_check g.f0 g.f1) ?_))
  by_cases h0 : chk g.f0 g.f1 = 0
  · have h := chk_valid h0
    have hpos := h.pos
    have hmost := h.most
    rw [h0]
    obtain ⟨n, hn, hnl⟩ := mod_ok hpos hx'
    obtain ⟨m, hm, hml⟩ := mod_ok hpos hy'
    have hmN : m < g.f0.toNat := by omega
    have hnN : n < g.f0.toNat := by omega
    refine Ev.step (fun k => by rw [timesynclaw18_TopoWays.j0]) ?_
    rw [hn, hm]
    have hd := impl_dist g.f0 g.f1 m
    rw [distR_valid h0 hmN] at hd
    have hlen := h.dst_len hmN
    have hD := h.dst_is hmN
    have hlt := hD.lt h.range n hnN
    have hlow := hD.low n hnN
    refine Ev.neg (by simp) (Ev.neg (by omega) ?_)
    by_cases hneg : gd (dst g.f0 g.f1 m) n < 0
    · refine Ev.bind' _ (path_none h0 hmN hnN hneg) (Ev.bind' _ hd (Ev.pos (by omega) (Ev.pos (by omega) (Ev.pos (by omega) ?_))))
      rw [rd_gd]
      exact Ev.pos hneg (Ev.pos rfl awake18')
    · obtain ⟨p, p1, p2, p3, p4, p5⟩ := path_some h0 hmN hnN hneg
      refine Ev.bind' _ p1 (Ev.bind' _ hd (Ev.pos (by omega) (Ev.pos (by omega) (Ev.pos (by omega) ?_))))
      have w1 : wrap64 ((p.length : Int) - 1) = ((p.length - 1 : Nat) : Int) := by rw [wrap_id (by omega) (by omega)]; omega
      have r0 : rd p 0 = (n : Int) := (rdI p 0).trans p3
      have r1 : rd p ((p.length - 1 : Nat) : Int) = (m : Int) := (rdI p _).trans p4
      rw [rd_gd (dst g.f0 g.f1 m) n, w1, wrap_id (x := gd (dst g.f0 g.f1 m) n + 1) (by omega) (by omega), r0, r1]
      refine Ev.neg hneg (Ev.pos (by omega) (Ev.pos (by omega) (Ev.pos rfl (Ev.pos (by omega) (Ev.pos (by omega) ?_)))))
      refine Ev.step (fun k => by rw [timesynclaw18_TopoWays.j1]) ?_
      rw [w1, Int.toNat_natCast]
      refine Ev.neg (by simp) (Ev.pos (by omega) (Ev.pos (by omega) (Ev.some_bind ?_)))
      have := l0_ok h0 hmN (p := p) (by omega) p5 (by omega) (p.length - 1) 0 (by omega)
      exact this
  · have : (chk g.f0 g.f1 != 0) = true := bne_iff_ne.mpr h0
    rw [this]; exact T
end Go.Proofs.Ythkpnkmbmlbefaa.PureTopoWays

/- What an argument reads as, in the printed words: a type's reading gives cells of its kind, and bounds on the numbers. -/
namespace Go.Proofs.Ythkpnkmbmlbefaa.HO
open Go.RowKit Go.Proofs.YthkpnkmbmlbefaaW.PrintWords Go.Deep

structure Opens {α : Type} (P : Program) (t : TypeId) (d : Kd α) (B : α → Prop) : Prop where
  out : ∀ {H : Type} (enc : TypeId × Value → H) (w : World) (base : Nat) (spare : Nat → Bool) (held : Bool) (fuel : Nat) (cs : List Value) (x : DataW H × List MemPlace),
    DataW.trod enc P w base spare held fuel t cs = some x → ∃ a : α, d.K w a cs ∧ B a

theorem opens_int {P : Program} {t : TypeId} {k : IntKind} (ht : P.underlying t = some (.int k)) : Opens P t (Kd.int k) (fun n => (Lit.int k n).wf = true) := by
  constructor
  intro H enc w base spare held fuel cs x h
  obtain ⟨n, rfl, _, hw⟩ := DataW.trod_int ht h
  exact ⟨n, rfl, hw⟩
theorem opens_slice {α : Type} [Inhabited α] {P : Program} {t e : TypeId} {d : Kd α} {B : α → Prop} (he : Opens P e d B) (ht : P.underlying t = some (.slice e)) (hs : P.cellsOf e = d.sz) :
    Opens P t (Kd.slice e d) (fun xs => xs.length ≤ 9223372036854775807 ∧ ∀ x ∈ xs, B x) := by
  constructor
  intro H enc w base spare held fuel cs x h
  rcases open_slice ht h with ⟨rfl, _⟩ | ⟨a, len, cap, m, n, D, Pl, rfl, _, hl, hm, hmm, _, hx⟩
  · exact ⟨[], ⟨none, 0, rfl, Nat.le_refl _, rfl, by simp, fun h => by simp at h⟩, by simp, by simp⟩
  · have hlm : len ≤ m := by rw [hmm]; split <;> omega
    obtain ⟨X, hX⟩ := choose_lt (α := α) (n := len) (p := fun i x => B x ∧ ∃ c, c.length = d.sz ∧ d.K w x c ∧ ∀ j u, c[j]? = some u → w.cell? (a.add (i * d.sz + j)) = some u) (fun i hi => by
      obtain ⟨cs', h1, h2⟩ := hx i (Nat.lt_of_lt_of_le hi hlm)
      obtain ⟨x, hK, hB⟩ := he.out enc w base spare held n cs' _ h2
      refine ⟨x, hB, cs', d.K_len hK, hK, fun j u hj => ?_⟩
      obtain ⟨_, h4, h5⟩ := World.cells?_some h1
      have hj' : j < cs'.length := (List.getElem?_eq_some_iff.1 hj).1
      have h6 := h5 j (by rw [h4] at hj'; exact hj')
      rw [Go.Deep.add_add, hs] at h6
      rw [h6, hj])
    refine ⟨(List.range len).map X, ⟨some a, cap, by simp, by simpa using hl, by simp, ?_, fun h0 => ⟨a, rfl, fun j p hp => ?_⟩⟩, ?_, ?_⟩
    · have : cap ≤ 9223372036854775807 := by simpa [maxLen] using hm
      simp only [List.length_map, List.length_range]; omega
    · have hj : j < len := by
        have := (List.getElem?_eq_some_iff.1 hp).1
        simpa using this
      have : X j = p := by simpa [hj] using hp
      subst this
      obtain ⟨_, c, h1, h2, h3⟩ := hX j hj
      exact ⟨c, h1, h2, h3⟩
    · have : cap ≤ 9223372036854775807 := by simpa [maxLen] using hm
      simp only [List.length_map, List.length_range]; omega
    · intro x hx
      obtain ⟨j, hj, rfl⟩ := List.mem_map.1 hx
      exact (hX j (List.mem_range.1 hj)).1

/-- The fields from cell 'off' on. -/
structure OpF {α : Type} (P : Program) (off : Nat) (fs : List Field) (d : Kd α) (B : α → Prop) : Prop where
  out : ∀ {H : Type} (enc : TypeId × Value → H) (w : World) (base : Nat) (spare : Nat → Bool) (held : Bool) (n : Nat) (cs : List Value), cs.length = off + d.sz →
    (∀ f ∈ fs, ∃ y, DataW.trod enc P w base spare held n f.type ((cs.drop f.offset).take (P.cellsOf f.type)) = some y) → ∃ a : α, d.K w a (cs.drop off) ∧ B a
theorem opF_one {α : Type} {P : Program} {off : Nat} {f : Field} {d : Kd α} {B : α → Prop} (h : Opens P f.type d B) (ho : f.offset = off) (hs : P.cellsOf f.type = d.sz) : OpF P off [f] d B := by
  constructor
  intro H enc w base spare held n cs hl hf
  obtain ⟨y, hy⟩ := hf f (by simp)
  rw [ho, hs, List.take_of_length_le (by rw [List.length_drop]; omega)] at hy
  exact h.out enc w base spare held n _ _ hy
theorem opF_cons {α β : Type} {P : Program} {off : Nat} {f : Field} {fs : List Field} {d : Kd α} {d' : Kd β} {B : α → Prop} {B' : β → Prop} (h : Opens P f.type d B) (ho : f.offset = off) (hs : P.cellsOf f.type = d.sz) (hr : OpF P (off + d.sz) fs d' B') :
    OpF P off (f :: fs) (Kd.pair d d') (fun p => B p.1 ∧ B' p.2) := by
  constructor
  intro H enc w base spare held n cs hl hf
  obtain ⟨y, hy⟩ := hf f (by simp)
  rw [ho, hs] at hy
  have hl' : cs.length = off + (d.sz + d'.sz) := hl
  obtain ⟨a, hK, hB⟩ := h.out enc w base spare held n _ _ hy
  obtain ⟨b, hK', hB'⟩ := hr.out enc w base spare held n cs (by omega) (fun g hg => hf g (by simp [hg]))
  refine ⟨(a, b), ⟨(cs.drop off).take d.sz, cs.drop (off + d.sz), ?_, hK, hK'⟩, hB, hB'⟩
  rw [← List.drop_drop]
  exact (List.take_append_drop _ _).symm
theorem opens_struct {α β : Type} {P : Program} {t : TypeId} {fs : Array Field} {d : Kd α} {B : α → Prop} (f : β → α) (g : α → β) (hfg : ∀ a, f (g a) = a) (h : OpF P 0 fs.toList d B) (ht : P.underlying t = some (.struct fs)) (hs : P.cellsOf t = d.sz) :
    Opens P t (Kd.iso d f) (fun x => B (f x)) := by
  constructor
  intro H enc w base spare held fuel cs x hx
  obtain ⟨xs, n, _, _, hl, hlen, hf⟩ := DataW.trod_struct ht hx
  obtain ⟨a, hK, hB⟩ := h.out enc w base spare held n cs (by omega) (fun q hq => by
    obtain ⟨i, hi⟩ := List.mem_iff_getElem?.1 hq
    have hi' : fs[i]? = some q := by simpa using hi
    have hlt : i < xs.length := by
      have := (Array.getElem?_eq_some_iff.1 hi').1
      omega
    exact ⟨xs[i], by rw [hf i q hi', List.getElem?_eq_getElem hlt]⟩)
  refine ⟨g a, ?_, by show B (f (g a)); rw [hfg]; exact hB⟩
  show d.K w (f (g a)) cs
  rw [hfg]
  exact hK
end Go.Proofs.Ythkpnkmbmlbefaa.HO

/- The row of TopoWays: for every input the law returns true, and each argument reads as it read before: out of its pure statement (YthkpnkmbmlbefaaPureTopoWays) and the printed walk. No condition. -/
namespace Go.Proofs.Ythkpnkmbmlbefaa.topoWays
open Go.ChangeShapes Go.WideShapes Go.ChangeAt Go.RowKit Go.Proofs.Ythkpnkmbmlbefaa.X Go.Proofs.YthkpnkmbmlbefaaW.PrintWords
open Go.ChangeMaps (open_string shut_string)
set_option linter.unusedVariables false
theorem own : ownKnob Try.prog.godebug = none := by kernel_rfl
theorem laidOut : laidOutB Try.prog = true := by kernel_rfl
theorem opens3 : HO.Opens Try.prog 3 (Kd.int .i64) WFi64 := HO.opens_int Try.underlying3
theorem opens37 : HO.Opens Try.prog 37 k37 WF37 := HO.opens_struct (d := (Kd.pair (Kd.int .i64) (Kd.pair (Kd.int .i64) (Kd.pair (Kd.int .i64) (Kd.int .i64))))) (B := fun p => WFi64 p.1 ∧ WFi64 p.2.1 ∧ WFi64 p.2.2.1 ∧ WFi64 p.2.2.2) (fun x : S37 => (x.f0, x.f1, x.f2, x.f3)) (fun p => (⟨p.1, p.2.1, p.2.2.1, p.2.2.2⟩ : S37)) (fun _ => rfl) (HO.opF_cons (B := WFi64) (B' := (fun p : (Int) × (Int) × (Int) => WFi64 p.1 ∧ WFi64 p.2.1 ∧ WFi64 p.2.2)) opens3 rfl (by kernel_rfl) (HO.opF_cons (B := WFi64) (B' := (fun p : (Int) × (Int) => WFi64 p.1 ∧ WFi64 p.2)) opens3 rfl (by kernel_rfl) (HO.opF_cons (B := WFi64) (B' := WFi64) opens3 rfl (by kernel_rfl) (HO.opF_one opens3 rfl (by kernel_rfl))))) Try.underlying37 (by kernel_rfl)
theorem opens22 : HO.Opens Try.prog 22 (Kd.slice 37 k37) WFL37 := haveI : Inhabited S37 := ⟨z37⟩; HO.opens_slice opens37 Try.underlying22 (by kernel_rfl)
theorem opens24 : HO.Opens Try.prog 24 k24 WF24 := HO.opens_struct (d := (Kd.pair (Kd.int .i64) (Kd.slice 37 k37))) (B := fun p => WFi64 p.1 ∧ WFL37 p.2) (fun x : S24 => (x.f0, x.f1)) (fun p => (⟨p.1, p.2⟩ : S24)) (fun _ => rfl) (HO.opF_cons (B := WFi64) (B' := WFL37) opens3 rfl (by kernel_rfl) (HO.opF_one opens22 rfl (by kernel_rfl))) Try.underlying24 (by kernel_rfl)
set_option maxRecDepth 100000 in
theorem lifted (os : Os) (started : os.Started) (H : Type) (enc : TypeId × Value → H) :
    ReturnsInHanded {} Try.checked os 5 .any (Rows.topoWaysSpec.pre6 enc Try.prog Try.f5 Rows.topoWaysRow.domain false) (Rows.topoWaysSpec.post enc Try.prog Try.f5 false true false false) := by
  refine returnsInHanded_of_change_sized (C := Try.checked) own started (by kernel_rfl) Try.func5
    (ChangeSpec.witness6 (enc := enc) (C := Try.checked) false ⟨#[], #[.agg #[.int .i64 0, .slice none 0 0], .int .u8 0, .int .u8 0], []⟩ 8 (by kernel_rfl) (by kernel_rfl) (by kernel_rfl) (by kernel_rfl)) ?_
  intro W base args ds gs before hval0 hW hcnd hsz0 _
  have hval : ∀ (j : Nat) t v, Try.f5.params[j]? = some t → args[j]? = some v → Value.okWide Try.prog W .any base t v := hval0
  have hW' := hW
  obtain ⟨p, q, hA0, hV, rfl, hfz, hnd⟩ := hW
  have hA : DataW.TrodAll enc Try.prog W 0 (fun _ => true) true Try.f5.params.toList args.toList ds p := hA0
  rw [Try.params5] at hA hval
  obtain ⟨v0, vs0, d0, ds0, p0, q0, hargs, rfl, rfl, h0, r0⟩ := trodAll_cons hA
  obtain ⟨v1, vs1, d1, ds1, p1, q1, rfl, rfl, rfl, h1, r1⟩ := trodAll_cons r0
  obtain ⟨v2, vs2, d2, ds2, p2, q2, rfl, rfl, rfl, h2, r2⟩ := trodAll_cons r1
  obtain ⟨rfl, rfl, rfl⟩ := trodAll_nil r2
  obtain rfl : args = #[v0, v1, v2] := by cases args; simp_all
  obtain ⟨rfl, rfl⟩ := trodVars_none hV
  have k0 := h0
  have lt0 : ∀ x ∈ p0, x.block < W.heap.size := by obtain ⟨m, hm⟩ := k0; exact DataW.trod_lt m _ _ _ hm
  obtain ⟨fuel0, hf0⟩ := h0
  obtain ⟨x0, K0, B0⟩ := opens24.out enc W 0 _ true fuel0 _ _ hf0
  obtain ⟨cs0, rfl, hs0⟩ := okWide_struct Try.underlying24 (hval 0 24 v0 rfl rfl)
  obtain ⟨A0_1, c0_1, e0, hc0_1, hr0_1⟩ := k24_open K0
  obtain ⟨cl0⟩ := cs0
  simp only [Value.cells] at e0
  subst e0
  obtain ⟨a1, rfl, rfl, rfl, w1⟩ := open_int Try.underlying5 (hval 1 5 v1 rfl rfl) h1
  obtain ⟨a2, rfl, rfl, rfl, w2⟩ := open_int Try.underlying5 (hval 2 5 v2 rfl rfl) h2
  clear hA0 hval0 hsz0
  obtain ⟨k, hp⟩ := PureTopoWays.TopoWays x0 a1 a2 B0 w1 w2
  refine (timesynclaw18_TopoWays.calls k x0.f0 _ _ x0.f1 a1 a2 true W hr0_1 hc0_1 hp).mono fun e W' ⟨he, bel0⟩ => ?_
  have bel := bel0
  subst he
  exact ⟨_, rfl, _, _, _, [], _, [], hW', trodAll_mk1 (shut_bool Try.underlying4 _), (trodAll_cons_mk (Below.trod laidOut (by kernel_rfl) (of_decide_eq_true (by kernel_rfl)) k0 bel lt0) (trodAll_cons_mk (shut_int Try.underlying5 w1) (trodAll_cons_mk (shut_int Try.underlying5 w2) trodAll_mk0))), rfl, bel.frame _, fun h => by cases h⟩
theorem over : Rows.topoWaysRow.holds Try.pinned (OpenSpec.ofChange Rows.topoWaysSpec) :=
  OpenClaim.holds_of_wide 5 Try.f5 rfl rfl rfl rfl rfl rfl rfl ⟨rfl, rfl, rfl, rfl, rfl⟩ rfl rfl rfl rfl rfl (by kernel_rfl) Try.func5 (by kernel_rfl)
    (of_decide_eq_true (by kernel_rfl)) (by unfold Func.isWrapper; first | (rw [if_pos (by decide +kernel)]; kernel_rfl) | (rw [if_neg (by decide +kernel)]; exact ⟨rfl, rfl⟩))
    (fun os started H enc _ => lifted os started H enc)
#print axioms over
end Go.Proofs.Ythkpnkmbmlbefaa.topoWays
namespace Go.Proofs.Ythkpnkmbmlbefaa
/-- The row of TopoWays. -/
theorem topoWays_holds : Rows.TopoWaysSaid := topoWays.over
end Go.Proofs.Ythkpnkmbmlbefaa
