/- Ythkpnkmbmlbefaa: part 7 of 7 of the proof that the law TopoPaths returns true for every input, its arguments reading as before. No condition. -/
import Derived.Test.YthkpnkmbmlbefaaMTopoPaths6
import Derived.Test.YthkpnkmbmlbefaaMTopoPaths3
import Derived.Test.YthkpnkmbmlbefaaMTopoPaths5
import Derived.Test.YthkpnkmbmlbefaaMTopoPaths1
import Derived.Deep.Slices
import Derived.DataReads
import Derived.Test.YthkpnkmbmlbefaaRows
import Derived.WalkKit
import Derived.ProofKit
import Derived.OpenShut
import Derived.ShutString
import Derived.ChangeOld
import Derived.Below
import Derived.SizedLaws
import Derived.WideShapes
/- Components, paths, the diameter: the program and the reference give the same. -/
namespace Go.Proofs.Ythkpnkmbmlbefaa.PB
open Go.RowKit Go.Proofs.Ythkpnkmbmlbefaa Go.Proofs.Ythkpnkmbmlbefaa.X Go.Proofs.YthkpnkmbmlbefaaW.PrintWords Go.Proofs.YthkpnkmbmlbefaaW.PrintLast
theorem gd_ext {N : Nat} {x y : List Int} (hx : x.length = N) (hy : y.length = N) (h : ∀ z, z < N → gd x z = gd y z) : x = y := by
  apply List.ext_getElem?
  intro i
  by_cases hi : i < N
  · have := h i hi
    unfold gd at this
    simp only [List.getD_eq_getElem?_getD] at this
    rw [List.getElem?_eq_getElem (by omega), List.getElem?_eq_getElem (by omega)] at this ⊢
    simpa using this
  · rw [List.getElem?_eq_none (by omega), List.getElem?_eq_none (by omega)]
/-! ### Components -/
theorem comp_l1 {a : Int} {l : List S37} (h : Valid a l) : ∀ d i c, i + d = a.toNat → Comps a.toNat (adjOf (es l)) i c → ∃ r, Ev (fun k => topo_Comp.l1 k (nb a l) c i) r ∧ Comps a.toNat (adjOf (es l)) a.toNat r := by
  have hmost := h.most
  intro d
  induction d with
  | zero =>
    intro i c hi hc
    obtain rfl : i = a.toNat := by omega
    have hlen := hc.len
    refine ⟨c, ?_, hc⟩
    refine Ev.step (fun k => by rw [topo_Comp.l1]) ?_
    exact Ev.neg (by omega) (Ev.const rfl)
  | succ d ih =>
    intro i c hi hc
    have hlen := hc.len
    obtain ⟨t, h1, h2, h3, _⟩ := visit_ok h.rows (least := (i : Int)) (by omega) (negs c) c hlen (Nat.le_refl _) i (by omega)
    obtain ⟨r, h4, h5⟩ := ih (i + 1) t (by omega) (hc.step (adj_symm _) h.range (by omega) h2 h3)
    refine ⟨r, ?_, h5⟩
    refine Ev.step (fun k => by rw [topo_Comp.l1]) ?_
    refine Ev.pos (by omega) (Ev.bind' t h1 ?_)
    rw [wrap_nat (by omega)]
    exact h4
theorem comp_l0 {a : Int} {l : List S37} (h : Valid a l) (r : List Int) (hr : Ev (fun k => topo_Comp.l1 k (nb a l) (List.replicate a.toNat (-1)) 0) r) : ∀ d i, i + d = a.toNat → Ev (fun k => topo_Comp.l0 k (nb a l) (List.replicate i (-1 : Int) ++ List.replicate d 0) i) r := by
  have hmost := h.most
  intro d
  induction d with
  | zero =>
    intro i hi
    refine Ev.step (fun k => by rw [topo_Comp.l0]) ?_
    obtain rfl : i = a.toNat := by omega
    rw [List.replicate_zero, List.append_nil]
    exact Ev.neg (by simp) hr
  | succ d ih =>
    intro i hi
    refine Ev.step (fun k => by rw [topo_Comp.l0]) ?_
    refine Ev.pos (by simp; omega) (Ev.pos (by omega) ?_)
    rw [wrap_nat (by omega), set_nat, fill_set]
    exact ih (i + 1) (by omega)
theorem impl_comp (a : Int) (l : List S37) : (chk a l ≠ 0 ∧ Ev (fun k => topo_Comp.f k a l) []) ∨ (chk a l = 0 ∧ ∃ r, Ev (fun k => topo_Comp.f k a l) r ∧ Comps a.toNat (adjOf (es l)) a.toNat r) := by
  by_cases h : chk a l = 0
  · refine .inr ⟨h, ?_⟩
    have hv := chk_valid h
    have h1 := hv.pos
    have h2 := hv.most
    obtain ⟨r, k1, k2⟩ := comp_l1 hv a.toNat 0 _ (by omega) (Comps.init hv.range)
    refine ⟨r, ?_, k2⟩
    unfold topo_Comp.f
    refine Ev.bind' _ (impl_check a l) (Ev.pos h (Ev.bind' _ (impl_nb hv) (Ev.pos (by omega) (Ev.pos (by omega) ?_))))
    have := comp_l0 hv r k1 a.toNat 0 (by omega)
    simpa using this
  · refine .inl ⟨h, ?_⟩
    unfold topo_Comp.f
    exact Ev.bind' _ (impl_check a l) (Ev.neg h (Ev.const rfl))
/-- The last index below j, from above, that is not out of reach. -/
def lg (d : List Int) : Nat → Int → Int
  | 0, v => v
  | j + 1, v => lg d j (if gd d j ≥ 0 then (j : Int) else v)
theorem lg_none (d : List Int) : ∀ (j : Nat) (v : Int), (∀ k, k < j → ¬ 0 ≤ gd d k) → lg d j v = v
  | 0, v, _ => rfl
  | j + 1, v, h => by
    unfold lg
    rw [if_neg (by have := h j (by omega); omega)]
    exact lg_none d j v (fun k hk => h k (by omega))
theorem lg_least (d : List Int) : ∀ (j : Nat) (v : Int) (b : Nat), b < j → 0 ≤ gd d b → (∀ k, k < j → 0 ≤ gd d k → b ≤ k) → lg d j v = b
  | 0, v, b, hb, _, _ => by omega
  | j + 1, v, b, hb, h0, h1 => by
    unfold lg
    by_cases q : b = j
    · subst q
      rw [if_pos h0]
      exact lg_none d b _ (fun k hk q => by have := h1 k (by omega) q; omega)
    · exact lg_least d j _ b (by omega) h0 (fun k hk => h1 k (by omega))
theorem refcomp_l1 {a : Int} {l : List S37} (h : Valid a l) {d : List Int} (hd : d.length = a.toNat) {i : Nat} (hi : i < a.toNat) (r : List Int) : ∀ (j : Nat) (x : List Int), j ≤ a.toNat → x.length = a.toNat → Ev (fun k => timesyncref18_Comp.l0 k (x.set i (lg d j (gd x i))) (wrap64 ((i : Int) + 1)) a l) r → Ev (fun k => timesyncref18_Comp.l1 k x i d ((j : Int) - 1) a l) r := by
  have hmost := h.most
  intro j
  induction j with
  | zero =>
    intro x hj hx hk
    refine Ev.step (fun k => by rw [timesyncref18_Comp.l1]) ?_
    refine Ev.neg (by omega) ?_
    have : x.set i (lg d 0 (gd x i)) = x := by
      refine gd_ext (N := a.toNat) (by simp [hx]) hx (fun z hz => ?_)
      rw [gd_set (by omega)]
      split
      · rename_i q; subst q; rfl
      · rfl
    rw [this] at hk
    exact hk
  | succ j ih =>
    intro x hj hx hk
    have e1 : ((j + 1 : Nat) : Int) - 1 = (j : Int) := by omega
    refine Ev.step (fun k => by rw [timesyncref18_Comp.l1]) ?_
    rw [e1, rd_gd, wrap_id (by omega) (by omega)]
    refine Ev.pos (by omega) (Ev.pos (by omega) (Ev.pos (by omega) (Ev.ite_ (fun q => Ev.pos (by omega) (Ev.pos (by omega) ?_)) (fun q => ?_))))
    · rw [set_nat]
      refine ih _ (by omega) (by simp [hx]) ?_
      unfold lg at hk
      rw [if_pos q] at hk
      rw [gd_set (by omega), if_pos rfl, List.set_set]
      exact hk
    · refine ih _ (by omega) hx ?_
      unfold lg at hk
      rw [if_neg q] at hk
      exact hk
theorem distR_valid {a : Int} {l : List S37} (h : chk a l = 0) {i : Nat} (hi : i < a.toNat) : distR a l i = dst a l i := by
  unfold distR
  rw [if_pos ⟨h, by unfold isNode; omega⟩, Int.toNat_natCast]
theorem refcomp_l0 {a : Int} {l : List S37} (h0 : chk a l = 0) {C : List Int} (hC : Comps a.toNat (adjOf (es l)) a.toNat C) : ∀ e i x, i + e = a.toNat → x.length = a.toNat → (∀ z, z < i → gd x z = gd C z) → Ev (fun k => timesyncref18_Comp.l0 k x i a l) C := by
  have h := chk_valid h0
  have hmost := h.most
  intro e
  induction e with
  | zero =>
    intro i x hi hx hz
    obtain rfl : i = a.toNat := by omega
    refine Ev.step (fun k => by rw [timesyncref18_Comp.l0]) ?_
    exact Ev.neg (by omega) (Ev.const (by rw [gd_ext hx hC.len hz]))
  | succ e ih =>
    intro i x hi hx hz
    have hia : i < a.toNat := by omega
    have hd := h.dst_is hia
    obtain ⟨b, k1, k2, k3, k4⟩ := hC.least (adj_symm _) h.range hia hd
    refine Ev.step (fun k => by rw [timesyncref18_Comp.l0]) ?_
    have hrd := ref_dist a l i
    rw [distR_valid h0 hia] at hrd
    refine Ev.pos (by omega) (Ev.bind' _ hrd ?_)
    rw [wrap_id (by omega) (by omega), show a - 1 = ((a.toNat : Nat) : Int) - 1 by omega]
    refine refcomp_l1 h (h.dst_len hia) hia C a.toNat x (Nat.le_refl _) hx ?_
    rw [lg_least _ _ _ b k2 k3 k4, wrap_nat (by omega)]
    refine ih (i + 1) _ (by omega) (by simp [hx]) (fun z hz' => ?_)
    rw [gd_set (by omega)]
    split
    · rename_i q; subst q; exact k1.symm
    · exact hz z (by omega)
theorem comp_same (a : Int) (l : List S37) : ∃ r, Ev (fun k => topo_Comp.f k a l) r ∧ Ev (fun k => timesyncref18_Comp.f k a l) r ∧ r.length < 100 := by
  unfold timesyncref18_Comp.f
  rcases impl_comp a l with ⟨h, h1⟩ | ⟨h, r, h1, h2⟩
  · exact ⟨[], h1, Ev.bind' _ (ref_check a l) (Ev.neg h (Ev.const rfl)), by simp⟩
  · have hv := chk_valid h
    have hp := hv.pos
    have hm := hv.most
    refine ⟨r, h1, Ev.bind' _ (ref_check a l) (Ev.pos h (Ev.pos (by omega) (Ev.pos (by omega) ?_))), by rw [h2.len]; omega⟩
    exact refcomp_l0 h h2 a.toNat 0 _ (by omega) (by simp) (fun z hz => by omega)
/-! ### The diameter -/
def mxFrom (d : List Int) : Nat → Nat → Int → Int
  | 0, _, v => v
  | e + 1, j, v => mxFrom d e (j + 1) (mx v (gd d j))
theorem mx_assoc (u v w : Int) : mx (mx u v) w = mx u (mx v w) := by
  unfold mx; repeat' split
  all_goals omega
theorem mxFrom_mx (d : List Int) : ∀ e j (u v : Int), mxFrom d e j (mx u v) = mx u (mxFrom d e j v)
  | 0, j, u, v => rfl
  | e + 1, j, u, v => by
    unfold mxFrom
    rw [mx_assoc, mxFrom_mx d e (j + 1) u]
theorem max_l0 (d : List Int) (hd : d.length ≤ 24) : ∀ e j v, j + e = d.length → Ev (fun k => slices_Max_int_int.l0 k d v j) (mxFrom d e j v) := by
  intro e
  induction e with
  | zero =>
    intro j v hj
    refine Ev.step (fun k => by rw [slices_Max_int_int.l0]) ?_
    exact Ev.neg (by omega) (Ev.const rfl)
  | succ e ih =>
    intro j v hj
    refine Ev.step (fun k => by rw [slices_Max_int_int.l0]) ?_
    rw [rd_gd, wrap_nat (by omega)]
    exact Ev.pos (by omega) (Ev.pos (by omega) (ih (j + 1) _ (by omega)))
theorem refdiam_l1 {a : Int} {l : List S37} (h : Valid a l) {d : List Int} (hd : d.length = a.toNat) (i : Nat) (r : Int) : ∀ e j v, j + e = a.toNat → Ev (fun k => timesyncref18_Diameter.l0 k (mxFrom d e j v) (wrap64 ((i : Int) + 1)) a l) r → Ev (fun k => timesyncref18_Diameter.l1 k v i d j a l) r := by
  have hmost := h.most
  intro e
  induction e with
  | zero =>
    intro j v hj hk
    refine Ev.step (fun k => by rw [timesyncref18_Diameter.l1]) ?_
    exact Ev.neg (by omega) hk
  | succ e ih =>
    intro j v hj hk
    refine Ev.step (fun k => by rw [timesyncref18_Diameter.l1]) ?_
    rw [rd_gd, wrap_nat (by omega)]
    unfold mxFrom mx at hk
    refine Ev.pos (by omega) (Ev.pos (by omega) (Ev.pos (by omega) (Ev.ite_ (fun q => ih (j + 1) _ (by omega) ?_) (fun q => ih (j + 1) _ (by omega) ?_))))
    · have e1 : (if v ≤ gd d j then gd d j else v) = gd d j := if_pos (by omega)
      first | (rw [e1] at hk; exact hk) | (rw [if_pos (by omega)] at hk; exact hk) | (rw [if_neg (by omega)] at hk; exact hk)
    · by_cases q2 : v = gd d j
      · subst q2; simpa using hk
      · first | (rw [if_neg (by omega)] at hk; exact hk) | (rw [if_pos (by omega)] at hk; exact hk)
theorem diam_both {a : Int} {l : List S37} (h0 : chk a l = 0) : ∀ e i m, i + e = a.toNat → ∃ r, Ev (fun k => topo_Diameter.l0 k (nb a l) m a i) r ∧ Ev (fun k => timesyncref18_Diameter.l0 k m i a l) r := by
  have h := chk_valid h0
  have hmost := h.most
  intro e
  induction e with
  | zero =>
    intro i m hi
    refine ⟨m, ?_, ?_⟩
    · refine Ev.step (fun k => by rw [topo_Diameter.l0]) ?_
      exact Ev.neg (by omega) (Ev.const rfl)
    · refine Ev.step (fun k => by rw [timesyncref18_Diameter.l0]) ?_
      exact Ev.neg (by omega) (Ev.const rfl)
  | succ e ih =>
    intro i m hi
    have hia : i < a.toNat := by omega
    have hlen := h.dst_len hia
    obtain ⟨r, h1, h2⟩ := ih (i + 1) (mxFrom (dst a l i) a.toNat 0 m) (by omega)
    refine ⟨r, ?_, ?_⟩
    · refine Ev.step (fun k => by rw [topo_Diameter.l0]) ?_
      obtain ⟨n, hn⟩ : ∃ n, a.toNat = n + 1 := ⟨a.toNat - 1, by omega⟩
      refine Ev.pos (by omega) (Ev.bind' _ (h.dst_ev hia) (Ev.bind' (mxFrom (dst a l i) n 1 (gd (dst a l i) 0)) ?_ ?_))
      · unfold slices_Max_int_int.f
        exact Ev.neg (by omega) (Ev.pos (by omega) (max_l0 _ (by omega) n 1 _ (by omega)))
      · rw [wrap_nat (by omega), ← mxFrom_mx]
        rw [hn] at h1
        exact h1
    · refine Ev.step (fun k => by rw [timesyncref18_Diameter.l0]) ?_
      have hrd := ref_dist a l i
      rw [distR_valid h0 hia] at hrd
      refine Ev.pos (by omega) (Ev.bind' _ hrd (refdiam_l1 h hlen i r a.toNat 0 m (by omega) ?_))
      rw [wrap_nat (by omega)]
      exact h2
theorem diam_same (a : Int) (l : List S37) : ∃ r, Ev (fun k => topo_Diameter.f k a l) r ∧ Ev (fun k => timesyncref18_Diameter.f k a l) r := by
  unfold topo_Diameter.f timesyncref18_Diameter.f
  by_cases h : chk a l = 0
  · have hv := chk_valid h
    obtain ⟨r, h1, h2⟩ := diam_both h a.toNat 0 0 (by omega)
    exact ⟨r, Ev.bind' _ (impl_check a l) (Ev.pos h (Ev.bind' _ (impl_nb hv) h1)), Ev.bind' _ (ref_check a l) (Ev.pos h h2)⟩
  · exact ⟨0, Ev.bind' _ (impl_check a l) (Ev.neg h (Ev.const rfl)), Ev.bind' _ (ref_check a l) (Ev.neg h (Ev.const rfl))⟩
/-! ### Paths -/
def joins (e : S37) (x y : Int) : Prop := (e.f0 = x ∧ e.f2 = y) ∨ (e.f0 = y ∧ e.f2 = x)
instance (e : S37) (x y : Int) : Decidable (joins e x y) := by unfold joins; infer_instance
def joinFrom (l : List S37) (x y : Int) : Nat → Nat → Bool
  | 0, _ => false
  | d + 1, j => if joins (l.getD j z37) x y then true else joinFrom l x y d (j + 1)
theorem joinFrom_iff (l : List S37) (x y : Int) : ∀ d j, joinFrom l x y d j = true ↔ ∃ i, j ≤ i ∧ i < j + d ∧ joins (l.getD i z37) x y
  | 0, j => by simp [joinFrom]; omega
  | d + 1, j => by
    unfold joinFrom
    by_cases h : joins (l.getD j z37) x y
    · rw [if_pos h]
      exact ⟨fun _ => ⟨j, by omega, by omega, h⟩, fun _ => rfl⟩
    · rw [if_neg h, joinFrom_iff l x y d (j + 1)]
      constructor
      · rintro ⟨i, h1, h2, h3⟩; exact ⟨i, by omega, by omega, h3⟩
      · rintro ⟨i, h1, h2, h3⟩
        refine ⟨i, ?_, by omega, h3⟩
        rcases Nat.lt_or_ge j i with q | q
        · omega
        · obtain rfl : i = j := by omega
          exact absurd h3 h
theorem Valid.joins_adj {a : Int} {l : List S37} (h : Valid a l) (x y : Nat) : joinFrom l x y l.length 0 = true ↔ adjOf (es l) x y := by
  rw [joinFrom_iff]
  constructor
  · rintro ⟨i, _, hi, hj⟩
    have hi : i < l.length := by omega
    obtain ⟨u, v, hu, hv, _, _⟩ := (h.ok i hi).nat
    have hm : (u, v) ∈ es l := List.mem_map.2 ⟨l.getD i z37, getD_in hi _, by rw [hu, hv]; rfl⟩
    unfold joins at hj
    rw [hu, hv] at hj
    rcases hj with ⟨h1, h2⟩ | ⟨h1, h2⟩
    · obtain rfl : u = x := by omega
      obtain rfl : v = y := by omega
      exact .inl hm
    · obtain rfl : u = y := by omega
      obtain rfl : v = x := by omega
      exact .inr hm
  · intro hadj
    have key : ∀ u v : Nat, (u, v) ∈ es l → ∃ i, i < l.length ∧ (l.getD i z37).f0 = u ∧ (l.getD i z37).f2 = v := fun u v hm => by
      obtain ⟨e, he, e1⟩ := List.mem_map.1 hm
      obtain ⟨j, hj, e2⟩ := List.mem_iff_getElem.1 he
      obtain ⟨u', v', hu, hv, _, _⟩ := (h.mem he).1.nat
      injection e1 with e3 e4
      refine ⟨j, hj, ?_⟩
      rw [List.getD_eq_getElem?_getD, List.getElem?_eq_getElem hj, Option.getD_some, e2]
      omega
    rcases hadj with q | q
    · obtain ⟨i, hi, h1, h2⟩ := key _ _ q
      exact ⟨i, by omega, by omega, .inl ⟨h1, h2⟩⟩
    · obtain ⟨i, hi, h1, h2⟩ := key _ _ q
      exact ⟨i, by omega, by omega, .inr ⟨h1, h2⟩⟩
theorem refnb_l0 (a : Int) (l : List S37) (hn : l.length ≤ 200) (x y : Int) : ∀ d j, j + d = l.length → Ev (fun k => timesyncref18_neighbors.l0 k x y j a l) (joinFrom l x y d j) := by
  intro d
  induction d with
  | zero =>
    intro j hj
    refine Ev.step (fun k => by rw [timesyncref18_neighbors.l0]) ?_
    exact Ev.neg (by omega) (Ev.const rfl)
  | succ d ih =>
    intro j hj
    refine Ev.step (fun k => by rw [timesyncref18_neighbors.l0]) ?_
    refine Ev.pos (by omega) (Ev.pos (by omega) ?_)
    rw [rd37, wrap_nat (by omega)]
    unfold joinFrom
    have next : ¬ joins (l.getD j z37) x y → Ev (fun k => timesyncref18_neighbors.l0 k x y ((j + 1 : Nat) : Int) a l) (if joins (l.getD j z37) x y then true else joinFrom l x y d (j + 1)) := fun h => by
      rw [if_neg h]; exact ih (j + 1) (by omega)
    have second : ¬ ((l.getD j z37).f0 = x ∧ (l.getD j z37).f2 = y) → Ev (fun k => if (l.getD j z37).f0 = y then (if (l.getD j z37).f2 = x then some true else timesyncref18_neighbors.l0 k x y ((j + 1 : Nat) : Int) a l) else timesyncref18_neighbors.l0 k x y ((j + 1 : Nat) : Int) a l) (if joins (l.getD j z37) x y then true else joinFrom l x y d (j + 1)) := fun h => by
      refine Ev.ite_ (fun h1 => Ev.ite_ (fun h2 => ?_) (fun h2 => next ?_)) (fun h1 => next ?_)
      · rw [if_pos (.inr ⟨h1, h2⟩)]; exact Ev.const rfl
      · rintro (q | q)
        · exact h q
        · exact h2 q.2
      · rintro (q | q)
        · exact h q
        · exact h1 q.1
    refine Ev.ite_ (fun h1 => Ev.ite_ (fun h2 => ?_) (fun h2 => second (fun q => h2 q.2))) (fun h1 => second (fun q => h1 q.1))
    rw [if_pos (.inl ⟨h1, h2⟩)]; exact Ev.const rfl
theorem Valid.refnb {a : Int} {l : List S37} (h : Valid a l) (x y : Nat) : ∃ t : Bool, Ev (fun k => timesyncref18_neighbors.f k a l x y) t ∧ (t = true ↔ adjOf (es l) x y) :=
  ⟨_, refnb_l0 a l (by have := h.few; omega) x y l.length 0 (by omega), h.joins_adj x y⟩
section
variable {a : Int} {l : List S37} {d : List Int} {acc : List Int} {r : List Int}
/-- The reference's search, once the next node is known. -/
theorem refpath_rest (h : Valid a l) (hd : d.length = a.toNat) (hacc : acc.length ≤ 100) (n : Int) (y : Nat) (hk : Ev (fun k => timesyncref18_Path.l0 k d (acc ++ [(y : Int)]) (wrap64 (n - 1)) a l) r) : ∀ e i, i + e = a.toNat → Ev (fun k => timesyncref18_Path.l1 k d acc n y i a l) r := by
  have hmost := h.most
  intro e
  induction e with
  | zero =>
    intro i hi
    refine Ev.step (fun k => by rw [timesyncref18_Path.l1]) ?_
    exact Ev.neg (by omega) (Ev.pos (by omega) hk)
  | succ e ih =>
    intro i hi
    refine Ev.step (fun k => by rw [timesyncref18_Path.l1]) ?_
    rw [wrap_nat (by omega)]
    exact Ev.pos (by omega) (Ev.neg (by omega) (ih (i + 1) (by omega)))
theorem refpath_find (h : Valid a l) (hd : d.length = a.toNat) (hacc : acc.length ≤ 100) (hacc0 : 1 ≤ acc.length) (x : Nat) (hlast : acc.getD (acc.length - 1) 0 = x) (n : Int) (y : Nat) (hy : y < a.toNat) (hyn : gd d y = n) (hxy : adjOf (es l) x y) (hleast : ∀ z, z < y → ¬ (gd d z = n ∧ adjOf (es l) x z))
    (hk : Ev (fun k => timesyncref18_Path.l0 k d (acc ++ [(y : Int)]) (wrap64 (n - 1)) a l) r) : ∀ e i, i + e = y → Ev (fun k => timesyncref18_Path.l1 k d acc n (-1) i a l) r := by
  have hmost := h.most
  have hrest := refpath_rest h hd hacc n y hk
  have hl : rd acc (wrap64 ((acc.length : Int) - 1)) = x := by
    rw [wrap_id (by omega) (by omega), show (acc.length : Int) - 1 = ((acc.length - 1 : Nat) : Int) by omega, rdI]; exact hlast
  have hw : wrap64 ((acc.length : Int) - 1) = ((acc.length - 1 : Nat) : Int) := by rw [wrap_id (by omega) (by omega)]; omega
  intro e
  induction e with
  | zero =>
    intro i hi
    obtain rfl : i = y := by omega
    obtain ⟨t, ht, htt⟩ := h.refnb x i
    have ht1 : t = true := htt.2 hxy
    subst ht1
    refine Ev.step (fun k => by rw [timesyncref18_Path.l1]) ?_
    rw [hl, rd_gd, wrap_nat (by omega), hw]
    exact Ev.pos (by omega) (Ev.pos (by omega) (Ev.pos (by omega) (Ev.pos (by omega) (Ev.pos hyn (Ev.pos (by omega) (Ev.pos (by omega) (Ev.bind' _ ht (Ev.pos rfl (hrest (a.toNat - (i + 1)) (i + 1) (by omega))))))))))
  | succ e ih =>
    intro i hi
    have hne := hleast i (by omega)
    refine Ev.step (fun k => by rw [timesyncref18_Path.l1]) ?_
    rw [hl, rd_gd, wrap_nat (by omega), hw]
    refine Ev.pos (by omega) (Ev.pos (by omega) (Ev.pos (by omega) (Ev.pos (by omega) (Ev.ite_ (fun q => ?_) (fun q => ih (i + 1) (by omega))))))
    obtain ⟨t, ht, htt⟩ := h.refnb x i
    have ht1 : t = false := by
      cases t with
      | false => rfl
      | true => exact absurd ⟨q, htt.1 rfl⟩ hne
    subst ht1
    exact Ev.pos (by omega) (Ev.pos (by omega) (Ev.bind' _ ht (Ev.neg (by simp) (ih (i + 1) (by omega)))))
theorem path_find (h : Valid a l) (hd : d.length = a.toNat) (hsm : ∀ z, z < a.toNat → -1 ≤ gd d z ∧ gd d z ≤ 100) (hacc : acc.length ≤ 100) (x b : Nat) (hx : x < a.toNat) : ∀ e j, j + e = ((nb a l).getD x []).length → (∀ i, i < j → ∀ z : Nat, ((nb a l).getD x []).getD i 0 = z → gd d z ≠ gd d x - 1) → (∃ z, adjOf (es l) x z ∧ gd d z = gd d x - 1) →
    ∃ (y j0 : Nat), y < a.toNat ∧ j0 < ((nb a l).getD x []).length ∧ ((nb a l).getD x []).getD j0 0 = y ∧ gd d y = gd d x - 1 ∧ adjOf (es l) x y ∧ (∀ i, i < j0 → ∀ z : Nat, ((nb a l).getD x []).getD i 0 = z → gd d z ≠ gd d x - 1) ∧
      ∀ r, Ev (fun k => topo_Path.l0 k y b (nb a l) d (acc ++ [(y : Int)])) r → Ev (fun k => topo_Path.l1 k x b (nb a l) d acc ((nb a l).getD x []) ((nb a l).getD x []).length j) r := by
  have hmost := h.most
  have hsh := h.nb_short hx
  intro e
  induction e with
  | zero =>
    intro j hj hpre hex
    obtain ⟨z, hz, hzd⟩ := hex
    have hm := (h.nb_mem hx z).2 ⟨z, rfl, (h.range x z hz).2, hz⟩
    obtain ⟨i, hi, he⟩ := List.mem_iff_getElem.1 hm
    exact absurd hzd (hpre i (by omega) z (by rw [List.getD_eq_getElem?_getD, List.getElem?_eq_getElem hi, Option.getD_some, he]))
  | succ e ih =>
    intro j hj hpre hex
    have hjl : j < ((nb a l).getD x []).length := by omega
    obtain ⟨y, hy, hyN, hadj⟩ := (h.nb_mem hx _).1 (getD_in hjl 0)
    have b1 := hsm x hx
    have st : ∀ r, Ev (fun k => if gd d y = gd d x - 1 then topo_Path.l0 k y b (nb a l) d (acc ++ [(y : Int)]) else topo_Path.l1 k x b (nb a l) d acc ((nb a l).getD x []) ((nb a l).getD x []).length ((j + 1 : Nat) : Int)) r → Ev (fun k => topo_Path.l1 k x b (nb a l) d acc ((nb a l).getD x []) ((nb a l).getD x []).length j) r := fun r hr => by
      refine Ev.step (fun k => by rw [topo_Path.l1]) ?_
      rw [rdI, hy, rd_gd, rd_gd, wrap_nat (by omega), wrap_id (by omega) (by omega)]
      refine Ev.pos (by omega) (Ev.pos (by omega) (Ev.pos (by omega) (Ev.pos (by omega) (Ev.pos (by omega) (Ev.pos (by omega) (Ev.pos (by omega) (Ev.ite_ (fun q => Ev.pos (by omega) ?_) (fun q => ?_))))))))
      · exact Ev.congr (fun k => by rw [if_pos q]) hr
      · exact Ev.congr (fun k => by rw [if_neg q]) hr
    by_cases q : gd d y = gd d x - 1
    · exact ⟨y, j, hyN, hjl, hy, q, hadj, hpre, fun r hr => st r (Ev.pos q hr)⟩
    · obtain ⟨y', j0, k1, k2, k3, k4, k5, k6, k7⟩ := ih (j + 1) (by omega) (fun i hi z hz => by
        by_cases qi : i = j
        · subst qi
          have : z = y := by rw [hy] at hz; omega
          subst this; exact q
        · exact hpre i (by omega) z hz) hex
      exact ⟨y', j0, k1, k2, k3, k4, k5, k6, fun r hr => st r (Ev.neg q (k7 r hr))⟩
end
theorem path_both {a : Int} {l : List S37} (h : Valid a l) {b : Nat} (hb : b < a.toNat) : ∀ (n : Nat) (x : Nat) (acc : List Int), x < a.toNat → gd (dst a l b) x = n → 1 ≤ acc.length → acc.length + n ≤ 60 → acc.getD (acc.length - 1) 0 = x →
    ∃ r, Ev (fun k => topo_Path.l0 k x b (nb a l) (dst a l b) acc) r ∧ Ev (fun k => timesyncref18_Path.l0 k (dst a l b) acc ((n : Int) - 1) a l) r ∧ r.length ≤ 100 := by
  have hD := h.dst_is hb
  have hlen := h.dst_len hb
  have hmost := h.most
  have hsm : ∀ z, z < a.toNat → -1 ≤ gd (dst a l b) z ∧ gd (dst a l b) z ≤ 100 := fun z hz => ⟨hD.low z hz, by have := hD.lt h.range z hz; omega⟩
  intro n
  induction n with
  | zero =>
    intro x acc hx hn h1 h2 h3
    have hxb : x = b := hD.only x hx (by omega)
    refine ⟨acc, ?_, ?_, by omega⟩
    · refine Ev.step (fun k => by rw [topo_Path.l0]) ?_
      exact Ev.pos (by omega) (Ev.const rfl)
    · refine Ev.step (fun k => by rw [timesyncref18_Path.l0]) ?_
      exact Ev.neg (by omega) (Ev.const rfl)
  | succ n ih =>
    intro x acc hx hn h1 h2 h3
    have hxb : x ≠ b := fun q => by subst q; have := hD.zero; omega
    obtain ⟨z, hz, hzd⟩ := hD.back x hx (by omega)
    obtain ⟨y, j0, k1, k2, k3, k4, k5, k6, k7⟩ := path_find h hlen hsm (by omega : acc.length ≤ 100) x b hx _ 0 (Nat.zero_add _) (fun i hi => by omega) ⟨z, hz.symm, hzd⟩
    obtain ⟨r, r1, r2, r3⟩ := ih y (acc ++ [(y : Int)]) k1 (by omega) (by simp) (by simp; omega) (by simp [List.getD])
    refine ⟨r, ?_, ?_, r3⟩
    · refine Ev.step (fun k => by rw [topo_Path.l0]) ?_
      rw [rdL3]
      have hnl := h.nb_len
      exact Ev.neg (by omega) (Ev.pos (by omega) (Ev.pos (by omega) (k7 r r1)))
    · refine Ev.step (fun k => by rw [timesyncref18_Path.l0]) ?_
      refine Ev.pos (by omega) ?_
      have e1 : ((n + 1 : Nat) : Int) - 1 = (n : Int) := by omega
      rw [e1]
      refine refpath_find h hlen (by omega) h1 x h3 n y k1 (by omega) k5 (fun z hz hh => ?_) (by rw [wrap_id (by omega) (by omega)]; exact r2) y 0 (by omega)
      have hm := (h.nb_mem hx z).2 ⟨z, rfl, by omega, hh.2⟩
      obtain ⟨i, hi, he⟩ := List.mem_iff_getElem.1 hm
      have hgi : ((nb a l).getD x []).getD i 0 = z := by rw [List.getD_eq_getElem?_getD, List.getElem?_eq_getElem hi, Option.getD_some, he]
      rcases Nat.lt_or_ge i j0 with q | q
      · exact k6 i q z hgi (by omega)
      · have hs := Valid.nb_sorted (a := a) (l := l) x
        rcases Nat.lt_or_ge j0 i with q2 | q2
        · have := List.pairwise_iff_getElem.1 hs j0 i k2 hi q2
          rw [List.getD_eq_getElem?_getD, List.getElem?_eq_getElem k2, Option.getD_some] at k3
          rw [k3, he] at this
          omega
        · obtain rfl : i = j0 := by omega
          omega
theorem path_same (a : Int) (l : List S37) (x y : Int) : ∃ r, Ev (fun k => topo_Path.f k a l x y) r ∧ Ev (fun k => timesyncref18_Path.f k a l x y) r ∧ r.length < 1000 := by
  unfold topo_Path.f timesyncref18_Path.f
  have hk1 := impl_knows a l x
  have hk2 := impl_knows a l y
  have hd := ref_dist a l y
  by_cases h0 : chk a l = 0
  · have hv := chk_valid h0
    have hp := hv.pos
    have hm := hv.most
    by_cases hy : isNode a y
    · have hyN : y.toNat < a.toNat := by unfold isNode at hy; omega
      have hyc : ((y.toNat : Nat) : Int) = y := by unfold isNode at hy; omega
      rw [show distR a l y = dst a l y.toNat by unfold distR; rw [if_pos ⟨h0, hy⟩]] at hd
      have hlen := hv.dst_len hyN
      have hne : ¬ ((dst a l y.toNat).length : Int) = 0 := by omega
      by_cases hx : isNode a x
      · have hxN : x.toNat < a.toNat := by unfold isNode at hx; omega
        have hxc : ((x.toNat : Nat) : Int) = x := by unfold isNode at hx; omega
        have hx' := hx
        unfold isNode at hx'
        have hdev := hv.dst_ev hyN
        rw [hyc] at hdev
        have hD := hv.dst_is hyN
        have e1 : rd (dst a l y.toNat) x = gd (dst a l y.toNat) x.toNat := by rw [← hxc, rd_gd, Int.toNat_natCast]
        have impl : ∀ r, Ev (fun k => if rd (dst a l y.toNat) x < 0 then some [] else topo_Path.l0 k x y (nb a l) (dst a l y.toNat) [x]) r → Ev (fun k => (topo_knows.f k a l x).bind fun t140 => (if t140 = true then ((topo_knows.f k a l y).bind fun t141 => (topo_Path.j0 k x y (!t141) a l)) else (topo_Path.j0 k x y true a l))) r := fun r hr => by
          refine Ev.bind' _ hk1 (Ev.pos (by simp [h0, hx]) (Ev.bind' _ hk2 ?_))
          refine Ev.step (fun k => by rw [topo_Path.j0]) ?_
          exact Ev.neg (by simp [h0, hy]) (Ev.bind' _ (impl_nb hv) (Ev.bind' _ hdev (Ev.pos (by omega) (Ev.pos (by omega) hr))))
        have refe : ∀ r, Ev (fun k => timesyncref18_Path.j0 k x (dst a l y.toNat) (decide (rd (dst a l y.toNat) x < 0)) a l) r → Ev (fun k => (timesyncref18_Dist.f k a l y).bind fun t271 => (if (t271.length : Int) = 0 then (timesyncref18_Path.j0 k x t271 true a l) else ((timesyncref18_isNode.f a l x).bind fun t274 => (if t274 = true then (if 0 ≤ x then (if x < (t271.length : Int) then (timesyncref18_Path.j0 k x t271 (decide ((rd t271 x) < 0)) a l) else (none)) else (none)) else (timesyncref18_Path.j0 k x t271 true a l))))) r := fun r hr => by
          refine Ev.bind' _ hd (Ev.neg hne ?_)
          rw [ref_isNode]
          exact Ev.some_bind (Ev.pos (by simpa using hx) (Ev.pos (by omega) (Ev.pos (by omega) hr)))
        by_cases hneg : rd (dst a l y.toNat) x < 0
        · refine ⟨[], impl [] (Ev.pos hneg (Ev.const rfl)), refe [] ?_, by simp⟩
          refine Ev.step (fun k => by rw [timesyncref18_Path.j0]) ?_
          exact Ev.pos (by simpa using hneg) (Ev.const rfl)
        · have hlt := hD.lt hv.range x.toNat hxN
          obtain ⟨n, hn⟩ : ∃ n : Nat, gd (dst a l y.toNat) x.toNat = n := ⟨(gd (dst a l y.toNat) x.toNat).toNat, by omega⟩
          obtain ⟨r, r1, r2, r3⟩ := path_both hv hyN n x.toNat [x] hxN hn (by simp) (by simp; omega) (by simp [List.getD, hxc])
          rw [hxc, hyc] at r1
          refine ⟨r, impl r (Ev.neg hneg r1), refe r ?_, by omega⟩
          refine Ev.step (fun k => by rw [timesyncref18_Path.j0]) ?_
          refine Ev.neg (by simpa using hneg) (Ev.pos (by omega) (Ev.pos (by omega) ?_))
          rw [wrap_id (by omega) (by omega), e1, hn]
          exact r2
      · refine ⟨[], Ev.bind' _ hk1 (Ev.neg (by simp [hx]) ?_), Ev.bind' _ hd (Ev.neg hne ?_), by simp⟩
        · refine Ev.step (fun k => by rw [topo_Path.j0]) ?_
          exact Ev.pos rfl (Ev.const rfl)
        · rw [ref_isNode]
          refine Ev.some_bind (Ev.neg (by simpa using hx) ?_)
          refine Ev.step (fun k => by rw [timesyncref18_Path.j0]) ?_
          exact Ev.pos rfl (Ev.const rfl)
    · rw [show distR a l y = [] by unfold distR; rw [if_neg (fun q => hy q.2)]] at hd
      refine ⟨[], Ev.bind' _ hk1 (Ev.ite_ (fun _ => Ev.bind' _ hk2 ?_) (fun _ => ?_)), Ev.bind' _ hd (Ev.pos rfl ?_), by simp⟩
      · refine Ev.step (fun k => by rw [topo_Path.j0]) ?_
        exact Ev.pos (by simp [hy]) (Ev.const rfl)
      · refine Ev.step (fun k => by rw [topo_Path.j0]) ?_
        exact Ev.pos rfl (Ev.const rfl)
      · refine Ev.step (fun k => by rw [timesyncref18_Path.j0]) ?_
        exact Ev.pos rfl (Ev.const rfl)
  · rw [show distR a l y = [] by unfold distR; rw [if_neg (fun q => h0 q.1)]] at hd
    refine ⟨[], Ev.bind' _ hk1 (Ev.neg (by simp [h0]) ?_), Ev.bind' _ hd (Ev.pos rfl ?_), by simp⟩
    · refine Ev.step (fun k => by rw [topo_Path.j0]) ?_
      exact Ev.pos rfl (Ev.const rfl)
    · refine Ev.step (fun k => by rw [timesyncref18_Path.j0]) ?_
      exact Ev.pos rfl (Ev.const rfl)
end Go.Proofs.Ythkpnkmbmlbefaa.PB

/- The pure statement of TopoPaths: Dist, Comp, Path and Diameter give what the reference gives, for any graph and nodes. -/
namespace Go.Proofs.Ythkpnkmbmlbefaa.PureTopoPaths
open Go.RowKit Go.Proofs.Ythkpnkmbmlbefaa.X Go.Proofs.Ythkpnkmbmlbefaa.PB Go.Proofs.YthkpnkmbmlbefaaW.PrintWords Go.Proofs.YthkpnkmbmlbefaaW.PrintLast
theorem TopoPaths : ∀ (x0 : S24) (a1 : Int) (a2 : Int), WF24 x0 → WFi64 a1 → WFi64 a2 → ∃ k, timesynclaw18_TopoPaths.f k x0.f0 x0.f1 a1 a2 = some true := by
  intro x a b _ _ _
  refine Ev.rounds ?_
  unfold timesynclaw18_TopoPaths.f timesynclaw18_long.f
  refine Ev.some_bind (Ev.ite_ (fun _ => awake18') (fun _ => ?_))
  obtain ⟨c, c1, c2, c3⟩ := comp_same x.f0 x.f1
  obtain ⟨p, p1, p2, p3⟩ := path_same x.f0 x.f1 a b
  obtain ⟨m, m1, m2⟩ := diam_same x.f0 x.f1
  have hd : (distR x.f0 x.f1 a).length < 1000 := by
    unfold distR
    split
    · rename_i h
      have hv := chk_valid h.1
      have h2 := h.2
      unfold isNode at h2
      have := hv.dst_len (x := a.toNat) (by omega)
      have := hv.most
      omega
    · simp
  refine Ev.bind' _ (impl_dist x.f0 x.f1 a) (Ev.bind' _ (ref_dist x.f0 x.f1 a) (Ev.bind' _ (eq_true' _ (by omega)) (Ev.pos rfl ?_)))
  refine Ev.bind' _ c1 (Ev.bind' _ c2 (Ev.bind' _ (eq_true' _ (by omega)) (Ev.pos rfl ?_)))
  refine Ev.bind' _ p1 (Ev.bind' _ p2 (Ev.bind' _ (eq_true' _ (by omega)) (Ev.pos rfl ?_)))
  exact Ev.bind' _ m1 (Ev.bind' _ m2 (Ev.pos rfl awake18'))
end Go.Proofs.Ythkpnkmbmlbefaa.PureTopoPaths

/- What an argument reads as, in the printed words: a type's reading gives cells of its kind, and bounds on the numbers. -/
namespace Go.Proofs.Ythkpnkmbmlbefaa.HO
open Go.RowKit Go.Proofs.YthkpnkmbmlbefaaW.PrintWords Go.Deep

structure Opens {α : Type} (P : Program) (t : TypeId) (d : Kd α) (B : α → Prop) : Prop where
  out : ∀ {H : Type} (enc : TypeId × Value → H) (w : World) (base : Nat) (spare : Nat → Bool) (held : Bool) (fuel : Nat) (cs : List Value) (x : DataW H × List MemPlace),
    DataW.trod enc P w base spare held fuel t cs = some x → ∃ a : α, d.K w a cs ∧ B a

theorem opens_int {P : Program} {t : TypeId} {k : IntKind} (ht : P.underlying t = some (.int k)) : Opens P t (Kd.int k) (fun n => (Lit.int k n).wf = true) := by
  constructor
  intro H enc w base spare held fuel cs x h
  obtain ⟨n, rfl, _, hw⟩ := DataW.trod_int ht h
  exact ⟨n, rfl, hw⟩
theorem opens_slice {α : Type} [Inhabited α] {P : Program} {t e : TypeId} {d : Kd α} {B : α → Prop} (he : Opens P e d B) (ht : P.underlying t = some (.slice e)) (hs : P.cellsOf e = d.sz) :
    Opens P t (Kd.slice e d) (fun xs => xs.length ≤ 9223372036854775807 ∧ ∀ x ∈ xs, B x) := by
  constructor
  intro H enc w base spare held fuel cs x h
  rcases open_slice ht h with ⟨rfl, _⟩ | ⟨a, len, cap, m, n, D, Pl, rfl, _, hl, hm, hmm, _, hx⟩
  · exact ⟨[], ⟨none, 0, rfl, Nat.le_refl _, rfl, by simp, fun h => by simp at h⟩, by simp, by simp⟩
  · have hlm : len ≤ m := by rw [hmm]; split <;> omega
    obtain ⟨X, hX⟩ := choose_lt (α := α) (n := len) (p := fun i x => B x ∧ ∃ c, c.length = d.sz ∧ d.K w x c ∧ ∀ j u, c[j]? = some u → w.cell? (a.add (i * d.sz + j)) = some u) (fun i hi => by
      obtain ⟨cs', h1, h2⟩ := hx i (Nat.lt_of_lt_of_le hi hlm)
      obtain ⟨x, hK, hB⟩ := he.out enc w base spare held n cs' _ h2
      refine ⟨x, hB, cs', d.K_len hK, hK, fun j u hj => ?_⟩
      obtain ⟨_, h4, h5⟩ := World.cells?_some h1
      have hj' : j < cs'.length := (List.getElem?_eq_some_iff.1 hj).1
      have h6 := h5 j (by rw [h4] at hj'; exact hj')
      rw [Go.Deep.add_add, hs] at h6
      rw [h6, hj])
    refine ⟨(List.range len).map X, ⟨some a, cap, by simp, by simpa using hl, by simp, ?_, fun h0 => ⟨a, rfl, fun j p hp => ?_⟩⟩, ?_, ?_⟩
    · have : cap ≤ 9223372036854775807 := by simpa [maxLen] using hm
      simp only [List.length_map, List.length_range]; omega
    · have hj : j < len := by
        have := (List.getElem?_eq_some_iff.1 hp).1
        simpa using this
      have : X j = p := by simpa [hj] using hp
      subst this
      obtain ⟨_, c, h1, h2, h3⟩ := hX j hj
      exact ⟨c, h1, h2, h3⟩
    · have : cap ≤ 9223372036854775807 := by simpa [maxLen] using hm
      simp only [List.length_map, List.length_range]; omega
    · intro x hx
      obtain ⟨j, hj, rfl⟩ := List.mem_map.1 hx
      exact (hX j (List.mem_range.1 hj)).1

/-- The fields from cell 'off' on. -/
structure OpF {α : Type} (P : Program) (off : Nat) (fs : List Field) (d : Kd α) (B : α → Prop) : Prop where
  out : ∀ {H : Type} (enc : TypeId × Value → H) (w : World) (base : Nat) (spare : Nat → Bool) (held : Bool) (n : Nat) (cs : List Value), cs.length = off + d.sz →
    (∀ f ∈ fs, ∃ y, DataW.trod enc P w base spare held n f.type ((cs.drop f.offset).take (P.cellsOf f.type)) = some y) → ∃ a : α, d.K w a (cs.drop off) ∧ B a
theorem opF_one {α : Type} {P : Program} {off : Nat} {f : Field} {d : Kd α} {B : α → Prop} (h : Opens P f.type d B) (ho : f.offset = off) (hs : P.cellsOf f.type = d.sz) : OpF P off [f] d B := by
  constructor
  intro H enc w base spare held n cs hl hf
  obtain ⟨y, hy⟩ := hf f (by simp)
  rw [ho, hs, List.take_of_length_le (by rw [List.length_drop]; omega)] at hy
  exact h.out enc w base spare held n _ _ hy
theorem opF_cons {α β : Type} {P : Program} {off : Nat} {f : Field} {fs : List Field} {d : Kd α} {d' : Kd β} {B : α → Prop} {B' : β → Prop} (h : Opens P f.type d B) (ho : f.offset = off) (hs : P.cellsOf f.type = d.sz) (hr : OpF P (off + d.sz) fs d' B') :
    OpF P off (f :: fs) (Kd.pair d d') (fun p => B p.1 ∧ B' p.2) := by
  constructor
  intro H enc w base spare held n cs hl hf
  obtain ⟨y, hy⟩ := hf f (by simp)
  rw [ho, hs] at hy
  have hl' : cs.length = off + (d.sz + d'.sz) := hl
  obtain ⟨a, hK, hB⟩ := h.out enc w base spare held n _ _ hy
  obtain ⟨b, hK', hB'⟩ := hr.out enc w base spare held n cs (by omega) (fun g hg => hf g (by simp [hg]))
  refine ⟨(a, b), ⟨(cs.drop off).take d.sz, cs.drop (off + d.sz), ?_, hK, hK'⟩, hB, hB'⟩
  rw [← List.drop_drop]
  exact (List.take_append_drop _ _).symm
theorem opens_struct {α β : Type} {P : Program} {t : TypeId} {fs : Array Field} {d : Kd α} {B : α → Prop} (f : β → α) (g : α → β) (hfg : ∀ a, f (g a) = a) (h : OpF P 0 fs.toList d B) (ht : P.underlying t = some (.struct fs)) (hs : P.cellsOf t = d.sz) :
    Opens P t (Kd.iso d f) (fun x => B (f x)) := by
  constructor
  intro H enc w base spare held fuel cs x hx
  obtain ⟨xs, n, _, _, hl, hlen, hf⟩ := DataW.trod_struct ht hx
  obtain ⟨a, hK, hB⟩ := h.out enc w base spare held n cs (by omega) (fun q hq => by
    obtain ⟨i, hi⟩ := List.mem_iff_getElem?.1 hq
    have hi' : fs[i]? = some q := by simpa using hi
    have hlt : i < xs.length := by
      have := (Array.getElem?_eq_some_iff.1 hi').1
      omega
    exact ⟨xs[i], by rw [hf i q hi', List.getElem?_eq_getElem hlt]⟩)
  refine ⟨g a, ?_, by show B (f (g a)); rw [hfg]; exact hB⟩
  show d.K w (f (g a)) cs
  rw [hfg]
  exact hK
end Go.Proofs.Ythkpnkmbmlbefaa.HO

/- The row of TopoPaths: for every input the law returns true, and each argument reads as it read before: out of its pure statement (YthkpnkmbmlbefaaPureTopoPaths) and the printed walk. No condition. -/
namespace Go.Proofs.Ythkpnkmbmlbefaa.topoPaths
open Go.ChangeShapes Go.WideShapes Go.ChangeAt Go.RowKit Go.Proofs.Ythkpnkmbmlbefaa.X Go.Proofs.YthkpnkmbmlbefaaW.PrintWords
open Go.ChangeMaps (open_string shut_string)
set_option linter.unusedVariables false
theorem own : ownKnob Try.prog.godebug = none := by kernel_rfl
theorem laidOut : laidOutB Try.prog = true := by kernel_rfl
theorem opens3 : HO.Opens Try.prog 3 (Kd.int .i64) WFi64 := HO.opens_int Try.underlying3
theorem opens37 : HO.Opens Try.prog 37 k37 WF37 := HO.opens_struct (d := (Kd.pair (Kd.int .i64) (Kd.pair (Kd.int .i64) (Kd.pair (Kd.int .i64) (Kd.int .i64))))) (B := fun p => WFi64 p.1 ∧ WFi64 p.2.1 ∧ WFi64 p.2.2.1 ∧ WFi64 p.2.2.2) (fun x : S37 => (x.f0, x.f1, x.f2, x.f3)) (fun p => (⟨p.1, p.2.1, p.2.2.1, p.2.2.2⟩ : S37)) (fun _ => rfl) (HO.opF_cons (B := WFi64) (B' := (fun p : (Int) × (Int) × (Int) => WFi64 p.1 ∧ WFi64 p.2.1 ∧ WFi64 p.2.2)) opens3 rfl (by kernel_rfl) (HO.opF_cons (B := WFi64) (B' := (fun p : (Int) × (Int) => WFi64 p.1 ∧ WFi64 p.2)) opens3 rfl (by kernel_rfl) (HO.opF_cons (B := WFi64) (B' := WFi64) opens3 rfl (by kernel_rfl) (HO.opF_one opens3 rfl (by kernel_rfl))))) Try.underlying37 (by kernel_rfl)
theorem opens22 : HO.Opens Try.prog 22 (Kd.slice 37 k37) WFL37 := haveI : Inhabited S37 := ⟨z37⟩; HO.opens_slice opens37 Try.underlying22 (by kernel_rfl)
theorem opens24 : HO.Opens Try.prog 24 k24 WF24 := HO.opens_struct (d := (Kd.pair (Kd.int .i64) (Kd.slice 37 k37))) (B := fun p => WFi64 p.1 ∧ WFL37 p.2) (fun x : S24 => (x.f0, x.f1)) (fun p => (⟨p.1, p.2⟩ : S24)) (fun _ => rfl) (HO.opF_cons (B := WFi64) (B' := WFL37) opens3 rfl (by kernel_rfl) (HO.opF_one opens22 rfl (by kernel_rfl))) Try.underlying24 (by kernel_rfl)
set_option maxRecDepth 100000 in
theorem lifted (os : Os) (started : os.Started) (H : Type) (enc : TypeId × Value → H) :
    ReturnsInHanded {} Try.checked os 4 .any (Rows.topoPathsSpec.pre6 enc Try.prog Try.f4 Rows.topoPathsRow.domain false) (Rows.topoPathsSpec.post enc Try.prog Try.f4 false true false false) := by
  refine returnsInHanded_of_change_sized (C := Try.checked) own started (by kernel_rfl) Try.func4
    (ChangeSpec.witness6 (enc := enc) (C := Try.checked) false ⟨#[], #[.agg #[.int .i64 0, .slice none 0 0], .int .i64 0, .int .i64 0], []⟩ 8 (by kernel_rfl) (by kernel_rfl) (by kernel_rfl) (by kernel_rfl)) ?_
  intro W base args ds gs before hval0 hW hcnd hsz0 _
  have hval : ∀ (j : Nat) t v, Try.f4.params[j]? = some t → args[j]? = some v → Value.okWide Try.prog W .any base t v := hval0
  have hW' := hW
  obtain ⟨p, q, hA0, hV, rfl, hfz, hnd⟩ := hW
  have hA : DataW.TrodAll enc Try.prog W 0 (fun _ => true) true Try.f4.params.toList args.toList ds p := hA0
  rw [Try.params4] at hA hval
  obtain ⟨v0, vs0, d0, ds0, p0, q0, hargs, rfl, rfl, h0, r0⟩ := trodAll_cons hA
  obtain ⟨v1, vs1, d1, ds1, p1, q1, rfl, rfl, rfl, h1, r1⟩ := trodAll_cons r0
  obtain ⟨v2, vs2, d2, ds2, p2, q2, rfl, rfl, rfl, h2, r2⟩ := trodAll_cons r1
  obtain ⟨rfl, rfl, rfl⟩ := trodAll_nil r2
  obtain rfl : args = #[v0, v1, v2] := by cases args; simp_all
  obtain ⟨rfl, rfl⟩ := trodVars_none hV
  have k0 := h0
  have lt0 : ∀ x ∈ p0, x.block < W.heap.size := by obtain ⟨m, hm⟩ := k0; exact DataW.trod_lt m _ _ _ hm
  obtain ⟨fuel0, hf0⟩ := h0
  obtain ⟨x0, K0, B0⟩ := opens24.out enc W 0 _ true fuel0 _ _ hf0
  obtain ⟨cs0, rfl, hs0⟩ := okWide_struct Try.underlying24 (hval 0 24 v0 rfl rfl)
  obtain ⟨A0_1, c0_1, e0, hc0_1, hr0_1⟩ := k24_open K0
  obtain ⟨cl0⟩ := cs0
  simp only [Value.cells] at e0
  subst e0
  obtain ⟨a1, rfl, rfl, rfl, w1⟩ := open_int Try.underlying3 (hval 1 3 v1 rfl rfl) h1
  obtain ⟨a2, rfl, rfl, rfl, w2⟩ := open_int Try.underlying3 (hval 2 3 v2 rfl rfl) h2
  clear hA0 hval0 hsz0
  obtain ⟨k, hp⟩ := PureTopoPaths.TopoPaths x0 a1 a2 B0 w1 w2
  refine (timesynclaw18_TopoPaths.calls k x0.f0 _ _ x0.f1 a1 a2 true W hr0_1 hc0_1 hp).mono fun e W' ⟨he, bel0⟩ => ?_
  have bel := bel0
  subst he
  exact ⟨_, rfl, _, _, _, [], _, [], hW', trodAll_mk1 (shut_bool Try.underlying4 _), (trodAll_cons_mk (Below.trod laidOut (by kernel_rfl) (of_decide_eq_true (by kernel_rfl)) k0 bel lt0) (trodAll_cons_mk (shut_int Try.underlying3 w1) (trodAll_cons_mk (shut_int Try.underlying3 w2) trodAll_mk0))), rfl, bel.frame _, fun h => by cases h⟩
theorem over : Rows.topoPathsRow.holds Try.pinned (OpenSpec.ofChange Rows.topoPathsSpec) :=
  OpenClaim.holds_of_wide 4 Try.f4 rfl rfl rfl rfl rfl rfl rfl ⟨rfl, rfl, rfl, rfl, rfl⟩ rfl rfl rfl rfl rfl (by kernel_rfl) Try.func4 (by kernel_rfl)
    (of_decide_eq_true (by kernel_rfl)) (by unfold Func.isWrapper; first | (rw [if_pos (by decide +kernel)]; kernel_rfl) | (rw [if_neg (by decide +kernel)]; exact ⟨rfl, rfl⟩))
    (fun os started H enc _ => lifted os started H enc)
#print axioms over
end Go.Proofs.Ythkpnkmbmlbefaa.topoPaths
namespace Go.Proofs.Ythkpnkmbmlbefaa
/-- The row of TopoPaths. -/
theorem topoPaths_holds : Rows.TopoPathsSaid := topoPaths.over
end Go.Proofs.Ythkpnkmbmlbefaa
