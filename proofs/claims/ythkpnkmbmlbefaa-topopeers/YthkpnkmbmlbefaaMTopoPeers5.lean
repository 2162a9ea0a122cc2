/- Ythkpnkmbmlbefaa: part 5 of 5 of the proof that the law TopoPeers returns true for every input, its arguments reading as before. No condition. -/
import Derived.Test.YthkpnkmbmlbefaaMTopoPeers1
import Derived.Test.YthkpnkmbmlbefaaMTopoPeers4
import Derived.Test.YthkpnkmbmlbefaaMTopoPeers2
import Derived.Test.YthkpnkmbmlbefaaMTopoPeers3
import Derived.KernelRfl
import Derived.Deep.Slices
import Derived.DataReads
import Derived.Test.YthkpnkmbmlbefaaRows
import Derived.WalkKit
import Derived.ProofKit
import Derived.OpenShut
import Derived.ShutString
import Derived.ChangeOld
import Derived.Below
import Derived.SizedLaws
import Derived.WideShapes
namespace Go.Proofs.Ythkpnkmbmlbefaa.X
open Go.RowKit Go.Proofs.YthkpnkmbmlbefaaW.PrintWords Go.Proofs.YthkpnkmbmlbefaaW.PrintLast Go.Proofs.YthkpnkmbmlbefaaW.PrintMore
attribute [local go_sem] max2_int min2_int max_two min_two max_three min_three max_four min_four   -- for this text's walks alone
set_option linter.unusedVariables false
set_option linter.unusedSimpArgs false

/-! ### timesynclaw18_TopoPeers: function 10 -/
mutual
def timesynclaw18_TopoPeers.j0 : Nat → Bool → Int → List (S37) → Option (Bool)
 | 0, _, _, _ => none
 | k + 1, x24, x452000, x452001 => if x24 = true then ((timesynclaw18_awake.f k).bind fun t454 => (some t454)) else (timesynclaw18_TopoPeers.l0 k 0 x452000 0 x452000 x452001)
def timesynclaw18_TopoPeers.l0 : Nat → Int → Int → Int → Int → List (S37) → Option (Bool)
 | 0, _, _, _, _, _ => none
 | k + 1, x3, x27, x28, x452000, x452001 => if x28 < x27 then ((topo_Ports.f k x452000 x452001 x28).bind fun t455 => ((slices_IsSorted_int_int.f k t455).bind fun t458 => (if t458 = true then (timesynclaw18_TopoPeers.l1 k x3 x28 t455 x27 x28 0 x452000 x452001) else (none)))) else (timesynclaw18_TopoPeers.l2 k x3 x452001 (x452001.length : Int) 0 x452000 x452001)
def timesynclaw18_TopoPeers.l1 : Nat → Int → Int → List Int → Int → Int → Int → Int → List (S37) → Option (Bool)
 | 0, _, _, _, _, _, _, _, _ => none
 | k + 1, x3, x4, x5, x27, x28, x37, x452000, x452001 => if x37 < 10 then ((topo_Peer.f k x452000 x452001 x4 x37).bind fun bt459 => ((slices_Contains_int_int.f k x5 x37).bind fun t462 => (if (bt459.2.2 != t462) = true then (none) else (if bt459.2.2 = true then ((topo_Peer.f k x452000 x452001 bt459.1 bt459.2.1).bind fun bt463 => (if bt463.2.2 = true then (if bt463.1 = x4 then (if bt463.2.1 = x37 then (if bt459.1 = x4 then (none) else (timesynclaw18_TopoPeers.l1 k (wrap64 (x3 + 1)) x4 x5 x27 x28 (wrap64 (x37 + 1)) x452000 x452001)) else (none)) else (none)) else (none))) else (timesynclaw18_TopoPeers.l1 k x3 x4 x5 x27 x28 (wrap64 (x37 + 1)) x452000 x452001))))) else (timesynclaw18_TopoPeers.l0 k x3 x27 (wrap64 (x28 + 1)) x452000 x452001)
def timesynclaw18_TopoPeers.l2 : Nat → Int → List (S37) → Int → Int → Int → List (S37) → Option (Bool)
 | 0, _, _, _, _, _, _ => none
 | k + 1, x3, x84, x85, x86, x452000, x452001 => if x86 < x85 then (if 0 ≤ x86 then (if x86 < (x84.length : Int) then ((topo_Peer.f k x452000 x452001 ((rd_T37 x84 x86).f0) ((rd_T37 x84 x86).f1)).bind fun bt468 => (if bt468.2.2 = true then (if bt468.1 = ((rd_T37 x84 x86).f2) then (if bt468.2.1 = ((rd_T37 x84 x86).f3) then (timesynclaw18_TopoPeers.l2 k x3 x84 x85 (wrap64 (x86 + 1)) x452000 x452001) else (none)) else (none)) else (none))) else (none)) else (none)) else (if x3 = (wrap64 (2 * (x452001.length : Int))) then ((timesynclaw18_awake.f k).bind fun t471 => (some t471)) else (none))
end
def timesynclaw18_TopoPeers.f (k : Nat) (a0_0 : Int) (l0_1 : List (S37)) : Option (Bool) := (timesynclaw18_long.f a0_0 l0_1).bind fun t452 => (if t452 = true then (timesynclaw18_TopoPeers.j0 k true a0_0 l0_1) else ((topo_Check.f k a0_0 l0_1).bind fun t453 => (timesynclaw18_TopoPeers.j0 k (t453 != 0) a0_0 l0_1)))
set_option maxHeartbeats 8000000 in
set_option maxRecDepth 100000 in
theorem timesynclaw18_TopoPeers.calls (k : Nat) (a0_0 : Int) (A0_1 : Option Addr) (c0_1 : Nat) (l0_1 : List (S37)) (r : Bool) (w : World) (hr0_1 : Kd.C k37 w A0_1 l0_1.length l0_1) (hc0_1 : l0_1.length ≤ c0_1) (h : timesynclaw18_TopoPeers.f k a0_0 l0_1 = some r) :
  Calls Try.prog 10 #[.agg #[.int .i64 a0_0, .slice A0_1 l0_1.length c0_1]] w fun e w' => e = .returned (.bool r) ∧ Below w.heap.size w w' := by
 have hu24 := Try.underlying24
 have hu37 := Try.underlying37
 have HR0_1 := Aside0.mk hr0_1
 have HC0_1 := Aside0.mk hc0_1
 clear hr0_1 hc0_1
 have HB := Aside0.mk (Below.refl w.heap.size w)
 have H : ((timesynclaw18_long.f a0_0 l0_1).bind fun t452 => (if t452 = true then (timesynclaw18_TopoPeers.j0 k true a0_0 l0_1) else ((topo_Check.f k a0_0 l0_1).bind fun t453 => (timesynclaw18_TopoPeers.j0 k (t453 != 0) a0_0 l0_1)))) = some r := h
 clear h
 have HC2 := Aside0.mk H
 clear H
 go_enter Try.func10, Try.ntmps10
 go_upto_region 1 with (first | ((with_reducible refine gate_dst (N := 1) rfl ?_); refine box_event ?hg (N := 1) ?hd (cs := #[.int .i64 a0_0, .slice A0_1 l0_1.length c0_1]) (t := 24) ?hr ?_; (case hd => rfl); (case hg => rfl); (case hr => first | (go_simp; done) | (go_simp; rfl)); intro gb451 hg w3 hbox hb; have n0_ := Aside0.mk (below_step (by exact HB.out) hb); have n1_ := Aside0.mk (hbox); have n2_ := Aside0.mk ((by rw [hg]; exact (below_size (by exact HB.out)) : w.heap.size ≤ gb451)); have n3_ := Aside0.mk ((by rw [hg]; exact (below_size (by exact HB.out)) : w.heap.size ≤ gb451)); clear HB; have HB := n0_; have BK451 := n1_; have GW451 := n2_; have GE451 := n3_; clear n0_ n1_ n2_ n3_; clear hb hbox hg))
 (try simp only [Act.put, List.setIfInBounds_toArray, List.set_cons_zero, List.set_cons_succ])
 go_cut [24] (fun v24 wc => ∃ (kq : Nat) (x24_1 : Bool), v24 = .bool x24_1 ∧ Aside0 (timesynclaw18_TopoPeers.j0 kq x24_1 a0_0 l0_1 = some r) ∧ Aside0 (kq ≤ k) ∧ Aside0 (wc.heap[gb451]? = some (.cells #[.int .i64 a0_0, (.slice A0_1 l0_1.length c0_1)] 24 (0, 0))) ∧ Aside0 (Below w.heap.size w wc))
 case first =>
  have H := HC2.out
  clear HC2
  replace H := Option.bind_eq_some_iff.mp H
  obtain ⟨t452, A40, H⟩ := H
  replace H : (if t452 = true then (timesynclaw18_TopoPeers.j0 k true a0_0 l0_1) else ((topo_Check.f k a0_0 l0_1).bind fun t453 => (timesynclaw18_TopoPeers.j0 k (t453 != 0) a0_0 l0_1))) = some r := H
  have A4 := Aside0.mk A40
  clear A40
  by_cases c5 : t452 = true
  ·subst c5
   have H1 : (timesynclaw18_TopoPeers.j0 k true a0_0 l0_1) = some r := by rw [if_pos rfl] at H; exact H
   clear H
   have H := H1
   clear H1
   have H' := Aside0.mk H
   clear H
   have hcz6_0 : w3.cell? ⟨gb451, 0, none⟩ = some (.int .i64 a0_0) := (blk_cell BK451.out 0).trans rfl
   have hcz6_1 : w3.cell? ⟨gb451, 1, none⟩ = some (.slice A0_1 l0_1.length c0_1) := (blk_cell BK451.out 1).trans rfl
   have hfz6_0 := blk_frozen BK451.out 0
   have hfz6_1 := blk_frozen BK451.out 1
   go_wp2_with (first | ((with_reducible refine gate_callee (f := 15) rfl ?_); refine goesL_ (some 19) rfl rfl Try.func15 (by kernel_rfl) rfl #[.agg #[.int .i64 a0_0, .slice A0_1 l0_1.length c0_1]] rfl (by (try simp only [List.map_toArray, List.map_cons, List.map_nil]); first | done | rfl | (simp only [List.length_drop, List.length_take]; rfl)) ?_; (with_reducible refine (timesynclaw18_long.calls a0_0 _ _ l0_1 true _ ?side1 ?side2 A4.out).mono ?_); (case side1 => exact (Kd.C_below HR0_1.out HB.out)); (case side2 => exact HC0_1.out); rintro e w7 ⟨rfl, hb⟩; refine ⟨_, rfl, ?_⟩; have n0_ := Aside0.mk (blk_below (g := gb451) (o := .cells #[.int .i64 a0_0, .slice A0_1 l0_1.length c0_1] 24 (0, 0)) (by exact BK451.out) hb); have n1_ := Aside0.mk (below_step (by exact HB.out) hb); clear BK451; clear HB; have BK451 := n0_; have HB := n1_; clear n0_ n1_; (try clear hi)))
   go_meet
   case rel => exact ⟨_, (true), (by first | rfl | (simp; done) | (simp [*]; done)), H', ⟨by first | omega | exact Nat.le_refl _⟩, ⟨by exact BK451.out⟩, ⟨by exact HB.out⟩⟩
  ·replace c5 := Bool.eq_false_iff.mpr c5
   subst c5
   have H1 : ((topo_Check.f k a0_0 l0_1).bind fun t453 => (timesynclaw18_TopoPeers.j0 k (t453 != 0) a0_0 l0_1)) = some r := by rw [if_neg (show ¬ (false = true) by decide)] at H; exact H
   clear H
   have H := H1
   clear H1
   replace H := Option.bind_eq_some_iff.mp H
   obtain ⟨t453, A80, H⟩ := H
   replace H : (timesynclaw18_TopoPeers.j0 k (t453 != 0) a0_0 l0_1) = some r := H
   have A8 := Aside0.mk A80
   clear A80
   have H' := Aside0.mk H
   clear H
   have hcz9_0 : w3.cell? ⟨gb451, 0, none⟩ = some (.int .i64 a0_0) := (blk_cell BK451.out 0).trans rfl
   have hcz9_1 : w3.cell? ⟨gb451, 1, none⟩ = some (.slice A0_1 l0_1.length c0_1) := (blk_cell BK451.out 1).trans rfl
   have hfz9_0 := blk_frozen BK451.out 0
   have hfz9_1 := blk_frozen BK451.out 1
   go_wp2_with (first | ((with_reducible refine gate_callee (f := 15) rfl ?_); refine goesL_ (some 19) rfl rfl Try.func15 (by kernel_rfl) rfl #[.agg #[.int .i64 a0_0, .slice A0_1 l0_1.length c0_1]] rfl (by (try simp only [List.map_toArray, List.map_cons, List.map_nil]); first | done | rfl | (simp only [List.length_drop, List.length_take]; rfl)) ?_; (with_reducible refine (timesynclaw18_long.calls a0_0 _ _ l0_1 false _ ?side1 ?side2 A4.out).mono ?_); (case side1 => exact (Kd.C_below HR0_1.out HB.out)); (case side2 => exact HC0_1.out); rintro e w10 ⟨rfl, hb⟩; refine ⟨_, rfl, ?_⟩; have n0_ := Aside0.mk (blk_below (g := gb451) (o := .cells #[.int .i64 a0_0, .slice A0_1 l0_1.length c0_1] 24 (0, 0)) (by exact BK451.out) hb); have n1_ := Aside0.mk (below_step (by exact HB.out) hb); clear BK451; clear HB; have BK451 := n0_; have HB := n1_; clear n0_ n1_; have hcz11_0 : w10.cell? ⟨gb451, 0, none⟩ = some (.int .i64 a0_0) := (blk_cell BK451.out 0).trans rfl; have hcz11_1 : w10.cell? ⟨gb451, 1, none⟩ = some (.slice A0_1 l0_1.length c0_1) := (blk_cell BK451.out 1).trans rfl; have hfz11_0 := blk_frozen BK451.out 0; have hfz11_1 := blk_frozen BK451.out 1) | (go_at_call 17; (with_reducible refine (topo_Check.calls k a0_0 _ _ l0_1 t453 _ ?side1 ?side2 A8.out).mono ?_); (case side1 => exact (Kd.C_below HR0_1.out HB.out)); (case side2 => exact HC0_1.out); rintro e w12 ⟨rfl, hb⟩; have n0_ := Aside0.mk (blk_below (g := gb451) (o := .cells #[.int .i64 a0_0, .slice A0_1 l0_1.length c0_1] 24 (0, 0)) (by exact BK451.out) hb); have n1_ := Aside0.mk (below_step (by exact HB.out) hb); clear BK451; clear HB; have BK451 := n0_; have HB := n1_; clear n0_ n1_; (try clear hi)))
   go_meet
   case rel => exact ⟨_, ((t453 != 0)), (by first | rfl | (simp; done) | (simp [*]; done)), H', ⟨by first | omega | exact Nat.le_refl _⟩, ⟨by exact BK451.out⟩, ⟨by exact HB.out⟩⟩
 case rest =>
  clear HC2
















  obtain ⟨kq, x24_1, rfl, HA, HJ1, BK451, HB⟩ := hcut
  cases kq with
  | zero => exact absurd HA.out (by simp [timesynclaw18_TopoPeers.j0])
  | succ kj1 =>
   have H := HA.out
   clear HA
   simp only [timesynclaw18_TopoPeers.j0] at H
   by_cases c13 : x24_1 = true
   ·subst c13
    have H1 : ((timesynclaw18_awake.f kj1).bind fun t454 => (some t454)) = some r := by rw [if_pos rfl] at H; exact H
    clear H
    have H := H1
    clear H1
    replace H := Option.bind_eq_some_iff.mp H
    obtain ⟨t454, A140, H⟩ := H
    replace H : (some t454) = some r := H
    have A14 := Aside0.mk A140
    clear A140
    obtain rfl := Option.some.inj H
    go_wp2_with (first | ((with_reducible refine gate_callee (f := 16) rfl ?_); refine goesL_ (some 25) rfl rfl Try.func16 (by kernel_rfl) rfl #[] rfl (by (try simp only [List.map_toArray, List.map_cons, List.map_nil]); first | done | rfl | (simp only [List.length_drop, List.length_take]; rfl)) ?_; (with_reducible refine (timesynclaw18_awake.calls kj1  t454 _ A14.out).mono ?_); rintro e w15 ⟨rfl, hb⟩; refine ⟨_, rfl, ?_⟩; have n0_ := Aside0.mk (blk_below (g := gb451) (o := .cells #[.int .i64 a0_0, .slice A0_1 l0_1.length c0_1] 24 (0, 0)) (by exact BK451.out) hb); have n1_ := Aside0.mk (below_step (by exact HB.out) hb); clear BK451; clear HB; have BK451 := n0_; have HB := n1_; clear n0_ n1_; (try clear hi)))
    go_ret
    exact ⟨by first | rfl | (simp [errW_none, errW_some] <;> rfl) | (simp [*, errW_none, errW_some] <;> rfl), by exact HB.out⟩
   ·replace c13 := Bool.eq_false_iff.mpr c13
    subst c13
    have H1 : (timesynclaw18_TopoPeers.l0 kj1 0 a0_0 0 a0_0 l0_1) = some r := by rw [if_neg (show ¬ (false = true) by decide)] at H; exact H
    clear H
    have H := H1
    clear H1
    have H' := Aside0.mk H
    clear H
    have hcz16_0 : wc.cell? ⟨gb451, 0, none⟩ = some (.int .i64 a0_0) := (blk_cell BK451.out 0).trans rfl
    have hcz16_1 : wc.cell? ⟨gb451, 1, none⟩ = some (.slice A0_1 l0_1.length c0_1) := (blk_cell BK451.out 1).trans rfl
    have hfz16_0 := blk_frozen BK451.out 0
    have hfz16_1 := blk_frozen BK451.out 1
    go_wp2
    go_loopg [3, 28] kj1 (fun kq v3 v28 w' => ∃ (x3_2 : Int) (x28_2 : Int), v3 = .int .i64 x3_2 ∧ v28 = .int .i64 x28_2 ∧ Aside0 (timesynclaw18_TopoPeers.l0 kq x3_2 a0_0 x28_2 a0_0 l0_1 = some r) ∧ Aside0 (kq ≤ kj1) ∧ Aside0 (w'.heap[gb451]? = some (.cells #[.int .i64 a0_0, (.slice A0_1 l0_1.length c0_1)] 24 (0, 0))) ∧ Aside0 (Below w.heap.size w w'))
    case atStart => exact ⟨(0), (0), (by first | rfl | (simp; done) | (simp [*]; done)), (by first | rfl | (simp; done) | (simp [*]; done)), H', ⟨Nat.le_refl _⟩, ⟨by exact BK451.out⟩, ⟨by exact HB.out⟩⟩
    case round =>
     clear H'
























     obtain ⟨x3_2, x28_2, rfl, rfl, HA, HK2, BK451, HB⟩ := hrel
     cases gk with
     | zero => exact absurd HA.out (by simp [timesynclaw18_TopoPeers.l0])
     | succ k2 =>
      have H := HA.out
      clear HA
      simp only [timesynclaw18_TopoPeers.l0] at H
      by_cases c17 : x28_2 < a0_0
      ·rw [if_pos c17] at H
       have c17b0 : decide (x28_2 < a0_0) = true := decide_eq_true c17
       clear c17
       replace H := Option.bind_eq_some_iff.mp H
       obtain ⟨t455, A180, H⟩ := H
       replace H : ((slices_IsSorted_int_int.f k2 t455).bind fun t458 => (if t458 = true then (timesynclaw18_TopoPeers.l1 k2 x3_2 x28_2 t455 a0_0 x28_2 0 a0_0 l0_1) else (none))) = some r := H
       have A18 := Aside0.mk A180
       clear A180
       replace H := Option.bind_eq_some_iff.mp H
       obtain ⟨t458, A190, H⟩ := H
       replace H : (if t458 = true then (timesynclaw18_TopoPeers.l1 k2 x3_2 x28_2 t455 a0_0 x28_2 0 a0_0 l0_1) else (none)) = some r := H
       have A19 := Aside0.mk A190
       clear A190
       by_cases c20 : t458 = true
       ·subst c20
        have H1 : (timesynclaw18_TopoPeers.l1 k2 x3_2 x28_2 t455 a0_0 x28_2 0 a0_0 l0_1) = some r := by rw [if_pos rfl] at H; exact H
        clear H
        have H := H1
        clear H1
        have H' := Aside0.mk H
        clear H
        have hcz21_0 : wr.cell? ⟨gb451, 0, none⟩ = some (.int .i64 a0_0) := (blk_cell BK451.out 0).trans rfl
        have hcz21_1 : wr.cell? ⟨gb451, 1, none⟩ = some (.slice A0_1 l0_1.length c0_1) := (blk_cell BK451.out 1).trans rfl
        have hfz21_0 := blk_frozen BK451.out 0
        have hfz21_1 := blk_frozen BK451.out 1
        go_wp2_with (first | ((with_reducible refine gate_callee (f := 41) rfl ?_); refine goesL_ (some 33) rfl rfl Try.func41 (by kernel_rfl) rfl #[.agg #[.int .i64 a0_0, .slice A0_1 l0_1.length c0_1], .int .i64 x28_2] rfl (by (try simp only [List.map_toArray, List.map_cons, List.map_nil]); first | done | rfl | (simp only [List.length_drop, List.length_take]; rfl)) ?_; (with_reducible refine (topo_Ports.calls k2 a0_0 _ _ l0_1 x28_2 t455 _ ?side1 ?side2 A18.out).mono ?_); (case side1 => repeat (first | exact (Kd.C_below HR0_1.out HB.out) | (with_reducible refine Kd.C_alloc ?_ _) | (with_reducible refine Kd.C_drewN ?_ _) | (with_reducible refine Kd.C_drew ?_))); (case side2 => exact HC0_1.out); rintro e w22 ⟨v456, rfl, ho0, hb⟩; refine ⟨_, rfl, ?_⟩; have n0_ := Aside0.mk (Kd.R_lower ho0 (below_size (by repeat (first | (with_reducible first | exact HB.out | apply below_alloc | apply pw_below_drewN | apply below_drew1 | refine below_set ?_ GE451.out) | exact HB.out)))); have n1_ := Aside0.mk (blk_below (g := gb451) (o := .cells #[.int .i64 a0_0, .slice A0_1 l0_1.length c0_1] 24 (0, 0)) (by (with_reducible repeat (first | refine blk_drewN ?_ _ | refine blk_drew ?_ | refine blk_alloc ?_ _)); exact BK451.out) hb); have n2_ := Aside0.mk (below_step (by repeat (first | (with_reducible first | exact HB.out | apply below_alloc | apply pw_below_drewN | apply below_drew1 | refine below_set ?_ GE451.out) | exact HB.out)) hb); clear BK451; clear HB; have HO457 := n0_; have BK451 := n1_; have HB := n2_; clear n0_ n1_ n2_; obtain ⟨Ao23, co23, eo23⟩ := Kd.R_slice HO457.out; subst eo23) | ((with_reducible refine gate_callee (f := 43) rfl ?_); refine goesL_ (some 35) rfl rfl Try.func43 (by kernel_rfl) rfl #[.slice Ao23 t455.length co23] rfl (by (try simp only [List.map_toArray, List.map_cons, List.map_nil]); first | done | rfl | (simp only [List.length_drop, List.length_take]; rfl)) ?_; (with_reducible refine (slices_IsSorted_int_int.calls k2 _ _ t455 true _ ?side1 ?side2 A19.out).mono ?_); (case side1 => repeat (first | exact (Kd.R_reads' HO457.out).2.2 | (with_reducible refine Kd.C_alloc ?_ _) | (with_reducible refine Kd.C_drewN ?_ _) | (with_reducible refine Kd.C_drew ?_))); (case side2 => exact (Kd.R_reads' HO457.out).2.1); rintro e w' ⟨rfl, ⟨nd, rfl⟩⟩; refine ⟨_, rfl, ?_⟩))
        go_loopg [3, 37] k2 (fun kq v3 v37 w' => ∃ (x3_3 : Int) (x37_3 : Int), v3 = .int .i64 x3_3 ∧ v37 = .int .i64 x37_3 ∧ Aside0 (timesynclaw18_TopoPeers.l1 kq x3_3 x28_2 t455 a0_0 x28_2 x37_3 a0_0 l0_1 = some r) ∧ Aside0 (kq ≤ k2) ∧ Aside0 (Kd.R (Kd.int .i64) 3 w' w.heap.size (fun _ => True) (.slice Ao23 t455.length co23) t455) ∧ Aside0 (w'.heap[gb451]? = some (.cells #[.int .i64 a0_0, (.slice A0_1 l0_1.length c0_1)] 24 (0, 0))) ∧ Aside0 (Below w.heap.size w w'))
        case atStart => exact ⟨(x3_2), (0), (by first | rfl | (simp; done) | (simp [*]; done)), (by first | rfl | (simp; done) | (simp [*]; done)), H', ⟨Nat.le_refl _⟩, ⟨by (with_reducible repeat (first | apply Kd.R_alloc | apply Kd.R_drewN | apply Kd.R_drew)); exact HO457.out⟩, ⟨by (with_reducible repeat (first | refine blk_drewN ?_ _ | refine blk_drew ?_ | refine blk_alloc ?_ _)); exact BK451.out⟩, ⟨by repeat (first | (with_reducible first | exact HB.out | apply below_alloc | apply pw_below_drewN | apply below_drew1 | refine below_set ?_ GE451.out) | exact HB.out)⟩⟩
        case round =>
         clear H'

































         obtain ⟨x3_3, x37_3, rfl, rfl, HA, HK3, HO_5, BK451, HB⟩ := hrel
         cases gk with
         | zero => exact absurd HA.out (by simp [timesynclaw18_TopoPeers.l1])
         | succ k3 =>
          have H := HA.out
          clear HA
          simp only [timesynclaw18_TopoPeers.l1] at H
          by_cases c24 : x37_3 < 10
          ·rw [if_pos c24] at H
           have c24b0 : decide (x37_3 < 10) = true := decide_eq_true c24
           clear c24
           replace H := Option.bind_eq_some_iff.mp H
           obtain ⟨⟨t459, t460, t461⟩, A250, H⟩ := H
           replace H : ((slices_Contains_int_int.f k3 t455 x37_3).bind fun t462 => (if (t461 != t462) = true then (none) else (if t461 = true then ((topo_Peer.f k3 a0_0 l0_1 t459 t460).bind fun bt463 => (if bt463.2.2 = true then (if bt463.1 = x28_2 then (if bt463.2.1 = x37_3 then (if t459 = x28_2 then (none) else (timesynclaw18_TopoPeers.l1 k3 (wrap64 (x3_3 + 1)) x28_2 t455 a0_0 x28_2 (wrap64 (x37_3 + 1)) a0_0 l0_1)) else (none)) else (none)) else (none))) else (timesynclaw18_TopoPeers.l1 k3 x3_3 x28_2 t455 a0_0 x28_2 (wrap64 (x37_3 + 1)) a0_0 l0_1)))) = some r := H
           have A25 := Aside0.mk A250
           clear A250
           replace H := Option.bind_eq_some_iff.mp H
           obtain ⟨t462, A260, H⟩ := H
           replace H : (if (t461 != t462) = true then (none) else (if t461 = true then ((topo_Peer.f k3 a0_0 l0_1 t459 t460).bind fun bt463 => (if bt463.2.2 = true then (if bt463.1 = x28_2 then (if bt463.2.1 = x37_3 then (if t459 = x28_2 then (none) else (timesynclaw18_TopoPeers.l1 k3 (wrap64 (x3_3 + 1)) x28_2 t455 a0_0 x28_2 (wrap64 (x37_3 + 1)) a0_0 l0_1)) else (none)) else (none)) else (none))) else (timesynclaw18_TopoPeers.l1 k3 x3_3 x28_2 t455 a0_0 x28_2 (wrap64 (x37_3 + 1)) a0_0 l0_1))) = some r := H
           have A26 := Aside0.mk A260
           clear A260
           by_cases c27 : (t461 != t462) = true
           ·rw [if_pos c27] at H
            exact absurd H (by simp)
           ·rw [if_neg c27] at H
            have c27b0 : (t461 != t462) = false := by simpa using c27
            (try (have c27b1 : decide (t461 = t462) = true := by simpa using c27))
            (try (have c27b2 : (t461 == t462) = true := by simpa using c27))
            clear c27
            by_cases c28 : t461 = true
            ·subst c28
             have H1 : ((topo_Peer.f k3 a0_0 l0_1 t459 t460).bind fun bt463 => (if bt463.2.2 = true then (if bt463.1 = x28_2 then (if bt463.2.1 = x37_3 then (if t459 = x28_2 then (none) else (timesynclaw18_TopoPeers.l1 k3 (wrap64 (x3_3 + 1)) x28_2 t455 a0_0 x28_2 (wrap64 (x37_3 + 1)) a0_0 l0_1)) else (none)) else (none)) else (none))) = some r := by rw [if_pos rfl] at H; exact H
             clear H
             have H := H1
             clear H1
             replace H := Option.bind_eq_some_iff.mp H
             obtain ⟨⟨t463, t464, t465⟩, A290, H⟩ := H
             replace H : (if t465 = true then (if t463 = x28_2 then (if t464 = x37_3 then (if t459 = x28_2 then (none) else (timesynclaw18_TopoPeers.l1 k3 (wrap64 (x3_3 + 1)) x28_2 t455 a0_0 x28_2 (wrap64 (x37_3 + 1)) a0_0 l0_1)) else (none)) else (none)) else (none)) = some r := H
             have A29 := Aside0.mk A290
             clear A290
             by_cases c30 : t465 = true
             ·subst c30
              have H1 : (if t463 = x28_2 then (if t464 = x37_3 then (if t459 = x28_2 then (none) else (timesynclaw18_TopoPeers.l1 k3 (wrap64 (x3_3 + 1)) x28_2 t455 a0_0 x28_2 (wrap64 (x37_3 + 1)) a0_0 l0_1)) else (none)) else (none)) = some r := by rw [if_pos rfl] at H; exact H
              clear H
              have H := H1
              clear H1
              by_cases c31 : t463 = x28_2
              ·rw [if_pos c31] at H
               have c31b0 : (t463 == x28_2) = true := beq_iff_eq.mpr c31
               have c31b1 : (t463 != x28_2) = false := bne_eq_false_iff_eq.mpr c31
               clear c31
               by_cases c32 : t464 = x37_3
               ·rw [if_pos c32] at H
                have c32b0 : (t464 == x37_3) = true := beq_iff_eq.mpr c32
                have c32b1 : (t464 != x37_3) = false := bne_eq_false_iff_eq.mpr c32
                clear c32
                by_cases c33 : t459 = x28_2
                ·rw [if_pos c33] at H
                 exact absurd H (by simp)
                ·rw [if_neg c33] at H
                 have c33b0 : (t459 == x28_2) = false := beq_eq_false_iff_ne.mpr c33
                 have c33b1 : (t459 != x28_2) = true := bne_iff_ne.mpr c33
                 have H' := Aside0.mk H
                 clear H
                 have hcz34_0 : wr.cell? ⟨gb451, 0, none⟩ = some (.int .i64 a0_0) := (blk_cell BK451.out 0).trans rfl
                 have hcz34_1 : wr.cell? ⟨gb451, 1, none⟩ = some (.slice A0_1 l0_1.length c0_1) := (blk_cell BK451.out 1).trans rfl
                 have hfz34_0 := blk_frozen BK451.out 0
                 have hfz34_1 := blk_frozen BK451.out 1
                 go_wp2_with (first | ((with_reducible refine gate_callee (f := 39) rfl ?_); refine goesL_ (some 44) rfl rfl Try.func39 (by kernel_rfl) rfl #[.agg #[.int .i64 a0_0, .slice A0_1 l0_1.length c0_1], .int .i64 x28_2, .int .i64 x37_3] rfl (by (try simp only [List.map_toArray, List.map_cons, List.map_nil]); first | done | rfl | (simp only [List.length_drop, List.length_take]; rfl)) ?_; (with_reducible refine (topo_Peer.calls k3 a0_0 _ _ l0_1 x28_2 x37_3 t459 t460 true _ ?side1 ?side2 A25.out).mono ?_); (case side1 => repeat (first | exact (Kd.C_below HR0_1.out HB.out) | (with_reducible refine Kd.C_alloc ?_ _) | (with_reducible refine Kd.C_drewN ?_ _) | (with_reducible refine Kd.C_drew ?_))); (case side2 => exact HC0_1.out); rintro e w35 ⟨rfl, hb⟩; refine ⟨_, rfl, ?_⟩; have n0_ := Aside0.mk (Kd.R_below (by (with_reducible repeat (first | apply Kd.R_alloc | apply Kd.R_drewN | apply Kd.R_drew)); exact HO_5.out) hb); have n1_ := Aside0.mk (blk_below (g := gb451) (o := .cells #[.int .i64 a0_0, .slice A0_1 l0_1.length c0_1] 24 (0, 0)) (by (with_reducible repeat (first | refine blk_drewN ?_ _ | refine blk_drew ?_ | refine blk_alloc ?_ _)); exact BK451.out) hb); have n2_ := Aside0.mk (below_step (by repeat (first | (with_reducible first | exact HB.out | apply below_alloc | apply pw_below_drewN | apply below_drew1 | refine below_set ?_ GE451.out) | exact HB.out)) hb); clear HO_5; clear BK451; clear HB; have HO_5 := n0_; have BK451 := n1_; have HB := n2_; clear n0_ n1_ n2_; (try clear hi)) | ((with_reducible refine gate_callee (f := 44) rfl ?_); refine goesL_ (some 51) rfl rfl Try.func44 (by kernel_rfl) rfl #[.slice Ao23 t455.length co23, .int .i64 x37_3] rfl (by (try simp only [List.map_toArray, List.map_cons, List.map_nil]); first | done | rfl | (simp only [List.length_drop, List.length_take]; rfl)) ?_; (with_reducible refine (slices_Contains_int_int.calls k3 _ _ t455 x37_3 t462 _ ?side1 ?side2 A26.out).mono ?_); (case side1 => repeat (first | exact (Kd.R_reads' HO_5.out).2.2 | (with_reducible refine Kd.C_alloc ?_ _) | (with_reducible refine Kd.C_drewN ?_ _) | (with_reducible refine Kd.C_drew ?_))); (case side2 => exact (Kd.R_reads' HO_5.out).2.1); rintro e w' ⟨rfl, ⟨nd, rfl⟩⟩; refine ⟨_, rfl, ?_⟩; have hcz36_0 : w35.cell? ⟨gb451, 0, none⟩ = some (.int .i64 a0_0) := (blk_cell BK451.out 0).trans rfl; have hcz36_1 : w35.cell? ⟨gb451, 1, none⟩ = some (.slice A0_1 l0_1.length c0_1) := (blk_cell BK451.out 1).trans rfl; have hfz36_0 := blk_frozen BK451.out 0; have hfz36_1 := blk_frozen BK451.out 1) | ((with_reducible refine gate_callee (f := 39) rfl ?_); refine goesL_ (some 58) rfl rfl Try.func39 (by kernel_rfl) rfl #[.agg #[.int .i64 a0_0, .slice A0_1 l0_1.length c0_1], .int .i64 t459, .int .i64 t460] rfl (by (try simp only [List.map_toArray, List.map_cons, List.map_nil]); first | done | rfl | (simp only [List.length_drop, List.length_take]; rfl)) ?_; (with_reducible refine (topo_Peer.calls k3 a0_0 _ _ l0_1 t459 t460 t463 t464 true _ ?side1 ?side2 A29.out).mono ?_); (case side1 => repeat (first | exact (Kd.C_below HR0_1.out (by repeat (first | (with_reducible first | exact HB.out | apply below_alloc | apply pw_below_drewN | apply below_drew1 | refine below_set ?_ GE451.out) | exact HB.out))) | (with_reducible refine Kd.C_alloc ?_ _) | (with_reducible refine Kd.C_drewN ?_ _) | (with_reducible refine Kd.C_drew ?_))); (case side2 => exact HC0_1.out); rintro e w37 ⟨rfl, hb⟩; refine ⟨_, rfl, ?_⟩; have n0_ := Aside0.mk (Kd.R_below (by (with_reducible repeat (first | apply Kd.R_alloc | apply Kd.R_drewN | apply Kd.R_drew)); exact HO_5.out) hb); have n1_ := Aside0.mk (blk_below (g := gb451) (o := .cells #[.int .i64 a0_0, .slice A0_1 l0_1.length c0_1] 24 (0, 0)) (by (with_reducible repeat (first | refine blk_drewN ?_ _ | refine blk_drew ?_ | refine blk_alloc ?_ _)); exact BK451.out) hb); have n2_ := Aside0.mk (below_step (by repeat (first | (with_reducible first | exact HB.out | apply below_alloc | apply pw_below_drewN | apply below_drew1 | refine below_set ?_ GE451.out) | exact HB.out)) hb); clear HO_5; clear BK451; clear HB; have HO_5 := n0_; have BK451 := n1_; have HB := n2_; clear n0_ n1_ n2_; (try clear hi)))
                 go_roundg k3
                 case measure => have := HJ1.out; have := HK2.out; have := HK3.out; omega
                 case rel => exact ⟨(wrap64 (x3_3 + 1)), (wrap64 (x37_3 + 1)), (by first | rfl | (simp; done) | (simp [*]; done)), (by first | rfl | (simp; done) | (simp [*]; done)), H', ⟨by have := HJ1.out; have := HK2.out; have := HK3.out; omega⟩, ⟨by exact HO_5.out⟩, ⟨by exact BK451.out⟩, ⟨by exact HB.out⟩⟩
               ·rw [if_neg c32] at H
                exact absurd H (by simp)
              ·rw [if_neg c31] at H
               exact absurd H (by simp)
             ·replace c30 := Bool.eq_false_iff.mpr c30
              subst c30
              have H1 : (none) = some r := by rw [if_neg (show ¬ (false = true) by decide)] at H; exact H
              clear H
              have H := H1
              clear H1
              exact absurd H (by simp)
            ·replace c28 := Bool.eq_false_iff.mpr c28
             subst c28
             have H1 : (timesynclaw18_TopoPeers.l1 k3 x3_3 x28_2 t455 a0_0 x28_2 (wrap64 (x37_3 + 1)) a0_0 l0_1) = some r := by rw [if_neg (show ¬ (false = true) by decide)] at H; exact H
             clear H
             have H := H1
             clear H1
             have H' := Aside0.mk H
             clear H
             have hcz38_0 : wr.cell? ⟨gb451, 0, none⟩ = some (.int .i64 a0_0) := (blk_cell BK451.out 0).trans rfl
             have hcz38_1 : wr.cell? ⟨gb451, 1, none⟩ = some (.slice A0_1 l0_1.length c0_1) := (blk_cell BK451.out 1).trans rfl
             have hfz38_0 := blk_frozen BK451.out 0
             have hfz38_1 := blk_frozen BK451.out 1
             go_wp2_with (first | ((with_reducible refine gate_callee (f := 39) rfl ?_); refine goesL_ (some 44) rfl rfl Try.func39 (by kernel_rfl) rfl #[.agg #[.int .i64 a0_0, .slice A0_1 l0_1.length c0_1], .int .i64 x28_2, .int .i64 x37_3] rfl (by (try simp only [List.map_toArray, List.map_cons, List.map_nil]); first | done | rfl | (simp only [List.length_drop, List.length_take]; rfl)) ?_; (with_reducible refine (topo_Peer.calls k3 a0_0 _ _ l0_1 x28_2 x37_3 t459 t460 false _ ?side1 ?side2 A25.out).mono ?_); (case side1 => repeat (first | exact (Kd.C_below HR0_1.out HB.out) | (with_reducible refine Kd.C_alloc ?_ _) | (with_reducible refine Kd.C_drewN ?_ _) | (with_reducible refine Kd.C_drew ?_))); (case side2 => exact HC0_1.out); rintro e w39 ⟨rfl, hb⟩; refine ⟨_, rfl, ?_⟩; have n0_ := Aside0.mk (Kd.R_below (by (with_reducible repeat (first | apply Kd.R_alloc | apply Kd.R_drewN | apply Kd.R_drew)); exact HO_5.out) hb); have n1_ := Aside0.mk (blk_below (g := gb451) (o := .cells #[.int .i64 a0_0, .slice A0_1 l0_1.length c0_1] 24 (0, 0)) (by (with_reducible repeat (first | refine blk_drewN ?_ _ | refine blk_drew ?_ | refine blk_alloc ?_ _)); exact BK451.out) hb); have n2_ := Aside0.mk (below_step (by repeat (first | (with_reducible first | exact HB.out | apply below_alloc | apply pw_below_drewN | apply below_drew1 | refine below_set ?_ GE451.out) | exact HB.out)) hb); clear HO_5; clear BK451; clear HB; have HO_5 := n0_; have BK451 := n1_; have HB := n2_; clear n0_ n1_ n2_; (try clear hi)) | ((with_reducible refine gate_callee (f := 44) rfl ?_); refine goesL_ (some 51) rfl rfl Try.func44 (by kernel_rfl) rfl #[.slice Ao23 t455.length co23, .int .i64 x37_3] rfl (by (try simp only [List.map_toArray, List.map_cons, List.map_nil]); first | done | rfl | (simp only [List.length_drop, List.length_take]; rfl)) ?_; (with_reducible refine (slices_Contains_int_int.calls k3 _ _ t455 x37_3 t462 _ ?side1 ?side2 A26.out).mono ?_); (case side1 => repeat (first | exact (Kd.R_reads' HO_5.out).2.2 | (with_reducible refine Kd.C_alloc ?_ _) | (with_reducible refine Kd.C_drewN ?_ _) | (with_reducible refine Kd.C_drew ?_))); (case side2 => exact (Kd.R_reads' HO_5.out).2.1); rintro e w' ⟨rfl, ⟨nd, rfl⟩⟩; refine ⟨_, rfl, ?_⟩))
             go_roundg k3
             case measure => have := HJ1.out; have := HK2.out; have := HK3.out; omega
             case rel => exact ⟨(x3_3), (wrap64 (x37_3 + 1)), (by first | rfl | (simp; done) | (simp [*]; done)), (by first | rfl | (simp; done) | (simp [*]; done)), H', ⟨by have := HJ1.out; have := HK2.out; have := HK3.out; omega⟩, ⟨by (with_reducible repeat (first | apply Kd.R_alloc | apply Kd.R_drewN | apply Kd.R_drew)); exact HO_5.out⟩, ⟨by (with_reducible repeat (first | refine blk_drewN ?_ _ | refine blk_drew ?_ | refine blk_alloc ?_ _)); exact BK451.out⟩, ⟨by repeat (first | (with_reducible first | exact HB.out | apply below_alloc | apply pw_below_drewN | apply below_drew1 | refine below_set ?_ GE451.out) | exact HB.out)⟩⟩
          ·rw [if_neg c24] at H
           have c24b0 : decide (x37_3 < 10) = false := decide_eq_false c24
           clear c24
           have H' := Aside0.mk H
           clear H
           go_wp2
           go_roundg k3
           case measure => have := HJ1.out; have := HK2.out; have := HK3.out; omega
           case rel => exact ⟨(x3_3), (wrap64 (x28_2 + 1)), (by first | rfl | (simp; done) | (simp [*]; done)), (by first | rfl | (simp; done) | (simp [*]; done)), H', ⟨by have := HJ1.out; have := HK2.out; have := HK3.out; omega⟩, ⟨by exact BK451.out⟩, ⟨by exact HB.out⟩⟩
       ·replace c20 := Bool.eq_false_iff.mpr c20
        subst c20
        have H1 : (none) = some r := by rw [if_neg (show ¬ (false = true) by decide)] at H; exact H
        clear H
        have H := H1
        clear H1
        exact absurd H (by simp)
      ·rw [if_neg c17] at H
       have c17b0 : decide (x28_2 < a0_0) = false := decide_eq_false c17
       clear c17
       have H' := Aside0.mk H
       clear H
       have hcz40_0 : wr.cell? ⟨gb451, 0, none⟩ = some (.int .i64 a0_0) := (blk_cell BK451.out 0).trans rfl
       have hcz40_1 : wr.cell? ⟨gb451, 1, none⟩ = some (.slice A0_1 l0_1.length c0_1) := (blk_cell BK451.out 1).trans rfl
       have hfz40_0 := blk_frozen BK451.out 0
       have hfz40_1 := blk_frozen BK451.out 1
       go_wp2
       go_loopg [86] k2 (fun kq v86 w' => ∃ (x86_3 : Int), v86 = .int .i64 x86_3 ∧ Aside0 (timesynclaw18_TopoPeers.l2 kq x3_2 l0_1 (l0_1.length : Int) x86_3 a0_0 l0_1 = some r) ∧ Aside0 (kq ≤ k2) ∧ Aside0 (w'.heap[gb451]? = some (.cells #[.int .i64 a0_0, (.slice A0_1 l0_1.length c0_1)] 24 (0, 0))) ∧ Aside0 (Below w.heap.size w w'))
       case atStart => exact ⟨(0), (by first | rfl | (simp; done) | (simp [*]; done)), H', ⟨Nat.le_refl _⟩, ⟨by exact BK451.out⟩, ⟨by exact HB.out⟩⟩
       case round =>
        clear H'





































































        obtain ⟨x86_3, rfl, HA, HK3, BK451, HB⟩ := hrel
        cases gk with
        | zero => exact absurd HA.out (by simp [timesynclaw18_TopoPeers.l2])
        | succ k3 =>
         have H := HA.out
         clear HA
         simp only [timesynclaw18_TopoPeers.l2] at H
         by_cases c41 : x86_3 < (l0_1.length : Int)
         ·rw [if_pos c41] at H
          have c41b0 : decide (x86_3 < (l0_1.length : Int)) = true := decide_eq_true c41
          clear c41
          by_cases c42 : 0 ≤ x86_3
          ·rw [if_pos c42] at H
           have c42b0 : decide (0 ≤ x86_3) = true := decide_eq_true c42
           clear c42
           by_cases c43 : x86_3 < (l0_1.length : Int)
           ·rw [if_pos c43] at H
            have c43b0 : decide (x86_3 < (l0_1.length : Int)) = true := decide_eq_true c43
            clear c43
            replace H := Option.bind_eq_some_iff.mp H
            obtain ⟨⟨t468, t469, t470⟩, A440, H⟩ := H
            replace H : (if t470 = true then (if t468 = ((rd_T37 l0_1 x86_3).f2) then (if t469 = ((rd_T37 l0_1 x86_3).f3) then (timesynclaw18_TopoPeers.l2 k3 x3_2 l0_1 (l0_1.length : Int) (wrap64 (x86_3 + 1)) a0_0 l0_1) else (none)) else (none)) else (none)) = some r := H
            have A44 := Aside0.mk A440
            clear A440
            by_cases c45 : t470 = true
            ·subst c45
             have H1 : (if t468 = ((rd_T37 l0_1 x86_3).f2) then (if t469 = ((rd_T37 l0_1 x86_3).f3) then (timesynclaw18_TopoPeers.l2 k3 x3_2 l0_1 (l0_1.length : Int) (wrap64 (x86_3 + 1)) a0_0 l0_1) else (none)) else (none)) = some r := by rw [if_pos rfl] at H; exact H
             clear H
             have H := H1
             clear H1
             by_cases c46 : t468 = ((rd_T37 l0_1 x86_3).f2)
             ·rw [if_pos c46] at H
              have c46b0 : (t468 == ((rd_T37 l0_1 x86_3).f2)) = true := beq_iff_eq.mpr c46
              have c46b1 : (t468 != ((rd_T37 l0_1 x86_3).f2)) = false := bne_eq_false_iff_eq.mpr c46
              clear c46
              by_cases c47 : t469 = ((rd_T37 l0_1 x86_3).f3)
              ·rw [if_pos c47] at H
               have c47b0 : (t469 == ((rd_T37 l0_1 x86_3).f3)) = true := beq_iff_eq.mpr c47
               have c47b1 : (t469 != ((rd_T37 l0_1 x86_3).f3)) = false := bne_eq_false_iff_eq.mpr c47
               clear c47
               have H' := Aside0.mk H
               clear H
               have p466 : 0 ≤ (x86_3 : Int) := of_decide_eq_true (by first | (with_reducible assumption) | assumption)
               have q466 : x86_3 < (l0_1.length : Int) := of_decide_eq_true (by first | (with_reducible assumption) | assumption)
               obtain ⟨ad466, e466, hx466_0, hx466_1, hx466_2, hx466_3⟩ := at_T37 HR0_1.out x86_3 p466 q466
               cases e466
               try replace hx466_0 := (HB.out.cell (World.block_lt_of_cell? w _ hx466_0)).trans hx466_0
               try replace hx466_1 := (HB.out.cell (World.block_lt_of_cell? w _ hx466_1)).trans hx466_1
               try replace hx466_2 := (HB.out.cell (World.block_lt_of_cell? w _ hx466_2)).trans hx466_2
               try replace hx466_3 := (HB.out.cell (World.block_lt_of_cell? w _ hx466_3)).trans hx466_3
               replace p466 := eq_true p466
               replace q466 := eq_true q466
               go_wp2_with (first | ((with_reducible refine gate_dst (N := 14) rfl ?_); refine box_event ?hg (N := 14) ?hd (cs := #[.int .i64 0, .int .i64 0, .int .i64 0, .int .i64 0]) (t := 37) ?hr ?_; (case hd => rfl); (case hg => rfl); (case hr => first | (go_simp; done) | (go_simp; rfl)); intro gb467 hg w48 hbox hb; have n0_ := Aside0.mk (blk_below (g := gb451) (o := .cells #[.int .i64 a0_0, .slice (some ad466) l0_1.length c0_1] 24 (0, 0)) (by (with_reducible repeat (first | refine blk_drewN ?_ _ | refine blk_drew ?_ | refine blk_alloc ?_ _)); exact BK451.out) hb); have n1_ := Aside0.mk (below_step (by repeat (first | (with_reducible first | exact HB.out | apply below_alloc | apply pw_below_drewN | apply below_drew1 | refine below_set ?_ GE451.out) | exact HB.out)) hb); have n2_ := Aside0.mk (hbox); have n3_ := Aside0.mk ((by rw [hg]; exact (below_size (by repeat (first | (with_reducible first | exact HB.out | apply below_alloc | apply pw_below_drewN | apply below_drew1 | refine below_set ?_ GE451.out) | exact HB.out))) : w.heap.size ≤ gb467)); have n4_ := Aside0.mk ((by rw [hg]; exact (below_size (by repeat (first | (with_reducible first | exact HB.out | apply below_alloc | apply pw_below_drewN | apply below_drew1 | refine below_set ?_ GE451.out) | exact HB.out))) : w.heap.size ≤ gb467)); have n5_ := Aside0.mk ((by rw [hg]; exact Nat.ne_of_lt (blk_lt (g := gb451) (o := .cells #[.int .i64 a0_0, .slice (some ad466) l0_1.length c0_1] 24 (0, 0)) (by (with_reducible repeat (first | refine blk_drewN ?_ _ | refine blk_drew ?_ | refine blk_alloc ?_ _)); exact BK451.out)) : gb451 ≠ gb467)); have n6_ := Aside0.mk ((by rw [hg]; exact Nat.ne_of_gt (blk_lt (g := gb451) (o := .cells #[.int .i64 a0_0, .slice (some ad466) l0_1.length c0_1] 24 (0, 0)) (by (with_reducible repeat (first | refine blk_drewN ?_ _ | refine blk_drew ?_ | refine blk_alloc ?_ _)); exact BK451.out)) : gb467 ≠ gb451)); clear BK451; clear HB; have BK451 := n0_; have HB := n1_; have BK467 := n2_; have GW467 := n3_; have GE467 := n4_; have NB451_467 := n5_; have NB467_451 := n6_; clear n0_ n1_ n2_ n3_ n4_ n5_ n6_; clear hb hbox hg; have hnb49 := NB467_451.out; have hnc49 := NB451_467.out; have hcz50_0 : w48.cell? ⟨gb467, 0, none⟩ = some (.int .i64 0) := (blk_cell BK467.out 0).trans rfl; have hcz50_1 : w48.cell? ⟨gb467, 1, none⟩ = some (.int .i64 0) := (blk_cell BK467.out 1).trans rfl; have hcz50_2 : w48.cell? ⟨gb467, 2, none⟩ = some (.int .i64 0) := (blk_cell BK467.out 2).trans rfl; have hcz50_3 : w48.cell? ⟨gb467, 3, none⟩ = some (.int .i64 0) := (blk_cell BK467.out 3).trans rfl; have hfz50_0 := blk_frozen BK467.out 0; have hfz50_1 := blk_frozen BK467.out 1; have hfz50_2 := blk_frozen BK467.out 2; have hfz50_3 := blk_frozen BK467.out 3; have hcz51_0 : w48.cell? ⟨gb451, 0, none⟩ = some (.int .i64 a0_0) := (blk_cell BK451.out 0).trans rfl; have hcz51_1 : w48.cell? ⟨gb451, 1, none⟩ = some (.slice (some ad466) l0_1.length c0_1) := (blk_cell BK451.out 1).trans rfl; have hfz51_0 := blk_frozen BK451.out 0; have hfz51_1 := blk_frozen BK451.out 1) | ((with_reducible refine gate_callee (f := 39) rfl ?_); refine goesL_ (some 96) rfl rfl Try.func39 (by kernel_rfl) rfl #[.agg #[.int .i64 a0_0, .slice (some ad466) l0_1.length c0_1], .int .i64 ((rd_T37 l0_1 x86_3).f0), .int .i64 ((rd_T37 l0_1 x86_3).f1)] rfl (by (try simp only [List.map_toArray, List.map_cons, List.map_nil]); first | done | rfl | (simp only [List.length_drop, List.length_take]; rfl)) ?_; (with_reducible refine (topo_Peer.calls k3 a0_0 _ _ l0_1 ((rd_T37 l0_1 x86_3).f0) ((rd_T37 l0_1 x86_3).f1) t468 t469 true _ ?side1 ?side2 A44.out).mono ?_); (case side1 => exact Kd.C_below HR0_1.out (by repeat (first | (with_reducible first | exact HB.out | apply below_alloc | apply pw_below_drewN | apply below_drew1 | refine below_set ?_ GE451.out | refine below_set ?_ GE467.out) | exact HB.out))); (case side2 => exact HC0_1.out); rintro e w52 ⟨rfl, hb⟩; refine ⟨_, rfl, ?_⟩; have n0_ := Aside0.mk (blk_below (g := gb451) (o := .cells #[.int .i64 a0_0, .slice (some ad466) l0_1.length c0_1] 24 (0, 0)) (by (with_reducible repeat (first | refine blk_drewN ?_ _ | refine blk_drew ?_ | refine blk_alloc ?_ _)); refine blk_far ?_ NB451_467.out _; (with_reducible repeat (first | refine blk_drewN ?_ _ | refine blk_drew ?_ | refine blk_alloc ?_ _)); refine blk_far ?_ NB451_467.out _; (with_reducible repeat (first | refine blk_drewN ?_ _ | refine blk_drew ?_ | refine blk_alloc ?_ _)); refine blk_far ?_ NB451_467.out _; (with_reducible repeat (first | refine blk_drewN ?_ _ | refine blk_drew ?_ | refine blk_alloc ?_ _)); refine blk_far ?_ NB451_467.out _; (with_reducible repeat (first | refine blk_drewN ?_ _ | refine blk_drew ?_ | refine blk_alloc ?_ _)); exact BK451.out) hb); have n1_ := Aside0.mk (blk_below (g := gb467) (o := .cells #[.int .i64 ((rd_T37 l0_1 x86_3).f0), .int .i64 ((rd_T37 l0_1 x86_3).f1), .int .i64 ((rd_T37 l0_1 x86_3).f2), .int .i64 ((rd_T37 l0_1 x86_3).f3)] 37 (0, 0)) (by (with_reducible repeat (first | refine blk_drewN ?_ _ | refine blk_drew ?_ | refine blk_alloc ?_ _)); refine blk_put (cs := #[.int .i64 ((rd_T37 l0_1 x86_3).f0), .int .i64 ((rd_T37 l0_1 x86_3).f1), .int .i64 ((rd_T37 l0_1 x86_3).f2), .int .i64 0]) ?_ 3 _ rfl; (with_reducible repeat (first | refine blk_drewN ?_ _ | refine blk_drew ?_ | refine blk_alloc ?_ _)); refine blk_put (cs := #[.int .i64 ((rd_T37 l0_1 x86_3).f0), .int .i64 ((rd_T37 l0_1 x86_3).f1), .int .i64 0, .int .i64 0]) ?_ 2 _ rfl; (with_reducible repeat (first | refine blk_drewN ?_ _ | refine blk_drew ?_ | refine blk_alloc ?_ _)); refine blk_put (cs := #[.int .i64 ((rd_T37 l0_1 x86_3).f0), .int .i64 0, .int .i64 0, .int .i64 0]) ?_ 1 _ rfl; (with_reducible repeat (first | refine blk_drewN ?_ _ | refine blk_drew ?_ | refine blk_alloc ?_ _)); refine blk_put (cs := #[.int .i64 0, .int .i64 0, .int .i64 0, .int .i64 0]) ?_ 0 _ rfl; (with_reducible repeat (first | refine blk_drewN ?_ _ | refine blk_drew ?_ | refine blk_alloc ?_ _)); exact BK467.out) hb); have n2_ := Aside0.mk (below_step (by repeat (first | (with_reducible first | exact HB.out | apply below_alloc | apply pw_below_drewN | apply below_drew1 | refine below_set ?_ GE451.out | refine below_set ?_ GE467.out) | exact HB.out)) hb); clear BK451; clear BK467; clear HB; have BK451 := n0_; have BK467 := n1_; have HB := n2_; clear n0_ n1_ n2_; have hcz53_0 : w52.cell? ⟨gb467, 0, none⟩ = some (.int .i64 ((rd_T37 l0_1 x86_3).f0)) := (blk_cell BK467.out 0).trans rfl; have hcz53_1 : w52.cell? ⟨gb467, 1, none⟩ = some (.int .i64 ((rd_T37 l0_1 x86_3).f1)) := (blk_cell BK467.out 1).trans rfl; have hcz53_2 : w52.cell? ⟨gb467, 2, none⟩ = some (.int .i64 ((rd_T37 l0_1 x86_3).f2)) := (blk_cell BK467.out 2).trans rfl; have hcz53_3 : w52.cell? ⟨gb467, 3, none⟩ = some (.int .i64 ((rd_T37 l0_1 x86_3).f3)) := (blk_cell BK467.out 3).trans rfl; have hfz53_0 := blk_frozen BK467.out 0; have hfz53_1 := blk_frozen BK467.out 1; have hfz53_2 := blk_frozen BK467.out 2; have hfz53_3 := blk_frozen BK467.out 3))
               go_roundg k3
               case measure => have := HJ1.out; have := HK2.out; have := HK3.out; omega
               case rel => exact ⟨(wrap64 (x86_3 + 1)), (by first | rfl | (simp; done) | (simp [*]; done)), H', ⟨by have := HJ1.out; have := HK2.out; have := HK3.out; omega⟩, ⟨by exact BK451.out⟩, ⟨by exact HB.out⟩⟩
              ·rw [if_neg c47] at H
               exact absurd H (by simp)
             ·rw [if_neg c46] at H
              exact absurd H (by simp)
            ·replace c45 := Bool.eq_false_iff.mpr c45
             subst c45
             have H1 : (none) = some r := by rw [if_neg (show ¬ (false = true) by decide)] at H; exact H
             clear H
             have H := H1
             clear H1
             exact absurd H (by simp)
           ·rw [if_neg c43] at H
            exact absurd H (by simp)
          ·rw [if_neg c42] at H
           exact absurd H (by simp)
         ·rw [if_neg c41] at H
          have c41b0 : decide (x86_3 < (l0_1.length : Int)) = false := decide_eq_false c41
          clear c41
          by_cases c54 : x3_2 = (wrap64 (2 * (l0_1.length : Int)))
          ·rw [if_pos c54] at H
           have c54b0 : (x3_2 == (wrap64 (2 * (l0_1.length : Int)))) = true := beq_iff_eq.mpr c54
           have c54b1 : (x3_2 != (wrap64 (2 * (l0_1.length : Int)))) = false := bne_eq_false_iff_eq.mpr c54
           clear c54
           replace H := Option.bind_eq_some_iff.mp H
           obtain ⟨t471, A550, H⟩ := H
           replace H : (some t471) = some r := H
           have A55 := Aside0.mk A550
           clear A550
           obtain rfl := Option.some.inj H
           have hcz56_0 : wr.cell? ⟨gb451, 0, none⟩ = some (.int .i64 a0_0) := (blk_cell BK451.out 0).trans rfl
           have hcz56_1 : wr.cell? ⟨gb451, 1, none⟩ = some (.slice A0_1 l0_1.length c0_1) := (blk_cell BK451.out 1).trans rfl
           have hfz56_0 := blk_frozen BK451.out 0
           have hfz56_1 := blk_frozen BK451.out 1
           go_wp2_with (first | (go_at_call 16; (with_reducible refine (timesynclaw18_awake.calls k3  t471 _ A55.out).mono ?_); rintro e w57 ⟨rfl, hb⟩; have n0_ := Aside0.mk (blk_below (g := gb451) (o := .cells #[.int .i64 a0_0, .slice A0_1 l0_1.length c0_1] 24 (0, 0)) (by exact BK451.out) hb); have n1_ := Aside0.mk (below_step (by exact HB.out) hb); clear BK451; clear HB; have BK451 := n0_; have HB := n1_; clear n0_ n1_; (try clear hi)))
           go_ret
           exact ⟨by first | rfl | (simp [errW_none, errW_some] <;> rfl) | (simp [*, errW_none, errW_some] <;> rfl), by exact HB.out⟩
          ·rw [if_neg c54] at H
           exact absurd H (by simp)

end Go.Proofs.Ythkpnkmbmlbefaa.X

namespace Go.Proofs.Ythkpnkmbmlbefaa.X
open Go.RowKit Go.Proofs.YthkpnkmbmlbefaaW.PrintWords Go.Proofs.YthkpnkmbmlbefaaW.PrintLast Go.Proofs.YthkpnkmbmlbefaaW.PrintMore
attribute [local go_sem] max2_int min2_int max_two min_two max_three min_three max_four min_four   -- for this text's walks alone
set_option linter.unusedVariables false
set_option linter.unusedSimpArgs false

def WFi64 (x : Int) : Prop := (Lit.int .i64 x).wf = true
def WF37 (x : S37) : Prop := WFi64 x.f0 ∧ WFi64 x.f1 ∧ WFi64 x.f2 ∧ WFi64 x.f3
def WFL37 (x : List (S37)) : Prop := x.length ≤ 9223372036854775807 ∧ ∀ y ∈ x, WF37 y
def WF24 (x : S24) : Prop := WFi64 x.f0 ∧ WFL37 x.f1
end Go.Proofs.Ythkpnkmbmlbefaa.X

/- Plain words of this seat: rounds, wrapped numbers, lists by index; the check of graphs: the program's and the reference's tell the same. -/
namespace Go.Proofs.Ythkpnkmbmlbefaa.PB
open Go.RowKit Go.Proofs.Ythkpnkmbmlbefaa.X Go.Proofs.YthkpnkmbmlbefaaW.PrintWords Go.Proofs.YthkpnkmbmlbefaaW.PrintLast

section
variable {α β : Type} {f g h : Nat → Option α} {r : α} {c : Prop} [Decidable c]
theorem Ev.pos (hc : c) (h : Ev f r) : Ev (fun n => if c then f n else g n) r := Ev.congr (fun _ => if_pos hc) h
theorem Ev.neg (hc : ¬ c) (h : Ev g r) : Ev (fun n => if c then f n else g n) r := Ev.congr (fun _ => if_neg hc) h
theorem Ev.ite_ (h1 : c → Ev f r) (h2 : ¬ c → Ev g r) : Ev (fun n => if c then f n else g n) r := by
  by_cases hc : c
  · exact Ev.pos hc (h1 hc)
  · exact Ev.neg hc (h2 hc)
theorem Ev.bind' {g : Nat → Option α} {f : Nat → α → Option β} {r : β} (a : α) (h : Ev g a) (k : Ev (fun n => f n a) r) : Ev (fun n => (g n).bind (f n)) r := Ev.bind h k
theorem Ev.some_bind {f : Nat → α → Option β} {a : α} {r : β} (k : Ev (fun n => f n a) r) : Ev (fun n => (some a).bind (f n)) r := k
theorem Ev.const {x : Option α} (h : x = some r) : Ev (fun _ => x) r := ⟨0, fun _ _ => h⟩
theorem Ev.uniq {r r' : α} (h : Ev f r) (h' : Ev f r') : r = r' := by
  obtain ⟨K, h⟩ := h
  obtain ⟨K', h'⟩ := h'
  have h1 := h (max K K') (by omega)
  have h2 := h' (max K K') (by omega)
  rw [h1] at h2
  exact Option.some.inj h2
end
theorem wrap_id {x : Int} (h0 : -9223372036854775808 ≤ x) (h1 : x < 9223372036854775808) : wrap64 x = x := by
  unfold wrap64; omega
theorem wrap_nat {i : Nat} (h : i < 9223372036854775807) : wrap64 ((i : Int) + 1) = ((i + 1 : Nat) : Int) := by
  rw [wrap_id (by omega) (by omega)]; rfl
theorem rd37 (l : List S37) (i : Nat) : rd_T37 l (i : Int) = l.getD i z37 := by simp [rd_T37]
theorem rdI (l : List Int) (i : Nat) : rd l (i : Int) = l.getD i 0 := by simp [rd]
theorem rdL3 (l : List (List Int)) (i : Nat) : rd_L3 l (i : Int) = l.getD i [] := by simp [rd_L3]

/-! ### Rows of numbers alike -/
theorem eq_from (x y : List Int) (hx : x.length < 9223372036854775807) (he : x.length = y.length) : ∀ d i, i + d = x.length → Ev (fun k => slices_Equal_int_int.l0 k x y x.length i) (decide (x.drop i = y.drop i)) := by
  intro d
  induction d with
  | zero =>
    intro i hi
    refine Ev.step (fun k => by rw [slices_Equal_int_int.l0]) ?_
    refine Ev.neg (by omega) (Ev.const ?_)
    rw [List.drop_of_length_le (by omega), List.drop_of_length_le (by omega)]
    simp
  | succ d ih =>
    intro i hi
    refine Ev.step (fun k => by rw [slices_Equal_int_int.l0]) ?_
    refine Ev.pos (by omega) (Ev.pos (by omega) (Ev.pos (by omega) (Ev.pos (by omega) ?_)))
    rw [rdI, rdI]
    have e1 : x.drop i = x.getD i 0 :: x.drop (i + 1) := by
      rw [List.drop_eq_getElem_cons (by omega)]; simp [List.getD, show i < x.length by omega]
    have e2 : y.drop i = y.getD i 0 :: y.drop (i + 1) := by
      rw [List.drop_eq_getElem_cons (by omega)]; simp [List.getD, show i < y.length by omega]
    refine Ev.ite_ (fun h => ?_) (fun h => Ev.const ?_)
    · rw [wrap_nat (by omega), e1, e2]
      have := ih (i + 1) (by omega)
      rw [h]
      simp only [List.cons.injEq, true_and]
      exact this
    · rw [e1, e2]
      have : ¬ (x.getD i 0 :: x.drop (i + 1) = y.getD i 0 :: y.drop (i + 1)) := fun q => h (by injection q)
      simp only [this, decide_false]
theorem eq_ints (x y : List Int) (hx : x.length < 9223372036854775807) : Ev (fun k => slices_Equal_int_int.f k x y) (decide (x = y)) := by
  unfold slices_Equal_int_int.f
  refine Ev.ite_ (fun h => ?_) (fun h => Ev.const ?_)
  · have he : x.length = y.length := by omega
    have := eq_from x y hx he x.length 0 (by omega)
    simpa using this
  · have : ¬ x = y := fun e => h (by rw [e])
    simp [this]

/-! ### Check -/
/-- An edge with its ends within the limits. -/
def OkE (a : Int) (e : S37) : Prop := 0 ≤ e.f0 ∧ e.f0 < a ∧ 0 ≤ e.f2 ∧ e.f2 < a ∧ 1 ≤ e.f1 ∧ e.f1 ≤ 8 ∧ 1 ≤ e.f3 ∧ e.f3 ≤ 8
instance (a : Int) (e : S37) : Decidable (OkE a e) := by unfold OkE; infer_instance
def hasEnd (e : S37) (q : Int × Int) : Prop := (e.f0 = q.1 ∧ e.f1 = q.2) ∨ (e.f2 = q.1 ∧ e.f3 = q.2)
instance (e : S37) (q : Int × Int) : Decidable (hasEnd e q) := by unfold hasEnd; infer_instance
/-- One of the n edges from j on has this end. -/
def usedFrom (l : List S37) (q : Int × Int) : Nat → Nat → Bool
  | 0, _ => false
  | d + 1, j => if hasEnd (l.getD j z37) q then true else usedFrom l q d (j + 1)
def chkFrom (a : Int) (l : List S37) : Nat → Nat → Int
  | 0, _ => 0
  | d + 1, i => if OkE a (l.getD i z37) then (if (l.getD i z37).f0 = (l.getD i z37).f2 then 18 else if usedFrom l ((l.getD i z37).f0, (l.getD i z37).f1) i 0 = true then 10 else if usedFrom l ((l.getD i z37).f2, (l.getD i z37).f3) i 0 = true then 10 else chkFrom a l d (i + 1)) else 3
def chk (a : Int) (l : List S37) : Int := if a < 1 ∨ a > 24 then 3 else if (l.length : Int) > 64 then 6 else chkFrom a l l.length 0
theorem usedFrom_iff (l : List S37) (q : Int × Int) : ∀ d j, usedFrom l q d j = true ↔ ∃ i, j ≤ i ∧ i < j + d ∧ hasEnd (l.getD i z37) q
  | 0, j => by simp [usedFrom]; omega
  | d + 1, j => by
    unfold usedFrom
    by_cases h : hasEnd (l.getD j z37) q
    · rw [if_pos h]
      exact ⟨fun _ => ⟨j, by omega, by omega, h⟩, fun _ => rfl⟩
    · rw [if_neg h, usedFrom_iff l q d (j + 1)]
      constructor
      · rintro ⟨i, h1, h2, h3⟩; exact ⟨i, by omega, by omega, h3⟩
      · rintro ⟨i, h1, h2, h3⟩
        refine ⟨i, ?_, by omega, h3⟩
        rcases Nat.lt_or_ge j i with q | q
        · omega
        · obtain rfl : i = j := by omega
          exact absurd h3 h
theorem impl_from (a : Int) (l : List S37) (hn : l.length ≤ 64) : ∀ d i ks, i + d = l.length → (∀ q, q ∈ ks ↔ usedFrom l q i 0 = true) → Ev (fun k => topo_Check.l0 k l i a ks) (chkFrom a l d i) := by
  intro d
  induction d with
  | zero =>
    intro i ks hi _
    refine Ev.step (fun k => by rw [topo_Check.l0]) ?_
    exact Ev.neg (by omega) (Ev.const rfl)
  | succ d ih =>
    intro i ks hi hks
    refine Ev.step (fun k => by rw [topo_Check.l0]) ?_
    refine Ev.pos (by omega) (Ev.pos (by omega) (Ev.pos (by omega) ?_))
    rw [rd37]
    unfold topo_ends.f
    refine Ev.some_bind ?_
    dsimp only
    have hnext := ih (i + 1) ((((l.getD i z37).f2, (l.getD i z37).f3)) :: ((l.getD i z37).f0, (l.getD i z37).f1) :: ks) (by omega) (fun q => by
      rw [usedFrom_iff]
      simp only [List.mem_cons]
      rw [hks q, usedFrom_iff]
      constructor
      · rintro (h | h | ⟨j, h1, h2, h3⟩)
        · exact ⟨i, by omega, by omega, .inr (by rw [h]; exact ⟨rfl, rfl⟩)⟩
        · exact ⟨i, by omega, by omega, .inl (by rw [h]; exact ⟨rfl, rfl⟩)⟩
        · exact ⟨j, by omega, by omega, h3⟩
      · rintro ⟨j, h1, h2, h3⟩
        by_cases hj : j = i
        · subst hj
          rcases h3 with ⟨h3, h4⟩ | ⟨h3, h4⟩
          · exact .inr (.inl (by rw [h3, h4]))
          · exact .inl (by rw [h3, h4])
        · exact .inr (.inr ⟨j, h1, by omega, h3⟩))
    have k1 := hks ((l.getD i z37).f0, (l.getD i z37).f1)
    have k2 := hks ((l.getD i z37).f2, (l.getD i z37).f3)
    unfold chkFrom
    generalize l.getD i z37 = e at *
    have bad : ¬ OkE a e → ∀ r : Int, Ev (fun _ : Nat => some 3) (if OkE a e then r else 3) := fun h r => by rw [if_neg h]; exact Ev.const rfl
    refine Ev.step (fun k => by rw [topo_Check.l1]) ?_
    refine Ev.pos rfl (Ev.ite_ (fun h1 => bad (by unfold OkE; omega) _) (fun h1 => Ev.ite_ (fun h2 => bad (by unfold OkE; omega) _) (fun h2 => Ev.ite_ (fun h3 => bad (by unfold OkE; omega) _) (fun h3 => Ev.ite_ (fun h4 => bad (by unfold OkE; omega) _) (fun h4 => ?_)))))
    refine Ev.step (fun k => by rw [topo_Check.l1]) ?_
    refine Ev.neg (by decide) (Ev.pos rfl (Ev.ite_ (fun h5 => bad (by unfold OkE; omega) _) (fun h5 => Ev.ite_ (fun h6 => bad (by unfold OkE; omega) _) (fun h6 => Ev.ite_ (fun h7 => bad (by unfold OkE; omega) _) (fun h7 => Ev.ite_ (fun h8 => bad (by unfold OkE; omega) _) (fun h8 => ?_))))))
    refine Ev.step (fun k => by rw [topo_Check.l1]) ?_
    refine Ev.neg (by decide) (Ev.neg (by decide) ?_)
    rw [if_pos (by unfold OkE; omega)]
    refine Ev.ite_ (fun h9 => ?_) (fun h9 => ?_)
    · rw [if_pos h9]; exact Ev.const rfl
    · rw [if_neg h9]
      refine Ev.ite_ (fun h10 => ?_) (fun h10 => ?_)
      · rw [if_pos (k1.1 h10)]; exact Ev.const rfl
      · rw [if_neg (fun q => h10 (k1.2 q))]
        refine Ev.ite_ (fun h11 => ?_) (fun h11 => ?_)
        · rw [if_pos (k2.1 h11)]; exact Ev.const rfl
        · rw [if_neg (fun q => h11 (k2.2 q)), wrap_nat (by omega)]
          exact hnext
theorem impl_check (a : Int) (l : List S37) : Ev (fun k => topo_Check.f k a l) (chk a l) := by
  unfold topo_Check.f chk
  refine Ev.ite_ (fun h => ?_) (fun h => ?_)
  · rw [if_pos (.inl h)]
    refine Ev.step (fun k => by rw [topo_Check.j0]) ?_
    exact Ev.pos rfl (Ev.const rfl)
  · refine Ev.step (fun k => by rw [topo_Check.j0]) ?_
    refine Ev.ite_ (fun h1 => ?_) (fun h1 => ?_)
    · rw [if_pos (.inr (of_decide_eq_true h1))]; exact Ev.const rfl
    · have h1' : ¬ a > 24 := by simpa using h1
      rw [if_neg (by omega)]
      refine Ev.pos (by omega) (Ev.ite_ (fun h2 => ?_) (fun h2 => ?_))
      · rw [if_pos h2]; exact Ev.const rfl
      · rw [if_neg h2]
        exact impl_from a l (by omega) l.length 0 [] (by omega) (fun q => by simp [usedFrom])
end Go.Proofs.Ythkpnkmbmlbefaa.PB

/- Distances in a graph, as the chapter's rules determine them; the search in waves, the reference's rounds, and the way down give what they determine. -/
namespace Go.Proofs.Ythkpnkmbmlbefaa.PB
open Go.RowKit Go.Proofs.Ythkpnkmbmlbefaa Go.Proofs.Ythkpnkmbmlbefaa.X Go.Proofs.YthkpnkmbmlbefaaW.PrintWords Go.Proofs.YthkpnkmbmlbefaaW.PrintLast
structure IsDist (N : Nat) (adj : Nat → Nat → Prop) (a : Nat) (d : Nat → Int) : Prop where
  zero : d a = 0
  only : ∀ x, x < N → d x = 0 → x = a
  low : ∀ x, x < N → -1 ≤ d x
  edge : ∀ x y, adj x y → 0 ≤ d x → 0 ≤ d y ∧ d y ≤ d x + 1
  back : ∀ x, x < N → 0 < d x → ∃ y, adj y x ∧ d y = d x - 1
section
variable {N : Nat} {adj : Nat → Nat → Prop} {a : Nat} {d d' : Nat → Int}
theorem IsDist.le (hr : ∀ x y, adj x y → x < N ∧ y < N) (h : IsDist N adj a d) (h' : IsDist N adj a d') : ∀ (n : Nat) (x : Nat), x < N → d x = n → 0 ≤ d' x ∧ d' x ≤ n
  | 0, x, hx, e => by
    have := h.only x hx (by simpa using e)
    subst this
    have := h'.zero
    omega
  | n + 1, x, hx, e => by
    obtain ⟨y, ha, hy⟩ := h.back x hx (by omega)
    have h1 := IsDist.le hr h h' n y (hr _ _ ha).1 (by omega)
    have h2 := h'.edge y x ha h1.1
    omega
theorem IsDist.uniq (hr : ∀ x y, adj x y → x < N ∧ y < N) (h : IsDist N adj a d) (h' : IsDist N adj a d') (x : Nat) (hx : x < N) : d x = d' x := by
  have l1 := h.low x hx
  have l2 := h'.low x hx
  rcases Int.lt_or_le (d x) 0 with q | q
  · rcases Int.lt_or_le (d' x) 0 with q' | q'
    · omega
    · have := h'.le hr h (d' x).toNat x hx (by omega)
      omega
  · have h1 := h.le hr h' (d x).toNat x hx (by omega)
    have h2 := h'.le hr h (d' x).toNat x hx (by omega)
    omega
theorem pigeon : ∀ (N n : Nat) (f : Nat → Nat), (∀ i, i < n → f i < N) → (∀ i j, i < n → j < n → f i = f j → i = j) → n ≤ N
  | 0, n, f, h, _ => by
    rcases Nat.eq_zero_or_pos n with h0 | h0
    · omega
    · exact absurd (h 0 h0) (by omega)
  | N + 1, n, f, h, hi => by
    by_cases q : ∃ i, i < n ∧ f i = N
    · obtain ⟨i0, h0, e0⟩ := q
      have := pigeon N (n - 1) (fun j => if j < i0 then f j else f (j + 1)) (fun j hj => by
        split
        · rename_i hlt
          have h1 := h j (by omega)
          have h2 : f j ≠ N := fun e => by have := hi j i0 (by omega) h0 (by omega); omega
          omega
        · rename_i hlt
          have h1 := h (j + 1) (by omega)
          have h2 : f (j + 1) ≠ N := fun e => by have := hi (j + 1) i0 (by omega) h0 (by omega); omega
          omega) (fun i j hi' hj' e => by
        split at e <;> split at e
        · exact hi i j (by omega) (by omega) e
        · have := hi i (j + 1) (by omega) (by omega) e; omega
        · have := hi (i + 1) j (by omega) (by omega) e; omega
        · have := hi (i + 1) (j + 1) (by omega) (by omega) e; omega)
      omega
    · have := pigeon N n f (fun i hi' => by
        have h1 := h i hi'
        have h2 : f i ≠ N := fun e => q ⟨i, hi', e⟩
        omega) hi
      omega
theorem IsDist.levels (hr : ∀ x y, adj x y → x < N ∧ y < N) (h : IsDist N adj a d) : ∀ (n : Nat) (x : Nat), x < N → d x = n → ∀ k : Nat, k ≤ n → ∃ y, y < N ∧ d y = k
  | 0, x, hx, e, k, hk => ⟨x, hx, by omega⟩
  | n + 1, x, hx, e, k, hk => by
    by_cases q : k = n + 1
    · exact ⟨x, hx, by omega⟩
    · obtain ⟨y, ha, hy⟩ := h.back x hx (by omega)
      exact IsDist.levels hr h n y (hr _ _ ha).1 (by omega) k (by omega)
theorem IsDist.lt (hr : ∀ x y, adj x y → x < N ∧ y < N) (h : IsDist N adj a d) (x : Nat) (hx : x < N) : d x < N := by
  rcases Int.lt_or_le (d x) 0 with q | q
  · omega
  · have h1 := h.levels hr (d x).toNat x hx (by omega)
    have h2 : ∀ k : Nat, ∃ y, k ≤ (d x).toNat → (y < N ∧ d y = k) := fun k => by
      by_cases hk : k ≤ (d x).toNat
      · obtain ⟨y, hy⟩ := h1 k hk
        exact ⟨y, fun _ => hy⟩
      · exact ⟨0, fun h => absurd h hk⟩
    have := pigeon N ((d x).toNat + 1) (fun k => Classical.choose (h2 k)) (fun i hi => (Classical.choose_spec (h2 i) (by omega)).1) (fun i j hi hj e => by
      have e1 := (Classical.choose_spec (h2 i) (by omega)).2
      have e2 := (Classical.choose_spec (h2 j) (by omega)).2
      rw [e] at e1
      omega)
    omega
end
section
variable {N : Nat} {adj : Nat → Nat → Prop} {a : Nat}
def gd (l : List Int) (i : Nat) : Int := l.getD i 0
theorem gd_set {l : List Int} {i : Nat} (h : i < l.length) (v : Int) (j : Nat) : gd (l.set i v) j = if j = i then v else gd l j := by
  unfold gd
  by_cases q : j = i
  · subst q; simp [h]
  · rw [if_neg q]; simp [List.getD, Ne.symm q]
def push (x : Nat) (s : List Int × List Nat) (y : Nat) : List Int × List Nat := if gd s.1 y < 0 then (s.1.set y (gd s.1 x + 1), s.2 ++ [y]) else s
structure Base (N : Nat) (adj : Nat → Nat → Prop) (a : Nat) (d : List Int) (w : List Nat) : Prop where
  len : d.length = N
  node : ∀ x ∈ w, x < N ∧ 0 ≤ gd d x
  zero : gd d a = 0
  only : ∀ x, x < N → gd d x = 0 → x = a
  low : ∀ x, x < N → -1 ≤ gd d x
  back : ∀ x, x < N → 0 < gd d x → ∃ y, adj y x ∧ gd d y = gd d x - 1
  order : w.Pairwise (fun x y => gd d x ≤ gd d y)
structure Outer (N : Nat) (adj : Nat → Nat → Prop) (a : Nat) (d : List Int) (w : List Nat) : Prop extends Base N adj a d w where
  closed : ∀ z, z < N → 0 ≤ gd d z → z ∈ w ∨ ∀ y, adj z y → 0 ≤ gd d y ∧ gd d y ≤ gd d z + 1
  head : ∀ x ∈ w, ∀ z, z < N → gd d z ≤ gd d x + 1
structure Inner (N : Nat) (adj : Nat → Nat → Prop) (a : Nat) (x : Nat) (done : List Nat) (d : List Int) (w : List Nat) : Prop extends Base N adj a d w where
  hx : x < N ∧ 0 ≤ gd d x
  closed : ∀ z, z < N → 0 ≤ gd d z → z ∈ w ∨ z = x ∨ ∀ y, adj z y → 0 ≤ gd d y ∧ gd d y ≤ gd d z + 1
  did : ∀ y ∈ done, 0 ≤ gd d y ∧ gd d y ≤ gd d x + 1
  top : ∀ z, z < N → gd d z ≤ gd d x + 1
  wave : ∀ u ∈ w, gd d x ≤ gd d u
theorem Inner.push (hr : ∀ x y, adj x y → x < N ∧ y < N) {x : Nat} {done : List Nat} {d : List Int} {w : List Nat} (h : Inner N adj a x done d w) {y : Nat} (hy : adj x y) :
    Inner N adj a x (y :: done) (push x (d, w) y).1 (push x (d, w) y).2 := by
  have hyN := (hr _ _ hy).2
  unfold PB.push
  by_cases q : gd d y < 0
  · simp only [if_pos q]
    have g : ∀ j, gd (d.set y (gd d x + 1)) j = if j = y then gd d x + 1 else gd d j := fun j => gd_set (by rw [h.len]; exact hyN) _ j
    have hxy : x ≠ y := fun e => by subst e; have := h.hx.2; omega
    have gp : ∀ j, 0 ≤ gd d j → gd (d.set y (gd d x + 1)) j = gd d j := fun j hj => by
      rw [g, if_neg (fun e => by subst e; omega)]
    have gx : gd (d.set y (gd d x + 1)) x = gd d x := gp x h.hx.2
    have gy : gd (d.set y (gd d x + 1)) y = gd d x + 1 := by rw [g, if_pos rfl]
    have hx0 := h.hx.2
    refine { len := by simp [h.len], node := ?_, zero := ?_, only := ?_, low := ?_, back := ?_, order := ?_, hx := ⟨h.hx.1, by rw [gx]; exact hx0⟩, closed := ?_, did := ?_, top := ?_, wave := ?_ }
    · intro u hu
      rcases List.mem_append.1 hu with hu | hu
      · have := h.node u hu
        rw [gp u this.2]; exact this
      · obtain rfl := List.mem_singleton.1 hu
        rw [gy]; exact ⟨hyN, by omega⟩
    · rw [gp a (by have := h.zero; omega)]; exact h.zero
    · intro u hu e
      rw [g] at e
      split at e
      · omega
      · exact h.only u hu e
    · intro u hu
      rw [g]
      split
      · omega
      · exact h.low u hu
    · intro u hu e
      rw [g] at e ⊢
      split at e
      · rename_i q2
        subst q2
        rw [if_pos rfl]
        exact ⟨x, hy, by rw [gx]; omega⟩
      · rename_i q2
        rw [if_neg q2]
        obtain ⟨v, hv, e2⟩ := h.back u hu e
        exact ⟨v, hv, by rw [gp v (by omega)]; exact e2⟩
    · refine List.pairwise_append.2 ⟨?_, by simp, ?_⟩
      · refine (List.Pairwise.and_mem.1 h.order).imp ?_
        rintro u v ⟨hu, hv, huv⟩
        rw [gp u (h.node u hu).2, gp v (h.node v hv).2]; exact huv
      · intro u hu v hv
        obtain rfl := List.mem_singleton.1 hv
        rw [gp u (h.node u hu).2, gy]
        exact h.top u (h.node u hu).1
    · intro z hz e
      rw [g] at e
      split at e
      · rename_i q2
        exact .inl (by simp [q2])
      · rcases h.closed z hz e with q3 | q3 | q3
        · exact .inl (by simp [q3])
        · exact .inr (.inl q3)
        · refine .inr (.inr fun v hv => ?_)
          have := q3 v hv
          rw [gp v this.1, gp z e]
          exact this
    · intro v hv
      rw [gx]
      rcases List.mem_cons.1 hv with rfl | hv
      · rw [gy]; omega
      · have := h.did v hv
        rw [gp v this.1]; exact this
    · intro z hz
      rw [gx, g]
      split
      · omega
      · exact h.top z hz
    · intro u hu
      rw [gx]
      rcases List.mem_append.1 hu with hu | hu
      · rw [gp u (h.node u hu).2]; exact h.wave u hu
      · obtain rfl := List.mem_singleton.1 hu
        rw [gy]; omega
  · simp only [if_neg q]
    exact { h with
      did := fun v hv => by
        rcases List.mem_cons.1 hv with rfl | hv
        · exact ⟨by omega, h.top v hyN⟩
        · exact h.did v hv }
theorem Outer.inner {x : Nat} {d : List Int} {w : List Nat} (h : Outer N adj a d (x :: w)) : Inner N adj a x [] d w :=
  { len := h.len, node := fun u hu => h.node u (List.mem_cons_of_mem _ hu), zero := h.zero, only := h.only, low := h.low, back := h.back, order := (List.pairwise_cons.1 h.order).2,
    hx := h.node x List.mem_cons_self, closed := fun z hz e => by
      rcases h.closed z hz e with q | q
      · rcases List.mem_cons.1 q with q | q
        · exact .inr (.inl q)
        · exact .inl q
      · exact .inr (.inr q)
    did := fun y hy => by simp at hy
    top := h.head x List.mem_cons_self
    wave := (List.pairwise_cons.1 h.order).1 }
theorem Inner.outer {x : Nat} {done : List Nat} {d : List Int} {w : List Nat} (h : Inner N adj a x done d w) (hd : ∀ y, adj x y → y ∈ done) : Outer N adj a d w :=
  { h with
    closed := fun z hz e => by
      rcases h.closed z hz e with q | q | q
      · exact .inl q
      · subst q
        exact .inr fun y hy => h.did y (hd y hy)
      · exact .inr q
    head := fun u hu z hz => by have := h.top z hz; have := h.wave u hu; omega }
theorem Outer.dist {d : List Int} (h : Outer N adj a d []) (hr : ∀ x y, adj x y → x < N ∧ y < N) : IsDist N adj a (gd d) :=
  { zero := h.zero, only := h.only, low := h.low, back := h.back, edge := fun x y hxy e => by
      rcases h.closed x (hr _ _ hxy).1 e with q | q
      · simp at q
      · exact q y hxy }
theorem Outer.init (ha : a < N) : Outer N adj a ((List.replicate N (-1)).set a 0) [a] := by
  have g : ∀ j, gd ((List.replicate N (-1)).set a 0) j = if j = a then 0 else gd (List.replicate N (-1)) j := fun j => gd_set (by simpa using ha) _ j
  have gn : ∀ j, j < N → gd (List.replicate N (-1)) j = -1 := fun j hj => by simp [gd, List.getD, hj]
  have ga : gd ((List.replicate N (-1)).set a 0) a = 0 := by rw [g, if_pos rfl]
  refine { len := by simp, node := fun x hx => ?_, zero := ga, only := fun x hx e => ?_, low := fun x hx => ?_, back := fun x hx e => ?_, order := by simp, closed := fun z hz e => ?_, head := fun x hx z hz => ?_ }
  · obtain rfl := List.mem_singleton.1 hx
    exact ⟨ha, by omega⟩
  · rw [g] at e
    split at e
    · assumption
    · rw [gn x hx] at e; omega
  · rw [g]; split
    · omega
    · rw [gn x hx]; omega
  · rw [g] at e
    split at e
    · omega
    · rw [gn x hx] at e; omega
  · rw [g] at e
    split at e
    · rename_i q; simp [q]
    · rw [gn z hz] at e; omega
  · obtain rfl := List.mem_singleton.1 hx
    rw [ga, g]; split
    · omega
    · rw [gn z hz]; omega
/-- How many are without a number. -/
def negs (d : List Int) : Nat := d.countP (fun v => decide (v < 0))
theorem push_size {x y : Nat} {d : List Int} {w : List Nat} (hy : y < d.length) (hx : 0 ≤ gd d x) : negs (push x (d, w) y).1 + (push x (d, w) y).2.length = negs d + w.length := by
  unfold push
  by_cases q : gd d y < 0
  · simp only [if_pos q]
    have : negs (d.set y (gd d x + 1)) + 1 = negs d := by
      unfold negs
      rw [List.countP_set hy]
      have e : d[y] = gd d y := by simp [gd, hy]
      rw [e]
      have hp : 0 < d.countP (fun v => decide (v < 0)) := List.countP_pos_iff.2 ⟨d[y], List.getElem_mem hy, by rw [e]; simpa using q⟩
      rw [if_pos (by simpa using q), if_neg (by simp; omega)]
      omega
    simp only [List.length_append, List.length_singleton]
    omega
  · simp only [if_neg q]
end
/-! Rounds of the reference. -/
section
def better (d e : Int) : Int := if e ≥ 0 ∧ (d < 0 ∨ e + 1 < d) then e + 1 else d
def upd (d : List Int) (x y : Nat) : List Int := d.set x (better (gd d x) (gd d y))
def relax (d : List Int) (p : Nat × Nat) : List Int := upd (upd d p.1 p.2) p.2 p.1
def adjOf (es : List (Nat × Nat)) (x y : Nat) : Prop := (x, y) ∈ es ∨ (y, x) ∈ es
variable {N : Nat} {adj : Nat → Nat → Prop} {a : Nat} {D : Nat → Int}
structure Over (N : Nat) (D : Nat → Int) (e : List Int) : Prop where
  len : e.length = N
  over : ∀ x, x < N → gd e x = -1 ∨ (0 ≤ D x ∧ D x ≤ gd e x)
theorem Over.upd (hD : IsDist N adj a D) (hr : ∀ x y, adj x y → x < N ∧ y < N) (hs : ∀ x y, adj x y → adj y x) {e : List Int} (h : Over N D e) {x y : Nat} (hxy : adj x y) :
    Over N D (upd e x y) ∧ (∀ z, z < N → 0 ≤ D z → gd e z = D z → gd (upd e x y) z = D z) ∧ (0 ≤ D y → gd e y = D y → D x = D y + 1 → gd (upd e x y) x = D x) := by
  obtain ⟨hx, hy⟩ := hr _ _ hxy
  have g : ∀ j, gd (PB.upd e x y) j = if j = x then better (gd e x) (gd e y) else gd e j := fun j => gd_set (by rw [h.len]; exact hx) _ j
  have ex := h.over x hx
  have ey := h.over y hy
  have lx := hD.low x hx
  have key : 0 ≤ gd e y → 0 ≤ D x ∧ D x ≤ gd e y + 1 := fun q => by
    have := hD.edge y x (hs _ _ hxy) (by omega)
    omega
  refine ⟨⟨by simp [PB.upd, h.len], fun z hz => ?_⟩, fun z hz h0 e1 => ?_, fun h0 e1 e2 => ?_⟩
  · rw [g]
    split
    · rename_i q; subst q
      unfold better
      split
      · rename_i c; have := key c.1; omega
      · exact ex
    · exact h.over z hz
  · rw [g]
    split
    · rename_i q; subst q
      unfold better
      split
      · rename_i c; have := key c.1; omega
      · exact e1
    · exact e1
  · rw [g, if_pos rfl]
    unfold better
    split
    · omega
    · omega
theorem Over.relax (hD : IsDist N adj a D) (hr : ∀ x y, adj x y → x < N ∧ y < N) (hs : ∀ x y, adj x y → adj y x) {e : List Int} (h : Over N D e) {p : Nat × Nat} (hp : adj p.1 p.2) :
    Over N D (relax e p) ∧ (∀ z, z < N → 0 ≤ D z → gd e z = D z → gd (relax e p) z = D z) ∧ (∀ x y, (p = (x, y) ∨ p = (y, x)) → 0 ≤ D y → gd e y = D y → D x = D y + 1 → gd (relax e p) x = D x) := by
  obtain ⟨h1, k1, r1⟩ := h.upd hD hr hs hp
  obtain ⟨h2, k2, r2⟩ := h1.upd hD hr hs (hs _ _ hp)
  refine ⟨h2, fun z hz h0 e1 => k2 z hz h0 (k1 z hz h0 e1), fun x y hxy h0 e1 e2 => ?_⟩
  rcases hxy with rfl | rfl
  · exact k2 _ (hr _ _ hp).1 (by omega) (r1 h0 e1 e2)
  · exact r2 h0 (k1 _ (hr _ _ hp).1 h0 e1) e2
def rounds (es : List (Nat × Nat)) : Nat → List Int → List Int
  | 0, d => d
  | n + 1, d => rounds es n (es.foldl relax d)
end
/-! The closure that goes down. -/
section
variable {N : Nat} {adj : Nat → Nat → Prop}
inductive Conn (adj : Nat → Nat → Prop) : Nat → Nat → Prop
  | refl (x : Nat) : Conn adj x x
  | step {x y z : Nat} : Conn adj x y → adj y z → Conn adj x z
theorem Conn.trans {x y z : Nat} (h : Conn adj x y) (k : Conn adj y z) : Conn adj x z := by
  induction k with
  | refl => exact h
  | step _ e ih => exact ih.step e
theorem Conn.symm (hs : ∀ x y, adj x y → adj y x) {x y : Nat} (h : Conn adj x y) : Conn adj y x := by
  induction h with
  | refl => exact .refl _
  | step _ e ih => exact ((Conn.refl _).step (hs _ _ e)).trans ih
/-- What one way down has done. -/
structure Down (N : Nat) (adj : Nat → Nat → Prop) (x : Nat) (least : Int) (c r : List Int) : Prop where
  len : r.length = N
  old : ∀ z, 0 ≤ gd c z → gd r z = gd c z
  new : ∀ z, z < N → gd c z < 0 → gd r z = gd c z ∨ (gd r z = least ∧ (∀ y, adj z y → 0 ≤ gd r y) ∧ Conn adj x z)
theorem Down.trans {x : Nat} {least : Int} {c r q : List Int} (h0 : 0 ≤ least) (h : Down N adj x least c r) (k : Down N adj x least r q) : Down N adj x least c q :=
  ⟨k.len, fun z hz => by have := h.old z hz; rw [k.old z (by omega), this], fun z hz e => by
    rcases h.new z hz e with e1 | ⟨e1, e2, e3⟩
    · rcases k.new z hz (by omega) with e4 | e4
      · exact .inl (by omega)
      · exact .inr e4
    · exact .inr ⟨by rw [k.old z (by omega), e1], fun y hy => by rw [k.old y (e2 y hy)]; exact e2 y hy, e3⟩⟩
end
section
variable {N : Nat}
/-- What the rows of neighbors say. -/
structure Rows (N : Nat) (next : List (List Int)) (adj : Nat → Nat → Prop) : Prop where
  len : next.length = N
  short : ∀ x, x < N → (next.getD x []).length < 4611686018427387904
  mem : ∀ x, x < N → ∀ y ∈ next.getD x [], ∃ z : Nat, y = z ∧ z < N ∧ adj x z
  all : ∀ x y, adj x y → x < N ∧ y < N ∧ (y : Int) ∈ next.getD x []
variable {next : List (List Int)} {adj : Nat → Nat → Prop}
theorem getD_in {α : Type} {l : List α} {j : Nat} (h : j < l.length) (d : α) : l.getD j d ∈ l := by
  rw [List.getD_eq_getElem?_getD, List.getElem?_eq_getElem h]; exact List.getElem_mem h
theorem Down.refl {x : Nat} {least : Int} {c : List Int} (h : c.length = N) : Down N adj x least c c := ⟨h, fun _ _ => rfl, fun _ _ _ => .inl rfl⟩
theorem Down.from {x y : Nat} {least : Int} {c r : List Int} (h : Down N adj y least c r) (hc : Conn adj x y) : Down N adj x least c r :=
  ⟨h.len, h.old, fun z hz e => by
    rcases h.new z hz e with q | ⟨q1, q2, q3⟩
    · exact .inl q
    · exact .inr ⟨q1, q2, hc.trans q3⟩⟩
theorem negs_set {c : List Int} {x : Nat} (hx : x < c.length) (hn : gd c x < 0) {v : Int} (hv : 0 ≤ v) : negs (c.set x v) + 1 = negs c := by
  unfold negs
  rw [List.countP_set hx]
  have e : c[x] = gd c x := by simp [gd, hx]
  rw [e]
  have hp : 0 < c.countP (fun v => decide (v < 0)) := List.countP_pos_iff.2 ⟨c[x], List.getElem_mem hx, by rw [e]; simpa using hn⟩
  rw [if_pos (by simpa using hn), if_neg (by simp; omega)]
  omega
/-- After the first i nodes have been visited. -/
structure Comps (N : Nat) (adj : Nat → Nat → Prop) (i : Nat) (c : List Int) : Prop where
  len : c.length = N
  low : ∀ z, z < N → -1 ≤ gd c z
  seen : ∀ z, z < i → z < N → 0 ≤ gd c z
  lab : ∀ z, z < N → 0 ≤ gd c z → ∃ b : Nat, gd c z = b ∧ b ≤ z ∧ b < N ∧ gd c b = b ∧ Conn adj b z
  edge : ∀ z y, adj z y → 0 ≤ gd c z → gd c y = gd c z
theorem Comps.init (hr : ∀ x y, adj x y → x < N ∧ y < N) : Comps N adj 0 (List.replicate N (-1)) := by
  have gn : ∀ j, j < N → gd (List.replicate N (-1)) j = -1 := fun j hj => by simp [gd, List.getD, hj]
  exact ⟨by simp, fun z hz => by rw [gn z hz]; omega, fun z hz => by omega, fun z hz h => by rw [gn z hz] at h; omega, fun z y h h1 => by
    rw [gn z (hr _ _ h).1] at h1; omega⟩
theorem Comps.conn {i : Nat} {c : List Int} (h : Comps N adj i c) {x y : Nat} (hc : Conn adj x y) (h0 : 0 ≤ gd c x) : gd c y = gd c x := by
  induction hc with
  | refl => rfl
  | step _ e ih => rw [h.edge _ _ e (by omega), ih]
theorem Comps.step (hs : ∀ x y, adj x y → adj y x) (hr : ∀ x y, adj x y → x < N ∧ y < N) {i : Nat} {c r : List Int} (h : Comps N adj i c) (hi : i < N) (hd : Down N adj i (i : Int) c r) (h0 : 0 ≤ gd r i) : Comps N adj (i + 1) r := by
  have key : ∀ z, z < N → gd c z < 0 → 0 ≤ gd r z → gd r z = i ∧ (∀ y, adj z y → 0 ≤ gd r y) ∧ Conn adj i z ∧ i ≤ z := fun z hz e1 e2 => by
    rcases hd.new z hz e1 with q | ⟨q1, q2, q3⟩
    · omega
    · refine ⟨q1, q2, q3, ?_⟩
      rcases Nat.lt_or_ge z i with q | q
      · have := h.seen z q hz; omega
      · exact q
  have hci : ∀ z, z < N → gd c z < 0 → 0 ≤ gd r z → gd c i < 0 := fun z hz e1 e2 => by
    rcases Int.lt_or_le (gd c i) 0 with q | q
    · exact q
    · have := h.conn (key z hz e1 e2).2.2.1 q; omega
  refine ⟨hd.len, fun z hz => ?_, fun z hz hz' => ?_, fun z hz e => ?_, fun z y hzy e => ?_⟩
  · rcases Int.lt_or_le (gd c z) 0 with q | q
    · rcases hd.new z hz q with q1 | q1
      · have := h.low z hz; omega
      · omega
    · rw [hd.old z q]; omega
  · by_cases q : z = i
    · subst q; exact h0
    · have := h.seen z (by omega) hz'
      rw [hd.old z this]; exact this
  · rcases Int.lt_or_le (gd c z) 0 with q | q
    · obtain ⟨k1, k2, k3, k4⟩ := key z hz q e
      exact ⟨i, k1, k4, hi, (key i hi (hci z hz q e) h0).1, k3⟩
    · obtain ⟨b, k1, k2, k3, k4, k5⟩ := h.lab z hz q
      exact ⟨b, by rw [hd.old z q, k1], k2, k3, by rw [hd.old b (by omega), k4], k5⟩
  · obtain ⟨hz, hy⟩ := hr _ _ hzy
    rcases Int.lt_or_le (gd c z) 0 with q | q
    · obtain ⟨k1, k2, k3, k4⟩ := key z hz q e
      have hy0 := k2 y hzy
      rcases Int.lt_or_le (gd c y) 0 with q2 | q2
      · rw [(key y hy q2 hy0).1, k1]
      · have := h.edge y z (hs _ _ hzy) q2; omega
    · have := h.edge z y hzy q
      rw [hd.old y (by omega), hd.old z q, this]
theorem IsDist.conn (hr : ∀ x y, adj x y → x < N ∧ y < N) {a : Nat} {d : Nat → Int} (h : IsDist N adj a d) {x : Nat} (hx : x < N) : 0 ≤ d x ↔ Conn adj a x := by
  constructor
  · intro h0
    have : ∀ (n : Nat) (x : Nat), x < N → d x = n → Conn adj a x := by
      intro n
      induction n with
      | zero => intro x hx e; rw [h.only x hx (by omega)]; exact .refl _
      | succ n ih =>
        intro x hx e
        obtain ⟨y, ha, hy⟩ := h.back x hx (by omega)
        exact (ih y (hr _ _ ha).1 (by omega)).step ha
    exact this (d x).toNat x hx (by omega)
  · intro hc
    clear hx
    induction hc with
    | refl => rw [h.zero]; omega
    | step _ e ih => exact (h.edge _ _ e ih).1
/-- The label is the least node that is not out of reach. -/
theorem Comps.least (hs : ∀ x y, adj x y → adj y x) (hr : ∀ x y, adj x y → x < N ∧ y < N) {c : List Int} (h : Comps N adj N c) {i : Nat} (hi : i < N) {d : Nat → Int} (hd : IsDist N adj i d) :
    ∃ b : Nat, gd c i = b ∧ b < N ∧ 0 ≤ d b ∧ ∀ k, k < N → 0 ≤ d k → b ≤ k := by
  obtain ⟨b, h1, h2, h3, h4, h5⟩ := h.lab i hi (h.seen i hi hi)
  refine ⟨b, h1, h3, (hd.conn hr h3).2 (h5.symm hs), fun k hk h0 => ?_⟩
  have := h.conn ((hd.conn hr hk).1 h0) (h.seen i hi hi)
  obtain ⟨b', k1, k2, _⟩ := h.lab k hk (h.seen k hk hk)
  omega
end
end Go.Proofs.Ythkpnkmbmlbefaa.PB

/- The rows of neighbors: what the program's rows hold, in order. -/
namespace Go.Proofs.Ythkpnkmbmlbefaa.PB
open Go.RowKit Go.Proofs.Ythkpnkmbmlbefaa Go.Proofs.Ythkpnkmbmlbefaa.X Go.Proofs.YthkpnkmbmlbefaaW.PrintWords Go.Proofs.YthkpnkmbmlbefaaW.PrintLast

/-! ### What a valid graph is -/
/-- A graph that the check lets pass. -/
structure Valid (a : Int) (l : List S37) : Prop where
  pos : 1 ≤ a
  most : a ≤ 24
  few : l.length ≤ 64
  ok : ∀ i, i < l.length → OkE a (l.getD i z37)
  loop : ∀ i, i < l.length → (l.getD i z37).f0 ≠ (l.getD i z37).f2
  once0 : ∀ i j, j < i → i < l.length → ¬ hasEnd (l.getD j z37) ((l.getD i z37).f0, (l.getD i z37).f1)
  once1 : ∀ i j, j < i → i < l.length → ¬ hasEnd (l.getD j z37) ((l.getD i z37).f2, (l.getD i z37).f3)
theorem chkFrom_ok {a : Int} {l : List S37} : ∀ {d i}, i + d = l.length → chkFrom a l d i = 0 → ∀ i', i ≤ i' → i' < l.length → OkE a (l.getD i' z37) ∧ (l.getD i' z37).f0 ≠ (l.getD i' z37).f2 ∧ (∀ j, j < i' → ¬ hasEnd (l.getD j z37) ((l.getD i' z37).f0, (l.getD i' z37).f1)) ∧ (∀ j, j < i' → ¬ hasEnd (l.getD j z37) ((l.getD i' z37).f2, (l.getD i' z37).f3))
  | 0, i, hi, _, i', h1, h2 => by omega
  | d + 1, i, hi, h, i', h1, h2 => by
    unfold chkFrom at h
    split at h
    · rename_i hok
      split at h
      · omega
      · rename_i hloop
        split at h
        · omega
        · rename_i hu1
          split at h
          · omega
          · rename_i hu2
            rw [usedFrom_iff] at hu1 hu2
            by_cases q : i' = i
            · subst q
              exact ⟨hok, hloop, fun j hj hh => hu1 ⟨j, by omega, by omega, hh⟩, fun j hj hh => hu2 ⟨j, by omega, by omega, hh⟩⟩
            · exact chkFrom_ok (by omega) h i' (by omega) h2
    · omega
theorem chk_valid {a : Int} {l : List S37} (h : chk a l = 0) : Valid a l := by
  unfold chk at h
  split at h
  · omega
  · split at h
    · omega
    · have k := chkFrom_ok (i := 0) (by omega) h
      exact ⟨by omega, by omega, by omega, fun i hi => (k i (by omega) hi).1, fun i hi => (k i (by omega) hi).2.1, fun i j hj hi => (k i (by omega) hi).2.2.1 j hj, fun i j hj hi => (k i (by omega) hi).2.2.2 j hj⟩

/-! ### The edges as pairs of nodes -/
def es (l : List S37) : List (Nat × Nat) := l.map fun e => (e.f0.toNat, e.f2.toNat)
theorem OkE.nat {a : Int} {e : S37} (h : OkE a e) : ∃ x y : Nat, e.f0 = x ∧ e.f2 = y ∧ x < a.toNat ∧ y < a.toNat := by
  unfold OkE at h
  exact ⟨e.f0.toNat, e.f2.toNat, by omega, by omega, by omega, by omega⟩
theorem Valid.mem {a : Int} {l : List S37} (h : Valid a l) {e : S37} (he : e ∈ l) : OkE a e ∧ e.f0 ≠ e.f2 := by
  obtain ⟨i, hi, rfl⟩ := List.mem_iff_getElem.1 he
  have h1 := h.ok i hi
  have h2 := h.loop i hi
  rw [List.getD_eq_getElem?_getD, List.getElem?_eq_getElem hi, Option.getD_some] at h1 h2
  exact ⟨h1, h2⟩
theorem Valid.range {a : Int} {l : List S37} (h : Valid a l) (x y : Nat) (hxy : adjOf (es l) x y) : x < a.toNat ∧ y < a.toNat := by
  have key : ∀ u v : Nat, (u, v) ∈ es l → u < a.toNat ∧ v < a.toNat := fun u v hu => by
    obtain ⟨e, he, e1⟩ := List.mem_map.1 hu
    obtain ⟨x', y', h1, h2, h3, h4⟩ := (h.mem he).1.nat
    injection e1 with e1 e2
    omega
  rcases hxy with q | q
  · exact key _ _ q
  · exact (key _ _ q).symm

/-! ### The rows -/
def addE (rows : List (List Int)) (e : S37) : List (List Int) :=
  let r1 := rows.set e.f0.toNat (rows.getD e.f0.toNat [] ++ [e.f2])
  r1.set e.f2.toNat (r1.getD e.f2.toNat [] ++ [e.f0])
structure Raw (N : Nat) (l : List S37) (i : Nat) (rows : List (List Int)) : Prop where
  len : rows.length = N
  short : ∀ x, x < N → (rows.getD x []).length ≤ 2 * i
  mem : ∀ x, x < N → ∀ y : Int, y ∈ rows.getD x [] ↔ ∃ j, j < i ∧ (((l.getD j z37).f0 = x ∧ (l.getD j z37).f2 = y) ∨ ((l.getD j z37).f2 = x ∧ (l.getD j z37).f0 = y))
theorem getD_set {α : Type} {l : List α} {i : Nat} (h : i < l.length) (v : α) (j : Nat) (z : α) : (l.set i v).getD j z = if j = i then v else l.getD j z := by
  by_cases q : j = i
  · subst q; simp [h]
  · rw [if_neg q]; simp [List.getD, Ne.symm q]
theorem Raw.step {N : Nat} {a : Int} {l : List S37} {i : Nat} {rows : List (List Int)} (h : Raw N l i rows) (hok : OkE a (l.getD i z37)) (hN : N = a.toNat) : Raw N l (i + 1) (addE rows (l.getD i z37)) := by
  obtain ⟨u, v, hu, hv, hul, hvl⟩ := hok.nat
  subst hN
  have hlen := h.len
  unfold addE
  simp only [hu, hv, Int.toNat_natCast]
  have g1 : ∀ j, (rows.set u (rows.getD u [] ++ [(v : Int)])).getD j [] = if j = u then rows.getD u [] ++ [(v : Int)] else rows.getD j [] := fun j => getD_set (by omega) _ _ _
  have g2 : ∀ j (w : List Int), ((rows.set u (rows.getD u [] ++ [(v : Int)])).set v w).getD j [] = if j = v then w else (rows.set u (rows.getD u [] ++ [(v : Int)])).getD j [] := fun j w => getD_set (by rw [List.length_set]; omega) _ _ _
  refine ⟨by simp [hlen], fun x hx => ?_, fun x hx y => ?_⟩
  · have h1 := h.short x hx
    have h2 := h.short u hul
    have h3 := h.short v hvl
    rw [g2]
    split
    · rw [List.length_append, g1]
      split
      · rw [List.length_append]; simp; simp at h2; omega
      · simp; simp at h3; omega
    · rw [g1]
      split
      · rw [List.length_append]; simp; simp at h2; omega
      · omega
  · have hm := h.mem x hx y
    have split_ : (∃ j, j < i + 1 ∧ (((l.getD j z37).f0 = x ∧ (l.getD j z37).f2 = y) ∨ ((l.getD j z37).f2 = x ∧ (l.getD j z37).f0 = y))) ↔ (y ∈ rows.getD x [] ∨ ((u : Int) = x ∧ (v : Int) = y) ∨ ((v : Int) = x ∧ (u : Int) = y)) := by
      rw [hm]
      constructor
      · rintro ⟨j, hj, hh⟩
        by_cases q : j = i
        · subst q; rw [hu, hv] at hh; exact .inr hh
        · exact .inl ⟨j, by omega, hh⟩
      · rintro (⟨j, hj, hh⟩ | hh)
        · exact ⟨j, by omega, hh⟩
        · exact ⟨i, by omega, by rw [hu, hv]; exact hh⟩
    rw [split_, g2]
    by_cases q1 : x = v
    · subst q1
      rw [if_pos rfl, List.mem_append, g1]
      by_cases q2 : x = u
      · subst q2
        rw [if_pos rfl, List.mem_append]
        simp only [List.mem_singleton]
        constructor
        · rintro ((h1 | h1) | h1)
          · exact .inl h1
          · exact .inr (.inl ⟨by simp, h1.symm⟩)
          · exact .inr (.inl ⟨by simp, h1.symm⟩)
        · rintro (h1 | h1 | h1)
          · exact .inl (.inl h1)
          · exact .inr h1.2.symm
          · exact .inr h1.2.symm
      · rw [if_neg q2]
        simp only [List.mem_singleton]
        constructor
        · rintro (h1 | h1)
          · exact .inl h1
          · exact .inr (.inr ⟨by simp, h1.symm⟩)
        · rintro (h1 | h1 | h1)
          · exact .inl h1
          · exact absurd h1.1 (by omega)
          · exact .inr h1.2.symm
    · rw [if_neg q1, g1]
      by_cases q2 : x = u
      · subst q2
        rw [if_pos rfl, List.mem_append]
        simp only [List.mem_singleton]
        constructor
        · rintro (h1 | h1)
          · exact .inl h1
          · exact .inr (.inl ⟨by simp, h1.symm⟩)
        · rintro (h1 | h1 | h1)
          · exact .inl h1
          · exact .inr h1.2.symm
          · exact absurd h1.1 (by omega)
      · rw [if_neg q2]
        constructor
        · exact .inl
        · rintro (h1 | h1 | h1)
          · exact h1
          · exact absurd h1.1 (by omega)
          · exact absurd h1.1 (by omega)
theorem Raw.init (N : Nat) (l : List S37) : Raw N l 0 (List.replicate N []) :=
  ⟨by simp, fun x hx => by simp [List.getD, hx], fun x hx y => by simp [List.getD, hx]⟩
def rawFrom (l : List S37) : Nat → Nat → List (List Int) → List (List Int)
  | 0, _, rows => rows
  | d + 1, i, rows => rawFrom l d (i + 1) (addE rows (l.getD i z37))
def sortI (l : List Int) : List Int := l.mergeSort fun x y => decide (x ≤ y)
theorem sortI_sorted (z : List Int) : (sortI z).Pairwise (· ≤ ·) := by
  have := List.pairwise_mergeSort (le := fun a b : Int => decide (a ≤ b)) (fun a b c h1 h2 => by simp at *; omega) (fun a b => by simp; omega) z
  exact this.imp (fun h => by simpa using h)
theorem sortI_is {x y : List Int} (h : x.Perm y) (hs : y.Pairwise (· ≤ ·)) : sortI x = y :=
  List.Perm.eq_of_pairwise (fun _ _ _ _ h1 h2 => Int.le_antisymm h1 h2) (sortI_sorted x) hs ((List.mergeSort_perm x _).trans h)
theorem sortI_len (l : List Int) : (sortI l).length = l.length := (List.mergeSort_perm l _).length_eq
theorem sortI_mem {l : List Int} {y : Int} : y ∈ sortI l ↔ y ∈ l := (List.mergeSort_perm l _).mem_iff
def nb (a : Int) (l : List S37) : List (List Int) := (rawFrom l l.length 0 (List.replicate a.toNat [])).map sortI
theorem rawFrom_raw {N : Nat} {a : Int} {l : List S37} (h : Valid a l) (hN : N = a.toNat) : ∀ d i rows, i + d = l.length → Raw N l i rows → Raw N l l.length (rawFrom l d i rows)
  | 0, i, rows, hi, hr => by
    obtain rfl : i = l.length := by omega
    exact hr
  | d + 1, i, rows, hi, hr => rawFrom_raw h hN d (i + 1) _ (by omega) (hr.step (h.ok i (by omega)) hN)
theorem nb_get (a : Int) (l : List S37) (x : Nat) : (nb a l).getD x [] = sortI ((rawFrom l l.length 0 (List.replicate a.toNat [])).getD x []) := by
  unfold nb
  simp only [List.getD_eq_getElem?_getD, List.getElem?_map]
  cases (rawFrom l l.length 0 (List.replicate a.toNat []))[x]? with
  | none => simp [sortI]
  | some r => rfl
theorem Valid.raw {a : Int} {l : List S37} (h : Valid a l) : Raw a.toNat l l.length (rawFrom l l.length 0 (List.replicate a.toNat [])) := rawFrom_raw h rfl _ _ _ (by omega) (Raw.init _ _)
theorem Valid.nb_mem {a : Int} {l : List S37} (h : Valid a l) {x : Nat} (hx : x < a.toNat) (y : Int) : y ∈ (nb a l).getD x [] ↔ ∃ z : Nat, y = z ∧ z < a.toNat ∧ adjOf (es l) x z := by
  rw [nb_get, sortI_mem, h.raw.mem x hx]
  constructor
  · rintro ⟨j, hj, hh⟩
    obtain ⟨u, v, hu, hv, hul, hvl⟩ := (h.ok j hj).nat
    have hm : (u, v) ∈ es l := List.mem_map.2 ⟨l.getD j z37, getD_in hj _, by rw [hu, hv]; rfl⟩
    rw [hu, hv] at hh
    rcases hh with ⟨h1, h2⟩ | ⟨h1, h2⟩
    · obtain rfl : u = x := by omega
      exact ⟨v, h2.symm, hvl, .inl hm⟩
    · obtain rfl : v = x := by omega
      exact ⟨u, h2.symm, hul, .inr hm⟩
  · rintro ⟨z, rfl, hz, hadj⟩
    rcases hadj with q | q
    · obtain ⟨e, he, e1⟩ := List.mem_map.1 q
      obtain ⟨j, hj, e2⟩ := List.mem_iff_getElem.1 he
      obtain ⟨u, v, hu, hv, _, _⟩ := (h.mem he).1.nat
      injection e1 with e3 e4
      refine ⟨j, hj, .inl ?_⟩
      rw [List.getD_eq_getElem?_getD, List.getElem?_eq_getElem hj, Option.getD_some, e2]
      omega
    · obtain ⟨e, he, e1⟩ := List.mem_map.1 q
      obtain ⟨j, hj, e2⟩ := List.mem_iff_getElem.1 he
      obtain ⟨u, v, hu, hv, _, _⟩ := (h.mem he).1.nat
      injection e1 with e3 e4
      refine ⟨j, hj, .inr ?_⟩
      rw [List.getD_eq_getElem?_getD, List.getElem?_eq_getElem hj, Option.getD_some, e2]
      omega
theorem Valid.nb_len {a : Int} {l : List S37} (h : Valid a l) : (nb a l).length = a.toNat := by
  unfold nb; rw [List.length_map]; exact h.raw.len
theorem Valid.nb_short {a : Int} {l : List S37} (h : Valid a l) {x : Nat} (hx : x < a.toNat) : ((nb a l).getD x []).length ≤ 128 := by
  rw [nb_get, sortI_len]
  have := h.raw.short x hx
  have := h.few
  omega
theorem Valid.rows {a : Int} {l : List S37} (h : Valid a l) : Rows a.toNat (nb a l) (adjOf (es l)) :=
  ⟨h.nb_len, fun x hx => by have := h.nb_short hx; omega, fun x hx y hy => (h.nb_mem hx y).1 hy, fun x y hxy => ⟨(h.range x y hxy).1, (h.range x y hxy).2, (h.nb_mem (h.range x y hxy).1 y).2 ⟨y, rfl, (h.range x y hxy).2, hxy⟩⟩⟩
theorem sort_loop (rows : List (List Int)) (hsh : ∀ x, x < rows.length → (rows.getD x []).length ≤ 128) (hn : rows.length ≤ 24) : ∀ d i (cur : List (List Int)), i + d = rows.length → cur = (rows.take i).map sortI ++ rows.drop i → Ev (fun k => topo_neighbors.l1 k cur rows.length i) (rows.map sortI) := by
  intro d
  induction d with
  | zero =>
    intro i cur hi hc
    refine Ev.step (fun k => by rw [topo_neighbors.l1]) ?_
    refine Ev.neg (by omega) (Ev.const ?_)
    rw [hc, List.take_of_length_le (by omega), List.drop_of_length_le (by omega), List.append_nil]
  | succ d ih =>
    intro i cur hi hc
    have hil : i < rows.length := by omega
    have hlen : cur.length = rows.length := by rw [hc]; simp; omega
    have hget : cur.getD i [] = rows.getD i [] := by
      rw [hc]
      simp [List.getD, List.getElem?_append, Nat.min_eq_left (Nat.le_of_lt hil)]
    refine Ev.step (fun k => by rw [topo_neighbors.l1]) ?_
    refine Ev.pos (by omega) (Ev.pos (by omega) (Ev.pos (by omega) (Ev.bind' (sortI (rows.getD i [])) (Ev.const ?_) ?_)))
    · rw [rdL3, hget]
      unfold slices_Sort_int_int.f
      rw [if_pos (by have := hsh i hil; omega)]
      rfl
    · rw [wrap_nat (by omega), Int.toNat_natCast]
      refine ih (i + 1) _ (by omega) ?_
      rw [hc]
      apply List.ext_getElem?
      intro j
      have hmin : min i rows.length = i := by omega
      have hmin2 : min (i + 1) rows.length = i + 1 := by omega
      simp only [List.getElem?_set, List.getElem?_append, List.length_map, List.length_take, List.getElem?_map, List.getElem?_take, List.getElem?_drop, List.length_append, List.length_drop, hmin, hmin2]
      by_cases q1 : i = j
      · subst q1
        simp [hil, List.getD]
        omega
      · rw [if_neg q1]
        by_cases q2 : j < i
        · simp [q2, show j < i + 1 by omega]
        · have q3 : ¬ j < i + 1 := by omega
          simp only [q2, q3, if_false]
          congr 1
          omega
theorem impl_nb_from {a : Int} {l : List S37} (h : Valid a l) (r : List (List Int)) : ∀ d i rows, i + d = l.length → Raw a.toNat l i rows → Ev (fun k => topo_neighbors.l1 k (rawFrom l d i rows) ((rawFrom l d i rows).length : Int) 0) r → Ev (fun k => topo_neighbors.l0 k rows l l.length i) r := by
  intro d
  induction d with
  | zero =>
    intro i rows hi hr hk
    refine Ev.step (fun k => by rw [topo_neighbors.l0]) ?_
    exact Ev.neg (by omega) hk
  | succ d ih =>
    intro i rows hi hr hk
    have hil : i < l.length := by omega
    have hok := h.ok i hil
    have hfew := h.few
    obtain ⟨u, v, hu, hv, hul, hvl⟩ := hok.nat
    have hlen := hr.len
    have hst := hr.step hok rfl
    have s1 := hr.short u hul
    have s2 := hst.short v hvl
    refine Ev.step (fun k => by rw [topo_neighbors.l0]) ?_
    have hk2 := ih (i + 1) (addE rows (l.getD i z37)) (by omega) hst hk
    unfold addE at hk2 hst s2
    simp only [hu, hv, Int.toNat_natCast] at hk2 s2
    refine Ev.pos (by omega) (Ev.pos (by omega) (Ev.pos (by omega) ?_))
    rw [rd37, hu, hv, wrap_nat (by omega)]
    simp only [rdL3, Int.toNat_natCast]
    refine Ev.pos (by omega) (Ev.pos (by omega) (Ev.pos (by omega) (Ev.some_bind (Ev.pos (by omega) (Ev.pos (by omega) (Ev.pos ?_ ?_))))))
    · rw [getD_set (by omega)]
      have s3 := hr.short v hvl
      split
      · rw [List.length_append]; simp; simp at s1; omega
      · omega
    · exact hk2
theorem impl_nb {a : Int} {l : List S37} (h : Valid a l) : Ev (fun k => topo_neighbors.f k a l) (nb a l) := by
  unfold topo_neighbors.f
  have h1 := h.pos
  have h2 := h.most
  refine Ev.pos (by omega) (Ev.pos (by omega) (impl_nb_from h _ l.length 0 _ (by omega) (Raw.init _ _) ?_))
  have hr := h.raw
  refine sort_loop _ (fun x hx => ?_) (by rw [hr.len]; omega) _ 0 _ (Nat.zero_add _) (by simp)
  have := hr.short x (by rw [← hr.len]; exact hx)
  have := h.few
  omega
end Go.Proofs.Ythkpnkmbmlbefaa.PB

/- The examples of the chapter on graphs, reckoned. -/
namespace Go.Proofs.Ythkpnkmbmlbefaa.PB
open Go.RowKit Go.Proofs.Ythkpnkmbmlbefaa Go.Proofs.Ythkpnkmbmlbefaa.X Go.Proofs.YthkpnkmbmlbefaaW.PrintWords Go.Proofs.YthkpnkmbmlbefaaW.PrintLast
def exG : List S37 := [⟨0, 1, 2, 1⟩, ⟨3, 1, 2, 2⟩, ⟨0, 2, 1, 1⟩]
theorem exG_valid : Valid 4 exG := chk_valid (by kernel_rfl)
theorem ex0_valid : Valid 2 [] := chk_valid (by kernel_rfl)
theorem exG_nb : nb 4 exG = [[1, 2], [0], [0, 3], [2]] := by
  have h : rawFrom exG exG.length 0 (List.replicate (4 : Int).toNat []) = [[2, 1], [0], [0, 3], [2]] := by kernel_rfl
  unfold nb
  rw [h]
  simp only [List.map_cons, List.map_nil]
  rw [sortI_is (x := [2, 1]) (y := [1, 2]) (by decide) (by decide), sortI_is (x := [0]) (y := [0]) (by decide) (by decide), sortI_is (x := [0, 3]) (y := [0, 3]) (by decide) (by decide), sortI_is (x := [2]) (y := [2]) (by decide) (by decide)]
theorem ex0_nb : nb 2 [] = [[], []] := by
  unfold nb
  rw [show rawFrom [] ([] : List S37).length 0 (List.replicate (2 : Int).toNat []) = [[], []] by kernel_rfl]
  simp [sortI]
theorem exN : Ev (fun k => topo_neighbors.f k 4 exG) [[1, 2], [0], [0, 3], [2]] := exG_nb ▸ impl_nb exG_valid
theorem ex0N : Ev (fun k => topo_neighbors.f k 2 []) [[], []] := ex0_nb ▸ impl_nb ex0_valid
theorem exC : Ev (fun k => topo_Check.f k 4 exG) 0 := impl_check 4 exG
theorem ex0C : Ev (fun k => topo_Check.f k 2 []) 0 := impl_check 2 []
theorem ex_peer : Ev (fun k => topo_Peer.f k 4 exG 2 2) (3, 1, true) :=
  Ev.of (fun k => topo_Peer.mono _ _ _ _ k) (show topo_Peer.f 60 4 exG 2 2 = some (3, 1, true) by kernel_rfl)
theorem ex_knows (x : Int) (h : 0 ≤ x ∧ x < 4) : Ev (fun k => topo_knows.f k 4 exG x) true := by
  unfold topo_knows.f
  exact Ev.bind' _ exC (Ev.pos rfl (Ev.pos h.1 (Ev.const (by simp [h.2]))))
theorem ex_dist : Ev (fun k => topo_Dist.f k 4 exG 3) [2, 3, 1, 0] := by
  unfold topo_Dist.f
  exact Ev.bind' _ (ex_knows 3 (by decide)) (Ev.pos rfl (Ev.bind' _ exN (Ev.bind' _ (Ev.of (fun k => topo_distances.mono _ _ k) (show topo_distances.f 60 [[1, 2], [0], [0, 3], [2]] 3 = some [2, 3, 1, 0] by kernel_rfl)) (Ev.const rfl))))
theorem ex0_dist : Ev (fun k => topo_Dist.f k 2 [] 0) [0, -1] := by
  unfold topo_Dist.f topo_knows.f
  exact Ev.bind' true (Ev.bind' _ ex0C (Ev.pos rfl (Ev.pos (by decide) (Ev.const (by decide))))) (Ev.pos rfl (Ev.bind' _ ex0N (Ev.bind' _ (Ev.of (fun k => topo_distances.mono _ _ k) (show topo_distances.f 60 [[], []] 0 = some [0, -1] by kernel_rfl)) (Ev.const rfl))))
theorem ex_path : Ev (fun k => topo_Path.f k 4 exG 3 1) [3, 2, 0, 1] := by
  unfold topo_Path.f
  refine Ev.bind' _ (ex_knows 3 (by decide)) (Ev.pos rfl (Ev.bind' _ (ex_knows 1 (by decide)) ?_))
  refine Ev.step (fun k => by rw [topo_Path.j0]) ?_
  refine Ev.neg (by decide) (Ev.bind' _ exN (Ev.bind' _ (Ev.of (fun k => topo_distances.mono _ _ k) (show topo_distances.f 60 [[1, 2], [0], [0, 3], [2]] 1 = some [1, 0, 2, 3] by kernel_rfl)) ?_))
  refine Ev.pos (by decide) (Ev.pos (by decide) (Ev.neg (by decide) ?_))
  exact Ev.of (fun k => (topo_Path.mono_l k).2.1 _ _ _ _ _) (show topo_Path.l0 60 3 1 [[1, 2], [0], [0, 3], [2]] [1, 0, 2, 3] [3] = some [3, 2, 0, 1] by kernel_rfl)
theorem ex0_comp : Ev (fun k => topo_Comp.f k 2 []) [0, 1] := by
  unfold topo_Comp.f
  refine Ev.bind' _ ex0C (Ev.pos rfl (Ev.bind' _ ex0N (Ev.pos (by decide) (Ev.pos (by decide) ?_))))
  exact Ev.of (fun k => (topo_Comp.mono_l k).1 _ _ _) (show topo_Comp.l0 60 [[], []] (List.replicate (2 : Int).toNat 0) 0 = some [0, 1] by kernel_rfl)
theorem ex_diam : Ev (fun k => topo_Diameter.f k 4 exG) 3 := by
  unfold topo_Diameter.f
  refine Ev.bind' _ exC (Ev.pos rfl (Ev.bind' _ exN ?_))
  exact Ev.of (fun k => topo_Diameter.mono_l k _ _ _ _) (show topo_Diameter.l0 60 [[1, 2], [0], [0, 3], [2]] 0 4 0 = some 3 by kernel_rfl)
theorem eq_true' (x : List Int) (hx : x.length < 9223372036854775807) : Ev (fun k => slices_Equal_int_int.f k x x) true := by
  have := eq_ints x x hx
  simpa using this
theorem awake18 : Ev (fun k => timesynclaw18_awake.f k) true := by
  unfold timesynclaw18_awake.f
  refine Ev.some_bind (Ev.bind' (3, 1, true) ex_peer (Ev.pos rfl (Ev.pos rfl (Ev.pos rfl (Ev.bind' _ ex_dist (Ev.bind' _ (eq_true' _ (by decide)) (Ev.pos rfl (Ev.bind' _ ex_path (Ev.bind' _ (eq_true' _ (by decide)) (Ev.pos rfl (Ev.bind' _ ex0_dist (Ev.bind' _ (eq_true' _ (by decide)) (Ev.pos rfl ?_)))))))))))))
  exact Ev.bind' _ ex0_comp (Ev.bind' _ (eq_true' _ (by decide)) (Ev.pos rfl (Ev.bind' _ ex_diam (Ev.const rfl))))
theorem awake18' : Ev (fun k => (timesynclaw18_awake.f k).bind fun t => some t) true := Ev.bind' true awake18 (Ev.const rfl)
end Go.Proofs.Ythkpnkmbmlbefaa.PB

/- Distances: the program's search in waves and the reference's rounds give the numbers that the chapter's rules determine. -/
namespace Go.Proofs.Ythkpnkmbmlbefaa.PB
open Go.RowKit Go.Proofs.Ythkpnkmbmlbefaa Go.Proofs.Ythkpnkmbmlbefaa.X Go.Proofs.YthkpnkmbmlbefaaW.PrintWords Go.Proofs.YthkpnkmbmlbefaaW.PrintLast

theorem rd_gd (l : List Int) (i : Nat) : rd l (i : Int) = gd l i := rdI l i
theorem fill_set (i d : Nat) : (List.replicate i (-1 : Int) ++ List.replicate (d + 1) 0).set i (-1) = List.replicate (i + 1) (-1) ++ List.replicate d 0 := by
  rw [List.set_append_right _ _ (by simp), List.length_replicate, Nat.sub_self, List.replicate_succ, List.set_cons_zero, List.replicate_succ', List.append_assoc]
  rfl
theorem set_nat {l : List Int} {v : Int} (x : Nat) : l.set ((x : Int)).toNat v = l.set x v := by rw [Int.toNat_natCast]
/-! ### The search in waves -/
def toI (w : List Nat) : List Int := w.map fun n : Nat => (n : Int)
theorem toI_len (w : List Nat) : (toI w).length = w.length := by simp [toI]
section
variable {N a : Nat} {next : List (List Int)} {adj : Nat → Nat → Prop}
theorem push_high {x y : Nat} {d : List Int} {w : List Nat} (hlen : d.length = N) (hx : x < N) (hy : y < N) (hx0 : 0 ≤ gd d x) (h : ∀ z, z < N → gd d z + (negs d : Int) < N) (z : Nat) (hz : z < N) : gd (push x (d, w) y).1 z + (negs (push x (d, w) y).1 : Int) < N := by
  have hs := push_size (x := x) (y := y) (d := d) (w := w) (by omega) hx0
  unfold push at hs ⊢
  by_cases q : gd d y < 0
  · simp only [if_pos q] at hs ⊢
    rw [List.length_append, List.length_singleton] at hs
    rw [gd_set (by omega)]
    have h1 := h x hx
    have h2 := h z hz
    split <;> omega
  · simp only [if_neg q]
    exact h z hz
theorem bfs_ok (hR : Rows N next adj) (hN : N ≤ 24) : ∀ (m : Nat) (d : List Int) (w : List Nat), m ≤ 24 → Outer N adj a d w → negs d + w.length ≤ m → (∀ z, z < N → gd d z + (negs d : Int) < N) →
    ∃ r, Ev (fun k => topo_distances.l1 k next d (toI w)) r ∧ Outer N adj a r [] := by
  intro m
  induction m with
  | zero =>
    intro d w _ h hm _
    have hw : w = [] := List.length_eq_zero_iff.1 (by omega)
    subst hw
    refine ⟨d, ?_, h⟩
    refine Ev.step (fun k => by rw [topo_distances.l1]) ?_
    exact Ev.neg (by simp [toI]) (Ev.const rfl)
  | succ m ih =>
    intro d w hm24 h hm hhigh
    cases w with
    | nil =>
      refine ⟨d, ?_, h⟩
      refine Ev.step (fun k => by rw [topo_distances.l1]) ?_
      exact Ev.neg (by simp [toI]) (Ev.const rfl)
    | cons x w =>
      have hr : ∀ u v, adj u v → u < N ∧ v < N := fun u v q => ⟨(hR.all u v q).1, (hR.all u v q).2.1⟩
      have hx := (h.node x List.mem_cons_self).1
      have hrow := hR.mem x hx
      have hsh := hR.short x hx
      have hnl := hR.len
      rw [List.length_cons] at hm
      have hI : ∀ e j done d w, j + e = (next.getD x []).length → Inner N adj a x done d w → (∀ i, i < j → ∀ z : Nat, (next.getD x []).getD i 0 = z → z ∈ done) → negs d + w.length ≤ m → (∀ z, z < N → gd d z + (negs d : Int) < N) →
          ∃ r, Ev (fun k => topo_distances.l2 k next d (toI w) x (next.getD x []) (next.getD x []).length j) r ∧ Outer N adj a r [] := by
        intro e
        induction e with
        | zero =>
          intro j done d w hj hin hdone hm2 hh
          obtain ⟨r, h1, h2⟩ := ih d w (by omega) (hin.outer (fun y hy => by
            obtain ⟨_, _, hmem⟩ := hR.all x y hy
            obtain ⟨i, hi, he⟩ := List.mem_iff_getElem.1 hmem
            refine hdone i (by omega) y ?_
            rw [List.getD_eq_getElem?_getD, List.getElem?_eq_getElem hi, Option.getD_some, he])) hm2 hh
          refine ⟨r, ?_, h2⟩
          refine Ev.step (fun k => by rw [topo_distances.l2]) ?_
          exact Ev.neg (by omega) h1
        | succ e ihe =>
          intro j done d w hj hin hdone hm2 hh
          have hjl : j < (next.getD x []).length := by omega
          obtain ⟨y, hy, hyN, hadj⟩ := hrow ((next.getD x []).getD j 0) (getD_in hjl 0)
          have hlen := hin.len
          have hx0 := hin.hx.2
          have hsz := push_size (x := x) (y := y) (d := d) (w := w) (by omega) hx0
          have hhi := push_high (w := w) hlen hx hyN hx0 hh
          have hin2 := hin.push hr hadj
          obtain ⟨r, h1, h2⟩ := ihe (j + 1) (y :: done) (push x (d, w) y).1 (push x (d, w) y).2 (by omega) hin2 (fun i hi z hz => by
            by_cases q : i = j
            · subst q
              have : z = y := by rw [hy] at hz; omega
              subst this; exact List.mem_cons_self
            · exact List.mem_cons_of_mem _ (hdone i (by omega) z hz)) (by omega) hhi
          refine ⟨r, ?_, h2⟩
          refine Ev.step (fun k => by rw [topo_distances.l2]) ?_
          refine Ev.pos (by omega) (Ev.pos (by omega) (Ev.pos (by omega) ?_))
          rw [rdI, hy, rd_gd, rd_gd, wrap_nat (by omega), set_nat]
          unfold push at h1
          have b1 := hh x hx
          refine Ev.pos (by omega) (Ev.pos (by omega) (Ev.ite_ (fun q => ?_) (fun q => ?_)))
          · simp only [if_pos q] at h1
            refine Ev.pos (by omega) (Ev.pos (by omega) (Ev.pos (by rw [toI_len]; omega) ?_))
            rw [wrap_id (by omega) (by omega), show toI w ++ [(y : Int)] = toI (w ++ [y]) by simp [toI]]
            exact h1
          · simp only [if_neg q] at h1
            exact h1
      obtain ⟨r, h1, h2⟩ := hI _ 0 [] d w (Nat.zero_add _) h.inner (fun i hi => by omega) (by omega) hhigh
      refine ⟨r, ?_, h2⟩
      refine Ev.step (fun k => by rw [topo_distances.l1]) ?_
      have e1 : rd (toI (x :: w)) 0 = (x : Int) := rfl
      have e2 : (toI (x :: w)).drop ((1 : Int)).toNat = toI w := rfl
      rw [e1, e2, rdL3]
      refine Ev.pos (by rw [toI_len, List.length_cons]; omega) (Ev.pos (by rw [toI_len, List.length_cons]; omega) (Ev.pos (by rw [toI_len, List.length_cons]; omega) (Ev.pos (by omega) (Ev.pos (by omega) h1))))
theorem fill_ok (hN : N ≤ 24) {x1 : Int} {r : List Int} (hr : Ev (fun k => if 0 ≤ x1 then (if x1 < ((List.replicate N (-1 : Int)).length : Int) then (topo_distances.l1 k next ((List.replicate N (-1 : Int)).set x1.toNat 0) [x1]) else none) else none) r) :
    ∀ d i, i + d = N → Ev (fun k => topo_distances.l0 k next x1 (List.replicate i (-1 : Int) ++ List.replicate d 0) (N : Int) i) r := by
  intro d
  induction d with
  | zero =>
    intro i hi
    refine Ev.step (fun k => by rw [topo_distances.l0]) ?_
    obtain rfl : i = N := by omega
    rw [List.replicate_zero, List.append_nil]
    exact Ev.neg (by omega) hr
  | succ d ih =>
    intro i hi
    refine Ev.step (fun k => by rw [topo_distances.l0]) ?_
    refine Ev.pos (by omega) (Ev.pos (by omega) (Ev.pos (by simp; omega) ?_))
    rw [wrap_nat (by omega), set_nat, fill_set]
    exact ih (i + 1) (by omega)
theorem negs_init (ha : a < N) : negs ((List.replicate N (-1 : Int)).set a 0) + 1 = N := by
  have := negs_set (c := List.replicate N (-1 : Int)) (x := a) (by simpa using ha) (by simp [gd, List.getD, ha]) (v := 0) (by omega)
  rw [this]
  simp [negs, List.countP_replicate]
theorem distances_ok (hR : Rows N next adj) (hN : N ≤ 24) (ha : a < N) : ∃ r, Ev (fun k => topo_distances.f k next a) r ∧ r.length = N ∧ IsDist N adj a (gd r) := by
  have hr : ∀ u v, adj u v → u < N ∧ v < N := fun u v q => ⟨(hR.all u v q).1, (hR.all u v q).2.1⟩
  have hn := negs_init ha
  have h0 : Outer N adj a ((List.replicate N (-1 : Int)).set a 0) [a] := Outer.init ha
  have g : ∀ j, gd ((List.replicate N (-1)).set a 0) j = if j = a then 0 else gd (List.replicate N (-1)) j := fun j => gd_set (by simpa using ha) _ j
  have gn : ∀ j, j < N → gd (List.replicate N (-1)) j = -1 := fun j hj => by simp [gd, List.getD, hj]
  obtain ⟨r, h1, h2⟩ := bfs_ok hR hN N _ _ hN h0 (by simp; omega) (fun z hz => by rw [g]; split
                                                                                  · omega
                                                                                  · rw [gn z hz]; omega)
  refine ⟨r, ?_, h2.len, h2.dist hr⟩
  unfold topo_distances.f
  have hnl := hR.len
  rw [hnl]
  refine Ev.pos (by omega) (Ev.pos (by omega) (Ev.some_bind ?_))
  rw [Int.toNat_natCast, List.length_replicate]
  have := fill_ok (next := next) (x1 := (a : Int)) hN (r := r) (Ev.pos (by omega) (Ev.pos (by simpa using ha) (by rw [set_nat]; exact h1))) N 0 (by omega)
  simpa using this
end
/-- The distances that the chapter determines. -/
theorem Valid.dist {a : Int} {l : List S37} (h : Valid a l) {x : Nat} (hx : x < a.toNat) : ∃ r, Ev (fun k => topo_distances.f k (nb a l) x) r ∧ r.length = a.toNat ∧ IsDist a.toNat (adjOf (es l)) x (gd r) :=
  distances_ok h.rows (by have := h.most; omega) hx
open Classical in
noncomputable def dst (a : Int) (l : List S37) (x : Nat) : List Int := if h : Valid a l ∧ x < a.toNat then Classical.choose (h.1.dist h.2) else []
/-! ### knows, Dist -/
def isNode (a x : Int) : Prop := 0 ≤ x ∧ x < a
instance (a x : Int) : Decidable (isNode a x) := by unfold isNode; infer_instance
theorem impl_knows (a : Int) (l : List S37) (x : Int) : Ev (fun k => topo_knows.f k a l x) (decide (chk a l = 0 ∧ isNode a x)) := by
  unfold topo_knows.f
  refine Ev.bind' _ (impl_check a l) (Ev.ite_ (fun h => Ev.ite_ (fun h1 => Ev.const ?_) (fun h1 => Ev.const ?_)) (fun h => Ev.const ?_))
  · simp only [h, isNode, true_and]
    congr 1
    by_cases q : x < a <;> simp [q] <;> omega
  · have : ¬ (chk a l = 0 ∧ isNode a x) := fun q => h1 q.2.1
    simp [this]
  · simp [h]
/-! ### The reference's rounds -/
/-- Numbers within bounds. -/
def Small (N c : Nat) (d : List Int) : Prop := d.length = N ∧ ∀ x, x < N → -1 ≤ gd d x ∧ gd d x ≤ c
theorem Small.upd {N c : Nat} {d : List Int} (h : Small N c d) {x y : Nat} (hx : x < N) (hy : y < N) : Small N (c + 1) (upd d x y) := by
  refine ⟨by simp [PB.upd, h.1], fun z hz => ?_⟩
  have h1 := h.2 z hz
  have h2 := h.2 y hy
  have h3 := h.2 x hx
  unfold PB.upd
  rw [gd_set (by rw [h.1]; exact hx)]
  split
  · unfold better
    split <;> omega
  · omega
theorem Small.relax {N c : Nat} {d : List Int} (h : Small N c d) {p : Nat × Nat} (hx : p.1 < N) (hy : p.2 < N) : Small N (c + 2) (relax d p) := (h.upd hx hy).upd hy hx
end Go.Proofs.Ythkpnkmbmlbefaa.PB

/- Peer and Ports: the program and the reference give the same. -/
namespace Go.Proofs.Ythkpnkmbmlbefaa.PB
open Go.RowKit Go.Proofs.Ythkpnkmbmlbefaa Go.Proofs.Ythkpnkmbmlbefaa.X Go.Proofs.YthkpnkmbmlbefaaW.PrintWords Go.Proofs.YthkpnkmbmlbefaaW.PrintLast
/-- What an edge's one end sees of its other end. -/
def sees (e : S37) (x p : Int) : Option (Int × Int) := if e.f0 = x ∧ e.f1 = p then some (e.f2, e.f3) else if e.f2 = x ∧ e.f3 = p then some (e.f0, e.f1) else none
def peerFrom (l : List S37) (x p : Int) : Nat → Nat → Int × Int × Bool
  | 0, _ => (0, 0, false)
  | d + 1, j => match sees (l.getD j z37) x p with
    | some q => (q.1, q.2, true)
    | none => peerFrom l x p d (j + 1)
def peer (a : Int) (l : List S37) (x p : Int) : Int × Int × Bool := if chk a l = 0 ∧ isNode a x then peerFrom l x p l.length 0 else (0, 0, false)
theorem impl_peer_l0 (l : List S37) (hn : l.length ≤ 64) (x p : Int) : ∀ d j, j + d = l.length → Ev (fun k => topo_Peer.l0 k x p l l.length j) (peerFrom l x p d j) := by
  intro d
  induction d with
  | zero =>
    intro j hj
    refine Ev.step (fun k => by rw [topo_Peer.l0]) ?_
    exact Ev.neg (by omega) (Ev.const rfl)
  | succ d ih =>
    intro j hj
    refine Ev.step (fun k => by rw [topo_Peer.l0]) ?_
    refine Ev.pos (by omega) (Ev.pos (by omega) (Ev.pos (by omega) ?_))
    rw [rd37, wrap_nat (by omega)]
    unfold topo_ends.f
    refine Ev.some_bind ?_
    dsimp only
    unfold peerFrom sees
    refine Ev.ite_ (fun q => ?_) (fun q => Ev.ite_ (fun q2 => ?_) (fun q2 => ?_))
    · have q' : (l.getD j z37).f0 = x ∧ (l.getD j z37).f1 = p := by simp at q; exact ⟨by simp; omega, by simp; omega⟩
      rw [if_pos q']; exact Ev.const rfl
    · have q' : ¬ ((l.getD j z37).f0 = x ∧ (l.getD j z37).f1 = p) := fun h => by simp at q h; omega
      have q2' : (l.getD j z37).f2 = x ∧ (l.getD j z37).f3 = p := by simp at q2; exact ⟨by simp; omega, by simp; omega⟩
      rw [if_neg q', if_pos q2']; exact Ev.const rfl
    · have q' : ¬ ((l.getD j z37).f0 = x ∧ (l.getD j z37).f1 = p) := fun h => by simp at q h; omega
      have q2' : ¬ ((l.getD j z37).f2 = x ∧ (l.getD j z37).f3 = p) := fun h => by simp at q2 h; omega
      rw [if_neg q', if_neg q2']; exact ih (j + 1) (by omega)
theorem impl_peer (a : Int) (l : List S37) (x p : Int) : Ev (fun k => topo_Peer.f k a l x p) (peer a l x p) := by
  unfold topo_Peer.f peer
  refine Ev.bind' _ (impl_knows a l x) (Ev.ite_ (fun h => ?_) (fun h => ?_))
  · have h := of_decide_eq_true h
    rw [if_pos h]
    have hv := chk_valid h.1
    exact impl_peer_l0 l hv.few x p l.length 0 (by omega)
  · rw [if_neg (by simpa using h)]; exact Ev.const rfl
/-! ### Ports -/
def portsFrom (a : Int) (l : List S37) (x : Int) : Nat → Nat → List Int
  | 0, _ => []
  | d + 1, j => if (peer a l x j).2.2 = true then (j : Int) :: portsFrom a l x d (j + 1) else portsFrom a l x d (j + 1)
def ports (a : Int) (l : List S37) (x : Int) : List Int := portsFrom a l x 8 1
theorem impl_ports_l0 (a : Int) (l : List S37) (x : Int) : ∀ (d j : Nat) (acc : List Int), j + d = 9 → acc.length ≤ j → Ev (fun k => topo_Ports.l0 k x acc j a l) (acc ++ portsFrom a l x d j) := by
  intro d
  induction d with
  | zero =>
    intro j acc hj ha
    refine Ev.step (fun k => by rw [topo_Ports.l0]) ?_
    exact Ev.neg (by omega) (Ev.const (by simp [portsFrom]))
  | succ d ih =>
    intro j acc hj ha
    refine Ev.step (fun k => by rw [topo_Ports.l0]) ?_
    rw [wrap_nat (by omega)]
    unfold portsFrom
    refine Ev.pos (by omega) (Ev.bind' _ (impl_peer a l x j) (Ev.ite_ (fun q => Ev.pos (by omega) ?_) (fun q => ?_)))
    · rw [if_pos q]
      have := ih (j + 1) (acc ++ [(j : Int)]) (by omega) (by simp; omega)
      simpa using this
    · rw [if_neg q]
      exact ih (j + 1) acc (by omega) (by omega)
theorem impl_ports (a : Int) (l : List S37) (x : Int) : Ev (fun k => topo_Ports.f k a l x) (ports a l x) := by
  unfold topo_Ports.f
  have := impl_ports_l0 a l x 8 1 [] rfl (by simp)
  simpa [ports] using this
theorem portsFrom_len (a : Int) (l : List S37) (x : Int) : ∀ d j, (portsFrom a l x d j).length ≤ d
  | 0, _ => by simp [portsFrom]
  | d + 1, j => by
    unfold portsFrom
    have := portsFrom_len a l x d (j + 1)
    split
    · simp; omega
    · omega
end Go.Proofs.Ythkpnkmbmlbefaa.PB

/- The pure statement of TopoPeers: Peer is symmetric and finds both ends of each edge, Ports lists the ports that have a peer, for any graph. -/
namespace Go.Proofs.Ythkpnkmbmlbefaa.PureTopoPeers
open Go.RowKit Go.Proofs.Ythkpnkmbmlbefaa.X Go.Proofs.Ythkpnkmbmlbefaa.PB Go.Proofs.YthkpnkmbmlbefaaW.PrintWords Go.Proofs.YthkpnkmbmlbefaaW.PrintLast
/-! ### The library's two -/
theorem less_ok (a b : Int) : cmp_Less_int.f a b = some (decide (a < b)) := by
  unfold cmp_Less_int.f cmp_isNaN_int.f
  simp
theorem sorted_l0 (x : List Int) (hx : x.length < 100) (hs : x.Pairwise (· ≤ ·)) : ∀ j : Nat, j < x.length ∨ j = 0 → Ev (fun k => slices_IsSorted_int_int.l0 k x j) true := by
  intro j
  induction j with
  | zero =>
    intro _
    refine Ev.step (fun k => by rw [slices_IsSorted_int_int.l0]) ?_
    exact Ev.neg (by omega) (Ev.const rfl)
  | succ j ih =>
    intro hj
    have hj : j + 1 < x.length := by omega
    refine Ev.step (fun k => by rw [slices_IsSorted_int_int.l0]) ?_
    have e1 : wrap64 (((j + 1 : Nat) : Int) - 1) = (j : Int) := by rw [wrap_id (by omega) (by omega)]; omega
    rw [e1, rdI, rdI, less_ok]
    have h1 := List.pairwise_iff_getElem.1 hs j (j + 1) (by omega) hj (by omega)
    have h2 : x.getD (j + 1) 0 = x[j + 1] := by simp [List.getD, hj]
    have h3 : x.getD j 0 = x[j] := by simp [List.getD, show j < x.length by omega]
    rw [h2, h3]
    exact Ev.pos (by omega) (Ev.pos (by omega) (Ev.pos (by omega) (Ev.pos (by omega) (Ev.pos (by omega) (Ev.some_bind (Ev.neg (by simp; omega) (ih (by omega))))))))
theorem sorted_ok (x : List Int) (hx : x.length < 100) (hs : x.Pairwise (· ≤ ·)) : Ev (fun k => slices_IsSorted_int_int.f k x) true := by
  unfold slices_IsSorted_int_int.f
  rw [wrap_id (by omega) (by omega)]
  by_cases h : x.length = 0
  · rw [h]
    refine Ev.step (fun k => by rw [slices_IsSorted_int_int.l0]) ?_
    exact Ev.neg (by omega) (Ev.const rfl)
  · rw [show (x.length : Int) - 1 = ((x.length - 1 : Nat) : Int) by omega]
    exact sorted_l0 x hx hs _ (by omega)
theorem index_l0 (x : List Int) (hx : x.length < 100) (v : Int) : ∀ d j, j + d = x.length → ∃ r, Ev (fun k => slices_Index_int_int.l0 k x v x.length j) r ∧ (r ≥ 0 ↔ v ∈ x.drop j) := by
  intro d
  induction d with
  | zero =>
    intro j hj
    refine ⟨-1, ?_, ?_⟩
    · refine Ev.step (fun k => by rw [slices_Index_int_int.l0]) ?_
      exact Ev.neg (by omega) (Ev.const rfl)
    · rw [List.drop_of_length_le (by omega)]; simp
  | succ d ih =>
    intro j hj
    have e1 : x.drop j = x.getD j 0 :: x.drop (j + 1) := by
      rw [List.drop_eq_getElem_cons (by omega)]; simp [List.getD, show j < x.length by omega]
    by_cases q : v = x.getD j 0
    · refine ⟨j, ?_, ?_⟩
      · refine Ev.step (fun k => by rw [slices_Index_int_int.l0]) ?_
        rw [rdI]
        exact Ev.pos (by omega) (Ev.pos (by omega) (Ev.pos (by omega) (Ev.pos q (Ev.const rfl))))
      · rw [e1, ← q]; simp
    · obtain ⟨r, h1, h2⟩ := ih (j + 1) (by omega)
      refine ⟨r, ?_, ?_⟩
      · refine Ev.step (fun k => by rw [slices_Index_int_int.l0]) ?_
        rw [rdI, wrap_nat (by omega)]
        exact Ev.pos (by omega) (Ev.pos (by omega) (Ev.pos (by omega) (Ev.neg q h1)))
      · rw [h2, e1, List.mem_cons]
        constructor
        · exact .inr
        · rintro (h | h)
          · exact absurd h q
          · exact h
theorem contains_ok (x : List Int) (hx : x.length < 100) (v : Int) : Ev (fun k => slices_Contains_int_int.f k x v) (decide (v ∈ x)) := by
  obtain ⟨r, h1, h2⟩ := index_l0 x hx v x.length 0 (by omega)
  unfold slices_Contains_int_int.f slices_Index_int_int.f
  refine Ev.bind' r h1 (Ev.const ?_)
  rw [List.drop_zero] at h2
  simp only [h2]
/-! ### Sums over the ends -/
def sumTo (f : Nat → Nat) : Nat → Nat
  | 0 => 0
  | n + 1 => sumTo f n + f n
theorem sumTo_same {f g : Nat → Nat} : ∀ n, (∀ i, i < n → f i = g i) → sumTo f n = sumTo g n
  | 0, _ => rfl
  | n + 1, h => by
    unfold sumTo
    rw [sumTo_same n (fun i hi => h i (by omega)), h n (by omega)]
theorem sumTo_point {f g : Nat → Nat} {i0 c : Nat} : ∀ n, i0 < n → (∀ i, i < n → i ≠ i0 → f i = g i) → f i0 = g i0 + c → sumTo f n = sumTo g n + c
  | 0, h, _, _ => by omega
  | n + 1, h, h1, h2 => by
    unfold sumTo
    by_cases q : i0 = n
    · subst q
      rw [sumTo_same i0 (fun i hi => h1 i (by omega) (by omega)), h2]; omega
    · rw [sumTo_point n (by omega) (fun i hi hn => h1 i (by omega) hn) h2, h1 n (by omega) (fun e => q e.symm)]; omega
theorem sumTo_zero : ∀ n, sumTo (fun _ => 0) n = 0
  | 0 => rfl
  | n + 1 => by unfold sumTo; rw [sumTo_zero n]
/-- How many places of the grid are on. -/
def grid (N : Nat) (f : Nat → Nat → Nat) : Nat := sumTo (fun n => sumTo (f n) 10) N
theorem grid_point {N : Nat} {f g : Nat → Nat → Nat} {n p : Nat} (hn : n < N) (hp : p < 10) (h : ∀ n' p', n' < N → p' < 10 → ¬ (n' = n ∧ p' = p) → f n' p' = g n' p') (h1 : f n p = g n p + 1) : grid N f = grid N g + 1 := by
  unfold grid
  refine sumTo_point N hn (fun i hi hne => sumTo_same 10 (fun j hj => h i j hi hj (fun q => hne q.1))) ?_
  exact sumTo_point 10 hp (fun j hj hne => h n j hn hj (fun q => hne q.2)) h1
def onGrid (l : List S37) (i : Nat) (n p : Nat) : Nat := if usedFrom l ((n : Int), (p : Int)) i 0 = true then 1 else 0
theorem used_succ (l : List S37) (q : Int × Int) (i : Nat) : usedFrom l q (i + 1) 0 = true ↔ usedFrom l q i 0 = true ∨ hasEnd (l.getD i z37) q := by
  rw [usedFrom_iff, usedFrom_iff]
  constructor
  · rintro ⟨j, h1, h2, h3⟩
    by_cases e : j = i
    · subst e; exact .inr h3
    · exact .inl ⟨j, h1, by omega, h3⟩
  · rintro (⟨j, h1, h2, h3⟩ | h)
    · exact ⟨j, h1, by omega, h3⟩
    · exact ⟨i, by omega, by omega, h⟩
theorem grid_step {a : Int} {l : List S37} (h : Valid a l) {i : Nat} (hi : i < l.length) : grid a.toNat (onGrid l (i + 1)) = grid a.toNat (onGrid l i) + 2 := by
  have hok := h.ok i hi
  have hloop := h.loop i hi
  have o0 : ¬ usedFrom l ((l.getD i z37).f0, (l.getD i z37).f1) i 0 = true := fun q => by
    rw [usedFrom_iff] at q
    obtain ⟨j, _, h2, h3⟩ := q
    exact h.once0 i j (by omega) hi h3
  have o1 : ¬ usedFrom l ((l.getD i z37).f2, (l.getD i z37).f3) i 0 = true := fun q => by
    rw [usedFrom_iff] at q
    obtain ⟨j, _, h2, h3⟩ := q
    exact h.once1 i j (by omega) hi h3
  have hs := fun q => used_succ l q i
  unfold hasEnd at hs
  unfold OkE at hok
  generalize l.getD i z37 = e at *
  have n0 : ((e.f0.toNat : Nat) : Int) = e.f0 := by omega
  have p0 : ((e.f1.toNat : Nat) : Int) = e.f1 := by omega
  have n1 : ((e.f2.toNat : Nat) : Int) = e.f2 := by omega
  have p1 : ((e.f3.toNat : Nat) : Int) = e.f3 := by omega
  have s1 : grid a.toNat (fun n p => if n = e.f0.toNat ∧ p = e.f1.toNat then 1 else onGrid l i n p) = grid a.toNat (onGrid l i) + 1 := by
    refine grid_point (n := e.f0.toNat) (p := e.f1.toNat) (by omega) (by omega) (fun n' p' _ _ hne => ?_) ?_
    · simp only [if_neg hne]
    · simp only [and_self, if_true]
      unfold onGrid
      rw [n0, p0, if_neg o0]
  have s2 : grid a.toNat (onGrid l (i + 1)) = grid a.toNat (fun n p => if n = e.f0.toNat ∧ p = e.f1.toNat then 1 else onGrid l i n p) + 1 := by
    refine grid_point (n := e.f2.toNat) (p := e.f3.toNat) (by omega) (by omega) (fun n' p' _ _ hne => ?_) ?_
    · unfold onGrid
      by_cases q : n' = e.f0.toNat ∧ p' = e.f1.toNat
      · rw [if_pos q, if_pos ((hs _).2 (.inr (.inl (by simp only; omega))))]
      · rw [if_neg q]
        by_cases u : usedFrom l ((n' : Int), (p' : Int)) i 0 = true
        · rw [if_pos u, if_pos ((hs _).2 (.inl u))]
        · rw [if_neg u, if_neg (fun q2 => ?_)]
          rcases (hs _).1 q2 with q3 | ⟨q3, q4⟩ | ⟨q3, q4⟩
          · exact u q3
          · exact q (by simp only at q3 q4; omega)
          · exact hne (by simp only at q3 q4; omega)
    · have hne : ¬ (e.f2.toNat = e.f0.toNat ∧ e.f3.toNat = e.f1.toNat) := fun q => by omega
      rw [if_neg hne]
      unfold onGrid
      rw [n1, p1, if_neg o1, if_pos ((hs _).2 (.inr (.inr ⟨rfl, rfl⟩)))]
  rw [s2, s1]
theorem grid_all {a : Int} {l : List S37} (h : Valid a l) : ∀ i, i ≤ l.length → grid a.toNat (onGrid l i) = 2 * i
  | 0, _ => by
    have : grid a.toNat (onGrid l 0) = grid a.toNat (fun _ _ => 0) := by
      unfold grid; exact sumTo_same _ (fun i _ => sumTo_same _ (fun j _ => by simp [onGrid, usedFrom]))
    rw [this]
    unfold grid
    simp only [sumTo_zero]
  | i + 1, hi => by rw [grid_step h (by omega), grid_all h i (by omega)]; omega
/-! ### What Peer tells of a valid graph -/
theorem sees_none {e : S37} {x p : Int} : sees e x p = none ↔ ¬ hasEnd e (x, p) := by
  unfold sees hasEnd
  by_cases h1 : e.f0 = x ∧ e.f1 = p
  · simp [h1]
  · rw [if_neg h1]
    by_cases h2 : e.f2 = x ∧ e.f3 = p
    · simp [h2]
    · rw [if_neg h2]; simp only [true_iff]
      rintro (q | q)
      · exact h1 q
      · exact h2 q
theorem peer_none (l : List S37) (x p : Int) : ∀ d j, (∀ i, j ≤ i → i < j + d → ¬ hasEnd (l.getD i z37) (x, p)) → peerFrom l x p d j = (0, 0, false)
  | 0, _, _ => rfl
  | d + 1, j, h => by
    unfold peerFrom
    rw [sees_none.2 (h j (by omega) (by omega))]
    exact peer_none l x p d (j + 1) (fun i h1 h2 => h i (by omega) (by omega))
theorem peer_first (l : List S37) (x p : Int) (i : Nat) (q : Int × Int) (hq : sees (l.getD i z37) x p = some q) : ∀ d j, j ≤ i → i < j + d → (∀ i', j ≤ i' → i' < i → ¬ hasEnd (l.getD i' z37) (x, p)) → peerFrom l x p d j = (q.1, q.2, true)
  | 0, j, h1, h2, _ => by omega
  | d + 1, j, h1, h2, h3 => by
    unfold peerFrom
    by_cases e : j = i
    · subst e; rw [hq]
    · rw [sees_none.2 (h3 j (by omega) (by omega))]
      exact peer_first l x p i q hq d (j + 1) (by omega) (by omega) (fun i' h4 h5 => h3 i' (by omega) h5)
theorem peer_A {a : Int} {l : List S37} (h0 : chk a l = 0) {i : Nat} (hi : i < l.length) : peer a l (l.getD i z37).f0 (l.getD i z37).f1 = ((l.getD i z37).f2, (l.getD i z37).f3, true) := by
  have h := chk_valid h0
  have hok := h.ok i hi
  unfold OkE at hok
  unfold peer
  rw [if_pos ⟨h0, by unfold isNode; omega⟩]
  exact peer_first l _ _ i ((l.getD i z37).f2, (l.getD i z37).f3) (by unfold sees; rw [if_pos ⟨rfl, rfl⟩]) l.length 0 (by omega) (by omega) (fun i' _ h2 => h.once0 i i' h2 hi)
theorem peer_B {a : Int} {l : List S37} (h0 : chk a l = 0) {i : Nat} (hi : i < l.length) : peer a l (l.getD i z37).f2 (l.getD i z37).f3 = ((l.getD i z37).f0, (l.getD i z37).f1, true) := by
  have h := chk_valid h0
  have hok := h.ok i hi
  have hloop := h.loop i hi
  unfold OkE at hok
  unfold peer
  rw [if_pos ⟨h0, by unfold isNode; omega⟩]
  exact peer_first l _ _ i ((l.getD i z37).f0, (l.getD i z37).f1) (by unfold sees; rw [if_neg (fun q => hloop q.1), if_pos ⟨rfl, rfl⟩]) l.length 0 (by omega) (by omega) (fun i' _ h2 => h.once1 i i' h2 hi)
theorem peer_cases {a : Int} {l : List S37} (h0 : chk a l = 0) (n p : Int) (hn : isNode a n) :
    ((peer a l n p).2.2 = false ∧ ¬ usedFrom l (n, p) l.length 0 = true) ∨ ((peer a l n p).2.2 = true ∧ usedFrom l (n, p) l.length 0 = true ∧ 1 ≤ p ∧ p ≤ 8 ∧ (peer a l n p).1 ≠ n ∧ peer a l (peer a l n p).1 (peer a l n p).2.1 = (n, p, true)) := by
  have h := chk_valid h0
  by_cases u : usedFrom l (n, p) l.length 0 = true
  · right
    have u' := u
    rw [usedFrom_iff] at u'
    obtain ⟨i, _, hi, he⟩ := u'
    have hi : i < l.length := by omega
    have hok := h.ok i hi
    have hloop := h.loop i hi
    unfold OkE at hok
    have A := peer_A h0 hi
    have B := peer_B h0 hi
    rcases he with ⟨h1, h2⟩ | ⟨h1, h2⟩
    · simp only at h1 h2
      subst h1; subst h2
      rw [A]
      exact ⟨rfl, u, by omega, by omega, fun q => hloop q.symm, B⟩
    · simp only at h1 h2
      subst h1; subst h2
      rw [B]
      exact ⟨rfl, u, by omega, by omega, hloop, A⟩
  · left
    refine ⟨?_, u⟩
    rw [usedFrom_iff] at u
    unfold peer
    rw [if_pos ⟨h0, hn⟩, peer_none l n p l.length 0 (fun i h1 h2 h3 => u ⟨i, h1, h2, h3⟩)]
theorem ports_mem (a : Int) (l : List S37) (x : Int) : ∀ d j (v : Int), v ∈ portsFrom a l x d j ↔ ∃ p : Nat, v = p ∧ j ≤ p ∧ p < j + d ∧ (peer a l x p).2.2 = true
  | 0, j, v => by simp [portsFrom]; intros; omega
  | d + 1, j, v => by
    unfold portsFrom
    have ih := ports_mem a l x d (j + 1) v
    have key : (∃ p : Nat, v = p ∧ j ≤ p ∧ p < j + (d + 1) ∧ (peer a l x p).2.2 = true) ↔ ((v = j ∧ (peer a l x j).2.2 = true) ∨ ∃ p : Nat, v = p ∧ j + 1 ≤ p ∧ p < j + 1 + d ∧ (peer a l x p).2.2 = true) := by
      constructor
      · rintro ⟨p, h1, h2, h3, h4⟩
        by_cases q : p = j
        · subst q; exact .inl ⟨h1, h4⟩
        · exact .inr ⟨p, h1, by omega, by omega, h4⟩
      · rintro (⟨h1, h2⟩ | ⟨p, h1, h2, h3, h4⟩)
        · exact ⟨j, h1, by omega, by omega, h2⟩
        · exact ⟨p, h1, by omega, by omega, h4⟩
    rw [key]
    by_cases q : (peer a l x j).2.2 = true
    · rw [if_pos q, List.mem_cons, ih]
      simp [q]
    · rw [if_neg q, ih]
      simp [q]
theorem ports_sorted (a : Int) (l : List S37) (x : Int) : ∀ d j, (portsFrom a l x d j).Pairwise (· ≤ ·)
  | 0, j => by simp [portsFrom]
  | d + 1, j => by
    unfold portsFrom
    split
    · refine List.pairwise_cons.2 ⟨fun v hv => ?_, ports_sorted a l x d (j + 1)⟩
      obtain ⟨p, h1, h2, _, _⟩ := (ports_mem a l x d (j + 1) v).1 hv
      omega
    · exact ports_sorted a l x d (j + 1)
/-! ### The law -/
section
variable {a : Int} {l : List S37} (h0 : chk a l = 0)
include h0
theorem l2_ok : ∀ d j, j + d = l.length → Ev (fun k => timesynclaw18_TopoPeers.l2 k ((2 * l.length : Nat) : Int) l l.length j a l) true := by
  have h := chk_valid h0
  have hfew := h.few
  intro d
  induction d with
  | zero =>
    intro j hj
    refine Ev.step (fun k => by rw [timesynclaw18_TopoPeers.l2]) ?_
    exact Ev.neg (by omega) (Ev.pos (by rw [wrap_id (by omega) (by omega)]; omega) awake18')
  | succ d ih =>
    intro j hj
    have hjl : j < l.length := by omega
    refine Ev.step (fun k => by rw [timesynclaw18_TopoPeers.l2]) ?_
    rw [rd37, wrap_nat (by omega)]
    have hp := impl_peer a l (l.getD j z37).f0 (l.getD j z37).f1
    rw [peer_A h0 hjl] at hp
    exact Ev.pos (by omega) (Ev.pos (by omega) (Ev.pos (by omega) (Ev.bind' _ hp (Ev.pos rfl (Ev.pos rfl (Ev.pos rfl (ih (j + 1) (by omega))))))))
theorem l1_ok (n : Nat) (hn : n < a.toNat) (r : Bool) : ∀ d p (c : Nat), p + d = 10 → c ≤ 900 + p → Ev (fun k => timesynclaw18_TopoPeers.l0 k ((c + (sumTo (onGrid l l.length n) 10 - sumTo (onGrid l l.length n) p) : Nat) : Int) a (wrap64 ((n : Int) + 1)) a l) r →
    Ev (fun k => timesynclaw18_TopoPeers.l1 k c n (ports a l n) a n p a l) r := by
  have hlen := portsFrom_len a l n 8 1
  have mono : ∀ (f : Nat → Nat) d p, sumTo f p ≤ sumTo f (p + d) := fun f d p => by
    induction d with
    | zero => exact Nat.le_refl _
    | succ d ih =>
      have : sumTo f (p + (d + 1)) = sumTo f (p + d) + f (p + d) := rfl
      omega
  intro d
  induction d with
  | zero =>
    intro p c hp hc hk
    obtain rfl : p = 10 := by omega
    refine Ev.step (fun k => by rw [timesynclaw18_TopoPeers.l1]) ?_
    refine Ev.neg (by omega) ?_
    rw [Nat.sub_self, Nat.add_zero] at hk
    exact hk
  | succ d ih =>
    intro p c hp hc hk
    refine Ev.step (fun k => by rw [timesynclaw18_TopoPeers.l1]) ?_
    have hpeer := impl_peer a l n p
    have hnode : isNode a (n : Int) := by unfold isNode; omega
    have hsum : sumTo (onGrid l l.length n) (p + 1) = sumTo (onGrid l l.length n) p + onGrid l l.length n p := rfl
    have hle := mono (onGrid l l.length n) d (p + 1)
    rw [show p + 1 + d = 10 by omega] at hle
    refine Ev.pos (by omega) (Ev.bind' _ hpeer (Ev.bind' _ (contains_ok (ports a l n) (by unfold ports; omega) p) ?_))
    rw [wrap_nat (i := p) (by omega)]
    rcases peer_cases h0 n p hnode with ⟨h1, h2⟩ | ⟨h1, h2, h3, h4, h5, h6⟩
    · have hnot : ¬ (p : Int) ∈ ports a l n := fun q => by
        obtain ⟨p', e1, _, _, e2⟩ := (ports_mem a l n 8 1 p).1 q
        obtain rfl : p' = p := by omega
        rw [h1] at e2; exact absurd e2 (by simp)
      refine Ev.neg (by simp [h1, hnot]) (Ev.neg (by simp [h1]) (ih (p + 1) c (by omega) (by omega) ?_))
      have : onGrid l l.length n p = 0 := by unfold onGrid; rw [if_neg h2]
      rw [hsum, this, Nat.add_zero]
      exact hk
    · have hin : (p : Int) ∈ ports a l n := (ports_mem a l n 8 1 p).2 ⟨p, rfl, by omega, by omega, h1⟩
      have hp2 := impl_peer a l (peer a l n p).1 (peer a l n p).2.1
      rw [h6] at hp2
      refine Ev.neg (by simp [h1, hin]) (Ev.pos h1 (Ev.bind' _ hp2 (Ev.pos rfl (Ev.pos rfl (Ev.pos rfl (Ev.neg h5 ?_))))))
      rw [wrap_nat (by omega)]
      refine ih (p + 1) (c + 1) (by omega) (by omega) ?_
      have : onGrid l l.length n p = 1 := by unfold onGrid; rw [if_pos h2]
      rw [hsum, this] at hle ⊢
      rw [show c + 1 + (sumTo (onGrid l l.length n) 10 - (sumTo (onGrid l l.length n) p + 1)) = c + (sumTo (onGrid l l.length n) 10 - sumTo (onGrid l l.length n) p) by omega]
      exact hk
theorem l0_ok : ∀ d n, n + d = a.toNat → Ev (fun k => timesynclaw18_TopoPeers.l0 k ((sumTo (fun n => sumTo (onGrid l l.length n) 10) n : Nat) : Int) a n a l) true := by
  have h := chk_valid h0
  have hmost := h.most
  have hpos := h.pos
  have hin : ∀ n m, sumTo (onGrid l l.length n) m ≤ m := fun n m => by
    induction m with
    | zero => exact Nat.le_refl _
    | succ m ih =>
      have : onGrid l l.length n m ≤ 1 := by unfold onGrid; split <;> omega
      unfold sumTo; omega
  have hout : ∀ n, sumTo (fun n => sumTo (onGrid l l.length n) 10) n ≤ 10 * n := fun n => by
    induction n with
    | zero => exact Nat.le_refl _
    | succ n ih =>
      have := hin n 10
      unfold sumTo; omega
  intro d
  induction d with
  | zero =>
    intro n hn
    obtain rfl : n = a.toNat := by omega
    have hg : sumTo (fun n => sumTo (onGrid l l.length n) 10) a.toNat = 2 * l.length := grid_all h l.length (Nat.le_refl _)
    rw [hg]
    refine Ev.step (fun k => by rw [timesynclaw18_TopoPeers.l0]) ?_
    exact Ev.neg (by omega) (l2_ok h0 l.length 0 (by omega))
  | succ d ih =>
    intro n hn
    have hlen := portsFrom_len a l n 8 1
    have ho := hout n
    refine Ev.step (fun k => by rw [timesynclaw18_TopoPeers.l0]) ?_
    refine Ev.pos (by omega) (Ev.bind' _ (impl_ports a l n) (Ev.bind' _ (sorted_ok (ports a l n) (by unfold ports; omega) (ports_sorted a l n 8 1)) (Ev.pos rfl ?_)))
    refine l1_ok h0 n (by omega) true 10 0 _ rfl (by omega) ?_
    rw [wrap_nat (by omega)]
    have := ih (n + 1) (by omega)
    exact this
end
theorem TopoPeers : ∀ (x0 : S24), WF24 x0 → ∃ k, timesynclaw18_TopoPeers.f k x0.f0 x0.f1 = some true := by
  intro x _
  refine Ev.rounds ?_
  unfold timesynclaw18_TopoPeers.f timesynclaw18_long.f
  have T : Ev (fun k => timesynclaw18_TopoPeers.j0 k true x.f0 x.f1) true := by
    refine Ev.step (fun k => by rw [timesynclaw18_TopoPeers.j0]) ?_
    exact Ev.pos rfl awake18'
  refine Ev.some_bind (Ev.ite_ (fun _ => T) (fun _ => Ev.bind' _ (impl_check x.f0 x.f1) ?_))
  by_cases h0 : chk x.f0 x.f1 = 0
  · have hpos := (chk_valid h0).pos
    rw [h0]
    refine Ev.step (fun k => by rw [timesynclaw18_TopoPeers.j0]) ?_
    exact Ev.neg (by simp) (l0_ok h0 x.f0.toNat 0 (by omega))
  · have : (chk x.f0 x.f1 != 0) = true := bne_iff_ne.mpr h0
    rw [this]; exact T
end Go.Proofs.Ythkpnkmbmlbefaa.PureTopoPeers

/- What an argument reads as, in the printed words: a type's reading gives cells of its kind, and bounds on the numbers. -/
namespace Go.Proofs.Ythkpnkmbmlbefaa.HO
open Go.RowKit Go.Proofs.YthkpnkmbmlbefaaW.PrintWords Go.Deep

structure Opens {α : Type} (P : Program) (t : TypeId) (d : Kd α) (B : α → Prop) : Prop where
  out : ∀ {H : Type} (enc : TypeId × Value → H) (w : World) (base : Nat) (spare : Nat → Bool) (held : Bool) (fuel : Nat) (cs : List Value) (x : DataW H × List MemPlace),
    DataW.trod enc P w base spare held fuel t cs = some x → ∃ a : α, d.K w a cs ∧ B a

theorem opens_int {P : Program} {t : TypeId} {k : IntKind} (ht : P.underlying t = some (.int k)) : Opens P t (Kd.int k) (fun n => (Lit.int k n).wf = true) := by
  constructor
  intro H enc w base spare held fuel cs x h
  obtain ⟨n, rfl, _, hw⟩ := DataW.trod_int ht h
  exact ⟨n, rfl, hw⟩
theorem opens_slice {α : Type} [Inhabited α] {P : Program} {t e : TypeId} {d : Kd α} {B : α → Prop} (he : Opens P e d B) (ht : P.underlying t = some (.slice e)) (hs : P.cellsOf e = d.sz) :
    Opens P t (Kd.slice e d) (fun xs => xs.length ≤ 9223372036854775807 ∧ ∀ x ∈ xs, B x) := by
  constructor
  intro H enc w base spare held fuel cs x h
  rcases open_slice ht h with ⟨rfl, _⟩ | ⟨a, len, cap, m, n, D, Pl, rfl, _, hl, hm, hmm, _, hx⟩
  · exact ⟨[], ⟨none, 0, rfl, Nat.le_refl _, rfl, by simp, fun h => by simp at h⟩, by simp, by simp⟩
  · have hlm : len ≤ m := by rw [hmm]; split <;> omega
    obtain ⟨X, hX⟩ := choose_lt (α := α) (n := len) (p := fun i x => B x ∧ ∃ c, c.length = d.sz ∧ d.K w x c ∧ ∀ j u, c[j]? = some u → w.cell? (a.add (i * d.sz + j)) = some u) (fun i hi => by
      obtain ⟨cs', h1, h2⟩ := hx i (Nat.lt_of_lt_of_le hi hlm)
      obtain ⟨x, hK, hB⟩ := he.out enc w base spare held n cs' _ h2
      refine ⟨x, hB, cs', d.K_len hK, hK, fun j u hj => ?_⟩
      obtain ⟨_, h4, h5⟩ := World.cells?_some h1
      have hj' : j < cs'.length := (List.getElem?_eq_some_iff.1 hj).1
      have h6 := h5 j (by rw [h4] at hj'; exact hj')
      rw [Go.Deep.add_add, hs] at h6
      rw [h6, hj])
    refine ⟨(List.range len).map X, ⟨some a, cap, by simp, by simpa using hl, by simp, ?_, fun h0 => ⟨a, rfl, fun j p hp => ?_⟩⟩, ?_, ?_⟩
    · have : cap ≤ 9223372036854775807 := by simpa [maxLen] using hm
      simp only [List.length_map, List.length_range]; omega
    · have hj : j < len := by
        have := (List.getElem?_eq_some_iff.1 hp).1
        simpa using this
      have : X j = p := by simpa [hj] using hp
      subst this
      obtain ⟨_, c, h1, h2, h3⟩ := hX j hj
      exact ⟨c, h1, h2, h3⟩
    · have : cap ≤ 9223372036854775807 := by simpa [maxLen] using hm
      simp only [List.length_map, List.length_range]; omega
    · intro x hx
      obtain ⟨j, hj, rfl⟩ := List.mem_map.1 hx
      exact (hX j (List.mem_range.1 hj)).1

/-- The fields from cell 'off' on. -/
structure OpF {α : Type} (P : Program) (off : Nat) (fs : List Field) (d : Kd α) (B : α → Prop) : Prop where
  out : ∀ {H : Type} (enc : TypeId × Value → H) (w : World) (base : Nat) (spare : Nat → Bool) (held : Bool) (n : Nat) (cs : List Value), cs.length = off + d.sz →
    (∀ f ∈ fs, ∃ y, DataW.trod enc P w base spare held n f.type ((cs.drop f.offset).take (P.cellsOf f.type)) = some y) → ∃ a : α, d.K w a (cs.drop off) ∧ B a
theorem opF_one {α : Type} {P : Program} {off : Nat} {f : Field} {d : Kd α} {B : α → Prop} (h : Opens P f.type d B) (ho : f.offset = off) (hs : P.cellsOf f.type = d.sz) : OpF P off [f] d B := by
  constructor
  intro H enc w base spare held n cs hl hf
  obtain ⟨y, hy⟩ := hf f (by simp)
  rw [ho, hs, List.take_of_length_le (by rw [List.length_drop]; omega)] at hy
  exact h.out enc w base spare held n _ _ hy
theorem opF_cons {α β : Type} {P : Program} {off : Nat} {f : Field} {fs : List Field} {d : Kd α} {d' : Kd β} {B : α → Prop} {B' : β → Prop} (h : Opens P f.type d B) (ho : f.offset = off) (hs : P.cellsOf f.type = d.sz) (hr : OpF P (off + d.sz) fs d' B') :
    OpF P off (f :: fs) (Kd.pair d d') (fun p => B p.1 ∧ B' p.2) := by
  constructor
  intro H enc w base spare held n cs hl hf
  obtain ⟨y, hy⟩ := hf f (by simp)
  rw [ho, hs] at hy
  have hl' : cs.length = off + (d.sz + d'.sz) := hl
  obtain ⟨a, hK, hB⟩ := h.out enc w base spare held n _ _ hy
  obtain ⟨b, hK', hB'⟩ := hr.out enc w base spare held n cs (by omega) (fun g hg => hf g (by simp [hg]))
  refine ⟨(a, b), ⟨(cs.drop off).take d.sz, cs.drop (off + d.sz), ?_, hK, hK'⟩, hB, hB'⟩
  rw [← List.drop_drop]
  exact (List.take_append_drop _ _).symm
theorem opens_struct {α β : Type} {P : Program} {t : TypeId} {fs : Array Field} {d : Kd α} {B : α → Prop} (f : β → α) (g : α → β) (hfg : ∀ a, f (g a) = a) (h : OpF P 0 fs.toList d B) (ht : P.underlying t = some (.struct fs)) (hs : P.cellsOf t = d.sz) :
    Opens P t (Kd.iso d f) (fun x => B (f x)) := by
  constructor
  intro H enc w base spare held fuel cs x hx
  obtain ⟨xs, n, _, _, hl, hlen, hf⟩ := DataW.trod_struct ht hx
  obtain ⟨a, hK, hB⟩ := h.out enc w base spare held n cs (by omega) (fun q hq => by
    obtain ⟨i, hi⟩ := List.mem_iff_getElem?.1 hq
    have hi' : fs[i]? = some q := by simpa using hi
    have hlt : i < xs.length := by
      have := (Array.getElem?_eq_some_iff.1 hi').1
      omega
    exact ⟨xs[i], by rw [hf i q hi', List.getElem?_eq_getElem hlt]⟩)
  refine ⟨g a, ?_, by show B (f (g a)); rw [hfg]; exact hB⟩
  show d.K w (f (g a)) cs
  rw [hfg]
  exact hK
end Go.Proofs.Ythkpnkmbmlbefaa.HO

/- The row of TopoPeers: for every input the law returns true, and each argument reads as it read before: out of its pure statement (YthkpnkmbmlbefaaPureTopoPeers) and the printed walk. No condition. -/
namespace Go.Proofs.Ythkpnkmbmlbefaa.topoPeers
open Go.ChangeShapes Go.WideShapes Go.ChangeAt Go.RowKit Go.Proofs.Ythkpnkmbmlbefaa.X Go.Proofs.YthkpnkmbmlbefaaW.PrintWords
open Go.ChangeMaps (open_string shut_string)
set_option linter.unusedVariables false
theorem own : ownKnob Try.prog.godebug = none := by kernel_rfl
theorem laidOut : laidOutB Try.prog = true := by kernel_rfl
theorem opens3 : HO.Opens Try.prog 3 (Kd.int .i64) WFi64 := HO.opens_int Try.underlying3
theorem opens37 : HO.Opens Try.prog 37 k37 WF37 := HO.opens_struct (d := (Kd.pair (Kd.int .i64) (Kd.pair (Kd.int .i64) (Kd.pair (Kd.int .i64) (Kd.int .i64))))) (B := fun p => WFi64 p.1 ∧ WFi64 p.2.1 ∧ WFi64 p.2.2.1 ∧ WFi64 p.2.2.2) (fun x : S37 => (x.f0, x.f1, x.f2, x.f3)) (fun p => (⟨p.1, p.2.1, p.2.2.1, p.2.2.2⟩ : S37)) (fun _ => rfl) (HO.opF_cons (B := WFi64) (B' := (fun p : (Int) × (Int) × (Int) => WFi64 p.1 ∧ WFi64 p.2.1 ∧ WFi64 p.2.2)) opens3 rfl (by kernel_rfl) (HO.opF_cons (B := WFi64) (B' := (fun p : (Int) × (Int) => WFi64 p.1 ∧ WFi64 p.2)) opens3 rfl (by kernel_rfl) (HO.opF_cons (B := WFi64) (B' := WFi64) opens3 rfl (by kernel_rfl) (HO.opF_one opens3 rfl (by kernel_rfl))))) Try.underlying37 (by kernel_rfl)
theorem opens22 : HO.Opens Try.prog 22 (Kd.slice 37 k37) WFL37 := haveI : Inhabited S37 := ⟨z37⟩; HO.opens_slice opens37 Try.underlying22 (by kernel_rfl)
theorem opens24 : HO.Opens Try.prog 24 k24 WF24 := HO.opens_struct (d := (Kd.pair (Kd.int .i64) (Kd.slice 37 k37))) (B := fun p => WFi64 p.1 ∧ WFL37 p.2) (fun x : S24 => (x.f0, x.f1)) (fun p => (⟨p.1, p.2⟩ : S24)) (fun _ => rfl) (HO.opF_cons (B := WFi64) (B' := WFL37) opens3 rfl (by kernel_rfl) (HO.opF_one opens22 rfl (by kernel_rfl))) Try.underlying24 (by kernel_rfl)
set_option maxRecDepth 100000 in
theorem lifted (os : Os) (started : os.Started) (H : Type) (enc : TypeId × Value → H) :
    ReturnsInHanded {} Try.checked os 10 .any (Rows.topoPeersSpec.pre6 enc Try.prog Try.f10 Rows.topoPeersRow.domain false) (Rows.topoPeersSpec.post enc Try.prog Try.f10 false true false false) := by
  refine returnsInHanded_of_change_sized (C := Try.checked) own started (by kernel_rfl) Try.func10
    (ChangeSpec.witness6 (enc := enc) (C := Try.checked) false ⟨#[], #[.agg #[.int .i64 0, .slice none 0 0]], []⟩ 8 (by kernel_rfl) (by kernel_rfl) (by kernel_rfl) (by kernel_rfl)) ?_
  intro W base args ds gs before hval0 hW hcnd hsz0 _
  have hval : ∀ (j : Nat) t v, Try.f10.params[j]? = some t → args[j]? = some v → Value.okWide Try.prog W .any base t v := hval0
  have hW' := hW
  obtain ⟨p, q, hA0, hV, rfl, hfz, hnd⟩ := hW
  have hA : DataW.TrodAll enc Try.prog W 0 (fun _ => true) true Try.f10.params.toList args.toList ds p := hA0
  rw [Try.params10] at hA hval
  obtain ⟨v0, vs0, d0, ds0, p0, q0, hargs, rfl, rfl, h0, r0⟩ := trodAll_cons hA
  obtain ⟨rfl, rfl, rfl⟩ := trodAll_nil r0
  obtain rfl : args = #[v0] := by cases args; simp_all
  obtain ⟨rfl, rfl⟩ := trodVars_none hV
  have k0 := h0
  have lt0 : ∀ x ∈ p0, x.block < W.heap.size := by obtain ⟨m, hm⟩ := k0; exact DataW.trod_lt m _ _ _ hm
  obtain ⟨fuel0, hf0⟩ := h0
  obtain ⟨x0, K0, B0⟩ := opens24.out enc W 0 _ true fuel0 _ _ hf0
  obtain ⟨cs0, rfl, hs0⟩ := okWide_struct Try.underlying24 (hval 0 24 v0 rfl rfl)
  obtain ⟨A0_1, c0_1, e0, hc0_1, hr0_1⟩ := k24_open K0
  obtain ⟨cl0⟩ := cs0
  simp only [Value.cells] at e0
  subst e0
  clear hA0 hval0 hsz0
  obtain ⟨k, hp⟩ := PureTopoPeers.TopoPeers x0 B0
  refine (timesynclaw18_TopoPeers.calls k x0.f0 _ _ x0.f1 true W hr0_1 hc0_1 hp).mono fun e W' ⟨he, bel0⟩ => ?_
  have bel := bel0
  subst he
  exact ⟨_, rfl, _, _, _, [], _, [], hW', trodAll_mk1 (shut_bool Try.underlying4 _), (trodAll_cons_mk (Below.trod laidOut (by kernel_rfl) (of_decide_eq_true (by kernel_rfl)) k0 bel lt0) trodAll_mk0), rfl, bel.frame _, fun h => by cases h⟩
theorem over : Rows.topoPeersRow.holds Try.pinned (OpenSpec.ofChange Rows.topoPeersSpec) :=
  OpenClaim.holds_of_wide 10 Try.f10 rfl rfl rfl rfl rfl rfl rfl ⟨rfl, rfl, rfl, rfl, rfl⟩ rfl rfl rfl rfl rfl (by kernel_rfl) Try.func10 (by kernel_rfl)
    (of_decide_eq_true (by kernel_rfl)) (by unfold Func.isWrapper; first | (rw [if_pos (by decide +kernel)]; kernel_rfl) | (rw [if_neg (by decide +kernel)]; exact ⟨rfl, rfl⟩))
    (fun os started H enc _ => lifted os started H enc)
#print axioms over
end Go.Proofs.Ythkpnkmbmlbefaa.topoPeers
namespace Go.Proofs.Ythkpnkmbmlbefaa
/-- The row of TopoPeers. -/
theorem topoPeers_holds : Rows.TopoPeersSaid := topoPeers.over
end Go.Proofs.Ythkpnkmbmlbefaa
