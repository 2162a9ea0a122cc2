/- Ythkpnkmbmlbefaa: part 5 of 5 of the proof that the law TopoPorts returns true for every input, its arguments reading as before. No condition. -/
import Derived.Test.YthkpnkmbmlbefaaMTopoPorts1
import Derived.Test.YthkpnkmbmlbefaaMTopoPorts4
import Derived.Test.YthkpnkmbmlbefaaMTopoPorts2
import Derived.Test.YthkpnkmbmlbefaaMTopoPorts3
import Derived.KernelRfl
import Derived.Deep.Slices
import Derived.DataReads
import Derived.Test.YthkpnkmbmlbefaaRows
import Derived.WalkKit
import Derived.ProofKit
import Derived.OpenShut
import Derived.ShutString
import Derived.ChangeOld
import Derived.Below
import Derived.SizedLaws
import Derived.WideShapes
namespace Go.Proofs.Ythkpnkmbmlbefaa.X
open Go.RowKit Go.Proofs.YthkpnkmbmlbefaaW.PrintWords Go.Proofs.YthkpnkmbmlbefaaW.PrintLast Go.Proofs.YthkpnkmbmlbefaaW.PrintMore
attribute [local go_sem] max2_int min2_int max_two min_two max_three min_three max_four min_four   -- for this text's walks alone
set_option linter.unusedVariables false
set_option linter.unusedSimpArgs false

/-! ### timesyncref18_Check: function 18 -/
mutual
def timesyncref18_Check.j0 : Nat → Bool → Int → List (S37) → Option (Int)
 | 0, _, _, _ => none
 | k + 1, x12, x225000, x225001 => if x12 = true then (some 3) else (if (x225001.length : Int) > 64 then (some 6) else (timesyncref18_Check.l0 k 0 x225000 x225001))
def timesyncref18_Check.l0 : Nat → Int → Int → List (S37) → Option (Int)
 | 0, _, _, _ => none
 | k + 1, x3, x225000, x225001 => if x3 < (x225001.length : Int) then (if 0 ≤ x3 then ((timesyncref18_isNode.f x225000 x225001 ((rd_T37 x225001 x3).f0)).bind fun t227 => (if t227 = true then ((timesyncref18_isNode.f x225000 x225001 ((rd_T37 x225001 x3).f2)).bind fun t228 => (if t228 = true then ((timesyncref18_isPort.f ((rd_T37 x225001 x3).f1)).bind fun t229 => (if t229 = true then ((timesyncref18_isPort.f ((rd_T37 x225001 x3).f3)).bind fun t230 => (timesyncref18_Check.j2 k x3 (!t230) x225000 x225001 ((rd_T37 x225001 x3).f0) ((rd_T37 x225001 x3).f1) ((rd_T37 x225001 x3).f2) ((rd_T37 x225001 x3).f3))) else (timesyncref18_Check.j2 k x3 true x225000 x225001 ((rd_T37 x225001 x3).f0) ((rd_T37 x225001 x3).f1) ((rd_T37 x225001 x3).f2) ((rd_T37 x225001 x3).f3)))) else (timesyncref18_Check.j2 k x3 true x225000 x225001 ((rd_T37 x225001 x3).f0) ((rd_T37 x225001 x3).f1) ((rd_T37 x225001 x3).f2) ((rd_T37 x225001 x3).f3)))) else (timesyncref18_Check.j2 k x3 true x225000 x225001 ((rd_T37 x225001 x3).f0) ((rd_T37 x225001 x3).f1) ((rd_T37 x225001 x3).f2) ((rd_T37 x225001 x3).f3)))) else (none)) else (some 0)
def timesyncref18_Check.j2 : Nat → Int → Bool → Int → List (S37) → Int → Int → Int → Int → Option (Int)
 | 0, _, _, _, _, _, _, _, _ => none
 | k + 1, x3, x52, x225000, x225001, x227000, x227001, x227002, x227003 => if x52 = true then (some 3) else (if x227000 = x227002 then (some 18) else ((timesyncref18_used.f k x225000 x225001 x3 x227000 x227001).bind fun t231 => (if t231 = true then (some 10) else ((timesyncref18_used.f k x225000 x225001 x3 x227002 x227003).bind fun t232 => (if t232 = true then (some 10) else (timesyncref18_Check.l0 k (wrap64 (x3 + 1)) x225000 x225001))))))
end
def timesyncref18_Check.f (k : Nat) (a0_0 : Int) (l0_1 : List (S37)) : Option (Int) := if a0_0 < 1 then (timesyncref18_Check.j0 k true a0_0 l0_1) else (timesyncref18_Check.j0 k (decide (a0_0 > 24)) a0_0 l0_1)
set_option maxHeartbeats 8000000 in
set_option maxRecDepth 100000 in
theorem timesyncref18_Check.calls (k : Nat) (a0_0 : Int) (A0_1 : Option Addr) (c0_1 : Nat) (l0_1 : List (S37)) (r : Int) (w : World) (hr0_1 : Kd.C k37 w A0_1 l0_1.length l0_1) (hc0_1 : l0_1.length ≤ c0_1) (h : timesyncref18_Check.f k a0_0 l0_1 = some r) :
  Calls Try.prog 18 #[.agg #[.int .i64 a0_0, .slice A0_1 l0_1.length c0_1]] w fun e w' => e = .returned (.int .i64 r) ∧ Below w.heap.size w w' := by
 have hu24 := Try.underlying24
 have hu37 := Try.underlying37
 have HR0_1 := Aside0.mk hr0_1
 have HC0_1 := Aside0.mk hc0_1
 clear hr0_1 hc0_1
 have HB := Aside0.mk (Below.refl w.heap.size w)
 have H : (if a0_0 < 1 then (timesyncref18_Check.j0 k true a0_0 l0_1) else (timesyncref18_Check.j0 k (decide (a0_0 > 24)) a0_0 l0_1)) = some r := h
 clear h
 have HC2 := Aside0.mk H
 clear H
 go_enter Try.func18, Try.ntmps18
 go_upto_region 1 with (first | ((with_reducible refine gate_dst (N := 1) rfl ?_); refine box_event ?hg (N := 1) ?hd (cs := #[.int .i64 a0_0, .slice A0_1 l0_1.length c0_1]) (t := 24) ?hr ?_; (case hd => rfl); (case hg => rfl); (case hr => first | (go_simp; done) | (go_simp; rfl)); intro gb224 hg w3 hbox hb; have n0_ := Aside0.mk (below_step (by exact HB.out) hb); have n1_ := Aside0.mk (hbox); have n2_ := Aside0.mk ((by rw [hg]; exact (below_size (by exact HB.out)) : w.heap.size ≤ gb224)); have n3_ := Aside0.mk ((by rw [hg]; exact (below_size (by exact HB.out)) : w.heap.size ≤ gb224)); clear HB; have HB := n0_; have BK224 := n1_; have GW224 := n2_; have GE224 := n3_; clear n0_ n1_ n2_ n3_; clear hb hbox hg))
 (try simp only [Act.put, List.setIfInBounds_toArray, List.set_cons_zero, List.set_cons_succ])
 go_cut [12] (fun v12 wc => ∃ (kq : Nat) (x12_1 : Bool), v12 = .bool x12_1 ∧ Aside0 (timesyncref18_Check.j0 kq x12_1 a0_0 l0_1 = some r) ∧ Aside0 (kq ≤ k) ∧ Aside0 (wc.heap[gb224]? = some (.cells #[.int .i64 a0_0, (.slice A0_1 l0_1.length c0_1)] 24 (0, 0))) ∧ Aside0 (Below w.heap.size w wc))
 case first =>
  have H := HC2.out
  clear HC2
  by_cases c4 : a0_0 < 1
  ·rw [if_pos c4] at H
   have c4b0 : decide (a0_0 < 1) = true := decide_eq_true c4
   clear c4
   (first | rw [c4b0] | (simp only [i64_w, i32_w]; rw [c4b0]) | skip)
   have H' := Aside0.mk H
   clear H
   have hcz5_0 : w3.cell? ⟨gb224, 0, none⟩ = some (.int .i64 a0_0) := (blk_cell BK224.out 0).trans rfl
   have hcz5_1 : w3.cell? ⟨gb224, 1, none⟩ = some (.slice A0_1 l0_1.length c0_1) := (blk_cell BK224.out 1).trans rfl
   have hfz5_0 := blk_frozen BK224.out 0
   have hfz5_1 := blk_frozen BK224.out 1
   go_wp2
   go_meet
   case rel => exact ⟨_, (true), (by first | rfl | (simp; done) | (simp [*]; done)), H', ⟨by first | omega | exact Nat.le_refl _⟩, ⟨by exact BK224.out⟩, ⟨by exact HB.out⟩⟩
  ·rw [if_neg c4] at H
   have c4b0 : decide (a0_0 < 1) = false := decide_eq_false c4
   clear c4
   (first | rw [c4b0] | (simp only [i64_w, i32_w]; rw [c4b0]) | skip)
   have H' := Aside0.mk H
   clear H
   have hcz6_0 : w3.cell? ⟨gb224, 0, none⟩ = some (.int .i64 a0_0) := (blk_cell BK224.out 0).trans rfl
   have hcz6_1 : w3.cell? ⟨gb224, 1, none⟩ = some (.slice A0_1 l0_1.length c0_1) := (blk_cell BK224.out 1).trans rfl
   have hfz6_0 := blk_frozen BK224.out 0
   have hfz6_1 := blk_frozen BK224.out 1
   go_wp2
   go_meet
   case rel => exact ⟨_, (decide (a0_0 > 24)), (by first | rfl | (simp; done) | (simp [*]; done)), H', ⟨by first | omega | exact Nat.le_refl _⟩, ⟨by exact BK224.out⟩, ⟨by exact HB.out⟩⟩
 case rest =>
  clear HC2












  obtain ⟨kq, x12_1, rfl, HA, HJ1, BK224, HB⟩ := hcut
  cases kq with
  | zero => exact absurd HA.out (by simp [timesyncref18_Check.j0])
  | succ kj1 =>
   have H := HA.out
   clear HA
   simp only [timesyncref18_Check.j0] at H
   by_cases c7 : x12_1 = true
   ·subst c7
    have H1 : (some 3) = some r := by rw [if_pos rfl] at H; exact H
    clear H
    have H := H1
    clear H1
    obtain rfl := Option.some.inj H
    go_wp2
    go_ret
    exact ⟨by first | rfl | (simp [errW_none, errW_some] <;> rfl) | (simp [*, errW_none, errW_some] <;> rfl), by exact HB.out⟩
   ·replace c7 := Bool.eq_false_iff.mpr c7
    subst c7
    have H1 : (if (l0_1.length : Int) > 64 then (some 6) else (timesyncref18_Check.l0 kj1 0 a0_0 l0_1)) = some r := by rw [if_neg (show ¬ (false = true) by decide)] at H; exact H
    clear H
    have H := H1
    clear H1
    by_cases c8 : (l0_1.length : Int) > 64
    ·rw [if_pos c8] at H
     have c8b0 : decide (64 < (l0_1.length : Int)) = true := decide_eq_true c8
     have c8b1 : decide (64 < l0_1.length) = true := decide_eq_true (by omega)
     clear c8
     obtain rfl := Option.some.inj H
     have hcz9_0 : wc.cell? ⟨gb224, 0, none⟩ = some (.int .i64 a0_0) := (blk_cell BK224.out 0).trans rfl
     have hcz9_1 : wc.cell? ⟨gb224, 1, none⟩ = some (.slice A0_1 l0_1.length c0_1) := (blk_cell BK224.out 1).trans rfl
     have hfz9_0 := blk_frozen BK224.out 0
     have hfz9_1 := blk_frozen BK224.out 1
     go_wp2
     go_ret
     exact ⟨by first | rfl | (simp [errW_none, errW_some] <;> rfl) | (simp [*, errW_none, errW_some] <;> rfl), by exact HB.out⟩
    ·rw [if_neg c8] at H
     have c8b0 : decide (64 < (l0_1.length : Int)) = false := decide_eq_false c8
     have c8b1 : decide (64 < l0_1.length) = false := decide_eq_false (by omega)
     clear c8
     have H' := Aside0.mk H
     clear H
     have hcz10_0 : wc.cell? ⟨gb224, 0, none⟩ = some (.int .i64 a0_0) := (blk_cell BK224.out 0).trans rfl
     have hcz10_1 : wc.cell? ⟨gb224, 1, none⟩ = some (.slice A0_1 l0_1.length c0_1) := (blk_cell BK224.out 1).trans rfl
     have hfz10_0 := blk_frozen BK224.out 0
     have hfz10_1 := blk_frozen BK224.out 1
     go_wp2
     go_loopg [3] kj1 (fun kq v3 w' => ∃ (x3_2 : Int), v3 = .int .i64 x3_2 ∧ Aside0 (timesyncref18_Check.l0 kq x3_2 a0_0 l0_1 = some r) ∧ Aside0 (kq ≤ kj1) ∧ Aside0 (w'.heap[gb224]? = some (.cells #[.int .i64 a0_0, (.slice A0_1 l0_1.length c0_1)] 24 (0, 0))) ∧ Aside0 (Below w.heap.size w w'))
     case atStart => exact ⟨(0), (by first | rfl | (simp; done) | (simp [*]; done)), H', ⟨Nat.le_refl _⟩, ⟨by exact BK224.out⟩, ⟨by exact HB.out⟩⟩
     case round =>
      clear H'

























      obtain ⟨x3_2, rfl, HA, HK2, BK224, HB⟩ := hrel
      cases gk with
      | zero => exact absurd HA.out (by simp [timesyncref18_Check.l0])
      | succ k2 =>
       have H := HA.out
       clear HA
       simp only [timesyncref18_Check.l0] at H
       by_cases c11 : x3_2 < (l0_1.length : Int)
       ·rw [if_pos c11] at H
        have c11b0 : decide (x3_2 < (l0_1.length : Int)) = true := decide_eq_true c11
        clear c11
        by_cases c12 : 0 ≤ x3_2
        ·rw [if_pos c12] at H
         have c12b0 : decide (0 ≤ x3_2) = true := decide_eq_true c12
         clear c12
         have HC13 := Aside0.mk H
         clear H
         have hcz14_0 : wr.cell? ⟨gb224, 0, none⟩ = some (.int .i64 a0_0) := (blk_cell BK224.out 0).trans rfl
         have hcz14_1 : wr.cell? ⟨gb224, 1, none⟩ = some (.slice A0_1 l0_1.length c0_1) := (blk_cell BK224.out 1).trans rfl
         have hfz14_0 := blk_frozen BK224.out 0
         have hfz14_1 := blk_frozen BK224.out 1
         have p225 : 0 ≤ (x3_2 : Int) := of_decide_eq_true (by first | (with_reducible assumption) | assumption)
         have q225 : x3_2 < (l0_1.length : Int) := of_decide_eq_true (by first | (with_reducible assumption) | assumption)
         obtain ⟨ad225, e225, hx225_0, hx225_1, hx225_2, hx225_3⟩ := at_T37 HR0_1.out x3_2 p225 q225
         cases e225
         try replace hx225_0 := (HB.out.cell (World.block_lt_of_cell? w _ hx225_0)).trans hx225_0
         try replace hx225_1 := (HB.out.cell (World.block_lt_of_cell? w _ hx225_1)).trans hx225_1
         try replace hx225_2 := (HB.out.cell (World.block_lt_of_cell? w _ hx225_2)).trans hx225_2
         try replace hx225_3 := (HB.out.cell (World.block_lt_of_cell? w _ hx225_3)).trans hx225_3
         replace p225 := eq_true p225
         replace q225 := eq_true q225
         go_upto_region 9 with (first | ((with_reducible refine gate_dst (N := 4) rfl ?_); refine box_event ?hg (N := 4) ?hd (cs := #[.int .i64 0, .int .i64 0, .int .i64 0, .int .i64 0]) (t := 37) ?hr ?_; (case hd => rfl); (case hg => rfl); (case hr => first | (go_simp; done) | (go_simp; rfl)); intro gb226 hg w15 hbox hb; have n0_ := Aside0.mk (blk_below (g := gb224) (o := .cells #[.int .i64 a0_0, .slice (some ad225) l0_1.length c0_1] 24 (0, 0)) (by exact BK224.out) hb); have n1_ := Aside0.mk (below_step (by exact HB.out) hb); have n2_ := Aside0.mk (hbox); have n3_ := Aside0.mk ((by rw [hg]; exact (below_size (by exact HB.out)) : w.heap.size ≤ gb226)); have n4_ := Aside0.mk ((by rw [hg]; exact (below_size (by exact HB.out)) : w.heap.size ≤ gb226)); have n5_ := Aside0.mk ((by rw [hg]; exact Nat.ne_of_lt (blk_lt (g := gb224) (o := .cells #[.int .i64 a0_0, .slice (some ad225) l0_1.length c0_1] 24 (0, 0)) (by exact BK224.out)) : gb224 ≠ gb226)); have n6_ := Aside0.mk ((by rw [hg]; exact Nat.ne_of_gt (blk_lt (g := gb224) (o := .cells #[.int .i64 a0_0, .slice (some ad225) l0_1.length c0_1] 24 (0, 0)) (by exact BK224.out)) : gb226 ≠ gb224)); clear BK224; clear HB; have BK224 := n0_; have HB := n1_; have BK226 := n2_; have GW226 := n3_; have GE226 := n4_; have NB224_226 := n5_; have NB226_224 := n6_; clear n0_ n1_ n2_ n3_ n4_ n5_ n6_; clear hb hbox hg; have hnb16 := NB226_224.out; have hnc16 := NB224_226.out; have hcz17_0 : w15.cell? ⟨gb226, 0, none⟩ = some (.int .i64 0) := (blk_cell BK226.out 0).trans rfl; have hcz17_1 : w15.cell? ⟨gb226, 1, none⟩ = some (.int .i64 0) := (blk_cell BK226.out 1).trans rfl; have hcz17_2 : w15.cell? ⟨gb226, 2, none⟩ = some (.int .i64 0) := (blk_cell BK226.out 2).trans rfl; have hcz17_3 : w15.cell? ⟨gb226, 3, none⟩ = some (.int .i64 0) := (blk_cell BK226.out 3).trans rfl; have hfz17_0 := blk_frozen BK226.out 0; have hfz17_1 := blk_frozen BK226.out 1; have hfz17_2 := blk_frozen BK226.out 2; have hfz17_3 := blk_frozen BK226.out 3))
         (try simp only [Act.put, List.setIfInBounds_toArray, List.set_cons_zero, List.set_cons_succ])
         go_cut [52] (fun v52 wc => ∃ (kq : Nat) (x52_12 : Bool), v52 = .bool x52_12 ∧ Aside0 (timesyncref18_Check.j2 kq x3_2 x52_12 a0_0 l0_1 ((rd_T37 l0_1 x3_2).f0) ((rd_T37 l0_1 x3_2).f1) ((rd_T37 l0_1 x3_2).f2) ((rd_T37 l0_1 x3_2).f3) = some r) ∧ Aside0 (kq ≤ k2) ∧ Aside0 (wc.heap[gb224]? = some (.cells #[.int .i64 a0_0, (.slice (some ad225) l0_1.length c0_1)] 24 (0, 0))) ∧ Aside0 (wc.heap[gb226]? = some (.cells #[.int .i64 ((rd_T37 l0_1 x3_2).f0), .int .i64 ((rd_T37 l0_1 x3_2).f1), .int .i64 ((rd_T37 l0_1 x3_2).f2), .int .i64 ((rd_T37 l0_1 x3_2).f3)] 37 (0, 0))) ∧ Aside0 (Below w.heap.size w wc))
         case first =>
          have H := HC13.out
          clear HC13
          replace H := Option.bind_eq_some_iff.mp H
          obtain ⟨t227, A180, H⟩ := H
          replace H : (if t227 = true then ((timesyncref18_isNode.f a0_0 l0_1 ((rd_T37 l0_1 x3_2).f2)).bind fun t228 => (if t228 = true then ((timesyncref18_isPort.f ((rd_T37 l0_1 x3_2).f1)).bind fun t229 => (if t229 = true then ((timesyncref18_isPort.f ((rd_T37 l0_1 x3_2).f3)).bind fun t230 => (timesyncref18_Check.j2 k2 x3_2 (!t230) a0_0 l0_1 ((rd_T37 l0_1 x3_2).f0) ((rd_T37 l0_1 x3_2).f1) ((rd_T37 l0_1 x3_2).f2) ((rd_T37 l0_1 x3_2).f3))) else (timesyncref18_Check.j2 k2 x3_2 true a0_0 l0_1 ((rd_T37 l0_1 x3_2).f0) ((rd_T37 l0_1 x3_2).f1) ((rd_T37 l0_1 x3_2).f2) ((rd_T37 l0_1 x3_2).f3)))) else (timesyncref18_Check.j2 k2 x3_2 true a0_0 l0_1 ((rd_T37 l0_1 x3_2).f0) ((rd_T37 l0_1 x3_2).f1) ((rd_T37 l0_1 x3_2).f2) ((rd_T37 l0_1 x3_2).f3)))) else (timesyncref18_Check.j2 k2 x3_2 true a0_0 l0_1 ((rd_T37 l0_1 x3_2).f0) ((rd_T37 l0_1 x3_2).f1) ((rd_T37 l0_1 x3_2).f2) ((rd_T37 l0_1 x3_2).f3))) = some r := H
          have A18 := Aside0.mk A180
          clear A180
          by_cases c19 : t227 = true
          ·subst c19
           have H1 : ((timesyncref18_isNode.f a0_0 l0_1 ((rd_T37 l0_1 x3_2).f2)).bind fun t228 => (if t228 = true then ((timesyncref18_isPort.f ((rd_T37 l0_1 x3_2).f1)).bind fun t229 => (if t229 = true then ((timesyncref18_isPort.f ((rd_T37 l0_1 x3_2).f3)).bind fun t230 => (timesyncref18_Check.j2 k2 x3_2 (!t230) a0_0 l0_1 ((rd_T37 l0_1 x3_2).f0) ((rd_T37 l0_1 x3_2).f1) ((rd_T37 l0_1 x3_2).f2) ((rd_T37 l0_1 x3_2).f3))) else (timesyncref18_Check.j2 k2 x3_2 true a0_0 l0_1 ((rd_T37 l0_1 x3_2).f0) ((rd_T37 l0_1 x3_2).f1) ((rd_T37 l0_1 x3_2).f2) ((rd_T37 l0_1 x3_2).f3)))) else (timesyncref18_Check.j2 k2 x3_2 true a0_0 l0_1 ((rd_T37 l0_1 x3_2).f0) ((rd_T37 l0_1 x3_2).f1) ((rd_T37 l0_1 x3_2).f2) ((rd_T37 l0_1 x3_2).f3)))) = some r := by rw [if_pos rfl] at H; exact H
           clear H
           have H := H1
           clear H1
           replace H := Option.bind_eq_some_iff.mp H
           obtain ⟨t228, A200, H⟩ := H
           replace H : (if t228 = true then ((timesyncref18_isPort.f ((rd_T37 l0_1 x3_2).f1)).bind fun t229 => (if t229 = true then ((timesyncref18_isPort.f ((rd_T37 l0_1 x3_2).f3)).bind fun t230 => (timesyncref18_Check.j2 k2 x3_2 (!t230) a0_0 l0_1 ((rd_T37 l0_1 x3_2).f0) ((rd_T37 l0_1 x3_2).f1) ((rd_T37 l0_1 x3_2).f2) ((rd_T37 l0_1 x3_2).f3))) else (timesyncref18_Check.j2 k2 x3_2 true a0_0 l0_1 ((rd_T37 l0_1 x3_2).f0) ((rd_T37 l0_1 x3_2).f1) ((rd_T37 l0_1 x3_2).f2) ((rd_T37 l0_1 x3_2).f3)))) else (timesyncref18_Check.j2 k2 x3_2 true a0_0 l0_1 ((rd_T37 l0_1 x3_2).f0) ((rd_T37 l0_1 x3_2).f1) ((rd_T37 l0_1 x3_2).f2) ((rd_T37 l0_1 x3_2).f3))) = some r := H
           have A20 := Aside0.mk A200
           clear A200
           by_cases c21 : t228 = true
           ·subst c21
            have H1 : ((timesyncref18_isPort.f ((rd_T37 l0_1 x3_2).f1)).bind fun t229 => (if t229 = true then ((timesyncref18_isPort.f ((rd_T37 l0_1 x3_2).f3)).bind fun t230 => (timesyncref18_Check.j2 k2 x3_2 (!t230) a0_0 l0_1 ((rd_T37 l0_1 x3_2).f0) ((rd_T37 l0_1 x3_2).f1) ((rd_T37 l0_1 x3_2).f2) ((rd_T37 l0_1 x3_2).f3))) else (timesyncref18_Check.j2 k2 x3_2 true a0_0 l0_1 ((rd_T37 l0_1 x3_2).f0) ((rd_T37 l0_1 x3_2).f1) ((rd_T37 l0_1 x3_2).f2) ((rd_T37 l0_1 x3_2).f3)))) = some r := by rw [if_pos rfl] at H; exact H
            clear H
            have H := H1
            clear H1
            replace H := Option.bind_eq_some_iff.mp H
            obtain ⟨t229, A220, H⟩ := H
            replace H : (if t229 = true then ((timesyncref18_isPort.f ((rd_T37 l0_1 x3_2).f3)).bind fun t230 => (timesyncref18_Check.j2 k2 x3_2 (!t230) a0_0 l0_1 ((rd_T37 l0_1 x3_2).f0) ((rd_T37 l0_1 x3_2).f1) ((rd_T37 l0_1 x3_2).f2) ((rd_T37 l0_1 x3_2).f3))) else (timesyncref18_Check.j2 k2 x3_2 true a0_0 l0_1 ((rd_T37 l0_1 x3_2).f0) ((rd_T37 l0_1 x3_2).f1) ((rd_T37 l0_1 x3_2).f2) ((rd_T37 l0_1 x3_2).f3))) = some r := H
            have A22 := Aside0.mk A220
            clear A220
            by_cases c23 : t229 = true
            ·subst c23
             have H1 : ((timesyncref18_isPort.f ((rd_T37 l0_1 x3_2).f3)).bind fun t230 => (timesyncref18_Check.j2 k2 x3_2 (!t230) a0_0 l0_1 ((rd_T37 l0_1 x3_2).f0) ((rd_T37 l0_1 x3_2).f1) ((rd_T37 l0_1 x3_2).f2) ((rd_T37 l0_1 x3_2).f3))) = some r := by rw [if_pos rfl] at H; exact H
             clear H
             have H := H1
             clear H1
             replace H := Option.bind_eq_some_iff.mp H
             obtain ⟨t230, A240, H⟩ := H
             replace H : (timesyncref18_Check.j2 k2 x3_2 (!t230) a0_0 l0_1 ((rd_T37 l0_1 x3_2).f0) ((rd_T37 l0_1 x3_2).f1) ((rd_T37 l0_1 x3_2).f2) ((rd_T37 l0_1 x3_2).f3)) = some r := H
             have A24 := Aside0.mk A240
             clear A240
             have H' := Aside0.mk H
             clear H
             have hnb25 := NB224_226.out
             have hnc25 := NB226_224.out
             have hcz26_0 : w15.cell? ⟨gb224, 0, none⟩ = some (.int .i64 a0_0) := (blk_cell BK224.out 0).trans rfl
             have hcz26_1 : w15.cell? ⟨gb224, 1, none⟩ = some (.slice (some ad225) l0_1.length c0_1) := (blk_cell BK224.out 1).trans rfl
             have hfz26_0 := blk_frozen BK224.out 0
             have hfz26_1 := blk_frozen BK224.out 1
             have hcz27_0 : w15.cell? ⟨gb226, 0, none⟩ = some (.int .i64 0) := (blk_cell BK226.out 0).trans rfl
             have hcz27_1 : w15.cell? ⟨gb226, 1, none⟩ = some (.int .i64 0) := (blk_cell BK226.out 1).trans rfl
             have hcz27_2 : w15.cell? ⟨gb226, 2, none⟩ = some (.int .i64 0) := (blk_cell BK226.out 2).trans rfl
             have hcz27_3 : w15.cell? ⟨gb226, 3, none⟩ = some (.int .i64 0) := (blk_cell BK226.out 3).trans rfl
             have hfz27_0 := blk_frozen BK226.out 0
             have hfz27_1 := blk_frozen BK226.out 1
             have hfz27_2 := blk_frozen BK226.out 2
             have hfz27_3 := blk_frozen BK226.out 3
             go_wp2_with (first | ((with_reducible refine gate_callee (f := 54) rfl ?_); refine goesL_ (some 32) rfl rfl Try.func54 (by kernel_rfl) rfl #[.agg #[.int .i64 a0_0, .slice (some ad225) l0_1.length c0_1], .int .i64 ((rd_T37 l0_1 x3_2).f0)] rfl (by (try simp only [List.map_toArray, List.map_cons, List.map_nil]); first | done | rfl | (simp only [List.length_drop, List.length_take]; rfl)) ?_; (with_reducible refine (timesyncref18_isNode.calls a0_0 _ _ l0_1 ((rd_T37 l0_1 x3_2).f0) true _ ?side1 ?side2 A18.out).mono ?_); (case side1 => exact Kd.C_below HR0_1.out (by repeat (first | (with_reducible first | exact HB.out | apply below_alloc | apply pw_below_drewN | apply below_drew1 | refine below_set ?_ GE224.out | refine below_set ?_ GE226.out) | exact HB.out))); (case side2 => exact HC0_1.out); rintro e w28 ⟨rfl, hb⟩; refine ⟨_, rfl, ?_⟩; have n0_ := Aside0.mk (blk_below (g := gb224) (o := .cells #[.int .i64 a0_0, .slice (some ad225) l0_1.length c0_1] 24 (0, 0)) (by (with_reducible repeat (first | refine blk_drewN ?_ _ | refine blk_drew ?_ | refine blk_alloc ?_ _)); refine blk_far ?_ NB224_226.out _; (with_reducible repeat (first | refine blk_drewN ?_ _ | refine blk_drew ?_ | refine blk_alloc ?_ _)); refine blk_far ?_ NB224_226.out _; (with_reducible repeat (first | refine blk_drewN ?_ _ | refine blk_drew ?_ | refine blk_alloc ?_ _)); refine blk_far ?_ NB224_226.out _; (with_reducible repeat (first | refine blk_drewN ?_ _ | refine blk_drew ?_ | refine blk_alloc ?_ _)); refine blk_far ?_ NB224_226.out _; (with_reducible repeat (first | refine blk_drewN ?_ _ | refine blk_drew ?_ | refine blk_alloc ?_ _)); exact BK224.out) hb); have n1_ := Aside0.mk (blk_below (g := gb226) (o := .cells #[.int .i64 ((rd_T37 l0_1 x3_2).f0), .int .i64 ((rd_T37 l0_1 x3_2).f1), .int .i64 ((rd_T37 l0_1 x3_2).f2), .int .i64 ((rd_T37 l0_1 x3_2).f3)] 37 (0, 0)) (by (with_reducible repeat (first | refine blk_drewN ?_ _ | refine blk_drew ?_ | refine blk_alloc ?_ _)); refine blk_put (cs := #[.int .i64 ((rd_T37 l0_1 x3_2).f0), .int .i64 ((rd_T37 l0_1 x3_2).f1), .int .i64 ((rd_T37 l0_1 x3_2).f2), .int .i64 0]) ?_ 3 _ rfl; (with_reducible repeat (first | refine blk_drewN ?_ _ | refine blk_drew ?_ | refine blk_alloc ?_ _)); refine blk_put (cs := #[.int .i64 ((rd_T37 l0_1 x3_2).f0), .int .i64 ((rd_T37 l0_1 x3_2).f1), .int .i64 0, .int .i64 0]) ?_ 2 _ rfl; (with_reducible repeat (first | refine blk_drewN ?_ _ | refine blk_drew ?_ | refine blk_alloc ?_ _)); refine blk_put (cs := #[.int .i64 ((rd_T37 l0_1 x3_2).f0), .int .i64 0, .int .i64 0, .int .i64 0]) ?_ 1 _ rfl; (with_reducible repeat (first | refine blk_drewN ?_ _ | refine blk_drew ?_ | refine blk_alloc ?_ _)); refine blk_put (cs := #[.int .i64 0, .int .i64 0, .int .i64 0, .int .i64 0]) ?_ 0 _ rfl; (with_reducible repeat (first | refine blk_drewN ?_ _ | refine blk_drew ?_ | refine blk_alloc ?_ _)); exact BK226.out) hb); have n2_ := Aside0.mk (below_step (by repeat (first | (with_reducible first | exact HB.out | apply below_alloc | apply pw_below_drewN | apply below_drew1 | refine below_set ?_ GE224.out | refine below_set ?_ GE226.out) | exact HB.out)) hb); clear BK224; clear BK226; clear HB; have BK224 := n0_; have BK226 := n1_; have HB := n2_; clear n0_ n1_ n2_; have hcz29_0 : w28.cell? ⟨gb224, 0, none⟩ = some (.int .i64 a0_0) := (blk_cell BK224.out 0).trans rfl; have hcz29_1 : w28.cell? ⟨gb224, 1, none⟩ = some (.slice (some ad225) l0_1.length c0_1) := (blk_cell BK224.out 1).trans rfl; have hfz29_0 := blk_frozen BK224.out 0; have hfz29_1 := blk_frozen BK224.out 1; have hcz30_0 : w28.cell? ⟨gb226, 0, none⟩ = some (.int .i64 ((rd_T37 l0_1 x3_2).f0)) := (blk_cell BK226.out 0).trans rfl; have hcz30_1 : w28.cell? ⟨gb226, 1, none⟩ = some (.int .i64 ((rd_T37 l0_1 x3_2).f1)) := (blk_cell BK226.out 1).trans rfl; have hcz30_2 : w28.cell? ⟨gb226, 2, none⟩ = some (.int .i64 ((rd_T37 l0_1 x3_2).f2)) := (blk_cell BK226.out 2).trans rfl; have hcz30_3 : w28.cell? ⟨gb226, 3, none⟩ = some (.int .i64 ((rd_T37 l0_1 x3_2).f3)) := (blk_cell BK226.out 3).trans rfl; have hfz30_0 := blk_frozen BK226.out 0; have hfz30_1 := blk_frozen BK226.out 1; have hfz30_2 := blk_frozen BK226.out 2; have hfz30_3 := blk_frozen BK226.out 3) | (go_at_call 54; (with_reducible refine (timesyncref18_isNode.calls a0_0 _ _ l0_1 ((rd_T37 l0_1 x3_2).f2) true _ ?side1 ?side2 A20.out).mono ?_); (case side1 => repeat (first | exact (Kd.C_below HR0_1.out HB.out) | (with_reducible refine Kd.C_alloc ?_ _) | (with_reducible refine Kd.C_drewN ?_ _) | (with_reducible refine Kd.C_drew ?_))); (case side2 => exact HC0_1.out); rintro e w31 ⟨rfl, hb⟩; have n0_ := Aside0.mk (blk_below (g := gb224) (o := .cells #[.int .i64 a0_0, .slice (some ad225) l0_1.length c0_1] 24 (0, 0)) (by (with_reducible repeat (first | refine blk_drewN ?_ _ | refine blk_drew ?_ | refine blk_alloc ?_ _)); exact BK224.out) hb); have n1_ := Aside0.mk (blk_below (g := gb226) (o := .cells #[.int .i64 ((rd_T37 l0_1 x3_2).f0), .int .i64 ((rd_T37 l0_1 x3_2).f1), .int .i64 ((rd_T37 l0_1 x3_2).f2), .int .i64 ((rd_T37 l0_1 x3_2).f3)] 37 (0, 0)) (by (with_reducible repeat (first | refine blk_drewN ?_ _ | refine blk_drew ?_ | refine blk_alloc ?_ _)); exact BK226.out) hb); have n2_ := Aside0.mk (below_step (by repeat (first | (with_reducible first | exact HB.out | apply below_alloc | apply pw_below_drewN | apply below_drew1 | refine below_set ?_ GE224.out | refine below_set ?_ GE226.out) | exact HB.out)) hb); clear BK224; clear BK226; clear HB; have BK224 := n0_; have BK226 := n1_; have HB := n2_; clear n0_ n1_ n2_; have hcz32_0 : w31.cell? ⟨gb226, 0, none⟩ = some (.int .i64 ((rd_T37 l0_1 x3_2).f0)) := (blk_cell BK226.out 0).trans rfl; have hcz32_1 : w31.cell? ⟨gb226, 1, none⟩ = some (.int .i64 ((rd_T37 l0_1 x3_2).f1)) := (blk_cell BK226.out 1).trans rfl; have hcz32_2 : w31.cell? ⟨gb226, 2, none⟩ = some (.int .i64 ((rd_T37 l0_1 x3_2).f2)) := (blk_cell BK226.out 2).trans rfl; have hcz32_3 : w31.cell? ⟨gb226, 3, none⟩ = some (.int .i64 ((rd_T37 l0_1 x3_2).f3)) := (blk_cell BK226.out 3).trans rfl; have hfz32_0 := blk_frozen BK226.out 0; have hfz32_1 := blk_frozen BK226.out 1; have hfz32_2 := blk_frozen BK226.out 2; have hfz32_3 := blk_frozen BK226.out 3) | (go_at_call 55; (with_reducible refine (timesyncref18_isPort.calls ((rd_T37 l0_1 x3_2).f1) true _ A22.out).mono ?_); rintro e w' ⟨rfl, ⟨nd, rfl⟩⟩) | (go_at_call 55; (with_reducible refine (timesyncref18_isPort.calls ((rd_T37 l0_1 x3_2).f3) t230 _ A24.out).mono ?_); rintro e w' ⟨rfl, ⟨nd, rfl⟩⟩))
             go_meet
             case rel => exact ⟨_, (!t230), (by first | rfl | (simp; done) | (simp [*]; done)), H', ⟨by have := HJ1.out; have := HK2.out; first | omega | exact Nat.le_refl _⟩, ⟨by (with_reducible repeat (first | refine blk_drewN ?_ _ | refine blk_drew ?_ | refine blk_alloc ?_ _)); exact BK224.out⟩, ⟨by (with_reducible repeat (first | refine blk_drewN ?_ _ | refine blk_drew ?_ | refine blk_alloc ?_ _)); exact BK226.out⟩, ⟨by repeat (first | (with_reducible first | exact HB.out | apply below_alloc | apply pw_below_drewN | apply below_drew1 | refine below_set ?_ GE224.out | refine below_set ?_ GE226.out) | exact HB.out)⟩⟩
            ·replace c23 := Bool.eq_false_iff.mpr c23
             subst c23
             have H1 : (timesyncref18_Check.j2 k2 x3_2 true a0_0 l0_1 ((rd_T37 l0_1 x3_2).f0) ((rd_T37 l0_1 x3_2).f1) ((rd_T37 l0_1 x3_2).f2) ((rd_T37 l0_1 x3_2).f3)) = some r := by rw [if_neg (show ¬ (false = true) by decide)] at H; exact H
             clear H
             have H := H1
             clear H1
             have H' := Aside0.mk H
             clear H
             have hnb33 := NB224_226.out
             have hnc33 := NB226_224.out
             have hcz34_0 : w15.cell? ⟨gb224, 0, none⟩ = some (.int .i64 a0_0) := (blk_cell BK224.out 0).trans rfl
             have hcz34_1 : w15.cell? ⟨gb224, 1, none⟩ = some (.slice (some ad225) l0_1.length c0_1) := (blk_cell BK224.out 1).trans rfl
             have hfz34_0 := blk_frozen BK224.out 0
             have hfz34_1 := blk_frozen BK224.out 1
             have hcz35_0 : w15.cell? ⟨gb226, 0, none⟩ = some (.int .i64 0) := (blk_cell BK226.out 0).trans rfl
             have hcz35_1 : w15.cell? ⟨gb226, 1, none⟩ = some (.int .i64 0) := (blk_cell BK226.out 1).trans rfl
             have hcz35_2 : w15.cell? ⟨gb226, 2, none⟩ = some (.int .i64 0) := (blk_cell BK226.out 2).trans rfl
             have hcz35_3 : w15.cell? ⟨gb226, 3, none⟩ = some (.int .i64 0) := (blk_cell BK226.out 3).trans rfl
             have hfz35_0 := blk_frozen BK226.out 0
             have hfz35_1 := blk_frozen BK226.out 1
             have hfz35_2 := blk_frozen BK226.out 2
             have hfz35_3 := blk_frozen BK226.out 3
             go_wp2_with (first | ((with_reducible refine gate_callee (f := 54) rfl ?_); refine goesL_ (some 32) rfl rfl Try.func54 (by kernel_rfl) rfl #[.agg #[.int .i64 a0_0, .slice (some ad225) l0_1.length c0_1], .int .i64 ((rd_T37 l0_1 x3_2).f0)] rfl (by (try simp only [List.map_toArray, List.map_cons, List.map_nil]); first | done | rfl | (simp only [List.length_drop, List.length_take]; rfl)) ?_; (with_reducible refine (timesyncref18_isNode.calls a0_0 _ _ l0_1 ((rd_T37 l0_1 x3_2).f0) true _ ?side1 ?side2 A18.out).mono ?_); (case side1 => exact Kd.C_below HR0_1.out (by repeat (first | (with_reducible first | exact HB.out | apply below_alloc | apply pw_below_drewN | apply below_drew1 | refine below_set ?_ GE224.out | refine below_set ?_ GE226.out) | exact HB.out))); (case side2 => exact HC0_1.out); rintro e w36 ⟨rfl, hb⟩; refine ⟨_, rfl, ?_⟩; have n0_ := Aside0.mk (blk_below (g := gb224) (o := .cells #[.int .i64 a0_0, .slice (some ad225) l0_1.length c0_1] 24 (0, 0)) (by (with_reducible repeat (first | refine blk_drewN ?_ _ | refine blk_drew ?_ | refine blk_alloc ?_ _)); refine blk_far ?_ NB224_226.out _; (with_reducible repeat (first | refine blk_drewN ?_ _ | refine blk_drew ?_ | refine blk_alloc ?_ _)); refine blk_far ?_ NB224_226.out _; (with_reducible repeat (first | refine blk_drewN ?_ _ | refine blk_drew ?_ | refine blk_alloc ?_ _)); refine blk_far ?_ NB224_226.out _; (with_reducible repeat (first | refine blk_drewN ?_ _ | refine blk_drew ?_ | refine blk_alloc ?_ _)); refine blk_far ?_ NB224_226.out _; (with_reducible repeat (first | refine blk_drewN ?_ _ | refine blk_drew ?_ | refine blk_alloc ?_ _)); exact BK224.out) hb); have n1_ := Aside0.mk (blk_below (g := gb226) (o := .cells #[.int .i64 ((rd_T37 l0_1 x3_2).f0), .int .i64 ((rd_T37 l0_1 x3_2).f1), .int .i64 ((rd_T37 l0_1 x3_2).f2), .int .i64 ((rd_T37 l0_1 x3_2).f3)] 37 (0, 0)) (by (with_reducible repeat (first | refine blk_drewN ?_ _ | refine blk_drew ?_ | refine blk_alloc ?_ _)); refine blk_put (cs := #[.int .i64 ((rd_T37 l0_1 x3_2).f0), .int .i64 ((rd_T37 l0_1 x3_2).f1), .int .i64 ((rd_T37 l0_1 x3_2).f2), .int .i64 0]) ?_ 3 _ rfl; (with_reducible repeat (first | refine blk_drewN ?_ _ | refine blk_drew ?_ | refine blk_alloc ?_ _)); refine blk_put (cs := #[.int .i64 ((rd_T37 l0_1 x3_2).f0), .int .i64 ((rd_T37 l0_1 x3_2).f1), .int .i64 0, .int .i64 0]) ?_ 2 _ rfl; (with_reducible repeat (first | refine blk_drewN ?_ _ | refine blk_drew ?_ | refine blk_alloc ?_ _)); refine blk_put (cs := #[.int .i64 ((rd_T37 l0_1 x3_2).f0), .int .i64 0, .int .i64 0, .int .i64 0]) ?_ 1 _ rfl; (with_reducible repeat (first | refine blk_drewN ?_ _ | refine blk_drew ?_ | refine blk_alloc ?_ _)); refine blk_put (cs := #[.int .i64 0, .int .i64 0, .int .i64 0, .int .i64 0]) ?_ 0 _ rfl; (with_reducible repeat (first | refine blk_drewN ?_ _ | refine blk_drew ?_ | refine blk_alloc ?_ _)); exact BK226.out) hb); have n2_ := Aside0.mk (below_step (by repeat (first | (with_reducible first | exact HB.out | apply below_alloc | apply pw_below_drewN | apply below_drew1 | refine below_set ?_ GE224.out | refine below_set ?_ GE226.out) | exact HB.out)) hb); clear BK224; clear BK226; clear HB; have BK224 := n0_; have BK226 := n1_; have HB := n2_; clear n0_ n1_ n2_; have hcz37_0 : w36.cell? ⟨gb224, 0, none⟩ = some (.int .i64 a0_0) := (blk_cell BK224.out 0).trans rfl; have hcz37_1 : w36.cell? ⟨gb224, 1, none⟩ = some (.slice (some ad225) l0_1.length c0_1) := (blk_cell BK224.out 1).trans rfl; have hfz37_0 := blk_frozen BK224.out 0; have hfz37_1 := blk_frozen BK224.out 1; have hcz38_0 : w36.cell? ⟨gb226, 0, none⟩ = some (.int .i64 ((rd_T37 l0_1 x3_2).f0)) := (blk_cell BK226.out 0).trans rfl; have hcz38_1 : w36.cell? ⟨gb226, 1, none⟩ = some (.int .i64 ((rd_T37 l0_1 x3_2).f1)) := (blk_cell BK226.out 1).trans rfl; have hcz38_2 : w36.cell? ⟨gb226, 2, none⟩ = some (.int .i64 ((rd_T37 l0_1 x3_2).f2)) := (blk_cell BK226.out 2).trans rfl; have hcz38_3 : w36.cell? ⟨gb226, 3, none⟩ = some (.int .i64 ((rd_T37 l0_1 x3_2).f3)) := (blk_cell BK226.out 3).trans rfl; have hfz38_0 := blk_frozen BK226.out 0; have hfz38_1 := blk_frozen BK226.out 1; have hfz38_2 := blk_frozen BK226.out 2; have hfz38_3 := blk_frozen BK226.out 3) | (go_at_call 54; (with_reducible refine (timesyncref18_isNode.calls a0_0 _ _ l0_1 ((rd_T37 l0_1 x3_2).f2) true _ ?side1 ?side2 A20.out).mono ?_); (case side1 => repeat (first | exact (Kd.C_below HR0_1.out HB.out) | (with_reducible refine Kd.C_alloc ?_ _) | (with_reducible refine Kd.C_drewN ?_ _) | (with_reducible refine Kd.C_drew ?_))); (case side2 => exact HC0_1.out); rintro e w39 ⟨rfl, hb⟩; have n0_ := Aside0.mk (blk_below (g := gb224) (o := .cells #[.int .i64 a0_0, .slice (some ad225) l0_1.length c0_1] 24 (0, 0)) (by (with_reducible repeat (first | refine blk_drewN ?_ _ | refine blk_drew ?_ | refine blk_alloc ?_ _)); exact BK224.out) hb); have n1_ := Aside0.mk (blk_below (g := gb226) (o := .cells #[.int .i64 ((rd_T37 l0_1 x3_2).f0), .int .i64 ((rd_T37 l0_1 x3_2).f1), .int .i64 ((rd_T37 l0_1 x3_2).f2), .int .i64 ((rd_T37 l0_1 x3_2).f3)] 37 (0, 0)) (by (with_reducible repeat (first | refine blk_drewN ?_ _ | refine blk_drew ?_ | refine blk_alloc ?_ _)); exact BK226.out) hb); have n2_ := Aside0.mk (below_step (by repeat (first | (with_reducible first | exact HB.out | apply below_alloc | apply pw_below_drewN | apply below_drew1 | refine below_set ?_ GE224.out | refine below_set ?_ GE226.out) | exact HB.out)) hb); clear BK224; clear BK226; clear HB; have BK224 := n0_; have BK226 := n1_; have HB := n2_; clear n0_ n1_ n2_; have hcz40_0 : w39.cell? ⟨gb226, 0, none⟩ = some (.int .i64 ((rd_T37 l0_1 x3_2).f0)) := (blk_cell BK226.out 0).trans rfl; have hcz40_1 : w39.cell? ⟨gb226, 1, none⟩ = some (.int .i64 ((rd_T37 l0_1 x3_2).f1)) := (blk_cell BK226.out 1).trans rfl; have hcz40_2 : w39.cell? ⟨gb226, 2, none⟩ = some (.int .i64 ((rd_T37 l0_1 x3_2).f2)) := (blk_cell BK226.out 2).trans rfl; have hcz40_3 : w39.cell? ⟨gb226, 3, none⟩ = some (.int .i64 ((rd_T37 l0_1 x3_2).f3)) := (blk_cell BK226.out 3).trans rfl; have hfz40_0 := blk_frozen BK226.out 0; have hfz40_1 := blk_frozen BK226.out 1; have hfz40_2 := blk_frozen BK226.out 2; have hfz40_3 := blk_frozen BK226.out 3) | (go_at_call 55; (with_reducible refine (timesyncref18_isPort.calls ((rd_T37 l0_1 x3_2).f1) false _ A22.out).mono ?_); rintro e w' ⟨rfl, ⟨nd, rfl⟩⟩))
             go_meet
             case rel => exact ⟨_, (true), (by first | rfl | (simp; done) | (simp [*]; done)), H', ⟨by have := HJ1.out; have := HK2.out; first | omega | exact Nat.le_refl _⟩, ⟨by (with_reducible repeat (first | refine blk_drewN ?_ _ | refine blk_drew ?_ | refine blk_alloc ?_ _)); exact BK224.out⟩, ⟨by (with_reducible repeat (first | refine blk_drewN ?_ _ | refine blk_drew ?_ | refine blk_alloc ?_ _)); exact BK226.out⟩, ⟨by repeat (first | (with_reducible first | exact HB.out | apply below_alloc | apply pw_below_drewN | apply below_drew1 | refine below_set ?_ GE224.out | refine below_set ?_ GE226.out) | exact HB.out)⟩⟩
           ·replace c21 := Bool.eq_false_iff.mpr c21
            subst c21
            have H1 : (timesyncref18_Check.j2 k2 x3_2 true a0_0 l0_1 ((rd_T37 l0_1 x3_2).f0) ((rd_T37 l0_1 x3_2).f1) ((rd_T37 l0_1 x3_2).f2) ((rd_T37 l0_1 x3_2).f3)) = some r := by rw [if_neg (show ¬ (false = true) by decide)] at H; exact H
            clear H
            have H := H1
            clear H1
            have H' := Aside0.mk H
            clear H
            have hnb41 := NB224_226.out
            have hnc41 := NB226_224.out
            have hcz42_0 : w15.cell? ⟨gb224, 0, none⟩ = some (.int .i64 a0_0) := (blk_cell BK224.out 0).trans rfl
            have hcz42_1 : w15.cell? ⟨gb224, 1, none⟩ = some (.slice (some ad225) l0_1.length c0_1) := (blk_cell BK224.out 1).trans rfl
            have hfz42_0 := blk_frozen BK224.out 0
            have hfz42_1 := blk_frozen BK224.out 1
            have hcz43_0 : w15.cell? ⟨gb226, 0, none⟩ = some (.int .i64 0) := (blk_cell BK226.out 0).trans rfl
            have hcz43_1 : w15.cell? ⟨gb226, 1, none⟩ = some (.int .i64 0) := (blk_cell BK226.out 1).trans rfl
            have hcz43_2 : w15.cell? ⟨gb226, 2, none⟩ = some (.int .i64 0) := (blk_cell BK226.out 2).trans rfl
            have hcz43_3 : w15.cell? ⟨gb226, 3, none⟩ = some (.int .i64 0) := (blk_cell BK226.out 3).trans rfl
            have hfz43_0 := blk_frozen BK226.out 0
            have hfz43_1 := blk_frozen BK226.out 1
            have hfz43_2 := blk_frozen BK226.out 2
            have hfz43_3 := blk_frozen BK226.out 3
            go_wp2_with (first | ((with_reducible refine gate_callee (f := 54) rfl ?_); refine goesL_ (some 32) rfl rfl Try.func54 (by kernel_rfl) rfl #[.agg #[.int .i64 a0_0, .slice (some ad225) l0_1.length c0_1], .int .i64 ((rd_T37 l0_1 x3_2).f0)] rfl (by (try simp only [List.map_toArray, List.map_cons, List.map_nil]); first | done | rfl | (simp only [List.length_drop, List.length_take]; rfl)) ?_; (with_reducible refine (timesyncref18_isNode.calls a0_0 _ _ l0_1 ((rd_T37 l0_1 x3_2).f0) true _ ?side1 ?side2 A18.out).mono ?_); (case side1 => exact Kd.C_below HR0_1.out (by repeat (first | (with_reducible first | exact HB.out | apply below_alloc | apply pw_below_drewN | apply below_drew1 | refine below_set ?_ GE224.out | refine below_set ?_ GE226.out) | exact HB.out))); (case side2 => exact HC0_1.out); rintro e w44 ⟨rfl, hb⟩; refine ⟨_, rfl, ?_⟩; have n0_ := Aside0.mk (blk_below (g := gb224) (o := .cells #[.int .i64 a0_0, .slice (some ad225) l0_1.length c0_1] 24 (0, 0)) (by (with_reducible repeat (first | refine blk_drewN ?_ _ | refine blk_drew ?_ | refine blk_alloc ?_ _)); refine blk_far ?_ NB224_226.out _; (with_reducible repeat (first | refine blk_drewN ?_ _ | refine blk_drew ?_ | refine blk_alloc ?_ _)); refine blk_far ?_ NB224_226.out _; (with_reducible repeat (first | refine blk_drewN ?_ _ | refine blk_drew ?_ | refine blk_alloc ?_ _)); refine blk_far ?_ NB224_226.out _; (with_reducible repeat (first | refine blk_drewN ?_ _ | refine blk_drew ?_ | refine blk_alloc ?_ _)); refine blk_far ?_ NB224_226.out _; (with_reducible repeat (first | refine blk_drewN ?_ _ | refine blk_drew ?_ | refine blk_alloc ?_ _)); exact BK224.out) hb); have n1_ := Aside0.mk (blk_below (g := gb226) (o := .cells #[.int .i64 ((rd_T37 l0_1 x3_2).f0), .int .i64 ((rd_T37 l0_1 x3_2).f1), .int .i64 ((rd_T37 l0_1 x3_2).f2), .int .i64 ((rd_T37 l0_1 x3_2).f3)] 37 (0, 0)) (by (with_reducible repeat (first | refine blk_drewN ?_ _ | refine blk_drew ?_ | refine blk_alloc ?_ _)); refine blk_put (cs := #[.int .i64 ((rd_T37 l0_1 x3_2).f0), .int .i64 ((rd_T37 l0_1 x3_2).f1), .int .i64 ((rd_T37 l0_1 x3_2).f2), .int .i64 0]) ?_ 3 _ rfl; (with_reducible repeat (first | refine blk_drewN ?_ _ | refine blk_drew ?_ | refine blk_alloc ?_ _)); refine blk_put (cs := #[.int .i64 ((rd_T37 l0_1 x3_2).f0), .int .i64 ((rd_T37 l0_1 x3_2).f1), .int .i64 0, .int .i64 0]) ?_ 2 _ rfl; (with_reducible repeat (first | refine blk_drewN ?_ _ | refine blk_drew ?_ | refine blk_alloc ?_ _)); refine blk_put (cs := #[.int .i64 ((rd_T37 l0_1 x3_2).f0), .int .i64 0, .int .i64 0, .int .i64 0]) ?_ 1 _ rfl; (with_reducible repeat (first | refine blk_drewN ?_ _ | refine blk_drew ?_ | refine blk_alloc ?_ _)); refine blk_put (cs := #[.int .i64 0, .int .i64 0, .int .i64 0, .int .i64 0]) ?_ 0 _ rfl; (with_reducible repeat (first | refine blk_drewN ?_ _ | refine blk_drew ?_ | refine blk_alloc ?_ _)); exact BK226.out) hb); have n2_ := Aside0.mk (below_step (by repeat (first | (with_reducible first | exact HB.out | apply below_alloc | apply pw_below_drewN | apply below_drew1 | refine below_set ?_ GE224.out | refine below_set ?_ GE226.out) | exact HB.out)) hb); clear BK224; clear BK226; clear HB; have BK224 := n0_; have BK226 := n1_; have HB := n2_; clear n0_ n1_ n2_; have hcz45_0 : w44.cell? ⟨gb224, 0, none⟩ = some (.int .i64 a0_0) := (blk_cell BK224.out 0).trans rfl; have hcz45_1 : w44.cell? ⟨gb224, 1, none⟩ = some (.slice (some ad225) l0_1.length c0_1) := (blk_cell BK224.out 1).trans rfl; have hfz45_0 := blk_frozen BK224.out 0; have hfz45_1 := blk_frozen BK224.out 1; have hcz46_0 : w44.cell? ⟨gb226, 0, none⟩ = some (.int .i64 ((rd_T37 l0_1 x3_2).f0)) := (blk_cell BK226.out 0).trans rfl; have hcz46_1 : w44.cell? ⟨gb226, 1, none⟩ = some (.int .i64 ((rd_T37 l0_1 x3_2).f1)) := (blk_cell BK226.out 1).trans rfl; have hcz46_2 : w44.cell? ⟨gb226, 2, none⟩ = some (.int .i64 ((rd_T37 l0_1 x3_2).f2)) := (blk_cell BK226.out 2).trans rfl; have hcz46_3 : w44.cell? ⟨gb226, 3, none⟩ = some (.int .i64 ((rd_T37 l0_1 x3_2).f3)) := (blk_cell BK226.out 3).trans rfl; have hfz46_0 := blk_frozen BK226.out 0; have hfz46_1 := blk_frozen BK226.out 1; have hfz46_2 := blk_frozen BK226.out 2; have hfz46_3 := blk_frozen BK226.out 3) | (go_at_call 54; (with_reducible refine (timesyncref18_isNode.calls a0_0 _ _ l0_1 ((rd_T37 l0_1 x3_2).f2) false _ ?side1 ?side2 A20.out).mono ?_); (case side1 => repeat (first | exact (Kd.C_below HR0_1.out HB.out) | (with_reducible refine Kd.C_alloc ?_ _) | (with_reducible refine Kd.C_drewN ?_ _) | (with_reducible refine Kd.C_drew ?_))); (case side2 => exact HC0_1.out); rintro e w47 ⟨rfl, hb⟩; have n0_ := Aside0.mk (blk_below (g := gb224) (o := .cells #[.int .i64 a0_0, .slice (some ad225) l0_1.length c0_1] 24 (0, 0)) (by (with_reducible repeat (first | refine blk_drewN ?_ _ | refine blk_drew ?_ | refine blk_alloc ?_ _)); exact BK224.out) hb); have n1_ := Aside0.mk (blk_below (g := gb226) (o := .cells #[.int .i64 ((rd_T37 l0_1 x3_2).f0), .int .i64 ((rd_T37 l0_1 x3_2).f1), .int .i64 ((rd_T37 l0_1 x3_2).f2), .int .i64 ((rd_T37 l0_1 x3_2).f3)] 37 (0, 0)) (by (with_reducible repeat (first | refine blk_drewN ?_ _ | refine blk_drew ?_ | refine blk_alloc ?_ _)); exact BK226.out) hb); have n2_ := Aside0.mk (below_step (by repeat (first | (with_reducible first | exact HB.out | apply below_alloc | apply pw_below_drewN | apply below_drew1 | refine below_set ?_ GE224.out | refine below_set ?_ GE226.out) | exact HB.out)) hb); clear BK224; clear BK226; clear HB; have BK224 := n0_; have BK226 := n1_; have HB := n2_; clear n0_ n1_ n2_; (try clear hi)))
            go_meet
            case rel => exact ⟨_, (true), (by first | rfl | (simp; done) | (simp [*]; done)), H', ⟨by have := HJ1.out; have := HK2.out; first | omega | exact Nat.le_refl _⟩, ⟨by exact BK224.out⟩, ⟨by exact BK226.out⟩, ⟨by exact HB.out⟩⟩
          ·replace c19 := Bool.eq_false_iff.mpr c19
           subst c19
           have H1 : (timesyncref18_Check.j2 k2 x3_2 true a0_0 l0_1 ((rd_T37 l0_1 x3_2).f0) ((rd_T37 l0_1 x3_2).f1) ((rd_T37 l0_1 x3_2).f2) ((rd_T37 l0_1 x3_2).f3)) = some r := by rw [if_neg (show ¬ (false = true) by decide)] at H; exact H
           clear H
           have H := H1
           clear H1
           have H' := Aside0.mk H
           clear H
           have hnb48 := NB224_226.out
           have hnc48 := NB226_224.out
           have hcz49_0 : w15.cell? ⟨gb224, 0, none⟩ = some (.int .i64 a0_0) := (blk_cell BK224.out 0).trans rfl
           have hcz49_1 : w15.cell? ⟨gb224, 1, none⟩ = some (.slice (some ad225) l0_1.length c0_1) := (blk_cell BK224.out 1).trans rfl
           have hfz49_0 := blk_frozen BK224.out 0
           have hfz49_1 := blk_frozen BK224.out 1
           have hcz50_0 : w15.cell? ⟨gb226, 0, none⟩ = some (.int .i64 0) := (blk_cell BK226.out 0).trans rfl
           have hcz50_1 : w15.cell? ⟨gb226, 1, none⟩ = some (.int .i64 0) := (blk_cell BK226.out 1).trans rfl
           have hcz50_2 : w15.cell? ⟨gb226, 2, none⟩ = some (.int .i64 0) := (blk_cell BK226.out 2).trans rfl
           have hcz50_3 : w15.cell? ⟨gb226, 3, none⟩ = some (.int .i64 0) := (blk_cell BK226.out 3).trans rfl
           have hfz50_0 := blk_frozen BK226.out 0
           have hfz50_1 := blk_frozen BK226.out 1
           have hfz50_2 := blk_frozen BK226.out 2
           have hfz50_3 := blk_frozen BK226.out 3
           go_wp2_with (first | ((with_reducible refine gate_callee (f := 54) rfl ?_); refine goesL_ (some 32) rfl rfl Try.func54 (by kernel_rfl) rfl #[.agg #[.int .i64 a0_0, .slice (some ad225) l0_1.length c0_1], .int .i64 ((rd_T37 l0_1 x3_2).f0)] rfl (by (try simp only [List.map_toArray, List.map_cons, List.map_nil]); first | done | rfl | (simp only [List.length_drop, List.length_take]; rfl)) ?_; (with_reducible refine (timesyncref18_isNode.calls a0_0 _ _ l0_1 ((rd_T37 l0_1 x3_2).f0) false _ ?side1 ?side2 A18.out).mono ?_); (case side1 => exact Kd.C_below HR0_1.out (by repeat (first | (with_reducible first | exact HB.out | apply below_alloc | apply pw_below_drewN | apply below_drew1 | refine below_set ?_ GE224.out | refine below_set ?_ GE226.out) | exact HB.out))); (case side2 => exact HC0_1.out); rintro e w51 ⟨rfl, hb⟩; refine ⟨_, rfl, ?_⟩; have n0_ := Aside0.mk (blk_below (g := gb224) (o := .cells #[.int .i64 a0_0, .slice (some ad225) l0_1.length c0_1] 24 (0, 0)) (by (with_reducible repeat (first | refine blk_drewN ?_ _ | refine blk_drew ?_ | refine blk_alloc ?_ _)); refine blk_far ?_ NB224_226.out _; (with_reducible repeat (first | refine blk_drewN ?_ _ | refine blk_drew ?_ | refine blk_alloc ?_ _)); refine blk_far ?_ NB224_226.out _; (with_reducible repeat (first | refine blk_drewN ?_ _ | refine blk_drew ?_ | refine blk_alloc ?_ _)); refine blk_far ?_ NB224_226.out _; (with_reducible repeat (first | refine blk_drewN ?_ _ | refine blk_drew ?_ | refine blk_alloc ?_ _)); refine blk_far ?_ NB224_226.out _; (with_reducible repeat (first | refine blk_drewN ?_ _ | refine blk_drew ?_ | refine blk_alloc ?_ _)); exact BK224.out) hb); have n1_ := Aside0.mk (blk_below (g := gb226) (o := .cells #[.int .i64 ((rd_T37 l0_1 x3_2).f0), .int .i64 ((rd_T37 l0_1 x3_2).f1), .int .i64 ((rd_T37 l0_1 x3_2).f2), .int .i64 ((rd_T37 l0_1 x3_2).f3)] 37 (0, 0)) (by (with_reducible repeat (first | refine blk_drewN ?_ _ | refine blk_drew ?_ | refine blk_alloc ?_ _)); refine blk_put (cs := #[.int .i64 ((rd_T37 l0_1 x3_2).f0), .int .i64 ((rd_T37 l0_1 x3_2).f1), .int .i64 ((rd_T37 l0_1 x3_2).f2), .int .i64 0]) ?_ 3 _ rfl; (with_reducible repeat (first | refine blk_drewN ?_ _ | refine blk_drew ?_ | refine blk_alloc ?_ _)); refine blk_put (cs := #[.int .i64 ((rd_T37 l0_1 x3_2).f0), .int .i64 ((rd_T37 l0_1 x3_2).f1), .int .i64 0, .int .i64 0]) ?_ 2 _ rfl; (with_reducible repeat (first | refine blk_drewN ?_ _ | refine blk_drew ?_ | refine blk_alloc ?_ _)); refine blk_put (cs := #[.int .i64 ((rd_T37 l0_1 x3_2).f0), .int .i64 0, .int .i64 0, .int .i64 0]) ?_ 1 _ rfl; (with_reducible repeat (first | refine blk_drewN ?_ _ | refine blk_drew ?_ | refine blk_alloc ?_ _)); refine blk_put (cs := #[.int .i64 0, .int .i64 0, .int .i64 0, .int .i64 0]) ?_ 0 _ rfl; (with_reducible repeat (first | refine blk_drewN ?_ _ | refine blk_drew ?_ | refine blk_alloc ?_ _)); exact BK226.out) hb); have n2_ := Aside0.mk (below_step (by repeat (first | (with_reducible first | exact HB.out | apply below_alloc | apply pw_below_drewN | apply below_drew1 | refine below_set ?_ GE224.out | refine below_set ?_ GE226.out) | exact HB.out)) hb); clear BK224; clear BK226; clear HB; have BK224 := n0_; have BK226 := n1_; have HB := n2_; clear n0_ n1_ n2_; (try clear hi)))
           go_meet
           case rel => exact ⟨_, (true), (by first | rfl | (simp; done) | (simp [*]; done)), H', ⟨by have := HJ1.out; have := HK2.out; first | omega | exact Nat.le_refl _⟩, ⟨by exact BK224.out⟩, ⟨by exact BK226.out⟩, ⟨by exact HB.out⟩⟩
         case rest =>
          clear HC13




































































































































































          obtain ⟨kq, x52_12, rfl, HA, HJ12, BK224, BK226, HB⟩ := hcut
          cases kq with
          | zero => exact absurd HA.out (by simp [timesyncref18_Check.j2])
          | succ kj12 =>
           have H := HA.out
           clear HA
           simp only [timesyncref18_Check.j2] at H
           by_cases c52 : x52_12 = true
           ·subst c52
            have H1 : (some 3) = some r := by rw [if_pos rfl] at H; exact H
            clear H
            have H := H1
            clear H1
            obtain rfl := Option.some.inj H
            go_wp2
            go_ret
            exact ⟨by first | rfl | (simp [errW_none, errW_some] <;> rfl) | (simp [*, errW_none, errW_some] <;> rfl), by exact HB.out⟩
           ·replace c52 := Bool.eq_false_iff.mpr c52
            subst c52
            have H1 : (if ((rd_T37 l0_1 x3_2).f0) = ((rd_T37 l0_1 x3_2).f2) then (some 18) else ((timesyncref18_used.f kj12 a0_0 l0_1 x3_2 ((rd_T37 l0_1 x3_2).f0) ((rd_T37 l0_1 x3_2).f1)).bind fun t231 => (if t231 = true then (some 10) else ((timesyncref18_used.f kj12 a0_0 l0_1 x3_2 ((rd_T37 l0_1 x3_2).f2) ((rd_T37 l0_1 x3_2).f3)).bind fun t232 => (if t232 = true then (some 10) else (timesyncref18_Check.l0 kj12 (wrap64 (x3_2 + 1)) a0_0 l0_1)))))) = some r := by rw [if_neg (show ¬ (false = true) by decide)] at H; exact H
            clear H
            have H := H1
            clear H1
            by_cases c53 : ((rd_T37 l0_1 x3_2).f0) = ((rd_T37 l0_1 x3_2).f2)
            ·rw [if_pos c53] at H
             have c53b0 : (((rd_T37 l0_1 x3_2).f0) == ((rd_T37 l0_1 x3_2).f2)) = true := beq_iff_eq.mpr c53
             have c53b1 : (((rd_T37 l0_1 x3_2).f0) != ((rd_T37 l0_1 x3_2).f2)) = false := bne_eq_false_iff_eq.mpr c53
             clear c53
             obtain rfl := Option.some.inj H
             have hnb54 := NB226_224.out
             have hnc54 := NB224_226.out
             have hcz55_0 : wc.cell? ⟨gb226, 0, none⟩ = some (.int .i64 ((rd_T37 l0_1 x3_2).f0)) := (blk_cell BK226.out 0).trans rfl
             have hcz55_1 : wc.cell? ⟨gb226, 1, none⟩ = some (.int .i64 ((rd_T37 l0_1 x3_2).f1)) := (blk_cell BK226.out 1).trans rfl
             have hcz55_2 : wc.cell? ⟨gb226, 2, none⟩ = some (.int .i64 ((rd_T37 l0_1 x3_2).f2)) := (blk_cell BK226.out 2).trans rfl
             have hcz55_3 : wc.cell? ⟨gb226, 3, none⟩ = some (.int .i64 ((rd_T37 l0_1 x3_2).f3)) := (blk_cell BK226.out 3).trans rfl
             have hfz55_0 := blk_frozen BK226.out 0
             have hfz55_1 := blk_frozen BK226.out 1
             have hfz55_2 := blk_frozen BK226.out 2
             have hfz55_3 := blk_frozen BK226.out 3
             go_wp2
             go_ret
             exact ⟨by first | rfl | (simp [errW_none, errW_some] <;> rfl) | (simp [*, errW_none, errW_some] <;> rfl), by exact HB.out⟩
            ·rw [if_neg c53] at H
             have c53b0 : (((rd_T37 l0_1 x3_2).f0) == ((rd_T37 l0_1 x3_2).f2)) = false := beq_eq_false_iff_ne.mpr c53
             have c53b1 : (((rd_T37 l0_1 x3_2).f0) != ((rd_T37 l0_1 x3_2).f2)) = true := bne_iff_ne.mpr c53
             replace H := Option.bind_eq_some_iff.mp H
             obtain ⟨t231, A560, H⟩ := H
             replace H : (if t231 = true then (some 10) else ((timesyncref18_used.f kj12 a0_0 l0_1 x3_2 ((rd_T37 l0_1 x3_2).f2) ((rd_T37 l0_1 x3_2).f3)).bind fun t232 => (if t232 = true then (some 10) else (timesyncref18_Check.l0 kj12 (wrap64 (x3_2 + 1)) a0_0 l0_1)))) = some r := H
             have A56 := Aside0.mk A560
             clear A560
             by_cases c57 : t231 = true
             ·subst c57
              have H1 : (some 10) = some r := by rw [if_pos rfl] at H; exact H
              clear H
              have H := H1
              clear H1
              obtain rfl := Option.some.inj H
              have hnb58 := NB226_224.out
              have hnc58 := NB224_226.out
              have hcz59_0 : wc.cell? ⟨gb226, 0, none⟩ = some (.int .i64 ((rd_T37 l0_1 x3_2).f0)) := (blk_cell BK226.out 0).trans rfl
              have hcz59_1 : wc.cell? ⟨gb226, 1, none⟩ = some (.int .i64 ((rd_T37 l0_1 x3_2).f1)) := (blk_cell BK226.out 1).trans rfl
              have hcz59_2 : wc.cell? ⟨gb226, 2, none⟩ = some (.int .i64 ((rd_T37 l0_1 x3_2).f2)) := (blk_cell BK226.out 2).trans rfl
              have hcz59_3 : wc.cell? ⟨gb226, 3, none⟩ = some (.int .i64 ((rd_T37 l0_1 x3_2).f3)) := (blk_cell BK226.out 3).trans rfl
              have hfz59_0 := blk_frozen BK226.out 0
              have hfz59_1 := blk_frozen BK226.out 1
              have hfz59_2 := blk_frozen BK226.out 2
              have hfz59_3 := blk_frozen BK226.out 3
              have hcz60_0 : wc.cell? ⟨gb224, 0, none⟩ = some (.int .i64 a0_0) := (blk_cell BK224.out 0).trans rfl
              have hcz60_1 : wc.cell? ⟨gb224, 1, none⟩ = some (.slice (some ad225) l0_1.length c0_1) := (blk_cell BK224.out 1).trans rfl
              have hfz60_0 := blk_frozen BK224.out 0
              have hfz60_1 := blk_frozen BK224.out 1
              go_wp2_with (first | ((with_reducible refine gate_callee (f := 56) rfl ?_); refine goesL_ (some 64) rfl rfl Try.func56 (by kernel_rfl) rfl #[.agg #[.int .i64 a0_0, .slice (some ad225) l0_1.length c0_1], .int .i64 x3_2, .int .i64 ((rd_T37 l0_1 x3_2).f0), .int .i64 ((rd_T37 l0_1 x3_2).f1)] rfl (by (try simp only [List.map_toArray, List.map_cons, List.map_nil]); first | done | rfl | (simp only [List.length_drop, List.length_take]; rfl)) ?_; (with_reducible refine (timesyncref18_used.calls kj12 a0_0 _ _ l0_1 x3_2 ((rd_T37 l0_1 x3_2).f0) ((rd_T37 l0_1 x3_2).f1) true _ ?side1 ?side2 A56.out).mono ?_); (case side1 => exact (Kd.C_below HR0_1.out HB.out)); (case side2 => exact HC0_1.out); rintro e w61 ⟨rfl, hb⟩; refine ⟨_, rfl, ?_⟩; have n0_ := Aside0.mk (blk_below (g := gb224) (o := .cells #[.int .i64 a0_0, .slice (some ad225) l0_1.length c0_1] 24 (0, 0)) (by exact BK224.out) hb); have n1_ := Aside0.mk (blk_below (g := gb226) (o := .cells #[.int .i64 ((rd_T37 l0_1 x3_2).f0), .int .i64 ((rd_T37 l0_1 x3_2).f1), .int .i64 ((rd_T37 l0_1 x3_2).f2), .int .i64 ((rd_T37 l0_1 x3_2).f3)] 37 (0, 0)) (by exact BK226.out) hb); have n2_ := Aside0.mk (below_step (by exact HB.out) hb); clear BK224; clear BK226; clear HB; have BK224 := n0_; have BK226 := n1_; have HB := n2_; clear n0_ n1_ n2_; (try clear hi)))
              go_ret
              exact ⟨by first | rfl | (simp [errW_none, errW_some] <;> rfl) | (simp [*, errW_none, errW_some] <;> rfl), by exact HB.out⟩
             ·replace c57 := Bool.eq_false_iff.mpr c57
              subst c57
              have H1 : ((timesyncref18_used.f kj12 a0_0 l0_1 x3_2 ((rd_T37 l0_1 x3_2).f2) ((rd_T37 l0_1 x3_2).f3)).bind fun t232 => (if t232 = true then (some 10) else (timesyncref18_Check.l0 kj12 (wrap64 (x3_2 + 1)) a0_0 l0_1))) = some r := by rw [if_neg (show ¬ (false = true) by decide)] at H; exact H
              clear H
              have H := H1
              clear H1
              replace H := Option.bind_eq_some_iff.mp H
              obtain ⟨t232, A620, H⟩ := H
              replace H : (if t232 = true then (some 10) else (timesyncref18_Check.l0 kj12 (wrap64 (x3_2 + 1)) a0_0 l0_1)) = some r := H
              have A62 := Aside0.mk A620
              clear A620
              by_cases c63 : t232 = true
              ·subst c63
               have H1 : (some 10) = some r := by rw [if_pos rfl] at H; exact H
               clear H
               have H := H1
               clear H1
               obtain rfl := Option.some.inj H
               have hnb64 := NB226_224.out
               have hnc64 := NB224_226.out
               have hcz65_0 : wc.cell? ⟨gb226, 0, none⟩ = some (.int .i64 ((rd_T37 l0_1 x3_2).f0)) := (blk_cell BK226.out 0).trans rfl
               have hcz65_1 : wc.cell? ⟨gb226, 1, none⟩ = some (.int .i64 ((rd_T37 l0_1 x3_2).f1)) := (blk_cell BK226.out 1).trans rfl
               have hcz65_2 : wc.cell? ⟨gb226, 2, none⟩ = some (.int .i64 ((rd_T37 l0_1 x3_2).f2)) := (blk_cell BK226.out 2).trans rfl
               have hcz65_3 : wc.cell? ⟨gb226, 3, none⟩ = some (.int .i64 ((rd_T37 l0_1 x3_2).f3)) := (blk_cell BK226.out 3).trans rfl
               have hfz65_0 := blk_frozen BK226.out 0
               have hfz65_1 := blk_frozen BK226.out 1
               have hfz65_2 := blk_frozen BK226.out 2
               have hfz65_3 := blk_frozen BK226.out 3
               have hcz66_0 : wc.cell? ⟨gb224, 0, none⟩ = some (.int .i64 a0_0) := (blk_cell BK224.out 0).trans rfl
               have hcz66_1 : wc.cell? ⟨gb224, 1, none⟩ = some (.slice (some ad225) l0_1.length c0_1) := (blk_cell BK224.out 1).trans rfl
               have hfz66_0 := blk_frozen BK224.out 0
               have hfz66_1 := blk_frozen BK224.out 1
               go_wp2_with (first | ((with_reducible refine gate_callee (f := 56) rfl ?_); refine goesL_ (some 64) rfl rfl Try.func56 (by kernel_rfl) rfl #[.agg #[.int .i64 a0_0, .slice (some ad225) l0_1.length c0_1], .int .i64 x3_2, .int .i64 ((rd_T37 l0_1 x3_2).f0), .int .i64 ((rd_T37 l0_1 x3_2).f1)] rfl (by (try simp only [List.map_toArray, List.map_cons, List.map_nil]); first | done | rfl | (simp only [List.length_drop, List.length_take]; rfl)) ?_; (with_reducible refine (timesyncref18_used.calls kj12 a0_0 _ _ l0_1 x3_2 ((rd_T37 l0_1 x3_2).f0) ((rd_T37 l0_1 x3_2).f1) false _ ?side1 ?side2 A56.out).mono ?_); (case side1 => exact (Kd.C_below HR0_1.out HB.out)); (case side2 => exact HC0_1.out); rintro e w67 ⟨rfl, hb⟩; refine ⟨_, rfl, ?_⟩; have n0_ := Aside0.mk (blk_below (g := gb224) (o := .cells #[.int .i64 a0_0, .slice (some ad225) l0_1.length c0_1] 24 (0, 0)) (by exact BK224.out) hb); have n1_ := Aside0.mk (blk_below (g := gb226) (o := .cells #[.int .i64 ((rd_T37 l0_1 x3_2).f0), .int .i64 ((rd_T37 l0_1 x3_2).f1), .int .i64 ((rd_T37 l0_1 x3_2).f2), .int .i64 ((rd_T37 l0_1 x3_2).f3)] 37 (0, 0)) (by exact BK226.out) hb); have n2_ := Aside0.mk (below_step (by exact HB.out) hb); clear BK224; clear BK226; clear HB; have BK224 := n0_; have BK226 := n1_; have HB := n2_; clear n0_ n1_ n2_; have hcz68_0 : w67.cell? ⟨gb224, 0, none⟩ = some (.int .i64 a0_0) := (blk_cell BK224.out 0).trans rfl; have hcz68_1 : w67.cell? ⟨gb224, 1, none⟩ = some (.slice (some ad225) l0_1.length c0_1) := (blk_cell BK224.out 1).trans rfl; have hfz68_0 := blk_frozen BK224.out 0; have hfz68_1 := blk_frozen BK224.out 1; have hcz69_0 : w67.cell? ⟨gb226, 0, none⟩ = some (.int .i64 ((rd_T37 l0_1 x3_2).f0)) := (blk_cell BK226.out 0).trans rfl; have hcz69_1 : w67.cell? ⟨gb226, 1, none⟩ = some (.int .i64 ((rd_T37 l0_1 x3_2).f1)) := (blk_cell BK226.out 1).trans rfl; have hcz69_2 : w67.cell? ⟨gb226, 2, none⟩ = some (.int .i64 ((rd_T37 l0_1 x3_2).f2)) := (blk_cell BK226.out 2).trans rfl; have hcz69_3 : w67.cell? ⟨gb226, 3, none⟩ = some (.int .i64 ((rd_T37 l0_1 x3_2).f3)) := (blk_cell BK226.out 3).trans rfl; have hfz69_0 := blk_frozen BK226.out 0; have hfz69_1 := blk_frozen BK226.out 1; have hfz69_2 := blk_frozen BK226.out 2; have hfz69_3 := blk_frozen BK226.out 3) | (go_at_call 56; (with_reducible refine (timesyncref18_used.calls kj12 a0_0 _ _ l0_1 x3_2 ((rd_T37 l0_1 x3_2).f2) ((rd_T37 l0_1 x3_2).f3) true _ ?side1 ?side2 A62.out).mono ?_); (case side1 => exact (Kd.C_below HR0_1.out HB.out)); (case side2 => exact HC0_1.out); rintro e w70 ⟨rfl, hb⟩; have n0_ := Aside0.mk (blk_below (g := gb224) (o := .cells #[.int .i64 a0_0, .slice (some ad225) l0_1.length c0_1] 24 (0, 0)) (by exact BK224.out) hb); have n1_ := Aside0.mk (blk_below (g := gb226) (o := .cells #[.int .i64 ((rd_T37 l0_1 x3_2).f0), .int .i64 ((rd_T37 l0_1 x3_2).f1), .int .i64 ((rd_T37 l0_1 x3_2).f2), .int .i64 ((rd_T37 l0_1 x3_2).f3)] 37 (0, 0)) (by exact BK226.out) hb); have n2_ := Aside0.mk (below_step (by exact HB.out) hb); clear BK224; clear BK226; clear HB; have BK224 := n0_; have BK226 := n1_; have HB := n2_; clear n0_ n1_ n2_; (try clear hi)))
               go_ret
               exact ⟨by first | rfl | (simp [errW_none, errW_some] <;> rfl) | (simp [*, errW_none, errW_some] <;> rfl), by exact HB.out⟩
              ·replace c63 := Bool.eq_false_iff.mpr c63
               subst c63
               have H1 : (timesyncref18_Check.l0 kj12 (wrap64 (x3_2 + 1)) a0_0 l0_1) = some r := by rw [if_neg (show ¬ (false = true) by decide)] at H; exact H
               clear H
               have H := H1
               clear H1
               have H' := Aside0.mk H
               clear H
               have hnb71 := NB226_224.out
               have hnc71 := NB224_226.out
               have hcz72_0 : wc.cell? ⟨gb226, 0, none⟩ = some (.int .i64 ((rd_T37 l0_1 x3_2).f0)) := (blk_cell BK226.out 0).trans rfl
               have hcz72_1 : wc.cell? ⟨gb226, 1, none⟩ = some (.int .i64 ((rd_T37 l0_1 x3_2).f1)) := (blk_cell BK226.out 1).trans rfl
               have hcz72_2 : wc.cell? ⟨gb226, 2, none⟩ = some (.int .i64 ((rd_T37 l0_1 x3_2).f2)) := (blk_cell BK226.out 2).trans rfl
               have hcz72_3 : wc.cell? ⟨gb226, 3, none⟩ = some (.int .i64 ((rd_T37 l0_1 x3_2).f3)) := (blk_cell BK226.out 3).trans rfl
               have hfz72_0 := blk_frozen BK226.out 0
               have hfz72_1 := blk_frozen BK226.out 1
               have hfz72_2 := blk_frozen BK226.out 2
               have hfz72_3 := blk_frozen BK226.out 3
               have hcz73_0 : wc.cell? ⟨gb224, 0, none⟩ = some (.int .i64 a0_0) := (blk_cell BK224.out 0).trans rfl
               have hcz73_1 : wc.cell? ⟨gb224, 1, none⟩ = some (.slice (some ad225) l0_1.length c0_1) := (blk_cell BK224.out 1).trans rfl
               have hfz73_0 := blk_frozen BK224.out 0
               have hfz73_1 := blk_frozen BK224.out 1
               go_wp2_with (first | ((with_reducible refine gate_callee (f := 56) rfl ?_); refine goesL_ (some 64) rfl rfl Try.func56 (by kernel_rfl) rfl #[.agg #[.int .i64 a0_0, .slice (some ad225) l0_1.length c0_1], .int .i64 x3_2, .int .i64 ((rd_T37 l0_1 x3_2).f0), .int .i64 ((rd_T37 l0_1 x3_2).f1)] rfl (by (try simp only [List.map_toArray, List.map_cons, List.map_nil]); first | done | rfl | (simp only [List.length_drop, List.length_take]; rfl)) ?_; (with_reducible refine (timesyncref18_used.calls kj12 a0_0 _ _ l0_1 x3_2 ((rd_T37 l0_1 x3_2).f0) ((rd_T37 l0_1 x3_2).f1) false _ ?side1 ?side2 A56.out).mono ?_); (case side1 => exact (Kd.C_below HR0_1.out HB.out)); (case side2 => exact HC0_1.out); rintro e w74 ⟨rfl, hb⟩; refine ⟨_, rfl, ?_⟩; have n0_ := Aside0.mk (blk_below (g := gb224) (o := .cells #[.int .i64 a0_0, .slice (some ad225) l0_1.length c0_1] 24 (0, 0)) (by exact BK224.out) hb); have n1_ := Aside0.mk (blk_below (g := gb226) (o := .cells #[.int .i64 ((rd_T37 l0_1 x3_2).f0), .int .i64 ((rd_T37 l0_1 x3_2).f1), .int .i64 ((rd_T37 l0_1 x3_2).f2), .int .i64 ((rd_T37 l0_1 x3_2).f3)] 37 (0, 0)) (by exact BK226.out) hb); have n2_ := Aside0.mk (below_step (by exact HB.out) hb); clear BK224; clear BK226; clear HB; have BK224 := n0_; have BK226 := n1_; have HB := n2_; clear n0_ n1_ n2_; have hcz75_0 : w74.cell? ⟨gb224, 0, none⟩ = some (.int .i64 a0_0) := (blk_cell BK224.out 0).trans rfl; have hcz75_1 : w74.cell? ⟨gb224, 1, none⟩ = some (.slice (some ad225) l0_1.length c0_1) := (blk_cell BK224.out 1).trans rfl; have hfz75_0 := blk_frozen BK224.out 0; have hfz75_1 := blk_frozen BK224.out 1; have hcz76_0 : w74.cell? ⟨gb226, 0, none⟩ = some (.int .i64 ((rd_T37 l0_1 x3_2).f0)) := (blk_cell BK226.out 0).trans rfl; have hcz76_1 : w74.cell? ⟨gb226, 1, none⟩ = some (.int .i64 ((rd_T37 l0_1 x3_2).f1)) := (blk_cell BK226.out 1).trans rfl; have hcz76_2 : w74.cell? ⟨gb226, 2, none⟩ = some (.int .i64 ((rd_T37 l0_1 x3_2).f2)) := (blk_cell BK226.out 2).trans rfl; have hcz76_3 : w74.cell? ⟨gb226, 3, none⟩ = some (.int .i64 ((rd_T37 l0_1 x3_2).f3)) := (blk_cell BK226.out 3).trans rfl; have hfz76_0 := blk_frozen BK226.out 0; have hfz76_1 := blk_frozen BK226.out 1; have hfz76_2 := blk_frozen BK226.out 2; have hfz76_3 := blk_frozen BK226.out 3) | (go_at_call 56; (with_reducible refine (timesyncref18_used.calls kj12 a0_0 _ _ l0_1 x3_2 ((rd_T37 l0_1 x3_2).f2) ((rd_T37 l0_1 x3_2).f3) false _ ?side1 ?side2 A62.out).mono ?_); (case side1 => exact (Kd.C_below HR0_1.out HB.out)); (case side2 => exact HC0_1.out); rintro e w77 ⟨rfl, hb⟩; have n0_ := Aside0.mk (blk_below (g := gb224) (o := .cells #[.int .i64 a0_0, .slice (some ad225) l0_1.length c0_1] 24 (0, 0)) (by exact BK224.out) hb); have n1_ := Aside0.mk (blk_below (g := gb226) (o := .cells #[.int .i64 ((rd_T37 l0_1 x3_2).f0), .int .i64 ((rd_T37 l0_1 x3_2).f1), .int .i64 ((rd_T37 l0_1 x3_2).f2), .int .i64 ((rd_T37 l0_1 x3_2).f3)] 37 (0, 0)) (by exact BK226.out) hb); have n2_ := Aside0.mk (below_step (by exact HB.out) hb); clear BK224; clear BK226; clear HB; have BK224 := n0_; have BK226 := n1_; have HB := n2_; clear n0_ n1_ n2_; (try clear hi)))
               go_roundg kj12
               case measure => have := HJ1.out; have := HK2.out; have := HJ12.out; omega
               case rel => exact ⟨(wrap64 (x3_2 + 1)), (by first | rfl | (simp; done) | (simp [*]; done)), H', ⟨by have := HJ1.out; have := HK2.out; have := HJ12.out; omega⟩, ⟨by exact BK224.out⟩, ⟨by exact HB.out⟩⟩
        ·rw [if_neg c12] at H
         exact absurd H (by simp)
       ·rw [if_neg c11] at H
        have c11b0 : decide (x3_2 < (l0_1.length : Int)) = false := decide_eq_false c11
        clear c11
        obtain rfl := Option.some.inj H
        have hcz78_0 : wr.cell? ⟨gb224, 0, none⟩ = some (.int .i64 a0_0) := (blk_cell BK224.out 0).trans rfl
        have hcz78_1 : wr.cell? ⟨gb224, 1, none⟩ = some (.slice A0_1 l0_1.length c0_1) := (blk_cell BK224.out 1).trans rfl
        have hfz78_0 := blk_frozen BK224.out 0
        have hfz78_1 := blk_frozen BK224.out 1
        go_wp2
        go_ret
        exact ⟨by first | rfl | (simp [errW_none, errW_some] <;> rfl) | (simp [*, errW_none, errW_some] <;> rfl), by exact HB.out⟩

end Go.Proofs.Ythkpnkmbmlbefaa.X

namespace Go.Proofs.Ythkpnkmbmlbefaa.X
open Go.RowKit Go.Proofs.YthkpnkmbmlbefaaW.PrintWords Go.Proofs.YthkpnkmbmlbefaaW.PrintLast Go.Proofs.YthkpnkmbmlbefaaW.PrintMore
attribute [local go_sem] max2_int min2_int max_two min_two max_three min_three max_four min_four   -- for this text's walks alone
set_option linter.unusedVariables false
set_option linter.unusedSimpArgs false

/-! ### timesyncref18_Peer: function 40 -/
mutual
def timesyncref18_Peer.j0 : Nat → Int → Int → Bool → Int → List (S37) → Option (Int × Int × Bool)
 | 0, _, _, _, _, _ => none
 | k + 1, x1, x2, x19, x411000, x411001 => if x19 = true then (some (0, 0, false)) else (timesyncref18_Peer.l0 k x1 x2 0 x411000 x411001)
def timesyncref18_Peer.l0 : Nat → Int → Int → Int → Int → List (S37) → Option (Int × Int × Bool)
 | 0, _, _, _, _, _ => none
 | k + 1, x1, x2, x9, x411000, x411001 => if x9 < (x411001.length : Int) then (if 0 ≤ x9 then (if ((rd_T37 x411001 x9).f0) = x1 then (timesyncref18_Peer.j2 k x1 x2 x9 (((rd_T37 x411001 x9).f1) == x2) x411000 x411001 ((rd_T37 x411001 x9).f0) ((rd_T37 x411001 x9).f1) ((rd_T37 x411001 x9).f2) ((rd_T37 x411001 x9).f3)) else (timesyncref18_Peer.j2 k x1 x2 x9 false x411000 x411001 ((rd_T37 x411001 x9).f0) ((rd_T37 x411001 x9).f1) ((rd_T37 x411001 x9).f2) ((rd_T37 x411001 x9).f3))) else (none)) else (some (0, 0, false))
def timesyncref18_Peer.j2 : Nat → Int → Int → Int → Bool → Int → List (S37) → Int → Int → Int → Int → Option (Int × Int × Bool)
 | 0, _, _, _, _, _, _, _, _, _, _ => none
 | k + 1, x1, x2, x9, x41, x411000, x411001, x415000, x415001, x415002, x415003 => if x41 = true then (some (x415002, x415003, true)) else (if x415002 = x1 then (if x415003 = x2 then (some (x415000, x415001, true)) else (timesyncref18_Peer.l0 k x1 x2 (wrap64 (x9 + 1)) x411000 x411001)) else (timesyncref18_Peer.l0 k x1 x2 (wrap64 (x9 + 1)) x411000 x411001))
end
def timesyncref18_Peer.f (k : Nat) (a0_0 : Int) (l0_1 : List (S37)) (a1 : Int) (a2 : Int) : Option (Int × Int × Bool) := (timesyncref18_Check.f k a0_0 l0_1).bind fun t411 => (if t411 = 0 then ((timesyncref18_isNode.f a0_0 l0_1 a1).bind fun t412 => (timesyncref18_Peer.j0 k a1 a2 (!t412) a0_0 l0_1)) else (timesyncref18_Peer.j0 k a1 a2 true a0_0 l0_1))
set_option maxHeartbeats 8000000 in
set_option maxRecDepth 100000 in
theorem timesyncref18_Peer.calls (k : Nat) (a0_0 : Int) (A0_1 : Option Addr) (c0_1 : Nat) (l0_1 : List (S37)) (a1 : Int) (a2 : Int) (r1 : Int) (r2 : Int) (r3 : Bool) (w : World) (hr0_1 : Kd.C k37 w A0_1 l0_1.length l0_1) (hc0_1 : l0_1.length ≤ c0_1) (h : timesyncref18_Peer.f k a0_0 l0_1 a1 a2 = some (r1, r2, r3)) :
  Calls Try.prog 40 #[.agg #[.int .i64 a0_0, .slice A0_1 l0_1.length c0_1], .int .i64 a1, .int .i64 a2] w fun e w' => e = .returned (.tuple #[.int .i64 r1, .int .i64 r2, .bool r3]) ∧ Below w.heap.size w w' := by
 have hu24 := Try.underlying24
 have hu37 := Try.underlying37
 have HR0_1 := Aside0.mk hr0_1
 have HC0_1 := Aside0.mk hc0_1
 clear hr0_1 hc0_1
 have HB := Aside0.mk (Below.refl w.heap.size w)
 have H : ((timesyncref18_Check.f k a0_0 l0_1).bind fun t411 => (if t411 = 0 then ((timesyncref18_isNode.f a0_0 l0_1 a1).bind fun t412 => (timesyncref18_Peer.j0 k a1 a2 (!t412) a0_0 l0_1)) else (timesyncref18_Peer.j0 k a1 a2 true a0_0 l0_1))) = some (r1, r2, r3) := h
 clear h
 have HC4 := Aside0.mk H
 clear H
 go_enter Try.func40, Try.ntmps40
 go_upto_region 1 with (first | ((with_reducible refine gate_dst (N := 3) rfl ?_); refine box_event ?hg (N := 3) ?hd (cs := #[.int .i64 a0_0, .slice A0_1 l0_1.length c0_1]) (t := 24) ?hr ?_; (case hd => rfl); (case hg => rfl); (case hr => first | (go_simp; done) | (go_simp; rfl)); intro gb410 hg w5 hbox hb; have n0_ := Aside0.mk (below_step (by exact HB.out) hb); have n1_ := Aside0.mk (hbox); have n2_ := Aside0.mk ((by rw [hg]; exact (below_size (by exact HB.out)) : w.heap.size ≤ gb410)); have n3_ := Aside0.mk ((by rw [hg]; exact (below_size (by exact HB.out)) : w.heap.size ≤ gb410)); clear HB; have HB := n0_; have BK410 := n1_; have GW410 := n2_; have GE410 := n3_; clear n0_ n1_ n2_ n3_; clear hb hbox hg))
 repeat (go_quiet (first | ((with_reducible refine gate_dst (N := 3) rfl ?_); refine box_event ?hg (N := 3) ?hd (cs := #[.int .i64 a0_0, .slice A0_1 l0_1.length c0_1]) (t := 24) ?hr ?_; (case hd => rfl); (case hg => rfl); (case hr => first | (go_simp; done) | (go_simp; rfl)); intro gb410 hg w5 hbox hb; have n0_ := Aside0.mk (below_step (by exact HB.out) hb); have n1_ := Aside0.mk (hbox); have n2_ := Aside0.mk ((by rw [hg]; exact (below_size (by exact HB.out)) : w.heap.size ≤ gb410)); have n3_ := Aside0.mk ((by rw [hg]; exact (below_size (by exact HB.out)) : w.heap.size ≤ gb410)); clear HB; have HB := n0_; have BK410 := n1_; have GW410 := n2_; have GE410 := n3_; clear n0_ n1_ n2_ n3_; clear hb hbox hg)); go_upto_region 1 with (first | ((with_reducible refine gate_dst (N := 3) rfl ?_); refine box_event ?hg (N := 3) ?hd (cs := #[.int .i64 a0_0, .slice A0_1 l0_1.length c0_1]) (t := 24) ?hr ?_; (case hd => rfl); (case hg => rfl); (case hr => first | (go_simp; done) | (go_simp; rfl)); intro gb410 hg w5 hbox hb; have n0_ := Aside0.mk (below_step (by exact HB.out) hb); have n1_ := Aside0.mk (hbox); have n2_ := Aside0.mk ((by rw [hg]; exact (below_size (by exact HB.out)) : w.heap.size ≤ gb410)); have n3_ := Aside0.mk ((by rw [hg]; exact (below_size (by exact HB.out)) : w.heap.size ≤ gb410)); clear HB; have HB := n0_; have BK410 := n1_; have GW410 := n2_; have GE410 := n3_; clear n0_ n1_ n2_ n3_; clear hb hbox hg)))
 (try simp only [Act.put, List.setIfInBounds_toArray, List.set_cons_zero, List.set_cons_succ])
 go_cut [19] (fun v19 wc => ∃ (kq : Nat) (x19_3 : Bool), v19 = .bool x19_3 ∧ Aside0 (timesyncref18_Peer.j0 kq a1 a2 x19_3 a0_0 l0_1 = some (r1, r2, r3)) ∧ Aside0 (kq ≤ k) ∧ Aside0 (wc.heap[gb410]? = some (.cells #[.int .i64 a0_0, (.slice A0_1 l0_1.length c0_1)] 24 (0, 0))) ∧ Aside0 (Below w.heap.size w wc))
 case first =>
  have H := HC4.out
  clear HC4
  replace H := Option.bind_eq_some_iff.mp H
  obtain ⟨t411, A60, H⟩ := H
  replace H : (if t411 = 0 then ((timesyncref18_isNode.f a0_0 l0_1 a1).bind fun t412 => (timesyncref18_Peer.j0 k a1 a2 (!t412) a0_0 l0_1)) else (timesyncref18_Peer.j0 k a1 a2 true a0_0 l0_1)) = some (r1, r2, r3) := H
  have A6 := Aside0.mk A60
  clear A60
  by_cases c7 : t411 = 0
  ·rw [if_pos c7] at H
   have c7b0 : (t411 == 0) = true := beq_iff_eq.mpr c7
   have c7b1 : (t411 != 0) = false := bne_eq_false_iff_eq.mpr c7
   clear c7
   (first | rw [c7b0] | (simp only [i64_w, i32_w]; rw [c7b0]) | skip)
   replace H := Option.bind_eq_some_iff.mp H
   obtain ⟨t412, A80, H⟩ := H
   replace H : (timesyncref18_Peer.j0 k a1 a2 (!t412) a0_0 l0_1) = some (r1, r2, r3) := H
   have A8 := Aside0.mk A80
   clear A80
   have H' := Aside0.mk H
   clear H
   have hcz9_0 : w5.cell? ⟨gb410, 0, none⟩ = some (.int .i64 a0_0) := (blk_cell BK410.out 0).trans rfl
   have hcz9_1 : w5.cell? ⟨gb410, 1, none⟩ = some (.slice A0_1 l0_1.length c0_1) := (blk_cell BK410.out 1).trans rfl
   have hfz9_0 := blk_frozen BK410.out 0
   have hfz9_1 := blk_frozen BK410.out 1
   go_wp2_with (first | (go_at_call 18; (with_reducible refine (timesyncref18_Check.calls k a0_0 _ _ l0_1 t411 _ ?side1 ?side2 A6.out).mono ?_); (case side1 => repeat (first | exact (Kd.C_below HR0_1.out HB.out) | (with_reducible refine Kd.C_alloc ?_ _) | (with_reducible refine Kd.C_drewN ?_ _) | (with_reducible refine Kd.C_drew ?_))); (case side2 => exact HC0_1.out); rintro e w10 ⟨rfl, hb⟩; have n0_ := Aside0.mk (blk_below (g := gb410) (o := .cells #[.int .i64 a0_0, .slice A0_1 l0_1.length c0_1] 24 (0, 0)) (by (with_reducible repeat (first | refine blk_drewN ?_ _ | refine blk_drew ?_ | refine blk_alloc ?_ _)); exact BK410.out) hb); have n1_ := Aside0.mk (below_step (by repeat (first | (with_reducible first | exact HB.out | apply below_alloc | apply pw_below_drewN | apply below_drew1 | refine below_set ?_ GE410.out) | exact HB.out)) hb); clear BK410; clear HB; have BK410 := n0_; have HB := n1_; clear n0_ n1_; have hcz11_0 : w10.cell? ⟨gb410, 0, none⟩ = some (.int .i64 a0_0) := (blk_cell BK410.out 0).trans rfl; have hcz11_1 : w10.cell? ⟨gb410, 1, none⟩ = some (.slice A0_1 l0_1.length c0_1) := (blk_cell BK410.out 1).trans rfl; have hfz11_0 := blk_frozen BK410.out 0; have hfz11_1 := blk_frozen BK410.out 1) | (go_at_call 54; (with_reducible refine (timesyncref18_isNode.calls a0_0 _ _ l0_1 a1 t412 _ ?side1 ?side2 A8.out).mono ?_); (case side1 => repeat (first | exact (Kd.C_below HR0_1.out HB.out) | (with_reducible refine Kd.C_alloc ?_ _) | (with_reducible refine Kd.C_drewN ?_ _) | (with_reducible refine Kd.C_drew ?_))); (case side2 => exact HC0_1.out); rintro e w12 ⟨rfl, hb⟩; have n0_ := Aside0.mk (blk_below (g := gb410) (o := .cells #[.int .i64 a0_0, .slice A0_1 l0_1.length c0_1] 24 (0, 0)) (by (with_reducible repeat (first | refine blk_drewN ?_ _ | refine blk_drew ?_ | refine blk_alloc ?_ _)); exact BK410.out) hb); have n1_ := Aside0.mk (below_step (by repeat (first | (with_reducible first | exact HB.out | apply below_alloc | apply pw_below_drewN | apply below_drew1 | refine below_set ?_ GE410.out) | exact HB.out)) hb); clear BK410; clear HB; have BK410 := n0_; have HB := n1_; clear n0_ n1_; (try clear hi)))
   repeat (go_quiet (first | (go_at_call 18; (with_reducible refine (timesyncref18_Check.calls k a0_0 _ _ l0_1 t411 _ ?side1 ?side2 A6.out).mono ?_); (case side1 => repeat (first | exact (Kd.C_below HR0_1.out HB.out) | (with_reducible refine Kd.C_alloc ?_ _) | (with_reducible refine Kd.C_drewN ?_ _) | (with_reducible refine Kd.C_drew ?_))); (case side2 => exact HC0_1.out); rintro e w10 ⟨rfl, hb⟩; have n0_ := Aside0.mk (blk_below (g := gb410) (o := .cells #[.int .i64 a0_0, .slice A0_1 l0_1.length c0_1] 24 (0, 0)) (by (with_reducible repeat (first | refine blk_drewN ?_ _ | refine blk_drew ?_ | refine blk_alloc ?_ _)); exact BK410.out) hb); have n1_ := Aside0.mk (below_step (by repeat (first | (with_reducible first | exact HB.out | apply below_alloc | apply pw_below_drewN | apply below_drew1 | refine below_set ?_ GE410.out) | exact HB.out)) hb); clear BK410; clear HB; have BK410 := n0_; have HB := n1_; clear n0_ n1_; have hcz11_0 : w10.cell? ⟨gb410, 0, none⟩ = some (.int .i64 a0_0) := (blk_cell BK410.out 0).trans rfl; have hcz11_1 : w10.cell? ⟨gb410, 1, none⟩ = some (.slice A0_1 l0_1.length c0_1) := (blk_cell BK410.out 1).trans rfl; have hfz11_0 := blk_frozen BK410.out 0; have hfz11_1 := blk_frozen BK410.out 1) | (go_at_call 54; (with_reducible refine (timesyncref18_isNode.calls a0_0 _ _ l0_1 a1 t412 _ ?side1 ?side2 A8.out).mono ?_); (case side1 => repeat (first | exact (Kd.C_below HR0_1.out HB.out) | (with_reducible refine Kd.C_alloc ?_ _) | (with_reducible refine Kd.C_drewN ?_ _) | (with_reducible refine Kd.C_drew ?_))); (case side2 => exact HC0_1.out); rintro e w12 ⟨rfl, hb⟩; have n0_ := Aside0.mk (blk_below (g := gb410) (o := .cells #[.int .i64 a0_0, .slice A0_1 l0_1.length c0_1] 24 (0, 0)) (by (with_reducible repeat (first | refine blk_drewN ?_ _ | refine blk_drew ?_ | refine blk_alloc ?_ _)); exact BK410.out) hb); have n1_ := Aside0.mk (below_step (by repeat (first | (with_reducible first | exact HB.out | apply below_alloc | apply pw_below_drewN | apply below_drew1 | refine below_set ?_ GE410.out) | exact HB.out)) hb); clear BK410; clear HB; have BK410 := n0_; have HB := n1_; clear n0_ n1_; (try clear hi))); try go_wp2_with (first | (go_at_call 18; (with_reducible refine (timesyncref18_Check.calls k a0_0 _ _ l0_1 t411 _ ?side1 ?side2 A6.out).mono ?_); (case side1 => repeat (first | exact (Kd.C_below HR0_1.out HB.out) | (with_reducible refine Kd.C_alloc ?_ _) | (with_reducible refine Kd.C_drewN ?_ _) | (with_reducible refine Kd.C_drew ?_))); (case side2 => exact HC0_1.out); rintro e w10 ⟨rfl, hb⟩; have n0_ := Aside0.mk (blk_below (g := gb410) (o := .cells #[.int .i64 a0_0, .slice A0_1 l0_1.length c0_1] 24 (0, 0)) (by (with_reducible repeat (first | refine blk_drewN ?_ _ | refine blk_drew ?_ | refine blk_alloc ?_ _)); exact BK410.out) hb); have n1_ := Aside0.mk (below_step (by repeat (first | (with_reducible first | exact HB.out | apply below_alloc | apply pw_below_drewN | apply below_drew1 | refine below_set ?_ GE410.out) | exact HB.out)) hb); clear BK410; clear HB; have BK410 := n0_; have HB := n1_; clear n0_ n1_; have hcz11_0 : w10.cell? ⟨gb410, 0, none⟩ = some (.int .i64 a0_0) := (blk_cell BK410.out 0).trans rfl; have hcz11_1 : w10.cell? ⟨gb410, 1, none⟩ = some (.slice A0_1 l0_1.length c0_1) := (blk_cell BK410.out 1).trans rfl; have hfz11_0 := blk_frozen BK410.out 0; have hfz11_1 := blk_frozen BK410.out 1) | (go_at_call 54; (with_reducible refine (timesyncref18_isNode.calls a0_0 _ _ l0_1 a1 t412 _ ?side1 ?side2 A8.out).mono ?_); (case side1 => repeat (first | exact (Kd.C_below HR0_1.out HB.out) | (with_reducible refine Kd.C_alloc ?_ _) | (with_reducible refine Kd.C_drewN ?_ _) | (with_reducible refine Kd.C_drew ?_))); (case side2 => exact HC0_1.out); rintro e w12 ⟨rfl, hb⟩; have n0_ := Aside0.mk (blk_below (g := gb410) (o := .cells #[.int .i64 a0_0, .slice A0_1 l0_1.length c0_1] 24 (0, 0)) (by (with_reducible repeat (first | refine blk_drewN ?_ _ | refine blk_drew ?_ | refine blk_alloc ?_ _)); exact BK410.out) hb); have n1_ := Aside0.mk (below_step (by repeat (first | (with_reducible first | exact HB.out | apply below_alloc | apply pw_below_drewN | apply below_drew1 | refine below_set ?_ GE410.out) | exact HB.out)) hb); clear BK410; clear HB; have BK410 := n0_; have HB := n1_; clear n0_ n1_; (try clear hi))))
   go_meet
   case rel => exact ⟨_, (!t412), (by first | rfl | (simp; done) | (simp [*]; done)), H', ⟨by first | omega | exact Nat.le_refl _⟩, ⟨by exact BK410.out⟩, ⟨by exact HB.out⟩⟩
  ·rw [if_neg c7] at H
   have c7b0 : (t411 == 0) = false := beq_eq_false_iff_ne.mpr c7
   have c7b1 : (t411 != 0) = true := bne_iff_ne.mpr c7
   (first | rw [c7b0] | (simp only [i64_w, i32_w]; rw [c7b0]) | skip)
   have H' := Aside0.mk H
   clear H
   have hcz13_0 : w5.cell? ⟨gb410, 0, none⟩ = some (.int .i64 a0_0) := (blk_cell BK410.out 0).trans rfl
   have hcz13_1 : w5.cell? ⟨gb410, 1, none⟩ = some (.slice A0_1 l0_1.length c0_1) := (blk_cell BK410.out 1).trans rfl
   have hfz13_0 := blk_frozen BK410.out 0
   have hfz13_1 := blk_frozen BK410.out 1
   go_wp2_with (first | (go_at_call 18; (with_reducible refine (timesyncref18_Check.calls k a0_0 _ _ l0_1 t411 _ ?side1 ?side2 A6.out).mono ?_); (case side1 => repeat (first | exact (Kd.C_below HR0_1.out HB.out) | (with_reducible refine Kd.C_alloc ?_ _) | (with_reducible refine Kd.C_drewN ?_ _) | (with_reducible refine Kd.C_drew ?_))); (case side2 => exact HC0_1.out); rintro e w14 ⟨rfl, hb⟩; have n0_ := Aside0.mk (blk_below (g := gb410) (o := .cells #[.int .i64 a0_0, .slice A0_1 l0_1.length c0_1] 24 (0, 0)) (by (with_reducible repeat (first | refine blk_drewN ?_ _ | refine blk_drew ?_ | refine blk_alloc ?_ _)); exact BK410.out) hb); have n1_ := Aside0.mk (below_step (by repeat (first | (with_reducible first | exact HB.out | apply below_alloc | apply pw_below_drewN | apply below_drew1 | refine below_set ?_ GE410.out) | exact HB.out)) hb); clear BK410; clear HB; have BK410 := n0_; have HB := n1_; clear n0_ n1_; (try clear hi)))
   repeat (go_quiet (first | (go_at_call 18; (with_reducible refine (timesyncref18_Check.calls k a0_0 _ _ l0_1 t411 _ ?side1 ?side2 A6.out).mono ?_); (case side1 => repeat (first | exact (Kd.C_below HR0_1.out HB.out) | (with_reducible refine Kd.C_alloc ?_ _) | (with_reducible refine Kd.C_drewN ?_ _) | (with_reducible refine Kd.C_drew ?_))); (case side2 => exact HC0_1.out); rintro e w14 ⟨rfl, hb⟩; have n0_ := Aside0.mk (blk_below (g := gb410) (o := .cells #[.int .i64 a0_0, .slice A0_1 l0_1.length c0_1] 24 (0, 0)) (by (with_reducible repeat (first | refine blk_drewN ?_ _ | refine blk_drew ?_ | refine blk_alloc ?_ _)); exact BK410.out) hb); have n1_ := Aside0.mk (below_step (by repeat (first | (with_reducible first | exact HB.out | apply below_alloc | apply pw_below_drewN | apply below_drew1 | refine below_set ?_ GE410.out) | exact HB.out)) hb); clear BK410; clear HB; have BK410 := n0_; have HB := n1_; clear n0_ n1_; (try clear hi))); try go_wp2_with (first | (go_at_call 18; (with_reducible refine (timesyncref18_Check.calls k a0_0 _ _ l0_1 t411 _ ?side1 ?side2 A6.out).mono ?_); (case side1 => repeat (first | exact (Kd.C_below HR0_1.out HB.out) | (with_reducible refine Kd.C_alloc ?_ _) | (with_reducible refine Kd.C_drewN ?_ _) | (with_reducible refine Kd.C_drew ?_))); (case side2 => exact HC0_1.out); rintro e w14 ⟨rfl, hb⟩; have n0_ := Aside0.mk (blk_below (g := gb410) (o := .cells #[.int .i64 a0_0, .slice A0_1 l0_1.length c0_1] 24 (0, 0)) (by (with_reducible repeat (first | refine blk_drewN ?_ _ | refine blk_drew ?_ | refine blk_alloc ?_ _)); exact BK410.out) hb); have n1_ := Aside0.mk (below_step (by repeat (first | (with_reducible first | exact HB.out | apply below_alloc | apply pw_below_drewN | apply below_drew1 | refine below_set ?_ GE410.out) | exact HB.out)) hb); clear BK410; clear HB; have BK410 := n0_; have HB := n1_; clear n0_ n1_; (try clear hi))))
   go_meet
   case rel => exact ⟨_, (true), (by first | rfl | (simp; done) | (simp [*]; done)), H', ⟨by first | omega | exact Nat.le_refl _⟩, ⟨by exact BK410.out⟩, ⟨by exact HB.out⟩⟩
 case rest =>
  clear HC4

















  obtain ⟨kq, x19_3, rfl, HA, HJ3, BK410, HB⟩ := hcut
  cases kq with
  | zero => exact absurd HA.out (by simp [timesyncref18_Peer.j0])
  | succ kj3 =>
   have H := HA.out
   clear HA
   simp only [timesyncref18_Peer.j0] at H
   by_cases c15 : x19_3 = true
   ·subst c15
    have H1 : (some (0, 0, false)) = some (r1, r2, r3) := by rw [if_pos rfl] at H; exact H
    clear H
    have H := H1
    clear H1
    simp only [Option.some.injEq, Prod.mk.injEq] at H
    obtain ⟨rfl, rfl, rfl⟩ := H
    go_wp2
    repeat (go_quiet (fail); try go_wp2)
    go_ret3
    exact ⟨by first | rfl | (simp [errW_none, errW_some] <;> rfl) | (simp [*, errW_none, errW_some] <;> rfl), by exact HB.out⟩
   ·replace c15 := Bool.eq_false_iff.mpr c15
    subst c15
    have H1 : (timesyncref18_Peer.l0 kj3 a1 a2 0 a0_0 l0_1) = some (r1, r2, r3) := by rw [if_neg (show ¬ (false = true) by decide)] at H; exact H
    clear H
    have H := H1
    clear H1
    have H' := Aside0.mk H
    clear H
    go_wp2
    repeat (go_quiet (fail); try go_wp2)
    go_loopg [9] kj3 (fun kq v9 w' => ∃ (x9_2 : Int), v9 = .int .i64 x9_2 ∧ Aside0 (timesyncref18_Peer.l0 kq a1 a2 x9_2 a0_0 l0_1 = some (r1, r2, r3)) ∧ Aside0 (kq ≤ kj3) ∧ Aside0 (w'.heap[gb410]? = some (.cells #[.int .i64 a0_0, (.slice A0_1 l0_1.length c0_1)] 24 (0, 0))) ∧ Aside0 (Below w.heap.size w w'))
    case atStart => exact ⟨(0), (by first | rfl | (simp; done) | (simp [*]; done)), H', ⟨Nat.le_refl _⟩, ⟨by exact BK410.out⟩, ⟨by exact HB.out⟩⟩
    case round =>
     clear H'




















     obtain ⟨x9_2, rfl, HA, HK2, BK410, HB⟩ := hrel
     cases gk with
     | zero => exact absurd HA.out (by simp [timesyncref18_Peer.l0])
     | succ k2 =>
      have H := HA.out
      clear HA
      simp only [timesyncref18_Peer.l0] at H
      by_cases c16 : x9_2 < (l0_1.length : Int)
      ·rw [if_pos c16] at H
       have c16b0 : decide (x9_2 < (l0_1.length : Int)) = true := decide_eq_true c16
       clear c16
       by_cases c17 : 0 ≤ x9_2
       ·rw [if_pos c17] at H
        have c17b0 : decide (0 ≤ x9_2) = true := decide_eq_true c17
        clear c17
        have HC18 := Aside0.mk H
        clear H
        have hcz19_0 : wr.cell? ⟨gb410, 0, none⟩ = some (.int .i64 a0_0) := (blk_cell BK410.out 0).trans rfl
        have hcz19_1 : wr.cell? ⟨gb410, 1, none⟩ = some (.slice A0_1 l0_1.length c0_1) := (blk_cell BK410.out 1).trans rfl
        have hfz19_0 := blk_frozen BK410.out 0
        have hfz19_1 := blk_frozen BK410.out 1
        have p413 : 0 ≤ (x9_2 : Int) := of_decide_eq_true (by first | (with_reducible assumption) | assumption)
        have q413 : x9_2 < (l0_1.length : Int) := of_decide_eq_true (by first | (with_reducible assumption) | assumption)
        obtain ⟨ad413, e413, hx413_0, hx413_1, hx413_2, hx413_3⟩ := at_T37 HR0_1.out x9_2 p413 q413
        cases e413
        try replace hx413_0 := (HB.out.cell (World.block_lt_of_cell? w _ hx413_0)).trans hx413_0
        try replace hx413_1 := (HB.out.cell (World.block_lt_of_cell? w _ hx413_1)).trans hx413_1
        try replace hx413_2 := (HB.out.cell (World.block_lt_of_cell? w _ hx413_2)).trans hx413_2
        try replace hx413_3 := (HB.out.cell (World.block_lt_of_cell? w _ hx413_3)).trans hx413_3
        replace p413 := eq_true p413
        replace q413 := eq_true q413
        go_upto_region 7 with (first | ((with_reducible refine gate_dst (N := 10) rfl ?_); refine box_event ?hg (N := 10) ?hd (cs := #[.int .i64 0, .int .i64 0, .int .i64 0, .int .i64 0]) (t := 37) ?hr ?_; (case hd => rfl); (case hg => rfl); (case hr => first | (go_simp; done) | (go_simp; rfl)); intro gb414 hg w20 hbox hb; have n0_ := Aside0.mk (blk_below (g := gb410) (o := .cells #[.int .i64 a0_0, .slice (some ad413) l0_1.length c0_1] 24 (0, 0)) (by exact BK410.out) hb); have n1_ := Aside0.mk (below_step (by exact HB.out) hb); have n2_ := Aside0.mk (hbox); have n3_ := Aside0.mk ((by rw [hg]; exact (below_size (by exact HB.out)) : w.heap.size ≤ gb414)); have n4_ := Aside0.mk ((by rw [hg]; exact (below_size (by exact HB.out)) : w.heap.size ≤ gb414)); have n5_ := Aside0.mk ((by rw [hg]; exact Nat.ne_of_lt (blk_lt (g := gb410) (o := .cells #[.int .i64 a0_0, .slice (some ad413) l0_1.length c0_1] 24 (0, 0)) (by exact BK410.out)) : gb410 ≠ gb414)); have n6_ := Aside0.mk ((by rw [hg]; exact Nat.ne_of_gt (blk_lt (g := gb410) (o := .cells #[.int .i64 a0_0, .slice (some ad413) l0_1.length c0_1] 24 (0, 0)) (by exact BK410.out)) : gb414 ≠ gb410)); clear BK410; clear HB; have BK410 := n0_; have HB := n1_; have BK414 := n2_; have GW414 := n3_; have GE414 := n4_; have NB410_414 := n5_; have NB414_410 := n6_; clear n0_ n1_ n2_ n3_ n4_ n5_ n6_; clear hb hbox hg; have hnb21 := NB414_410.out; have hnc21 := NB410_414.out; have hcz22_0 : w20.cell? ⟨gb414, 0, none⟩ = some (.int .i64 0) := (blk_cell BK414.out 0).trans rfl; have hcz22_1 : w20.cell? ⟨gb414, 1, none⟩ = some (.int .i64 0) := (blk_cell BK414.out 1).trans rfl; have hcz22_2 : w20.cell? ⟨gb414, 2, none⟩ = some (.int .i64 0) := (blk_cell BK414.out 2).trans rfl; have hcz22_3 : w20.cell? ⟨gb414, 3, none⟩ = some (.int .i64 0) := (blk_cell BK414.out 3).trans rfl; have hfz22_0 := blk_frozen BK414.out 0; have hfz22_1 := blk_frozen BK414.out 1; have hfz22_2 := blk_frozen BK414.out 2; have hfz22_3 := blk_frozen BK414.out 3))
        repeat (go_quiet (first | ((with_reducible refine gate_dst (N := 10) rfl ?_); refine box_event ?hg (N := 10) ?hd (cs := #[.int .i64 0, .int .i64 0, .int .i64 0, .int .i64 0]) (t := 37) ?hr ?_; (case hd => rfl); (case hg => rfl); (case hr => first | (go_simp; done) | (go_simp; rfl)); intro gb414 hg w20 hbox hb; have n0_ := Aside0.mk (blk_below (g := gb410) (o := .cells #[.int .i64 a0_0, .slice (some ad413) l0_1.length c0_1] 24 (0, 0)) (by exact BK410.out) hb); have n1_ := Aside0.mk (below_step (by exact HB.out) hb); have n2_ := Aside0.mk (hbox); have n3_ := Aside0.mk ((by rw [hg]; exact (below_size (by exact HB.out)) : w.heap.size ≤ gb414)); have n4_ := Aside0.mk ((by rw [hg]; exact (below_size (by exact HB.out)) : w.heap.size ≤ gb414)); have n5_ := Aside0.mk ((by rw [hg]; exact Nat.ne_of_lt (blk_lt (g := gb410) (o := .cells #[.int .i64 a0_0, .slice (some ad413) l0_1.length c0_1] 24 (0, 0)) (by exact BK410.out)) : gb410 ≠ gb414)); have n6_ := Aside0.mk ((by rw [hg]; exact Nat.ne_of_gt (blk_lt (g := gb410) (o := .cells #[.int .i64 a0_0, .slice (some ad413) l0_1.length c0_1] 24 (0, 0)) (by exact BK410.out)) : gb414 ≠ gb410)); clear BK410; clear HB; have BK410 := n0_; have HB := n1_; have BK414 := n2_; have GW414 := n3_; have GE414 := n4_; have NB410_414 := n5_; have NB414_410 := n6_; clear n0_ n1_ n2_ n3_ n4_ n5_ n6_; clear hb hbox hg; have hnb21 := NB414_410.out; have hnc21 := NB410_414.out; have hcz22_0 : w20.cell? ⟨gb414, 0, none⟩ = some (.int .i64 0) := (blk_cell BK414.out 0).trans rfl; have hcz22_1 : w20.cell? ⟨gb414, 1, none⟩ = some (.int .i64 0) := (blk_cell BK414.out 1).trans rfl; have hcz22_2 : w20.cell? ⟨gb414, 2, none⟩ = some (.int .i64 0) := (blk_cell BK414.out 2).trans rfl; have hcz22_3 : w20.cell? ⟨gb414, 3, none⟩ = some (.int .i64 0) := (blk_cell BK414.out 3).trans rfl; have hfz22_0 := blk_frozen BK414.out 0; have hfz22_1 := blk_frozen BK414.out 1; have hfz22_2 := blk_frozen BK414.out 2; have hfz22_3 := blk_frozen BK414.out 3)); go_upto_region 7 with (first | ((with_reducible refine gate_dst (N := 10) rfl ?_); refine box_event ?hg (N := 10) ?hd (cs := #[.int .i64 0, .int .i64 0, .int .i64 0, .int .i64 0]) (t := 37) ?hr ?_; (case hd => rfl); (case hg => rfl); (case hr => first | (go_simp; done) | (go_simp; rfl)); intro gb414 hg w20 hbox hb; have n0_ := Aside0.mk (blk_below (g := gb410) (o := .cells #[.int .i64 a0_0, .slice (some ad413) l0_1.length c0_1] 24 (0, 0)) (by exact BK410.out) hb); have n1_ := Aside0.mk (below_step (by exact HB.out) hb); have n2_ := Aside0.mk (hbox); have n3_ := Aside0.mk ((by rw [hg]; exact (below_size (by exact HB.out)) : w.heap.size ≤ gb414)); have n4_ := Aside0.mk ((by rw [hg]; exact (below_size (by exact HB.out)) : w.heap.size ≤ gb414)); have n5_ := Aside0.mk ((by rw [hg]; exact Nat.ne_of_lt (blk_lt (g := gb410) (o := .cells #[.int .i64 a0_0, .slice (some ad413) l0_1.length c0_1] 24 (0, 0)) (by exact BK410.out)) : gb410 ≠ gb414)); have n6_ := Aside0.mk ((by rw [hg]; exact Nat.ne_of_gt (blk_lt (g := gb410) (o := .cells #[.int .i64 a0_0, .slice (some ad413) l0_1.length c0_1] 24 (0, 0)) (by exact BK410.out)) : gb414 ≠ gb410)); clear BK410; clear HB; have BK410 := n0_; have HB := n1_; have BK414 := n2_; have GW414 := n3_; have GE414 := n4_; have NB410_414 := n5_; have NB414_410 := n6_; clear n0_ n1_ n2_ n3_ n4_ n5_ n6_; clear hb hbox hg; have hnb21 := NB414_410.out; have hnc21 := NB410_414.out; have hcz22_0 : w20.cell? ⟨gb414, 0, none⟩ = some (.int .i64 0) := (blk_cell BK414.out 0).trans rfl; have hcz22_1 : w20.cell? ⟨gb414, 1, none⟩ = some (.int .i64 0) := (blk_cell BK414.out 1).trans rfl; have hcz22_2 : w20.cell? ⟨gb414, 2, none⟩ = some (.int .i64 0) := (blk_cell BK414.out 2).trans rfl; have hcz22_3 : w20.cell? ⟨gb414, 3, none⟩ = some (.int .i64 0) := (blk_cell BK414.out 3).trans rfl; have hfz22_0 := blk_frozen BK414.out 0; have hfz22_1 := blk_frozen BK414.out 1; have hfz22_2 := blk_frozen BK414.out 2; have hfz22_3 := blk_frozen BK414.out 3)))
        (try simp only [Act.put, List.setIfInBounds_toArray, List.set_cons_zero, List.set_cons_succ])
        go_cut [41] (fun v41 wc => ∃ (kq : Nat) (x41_17 : Bool), v41 = .bool x41_17 ∧ Aside0 (timesyncref18_Peer.j2 kq a1 a2 x9_2 x41_17 a0_0 l0_1 ((rd_T37 l0_1 x9_2).f0) ((rd_T37 l0_1 x9_2).f1) ((rd_T37 l0_1 x9_2).f2) ((rd_T37 l0_1 x9_2).f3) = some (r1, r2, r3)) ∧ Aside0 (kq ≤ k2) ∧ Aside0 (wc.heap[gb410]? = some (.cells #[.int .i64 a0_0, (.slice (some ad413) l0_1.length c0_1)] 24 (0, 0))) ∧ Aside0 (wc.heap[gb414]? = some (.cells #[.int .i64 ((rd_T37 l0_1 x9_2).f0), .int .i64 ((rd_T37 l0_1 x9_2).f1), .int .i64 ((rd_T37 l0_1 x9_2).f2), .int .i64 ((rd_T37 l0_1 x9_2).f3)] 37 (0, 0))) ∧ Aside0 (Below w.heap.size w wc))
        case first =>
         have H := HC18.out
         clear HC18
         by_cases c23 : ((rd_T37 l0_1 x9_2).f0) = a1
         ·rw [if_pos c23] at H
          have c23b0 : (((rd_T37 l0_1 x9_2).f0) == a1) = true := beq_iff_eq.mpr c23
          have c23b1 : (((rd_T37 l0_1 x9_2).f0) != a1) = false := bne_eq_false_iff_eq.mpr c23
          clear c23
          (first | rw [c23b0] | (simp only [i64_w, i32_w]; rw [c23b0]) | skip)
          have H' := Aside0.mk H
          clear H
          have hnb24 := NB414_410.out
          have hnc24 := NB410_414.out
          have hcz25_0 : w20.cell? ⟨gb414, 0, none⟩ = some (.int .i64 0) := (blk_cell BK414.out 0).trans rfl
          have hcz25_1 : w20.cell? ⟨gb414, 1, none⟩ = some (.int .i64 0) := (blk_cell BK414.out 1).trans rfl
          have hcz25_2 : w20.cell? ⟨gb414, 2, none⟩ = some (.int .i64 0) := (blk_cell BK414.out 2).trans rfl
          have hcz25_3 : w20.cell? ⟨gb414, 3, none⟩ = some (.int .i64 0) := (blk_cell BK414.out 3).trans rfl
          have hfz25_0 := blk_frozen BK414.out 0
          have hfz25_1 := blk_frozen BK414.out 1
          have hfz25_2 := blk_frozen BK414.out 2
          have hfz25_3 := blk_frozen BK414.out 3
          go_wp2
          repeat (go_quiet (fail); try go_wp2)
          go_meet
          case rel => exact ⟨_, ((((rd_T37 l0_1 x9_2).f1) == a2)), (by first | rfl | (simp; done) | (simp [*]; done)), H', ⟨by have := HJ3.out; have := HK2.out; first | omega | exact Nat.le_refl _⟩, ⟨by (with_reducible repeat (first | refine blk_drewN ?_ _ | refine blk_drew ?_ | refine blk_alloc ?_ _)); refine blk_far ?_ NB410_414.out _; (with_reducible repeat (first | refine blk_drewN ?_ _ | refine blk_drew ?_ | refine blk_alloc ?_ _)); refine blk_far ?_ NB410_414.out _; (with_reducible repeat (first | refine blk_drewN ?_ _ | refine blk_drew ?_ | refine blk_alloc ?_ _)); refine blk_far ?_ NB410_414.out _; (with_reducible repeat (first | refine blk_drewN ?_ _ | refine blk_drew ?_ | refine blk_alloc ?_ _)); refine blk_far ?_ NB410_414.out _; (with_reducible repeat (first | refine blk_drewN ?_ _ | refine blk_drew ?_ | refine blk_alloc ?_ _)); exact BK410.out⟩, ⟨by (with_reducible repeat (first | refine blk_drewN ?_ _ | refine blk_drew ?_ | refine blk_alloc ?_ _)); refine blk_put (cs := #[.int .i64 ((rd_T37 l0_1 x9_2).f0), .int .i64 ((rd_T37 l0_1 x9_2).f1), .int .i64 ((rd_T37 l0_1 x9_2).f2), .int .i64 0]) ?_ 3 _ rfl; (with_reducible repeat (first | refine blk_drewN ?_ _ | refine blk_drew ?_ | refine blk_alloc ?_ _)); refine blk_put (cs := #[.int .i64 ((rd_T37 l0_1 x9_2).f0), .int .i64 ((rd_T37 l0_1 x9_2).f1), .int .i64 0, .int .i64 0]) ?_ 2 _ rfl; (with_reducible repeat (first | refine blk_drewN ?_ _ | refine blk_drew ?_ | refine blk_alloc ?_ _)); refine blk_put (cs := #[.int .i64 ((rd_T37 l0_1 x9_2).f0), .int .i64 0, .int .i64 0, .int .i64 0]) ?_ 1 _ rfl; (with_reducible repeat (first | refine blk_drewN ?_ _ | refine blk_drew ?_ | refine blk_alloc ?_ _)); refine blk_put (cs := #[.int .i64 0, .int .i64 0, .int .i64 0, .int .i64 0]) ?_ 0 _ rfl; (with_reducible repeat (first | refine blk_drewN ?_ _ | refine blk_drew ?_ | refine blk_alloc ?_ _)); exact BK414.out⟩, ⟨by repeat (first | (with_reducible first | exact HB.out | apply below_alloc | apply pw_below_drewN | apply below_drew1 | refine below_set ?_ GE410.out | refine below_set ?_ GE414.out) | exact HB.out)⟩⟩
         ·rw [if_neg c23] at H
          have c23b0 : (((rd_T37 l0_1 x9_2).f0) == a1) = false := beq_eq_false_iff_ne.mpr c23
          have c23b1 : (((rd_T37 l0_1 x9_2).f0) != a1) = true := bne_iff_ne.mpr c23
          (first | rw [c23b0] | (simp only [i64_w, i32_w]; rw [c23b0]) | skip)
          have H' := Aside0.mk H
          clear H
          have hnb26 := NB414_410.out
          have hnc26 := NB410_414.out
          have hcz27_0 : w20.cell? ⟨gb414, 0, none⟩ = some (.int .i64 0) := (blk_cell BK414.out 0).trans rfl
          have hcz27_1 : w20.cell? ⟨gb414, 1, none⟩ = some (.int .i64 0) := (blk_cell BK414.out 1).trans rfl
          have hcz27_2 : w20.cell? ⟨gb414, 2, none⟩ = some (.int .i64 0) := (blk_cell BK414.out 2).trans rfl
          have hcz27_3 : w20.cell? ⟨gb414, 3, none⟩ = some (.int .i64 0) := (blk_cell BK414.out 3).trans rfl
          have hfz27_0 := blk_frozen BK414.out 0
          have hfz27_1 := blk_frozen BK414.out 1
          have hfz27_2 := blk_frozen BK414.out 2
          have hfz27_3 := blk_frozen BK414.out 3
          go_wp2
          repeat (go_quiet (fail); try go_wp2)
          go_meet
          case rel => exact ⟨_, (false), (by first | rfl | (simp; done) | (simp [*]; done)), H', ⟨by have := HJ3.out; have := HK2.out; first | omega | exact Nat.le_refl _⟩, ⟨by (with_reducible repeat (first | refine blk_drewN ?_ _ | refine blk_drew ?_ | refine blk_alloc ?_ _)); refine blk_far ?_ NB410_414.out _; (with_reducible repeat (first | refine blk_drewN ?_ _ | refine blk_drew ?_ | refine blk_alloc ?_ _)); refine blk_far ?_ NB410_414.out _; (with_reducible repeat (first | refine blk_drewN ?_ _ | refine blk_drew ?_ | refine blk_alloc ?_ _)); refine blk_far ?_ NB410_414.out _; (with_reducible repeat (first | refine blk_drewN ?_ _ | refine blk_drew ?_ | refine blk_alloc ?_ _)); refine blk_far ?_ NB410_414.out _; (with_reducible repeat (first | refine blk_drewN ?_ _ | refine blk_drew ?_ | refine blk_alloc ?_ _)); exact BK410.out⟩, ⟨by (with_reducible repeat (first | refine blk_drewN ?_ _ | refine blk_drew ?_ | refine blk_alloc ?_ _)); refine blk_put (cs := #[.int .i64 ((rd_T37 l0_1 x9_2).f0), .int .i64 ((rd_T37 l0_1 x9_2).f1), .int .i64 ((rd_T37 l0_1 x9_2).f2), .int .i64 0]) ?_ 3 _ rfl; (with_reducible repeat (first | refine blk_drewN ?_ _ | refine blk_drew ?_ | refine blk_alloc ?_ _)); refine blk_put (cs := #[.int .i64 ((rd_T37 l0_1 x9_2).f0), .int .i64 ((rd_T37 l0_1 x9_2).f1), .int .i64 0, .int .i64 0]) ?_ 2 _ rfl; (with_reducible repeat (first | refine blk_drewN ?_ _ | refine blk_drew ?_ | refine blk_alloc ?_ _)); refine blk_put (cs := #[.int .i64 ((rd_T37 l0_1 x9_2).f0), .int .i64 0, .int .i64 0, .int .i64 0]) ?_ 1 _ rfl; (with_reducible repeat (first | refine blk_drewN ?_ _ | refine blk_drew ?_ | refine blk_alloc ?_ _)); refine blk_put (cs := #[.int .i64 0, .int .i64 0, .int .i64 0, .int .i64 0]) ?_ 0 _ rfl; (with_reducible repeat (first | refine blk_drewN ?_ _ | refine blk_drew ?_ | refine blk_alloc ?_ _)); exact BK414.out⟩, ⟨by repeat (first | (with_reducible first | exact HB.out | apply below_alloc | apply pw_below_drewN | apply below_drew1 | refine below_set ?_ GE410.out | refine below_set ?_ GE414.out) | exact HB.out)⟩⟩
        case rest =>
         clear HC18




































































         obtain ⟨kq, x41_17, rfl, HA, HJ17, BK410, BK414, HB⟩ := hcut
         cases kq with
         | zero => exact absurd HA.out (by simp [timesyncref18_Peer.j2])
         | succ kj17 =>
          have H := HA.out
          clear HA
          simp only [timesyncref18_Peer.j2] at H
          by_cases c28 : x41_17 = true
          ·subst c28
           have H1 : (some (((rd_T37 l0_1 x9_2).f2), ((rd_T37 l0_1 x9_2).f3), true)) = some (r1, r2, r3) := by rw [if_pos rfl] at H; exact H
           clear H
           have H := H1
           clear H1
           simp only [Option.some.injEq, Prod.mk.injEq] at H
           obtain ⟨rfl, rfl, rfl⟩ := H
           have hnb29 := NB414_410.out
           have hnc29 := NB410_414.out
           have hcz30_0 : wc.cell? ⟨gb414, 0, none⟩ = some (.int .i64 ((rd_T37 l0_1 x9_2).f0)) := (blk_cell BK414.out 0).trans rfl
           have hcz30_1 : wc.cell? ⟨gb414, 1, none⟩ = some (.int .i64 ((rd_T37 l0_1 x9_2).f1)) := (blk_cell BK414.out 1).trans rfl
           have hcz30_2 : wc.cell? ⟨gb414, 2, none⟩ = some (.int .i64 ((rd_T37 l0_1 x9_2).f2)) := (blk_cell BK414.out 2).trans rfl
           have hcz30_3 : wc.cell? ⟨gb414, 3, none⟩ = some (.int .i64 ((rd_T37 l0_1 x9_2).f3)) := (blk_cell BK414.out 3).trans rfl
           have hfz30_0 := blk_frozen BK414.out 0
           have hfz30_1 := blk_frozen BK414.out 1
           have hfz30_2 := blk_frozen BK414.out 2
           have hfz30_3 := blk_frozen BK414.out 3
           go_wp2
           repeat (go_quiet (fail); try go_wp2)
           go_ret3
           exact ⟨by first | rfl | (simp [errW_none, errW_some] <;> rfl) | (simp [*, errW_none, errW_some] <;> rfl), by repeat (first | (with_reducible first | exact HB.out | apply below_alloc | apply pw_below_drewN | apply below_drew1 | refine below_set ?_ GE410.out | refine below_set ?_ GE414.out) | exact HB.out)⟩
          ·replace c28 := Bool.eq_false_iff.mpr c28
           subst c28
           have H1 : (if ((rd_T37 l0_1 x9_2).f2) = a1 then (if ((rd_T37 l0_1 x9_2).f3) = a2 then (some (((rd_T37 l0_1 x9_2).f0), ((rd_T37 l0_1 x9_2).f1), true)) else (timesyncref18_Peer.l0 kj17 a1 a2 (wrap64 (x9_2 + 1)) a0_0 l0_1)) else (timesyncref18_Peer.l0 kj17 a1 a2 (wrap64 (x9_2 + 1)) a0_0 l0_1)) = some (r1, r2, r3) := by rw [if_neg (show ¬ (false = true) by decide)] at H; exact H
           clear H
           have H := H1
           clear H1
           by_cases c31 : ((rd_T37 l0_1 x9_2).f2) = a1
           ·rw [if_pos c31] at H
            have c31b0 : (((rd_T37 l0_1 x9_2).f2) == a1) = true := beq_iff_eq.mpr c31
            have c31b1 : (((rd_T37 l0_1 x9_2).f2) != a1) = false := bne_eq_false_iff_eq.mpr c31
            clear c31
            by_cases c32 : ((rd_T37 l0_1 x9_2).f3) = a2
            ·rw [if_pos c32] at H
             have c32b0 : (((rd_T37 l0_1 x9_2).f3) == a2) = true := beq_iff_eq.mpr c32
             have c32b1 : (((rd_T37 l0_1 x9_2).f3) != a2) = false := bne_eq_false_iff_eq.mpr c32
             clear c32
             simp only [Option.some.injEq, Prod.mk.injEq] at H
             obtain ⟨rfl, rfl, rfl⟩ := H
             have hnb33 := NB414_410.out
             have hnc33 := NB410_414.out
             have hcz34_0 : wc.cell? ⟨gb414, 0, none⟩ = some (.int .i64 ((rd_T37 l0_1 x9_2).f0)) := (blk_cell BK414.out 0).trans rfl
             have hcz34_1 : wc.cell? ⟨gb414, 1, none⟩ = some (.int .i64 ((rd_T37 l0_1 x9_2).f1)) := (blk_cell BK414.out 1).trans rfl
             have hcz34_2 : wc.cell? ⟨gb414, 2, none⟩ = some (.int .i64 ((rd_T37 l0_1 x9_2).f2)) := (blk_cell BK414.out 2).trans rfl
             have hcz34_3 : wc.cell? ⟨gb414, 3, none⟩ = some (.int .i64 ((rd_T37 l0_1 x9_2).f3)) := (blk_cell BK414.out 3).trans rfl
             have hfz34_0 := blk_frozen BK414.out 0
             have hfz34_1 := blk_frozen BK414.out 1
             have hfz34_2 := blk_frozen BK414.out 2
             have hfz34_3 := blk_frozen BK414.out 3
             go_wp2
             repeat (go_quiet (fail); try go_wp2)
             go_ret3
             exact ⟨by first | rfl | (simp [errW_none, errW_some] <;> rfl) | (simp [*, errW_none, errW_some] <;> rfl), by repeat (first | (with_reducible first | exact HB.out | apply below_alloc | apply pw_below_drewN | apply below_drew1 | refine below_set ?_ GE410.out | refine below_set ?_ GE414.out) | exact HB.out)⟩
            ·rw [if_neg c32] at H
             have c32b0 : (((rd_T37 l0_1 x9_2).f3) == a2) = false := beq_eq_false_iff_ne.mpr c32
             have c32b1 : (((rd_T37 l0_1 x9_2).f3) != a2) = true := bne_iff_ne.mpr c32
             have H' := Aside0.mk H
             clear H
             have hnb35 := NB414_410.out
             have hnc35 := NB410_414.out
             have hcz36_0 : wc.cell? ⟨gb414, 0, none⟩ = some (.int .i64 ((rd_T37 l0_1 x9_2).f0)) := (blk_cell BK414.out 0).trans rfl
             have hcz36_1 : wc.cell? ⟨gb414, 1, none⟩ = some (.int .i64 ((rd_T37 l0_1 x9_2).f1)) := (blk_cell BK414.out 1).trans rfl
             have hcz36_2 : wc.cell? ⟨gb414, 2, none⟩ = some (.int .i64 ((rd_T37 l0_1 x9_2).f2)) := (blk_cell BK414.out 2).trans rfl
             have hcz36_3 : wc.cell? ⟨gb414, 3, none⟩ = some (.int .i64 ((rd_T37 l0_1 x9_2).f3)) := (blk_cell BK414.out 3).trans rfl
             have hfz36_0 := blk_frozen BK414.out 0
             have hfz36_1 := blk_frozen BK414.out 1
             have hfz36_2 := blk_frozen BK414.out 2
             have hfz36_3 := blk_frozen BK414.out 3
             go_wp2
             repeat (go_quiet (fail); try go_wp2)
             go_roundg kj17
             case measure => have := HJ3.out; have := HK2.out; have := HJ17.out; omega
             case rel => exact ⟨(wrap64 (x9_2 + 1)), (by first | rfl | (simp; done) | (simp [*]; done)), H', ⟨by have := HJ3.out; have := HK2.out; have := HJ17.out; omega⟩, ⟨by exact BK410.out⟩, ⟨by exact HB.out⟩⟩
           ·rw [if_neg c31] at H
            have c31b0 : (((rd_T37 l0_1 x9_2).f2) == a1) = false := beq_eq_false_iff_ne.mpr c31
            have c31b1 : (((rd_T37 l0_1 x9_2).f2) != a1) = true := bne_iff_ne.mpr c31
            have H' := Aside0.mk H
            clear H
            have hnb37 := NB414_410.out
            have hnc37 := NB410_414.out
            have hcz38_0 : wc.cell? ⟨gb414, 0, none⟩ = some (.int .i64 ((rd_T37 l0_1 x9_2).f0)) := (blk_cell BK414.out 0).trans rfl
            have hcz38_1 : wc.cell? ⟨gb414, 1, none⟩ = some (.int .i64 ((rd_T37 l0_1 x9_2).f1)) := (blk_cell BK414.out 1).trans rfl
            have hcz38_2 : wc.cell? ⟨gb414, 2, none⟩ = some (.int .i64 ((rd_T37 l0_1 x9_2).f2)) := (blk_cell BK414.out 2).trans rfl
            have hcz38_3 : wc.cell? ⟨gb414, 3, none⟩ = some (.int .i64 ((rd_T37 l0_1 x9_2).f3)) := (blk_cell BK414.out 3).trans rfl
            have hfz38_0 := blk_frozen BK414.out 0
            have hfz38_1 := blk_frozen BK414.out 1
            have hfz38_2 := blk_frozen BK414.out 2
            have hfz38_3 := blk_frozen BK414.out 3
            go_wp2
            repeat (go_quiet (fail); try go_wp2)
            go_roundg kj17
            case measure => have := HJ3.out; have := HK2.out; have := HJ17.out; omega
            case rel => exact ⟨(wrap64 (x9_2 + 1)), (by first | rfl | (simp; done) | (simp [*]; done)), H', ⟨by have := HJ3.out; have := HK2.out; have := HJ17.out; omega⟩, ⟨by exact BK410.out⟩, ⟨by exact HB.out⟩⟩
       ·rw [if_neg c17] at H
        exact absurd H (by simp)
      ·rw [if_neg c16] at H
       have c16b0 : decide (x9_2 < (l0_1.length : Int)) = false := decide_eq_false c16
       clear c16
       simp only [Option.some.injEq, Prod.mk.injEq] at H
       obtain ⟨rfl, rfl, rfl⟩ := H
       have hcz39_0 : wr.cell? ⟨gb410, 0, none⟩ = some (.int .i64 a0_0) := (blk_cell BK410.out 0).trans rfl
       have hcz39_1 : wr.cell? ⟨gb410, 1, none⟩ = some (.slice A0_1 l0_1.length c0_1) := (blk_cell BK410.out 1).trans rfl
       have hfz39_0 := blk_frozen BK410.out 0
       have hfz39_1 := blk_frozen BK410.out 1
       go_wp2
       repeat (go_quiet (fail); try go_wp2)
       go_ret3
       exact ⟨by first | rfl | (simp [errW_none, errW_some] <;> rfl) | (simp [*, errW_none, errW_some] <;> rfl), by exact HB.out⟩

end Go.Proofs.Ythkpnkmbmlbefaa.X

namespace Go.Proofs.Ythkpnkmbmlbefaa.X
open Go.RowKit Go.Proofs.YthkpnkmbmlbefaaW.PrintWords Go.Proofs.YthkpnkmbmlbefaaW.PrintLast Go.Proofs.YthkpnkmbmlbefaaW.PrintMore
attribute [local go_sem] max2_int min2_int max_two min_two max_three min_three max_four min_four   -- for this text's walks alone
set_option linter.unusedVariables false
set_option linter.unusedSimpArgs false

/-! ### topo_Ports: function 41 -/
def topo_Ports.l0 : Nat → Int → List Int → Int → Int → List (S37) → Option (List Int)
 | 0, _, _, _, _, _ => none
 | k + 1, x1, x5, x6, x416000, x416001 => if x6 ≤ 8 then ((topo_Peer.f k x416000 x416001 x1 x6).bind fun bt416 => (if bt416.2.2 = true then (if x5.length < 17592186044416 then (topo_Ports.l0 k x1 (x5 ++ [x6]) (wrap64 (x6 + 1)) x416000 x416001) else (none)) else (topo_Ports.l0 k x1 x5 (wrap64 (x6 + 1)) x416000 x416001))) else (some x5)
def topo_Ports.f (k : Nat) (a0_0 : Int) (l0_1 : List (S37)) (a1 : Int) : Option (List Int) := topo_Ports.l0 k a1 ([] : List Int) 1 a0_0 l0_1
set_option maxHeartbeats 8000000 in
set_option maxRecDepth 100000 in
theorem topo_Ports.calls (k : Nat) (a0_0 : Int) (A0_1 : Option Addr) (c0_1 : Nat) (l0_1 : List (S37)) (a1 : Int) (r : List Int) (w : World) (hr0_1 : Kd.C k37 w A0_1 l0_1.length l0_1) (hc0_1 : l0_1.length ≤ c0_1) (h : topo_Ports.f k a0_0 l0_1 a1 = some r) :
  Calls Try.prog 41 #[.agg #[.int .i64 a0_0, .slice A0_1 l0_1.length c0_1], .int .i64 a1] w fun e w' => ∃ v0_ : Value, e = .returned (v0_) ∧ Kd.R (Kd.int .i64) 3 w' w.heap.size (fun _ => True) v0_ r ∧ Below w.heap.size w w' := by
 have hu24 := Try.underlying24
 have HR0_1 := Aside0.mk hr0_1
 have HC0_1 := Aside0.mk hc0_1
 clear hr0_1 hc0_1
 have HB := Aside0.mk (Below.refl w.heap.size w)
 have H : (topo_Ports.l0 k a1 ([] : List Int) 1 a0_0 l0_1) = some r := h
 clear h
 have H' := Aside0.mk H
 clear H
 go_enter Try.func41, Try.ntmps41
 go_wp2_with (first | ((with_reducible refine gate_dst (N := 2) rfl ?_); refine box_event ?hg (N := 2) ?hd (cs := #[.int .i64 a0_0, .slice A0_1 l0_1.length c0_1]) (t := 24) ?hr ?_; (case hd => rfl); (case hg => rfl); (case hr => first | (go_simp; done) | (go_simp; rfl)); intro gb415 hg w3 hbox hb; have n0_ := Aside0.mk (below_step (by exact HB.out) hb); have n1_ := Aside0.mk (hbox); have n2_ := Aside0.mk ((by rw [hg]; exact (below_size (by exact HB.out)) : w.heap.size ≤ gb415)); have n3_ := Aside0.mk ((by rw [hg]; exact (below_size (by exact HB.out)) : w.heap.size ≤ gb415)); clear HB; have HB := n0_; have BK415 := n1_; have GW415 := n2_; have GE415 := n3_; clear n0_ n1_ n2_ n3_; clear hb hbox hg))
 go_loopg [5, 6] k (fun kq v5 v6 w' => ∃ (x5_1 : List Int) (x6_1 : Int), v6 = .int .i64 x6_1 ∧ Aside0 (topo_Ports.l0 kq a1 x5_1 x6_1 a0_0 l0_1 = some r) ∧ Aside0 (kq ≤ k) ∧ Aside0 (Kd.R (Kd.int .i64) 3 w' w.heap.size (fun _ => True) v5 x5_1) ∧ Aside0 (w'.heap[gb415]? = some (.cells #[.int .i64 a0_0, (.slice A0_1 l0_1.length c0_1)] 24 (0, 0))) ∧ Aside0 (Below w.heap.size w w'))
 case atStart => exact ⟨(([] : List Int)), (1), (by first | rfl | (simp; done) | (simp [*]; done)), H', ⟨Nat.le_refl _⟩, ⟨by first | exact Kd.R_nil _ _ _ _ _ | exact Kd.N_nil _ _ _ _ _ | exact Kd.V_nil _ _ _ _ _ | exact Kd.Q_nil _ _ _ _ _ | exact Kd.S_nil _ _ _ _ _⟩, ⟨by exact BK415.out⟩, ⟨by exact HB.out⟩⟩
 case round =>
  clear H'
  try clear p2
  obtain ⟨x5_1, x6_1, rfl, HA, HK1, HO_5, BK415, HB⟩ := hrel
  cases gk with
  | zero => exact absurd HA.out (by simp [topo_Ports.l0])
  | succ k1 =>
   have H := HA.out
   clear HA
   simp only [topo_Ports.l0] at H
   by_cases c4 : x6_1 ≤ 8
   ·rw [if_pos c4] at H
    have c4b0 : decide (x6_1 ≤ 8) = true := decide_eq_true c4
    clear c4
    replace H := Option.bind_eq_some_iff.mp H
    obtain ⟨⟨t416, t417, t418⟩, A50, H⟩ := H
    replace H : (if t418 = true then (if x5_1.length < 17592186044416 then (topo_Ports.l0 k1 a1 (x5_1 ++ [x6_1]) (wrap64 (x6_1 + 1)) a0_0 l0_1) else (none)) else (topo_Ports.l0 k1 a1 x5_1 (wrap64 (x6_1 + 1)) a0_0 l0_1)) = some r := H
    have A5 := Aside0.mk A50
    clear A50
    by_cases c6 : t418 = true
    ·subst c6
     have H1 : (if x5_1.length < 17592186044416 then (topo_Ports.l0 k1 a1 (x5_1 ++ [x6_1]) (wrap64 (x6_1 + 1)) a0_0 l0_1) else (none)) = some r := by rw [if_pos rfl] at H; exact H
     clear H
     have H := H1
     clear H1
     by_cases c7 : x5_1.length < 17592186044416
     ·rw [if_pos c7] at H
      have LMc7 := Aside0.mk c7
      clear c7
      obtain ⟨y419, hy419⟩ : ∃ y_ : List Int, y_ = (x5_1 ++ [x6_1]) := ⟨_, rfl⟩
      replace H : (topo_Ports.l0 k1 a1 y419 (wrap64 (x6_1 + 1)) a0_0 l0_1) = some r := by first | (rw [hy419]; with_reducible exact H) | (have H2_ := (Option.bind_some _ _).symm.trans H; rw [hy419]; with_reducible exact H2_) | (have H2_ := (Option.bind_some _ _).symm.trans H; with_reducible exact H2_) | with_reducible exact H | (rw [hy419]; exact H) | exact H
      have Ny419 := Aside0.mk hy419
      clear hy419
      have H' := Aside0.mk H
      clear H
      have hcz8_0 : wr.cell? ⟨gb415, 0, none⟩ = some (.int .i64 a0_0) := (blk_cell BK415.out 0).trans rfl
      have hcz8_1 : wr.cell? ⟨gb415, 1, none⟩ = some (.slice A0_1 l0_1.length c0_1) := (blk_cell BK415.out 1).trans rfl
      have hfz8_0 := blk_frozen BK415.out 0
      have hfz8_1 := blk_frozen BK415.out 1
      go_wp2_with (first | ((with_reducible refine gate_callee (f := 39) rfl ?_); refine goesL_ (some 18) rfl rfl Try.func39 (by kernel_rfl) rfl #[.agg #[.int .i64 a0_0, .slice A0_1 l0_1.length c0_1], .int .i64 a1, .int .i64 x6_1] rfl (by (try simp only [List.map_toArray, List.map_cons, List.map_nil]); first | done | rfl | (simp only [List.length_drop, List.length_take]; rfl)) ?_; (with_reducible refine (topo_Peer.calls k1 a0_0 _ _ l0_1 a1 x6_1 t416 t417 true _ ?side1 ?side2 A5.out).mono ?_); (case side1 => exact (Kd.C_below HR0_1.out HB.out)); (case side2 => exact HC0_1.out); rintro e w9 ⟨rfl, hb⟩; refine ⟨_, rfl, ?_⟩; have n0_ := Aside0.mk (Kd.R_below (by exact HO_5.out) hb); have n1_ := Aside0.mk (blk_below (g := gb415) (o := .cells #[.int .i64 a0_0, .slice A0_1 l0_1.length c0_1] 24 (0, 0)) (by exact BK415.out) hb); have n2_ := Aside0.mk (below_step (by exact HB.out) hb); clear HO_5; clear BK415; clear HB; have HO_5 := n0_; have BK415 := n1_; have HB := n2_; clear n0_ n1_ n2_; (try clear hb); (try clear hb2); (try clear hk); (try clear hi)) | ((with_reducible refine gate_builtin (b := .append) (xs := #[.tmp 23, .tmp 25]) rfl ?_); at_builtin; refine Kd.R_append (Kd.int .i64) (w0 := w) w.heap.size rfl (.tmp 23) (.tmp 25) 30 3 (.int .i64 0) 8 rfl Try.underlying30 info3 rfl (by decide) (by omega) u5 x5_1 x6_1 [.int .i64 x6_1] (fun _ => True) (fun _ => False) rfl rfl ?aP (fun _ hk => hk.elim) ?aF ?aO ?aB ?aS ?aL ?_; (case aP => exact rfl); (case aB => exact (by exact HB.out)); (case aF => exact (fun _ _ => trivial)); (case aO => exact (by exact HO_5.out)); (case aS => exact (below_size (by exact HB.out))); (case aL => have := LMc7.out; omega); intro v420 w10 ho hb hg hat; rw [← Ny419.out] at ho; have n0_ := Aside0.mk (blk_grown (g := gb415) (o := .cells #[.int .i64 a0_0, .slice A0_1 l0_1.length c0_1] 24 (0, 0)) (by exact BK415.out) hg (Kd.R_ne HO_5.out BK415.out (by decide))); have n1_ := Aside0.mk (hb); have n2_ := Aside0.mk (ho); clear BK415; clear HB; clear HO_5; have BK415 := n0_; have HB := n1_; have HO421 := n2_; clear n0_ n1_ n2_; clear ho hb hg hat))
      go_roundg k1
      case measure => have := HK1.out; omega
      case rel => exact ⟨(y419), (wrap64 (x6_1 + 1)), (by first | rfl | (simp; done) | (simp [*]; done)), H', ⟨by have := HK1.out; omega⟩, ⟨by exact HO421.out⟩, ⟨by exact BK415.out⟩, ⟨by exact HB.out⟩⟩
     ·rw [if_neg c7] at H
      exact absurd H (by simp)
    ·replace c6 := Bool.eq_false_iff.mpr c6
     subst c6
     have H1 : (topo_Ports.l0 k1 a1 x5_1 (wrap64 (x6_1 + 1)) a0_0 l0_1) = some r := by rw [if_neg (show ¬ (false = true) by decide)] at H; exact H
     clear H
     have H := H1
     clear H1
     have H' := Aside0.mk H
     clear H
     have hcz11_0 : wr.cell? ⟨gb415, 0, none⟩ = some (.int .i64 a0_0) := (blk_cell BK415.out 0).trans rfl
     have hcz11_1 : wr.cell? ⟨gb415, 1, none⟩ = some (.slice A0_1 l0_1.length c0_1) := (blk_cell BK415.out 1).trans rfl
     have hfz11_0 := blk_frozen BK415.out 0
     have hfz11_1 := blk_frozen BK415.out 1
     go_wp2_with (first | ((with_reducible refine gate_callee (f := 39) rfl ?_); refine goesL_ (some 18) rfl rfl Try.func39 (by kernel_rfl) rfl #[.agg #[.int .i64 a0_0, .slice A0_1 l0_1.length c0_1], .int .i64 a1, .int .i64 x6_1] rfl (by (try simp only [List.map_toArray, List.map_cons, List.map_nil]); first | done | rfl | (simp only [List.length_drop, List.length_take]; rfl)) ?_; (with_reducible refine (topo_Peer.calls k1 a0_0 _ _ l0_1 a1 x6_1 t416 t417 false _ ?side1 ?side2 A5.out).mono ?_); (case side1 => exact (Kd.C_below HR0_1.out HB.out)); (case side2 => exact HC0_1.out); rintro e w12 ⟨rfl, hb⟩; refine ⟨_, rfl, ?_⟩; have n0_ := Aside0.mk (Kd.R_below (by exact HO_5.out) hb); have n1_ := Aside0.mk (blk_below (g := gb415) (o := .cells #[.int .i64 a0_0, .slice A0_1 l0_1.length c0_1] 24 (0, 0)) (by exact BK415.out) hb); have n2_ := Aside0.mk (below_step (by exact HB.out) hb); clear HO_5; clear BK415; clear HB; have HO_5 := n0_; have BK415 := n1_; have HB := n2_; clear n0_ n1_ n2_; (try clear hb); (try clear hb2); (try clear hk); (try clear hi)))
     go_roundg k1
     case measure => have := HK1.out; omega
     case rel => exact ⟨(x5_1), (wrap64 (x6_1 + 1)), (by first | rfl | (simp; done) | (simp [*]; done)), H', ⟨by have := HK1.out; omega⟩, ⟨by exact HO_5.out⟩, ⟨by exact BK415.out⟩, ⟨by exact HB.out⟩⟩
   ·rw [if_neg c4] at H
    have c4b0 : decide (x6_1 ≤ 8) = false := decide_eq_false c4
    clear c4
    obtain rfl := Option.some.inj H
    go_wp2
    go_ret
    exact ⟨_, by first | rfl | (simp [errW_none, errW_some] <;> rfl) | (simp [*, errW_none, errW_some] <;> rfl), by exact HO_5.out, by exact HB.out⟩

end Go.Proofs.Ythkpnkmbmlbefaa.X

namespace Go.Proofs.Ythkpnkmbmlbefaa.X
open Go.RowKit Go.Proofs.YthkpnkmbmlbefaaW.PrintWords Go.Proofs.YthkpnkmbmlbefaaW.PrintLast Go.Proofs.YthkpnkmbmlbefaaW.PrintMore
attribute [local go_sem] max2_int min2_int max_two min_two max_three min_three max_four min_four   -- for this text's walks alone
set_option linter.unusedVariables false
set_option linter.unusedSimpArgs false

/-! ### timesyncref18_Ports: function 42 -/
def timesyncref18_Ports.l0 : Nat → Int → List Int → Int → Int → List (S37) → Option (List Int)
 | 0, _, _, _, _, _ => none
 | k + 1, x1, x5, x6, x423000, x423001 => if x6 ≤ 8 then ((timesyncref18_Peer.f k x423000 x423001 x1 x6).bind fun bt423 => (if bt423.2.2 = true then (if x5.length < 17592186044416 then (timesyncref18_Ports.l0 k x1 (x5 ++ [x6]) (wrap64 (x6 + 1)) x423000 x423001) else (none)) else (timesyncref18_Ports.l0 k x1 x5 (wrap64 (x6 + 1)) x423000 x423001))) else (some x5)
def timesyncref18_Ports.f (k : Nat) (a0_0 : Int) (l0_1 : List (S37)) (a1 : Int) : Option (List Int) := timesyncref18_Ports.l0 k a1 ([] : List Int) 1 a0_0 l0_1
set_option maxHeartbeats 8000000 in
set_option maxRecDepth 100000 in
theorem timesyncref18_Ports.calls (k : Nat) (a0_0 : Int) (A0_1 : Option Addr) (c0_1 : Nat) (l0_1 : List (S37)) (a1 : Int) (r : List Int) (w : World) (hr0_1 : Kd.C k37 w A0_1 l0_1.length l0_1) (hc0_1 : l0_1.length ≤ c0_1) (h : timesyncref18_Ports.f k a0_0 l0_1 a1 = some r) :
  Calls Try.prog 42 #[.agg #[.int .i64 a0_0, .slice A0_1 l0_1.length c0_1], .int .i64 a1] w fun e w' => ∃ v0_ : Value, e = .returned (v0_) ∧ Kd.R (Kd.int .i64) 3 w' w.heap.size (fun _ => True) v0_ r ∧ Below w.heap.size w w' := by
 have hu24 := Try.underlying24
 have HR0_1 := Aside0.mk hr0_1
 have HC0_1 := Aside0.mk hc0_1
 clear hr0_1 hc0_1
 have HB := Aside0.mk (Below.refl w.heap.size w)
 have H : (timesyncref18_Ports.l0 k a1 ([] : List Int) 1 a0_0 l0_1) = some r := h
 clear h
 have H' := Aside0.mk H
 clear H
 go_enter Try.func42, Try.ntmps42
 go_wp2_with (first | ((with_reducible refine gate_dst (N := 2) rfl ?_); refine box_event ?hg (N := 2) ?hd (cs := #[.int .i64 a0_0, .slice A0_1 l0_1.length c0_1]) (t := 24) ?hr ?_; (case hd => rfl); (case hg => rfl); (case hr => first | (go_simp; done) | (go_simp; rfl)); intro gb422 hg w3 hbox hb; have n0_ := Aside0.mk (below_step (by exact HB.out) hb); have n1_ := Aside0.mk (hbox); have n2_ := Aside0.mk ((by rw [hg]; exact (below_size (by exact HB.out)) : w.heap.size ≤ gb422)); have n3_ := Aside0.mk ((by rw [hg]; exact (below_size (by exact HB.out)) : w.heap.size ≤ gb422)); clear HB; have HB := n0_; have BK422 := n1_; have GW422 := n2_; have GE422 := n3_; clear n0_ n1_ n2_ n3_; clear hb hbox hg))
 go_loopg [5, 6] k (fun kq v5 v6 w' => ∃ (x5_1 : List Int) (x6_1 : Int), v6 = .int .i64 x6_1 ∧ Aside0 (timesyncref18_Ports.l0 kq a1 x5_1 x6_1 a0_0 l0_1 = some r) ∧ Aside0 (kq ≤ k) ∧ Aside0 (Kd.R (Kd.int .i64) 3 w' w.heap.size (fun _ => True) v5 x5_1) ∧ Aside0 (w'.heap[gb422]? = some (.cells #[.int .i64 a0_0, (.slice A0_1 l0_1.length c0_1)] 24 (0, 0))) ∧ Aside0 (Below w.heap.size w w'))
 case atStart => exact ⟨(([] : List Int)), (1), (by first | rfl | (simp; done) | (simp [*]; done)), H', ⟨Nat.le_refl _⟩, ⟨by first | exact Kd.R_nil _ _ _ _ _ | exact Kd.N_nil _ _ _ _ _ | exact Kd.V_nil _ _ _ _ _ | exact Kd.Q_nil _ _ _ _ _ | exact Kd.S_nil _ _ _ _ _⟩, ⟨by exact BK422.out⟩, ⟨by exact HB.out⟩⟩
 case round =>
  clear H'
  try clear p2
  obtain ⟨x5_1, x6_1, rfl, HA, HK1, HO_5, BK422, HB⟩ := hrel
  cases gk with
  | zero => exact absurd HA.out (by simp [timesyncref18_Ports.l0])
  | succ k1 =>
   have H := HA.out
   clear HA
   simp only [timesyncref18_Ports.l0] at H
   by_cases c4 : x6_1 ≤ 8
   ·rw [if_pos c4] at H
    have c4b0 : decide (x6_1 ≤ 8) = true := decide_eq_true c4
    clear c4
    replace H := Option.bind_eq_some_iff.mp H
    obtain ⟨⟨t423, t424, t425⟩, A50, H⟩ := H
    replace H : (if t425 = true then (if x5_1.length < 17592186044416 then (timesyncref18_Ports.l0 k1 a1 (x5_1 ++ [x6_1]) (wrap64 (x6_1 + 1)) a0_0 l0_1) else (none)) else (timesyncref18_Ports.l0 k1 a1 x5_1 (wrap64 (x6_1 + 1)) a0_0 l0_1)) = some r := H
    have A5 := Aside0.mk A50
    clear A50
    by_cases c6 : t425 = true
    ·subst c6
     have H1 : (if x5_1.length < 17592186044416 then (timesyncref18_Ports.l0 k1 a1 (x5_1 ++ [x6_1]) (wrap64 (x6_1 + 1)) a0_0 l0_1) else (none)) = some r := by rw [if_pos rfl] at H; exact H
     clear H
     have H := H1
     clear H1
     by_cases c7 : x5_1.length < 17592186044416
     ·rw [if_pos c7] at H
      have LMc7 := Aside0.mk c7
      clear c7
      obtain ⟨y426, hy426⟩ : ∃ y_ : List Int, y_ = (x5_1 ++ [x6_1]) := ⟨_, rfl⟩
      replace H : (timesyncref18_Ports.l0 k1 a1 y426 (wrap64 (x6_1 + 1)) a0_0 l0_1) = some r := by first | (rw [hy426]; with_reducible exact H) | (have H2_ := (Option.bind_some _ _).symm.trans H; rw [hy426]; with_reducible exact H2_) | (have H2_ := (Option.bind_some _ _).symm.trans H; with_reducible exact H2_) | with_reducible exact H | (rw [hy426]; exact H) | exact H
      have Ny426 := Aside0.mk hy426
      clear hy426
      have H' := Aside0.mk H
      clear H
      have hcz8_0 : wr.cell? ⟨gb422, 0, none⟩ = some (.int .i64 a0_0) := (blk_cell BK422.out 0).trans rfl
      have hcz8_1 : wr.cell? ⟨gb422, 1, none⟩ = some (.slice A0_1 l0_1.length c0_1) := (blk_cell BK422.out 1).trans rfl
      have hfz8_0 := blk_frozen BK422.out 0
      have hfz8_1 := blk_frozen BK422.out 1
      go_wp2_with (first | ((with_reducible refine gate_callee (f := 40) rfl ?_); refine goesL_ (some 18) rfl rfl Try.func40 (by kernel_rfl) rfl #[.agg #[.int .i64 a0_0, .slice A0_1 l0_1.length c0_1], .int .i64 a1, .int .i64 x6_1] rfl (by (try simp only [List.map_toArray, List.map_cons, List.map_nil]); first | done | rfl | (simp only [List.length_drop, List.length_take]; rfl)) ?_; (with_reducible refine (timesyncref18_Peer.calls k1 a0_0 _ _ l0_1 a1 x6_1 t423 t424 true _ ?side1 ?side2 A5.out).mono ?_); (case side1 => exact (Kd.C_below HR0_1.out HB.out)); (case side2 => exact HC0_1.out); rintro e w9 ⟨rfl, hb⟩; refine ⟨_, rfl, ?_⟩; have n0_ := Aside0.mk (Kd.R_below (by exact HO_5.out) hb); have n1_ := Aside0.mk (blk_below (g := gb422) (o := .cells #[.int .i64 a0_0, .slice A0_1 l0_1.length c0_1] 24 (0, 0)) (by exact BK422.out) hb); have n2_ := Aside0.mk (below_step (by exact HB.out) hb); clear HO_5; clear BK422; clear HB; have HO_5 := n0_; have BK422 := n1_; have HB := n2_; clear n0_ n1_ n2_; (try clear hb); (try clear hb2); (try clear hk); (try clear hi)) | ((with_reducible refine gate_builtin (b := .append) (xs := #[.tmp 23, .tmp 25]) rfl ?_); at_builtin; refine Kd.R_append (Kd.int .i64) (w0 := w) w.heap.size rfl (.tmp 23) (.tmp 25) 30 3 (.int .i64 0) 8 rfl Try.underlying30 info3 rfl (by decide) (by omega) u5 x5_1 x6_1 [.int .i64 x6_1] (fun _ => True) (fun _ => False) rfl rfl ?aP (fun _ hk => hk.elim) ?aF ?aO ?aB ?aS ?aL ?_; (case aP => exact rfl); (case aB => exact (by exact HB.out)); (case aF => exact (fun _ _ => trivial)); (case aO => exact (by exact HO_5.out)); (case aS => exact (below_size (by exact HB.out))); (case aL => have := LMc7.out; omega); intro v427 w10 ho hb hg hat; rw [← Ny426.out] at ho; have n0_ := Aside0.mk (blk_grown (g := gb422) (o := .cells #[.int .i64 a0_0, .slice A0_1 l0_1.length c0_1] 24 (0, 0)) (by exact BK422.out) hg (Kd.R_ne HO_5.out BK422.out (by decide))); have n1_ := Aside0.mk (hb); have n2_ := Aside0.mk (ho); clear BK422; clear HB; clear HO_5; have BK422 := n0_; have HB := n1_; have HO428 := n2_; clear n0_ n1_ n2_; clear ho hb hg hat))
      go_roundg k1
      case measure => have := HK1.out; omega
      case rel => exact ⟨(y426), (wrap64 (x6_1 + 1)), (by first | rfl | (simp; done) | (simp [*]; done)), H', ⟨by have := HK1.out; omega⟩, ⟨by exact HO428.out⟩, ⟨by exact BK422.out⟩, ⟨by exact HB.out⟩⟩
     ·rw [if_neg c7] at H
      exact absurd H (by simp)
    ·replace c6 := Bool.eq_false_iff.mpr c6
     subst c6
     have H1 : (timesyncref18_Ports.l0 k1 a1 x5_1 (wrap64 (x6_1 + 1)) a0_0 l0_1) = some r := by rw [if_neg (show ¬ (false = true) by decide)] at H; exact H
     clear H
     have H := H1
     clear H1
     have H' := Aside0.mk H
     clear H
     have hcz11_0 : wr.cell? ⟨gb422, 0, none⟩ = some (.int .i64 a0_0) := (blk_cell BK422.out 0).trans rfl
     have hcz11_1 : wr.cell? ⟨gb422, 1, none⟩ = some (.slice A0_1 l0_1.length c0_1) := (blk_cell BK422.out 1).trans rfl
     have hfz11_0 := blk_frozen BK422.out 0
     have hfz11_1 := blk_frozen BK422.out 1
     go_wp2_with (first | ((with_reducible refine gate_callee (f := 40) rfl ?_); refine goesL_ (some 18) rfl rfl Try.func40 (by kernel_rfl) rfl #[.agg #[.int .i64 a0_0, .slice A0_1 l0_1.length c0_1], .int .i64 a1, .int .i64 x6_1] rfl (by (try simp only [List.map_toArray, List.map_cons, List.map_nil]); first | done | rfl | (simp only [List.length_drop, List.length_take]; rfl)) ?_; (with_reducible refine (timesyncref18_Peer.calls k1 a0_0 _ _ l0_1 a1 x6_1 t423 t424 false _ ?side1 ?side2 A5.out).mono ?_); (case side1 => exact (Kd.C_below HR0_1.out HB.out)); (case side2 => exact HC0_1.out); rintro e w12 ⟨rfl, hb⟩; refine ⟨_, rfl, ?_⟩; have n0_ := Aside0.mk (Kd.R_below (by exact HO_5.out) hb); have n1_ := Aside0.mk (blk_below (g := gb422) (o := .cells #[.int .i64 a0_0, .slice A0_1 l0_1.length c0_1] 24 (0, 0)) (by exact BK422.out) hb); have n2_ := Aside0.mk (below_step (by exact HB.out) hb); clear HO_5; clear BK422; clear HB; have HO_5 := n0_; have BK422 := n1_; have HB := n2_; clear n0_ n1_ n2_; (try clear hb); (try clear hb2); (try clear hk); (try clear hi)))
     go_roundg k1
     case measure => have := HK1.out; omega
     case rel => exact ⟨(x5_1), (wrap64 (x6_1 + 1)), (by first | rfl | (simp; done) | (simp [*]; done)), H', ⟨by have := HK1.out; omega⟩, ⟨by exact HO_5.out⟩, ⟨by exact BK422.out⟩, ⟨by exact HB.out⟩⟩
   ·rw [if_neg c4] at H
    have c4b0 : decide (x6_1 ≤ 8) = false := decide_eq_false c4
    clear c4
    obtain rfl := Option.some.inj H
    go_wp2
    go_ret
    exact ⟨_, by first | rfl | (simp [errW_none, errW_some] <;> rfl) | (simp [*, errW_none, errW_some] <;> rfl), by exact HO_5.out, by exact HB.out⟩

end Go.Proofs.Ythkpnkmbmlbefaa.X

namespace Go.Proofs.Ythkpnkmbmlbefaa.X
open Go.RowKit Go.Proofs.YthkpnkmbmlbefaaW.PrintWords Go.Proofs.YthkpnkmbmlbefaaW.PrintLast Go.Proofs.YthkpnkmbmlbefaaW.PrintMore
attribute [local go_sem] max2_int min2_int max_two min_two max_three min_three max_four min_four   -- for this text's walks alone
set_option linter.unusedVariables false
set_option linter.unusedSimpArgs false

/-! ### timesynclaw18_TopoPorts: function 9 -/
def timesynclaw18_TopoPorts.f (k : Nat) (a0_0 : Int) (l0_1 : List (S37)) (a1 : Int) (a2 : Int) : Option (Bool) := (timesynclaw18_long.f a0_0 l0_1).bind fun t430 => (if t430 = true then ((timesynclaw18_awake.f k).bind fun t431 => (some t431)) else ((topo_Peer.f k a0_0 l0_1 a1 a2).bind fun bt432 => ((timesyncref18_Peer.f k a0_0 l0_1 a1 a2).bind fun bt435 => (if bt432.1 = bt435.1 then (if bt432.2.1 = bt435.2.1 then (if (bt432.2.2 == bt435.2.2) = true then ((topo_Ports.f k a0_0 l0_1 a1).bind fun t438 => ((timesyncref18_Ports.f k a0_0 l0_1 a1).bind fun t441 => ((slices_Equal_int_int.f k t438 t441).bind fun t444 => (if t444 = true then ((timesynclaw18_awake.f k).bind fun t445 => (some t445)) else (none))))) else (none)) else (none)) else (none)))))
def timesynclaw18_TopoPorts.T5 : Bool × List (List Nat × List Nat) := (true, [([], []), ([], []), ([0, 1], [0, 1]), ([2], [2]), ([3], [3]), ([3], [3]), ([4, 5, 3], [3, 4, 5]), ([3, 6], [3, 6]), ([7, 3], [7]), ([8], [8]), ([8], [8]), ([9, 10, 8], [8, 9, 10]), ([8, 11], [8, 11]), ([12, 8], [12]), ([13], [13]), ([13], [13]), ([14, 15, 13, 13], [13, 14, 15]), ([13], [13]), ([13], [13]), ([17, 18, 16, 13], [13, 17, 18]), ([16, 19, 19, 13], [13, 16, 19]), ([13, 20], [13, 20]), ([21, 20], [21]), ([22, 22], [22]), ([22, 23], [22, 23]), ([24, 23, 0, 1, 2, 3, 4, 5, 6, 7, 8, 9, 10, 11, 12, 13, 14, 15, 16, 17, 18, 19, 20, 21, 22, 23, 24], [24])])
def timesynclaw18_TopoPorts.B5 : List Nat := [0, 0, 3, 7, 15, 15, 63, 127, 255, 511, 511, 2047, 4095, 8191, 16383, 16383, 65535, 16383, 16383, 524287, 1048575, 2097151, 4194303, 8388607, 16777215, 33554431]
theorem timesynclaw18_TopoPorts.tab5 : rtab .any (opsOf Try.f9 5) = timesynclaw18_TopoPorts.T5 := by kernel_rfl
theorem timesynclaw18_TopoPorts.bits5 : waitsOk timesynclaw18_TopoPorts.T5.2 timesynclaw18_TopoPorts.B5 = true := by kernel_rfl
set_option maxHeartbeats 8000000 in
set_option maxRecDepth 100000 in
theorem timesynclaw18_TopoPorts.calls (k : Nat) (a0_0 : Int) (A0_1 : Option Addr) (c0_1 : Nat) (l0_1 : List (S37)) (a1 : Int) (a2 : Int) (r : Bool) (w : World) (hr0_1 : Kd.C k37 w A0_1 l0_1.length l0_1) (hc0_1 : l0_1.length ≤ c0_1) (h : timesynclaw18_TopoPorts.f k a0_0 l0_1 a1 a2 = some r) :
  Calls Try.prog 9 #[.agg #[.int .i64 a0_0, .slice A0_1 l0_1.length c0_1], .int .i64 a1, .int .i64 a2] w fun e w' => e = .returned (.bool r) ∧ Below w.heap.size w w' := by
 have hu24 := Try.underlying24
 have HR0_1 := Aside0.mk hr0_1
 have HC0_1 := Aside0.mk hc0_1
 clear hr0_1 hc0_1
 have HB := Aside0.mk (Below.refl w.heap.size w)
 have H : ((timesynclaw18_long.f a0_0 l0_1).bind fun t430 => (if t430 = true then ((timesynclaw18_awake.f k).bind fun t431 => (some t431)) else ((topo_Peer.f k a0_0 l0_1 a1 a2).bind fun bt432 => ((timesyncref18_Peer.f k a0_0 l0_1 a1 a2).bind fun bt435 => (if bt432.1 = bt435.1 then (if bt432.2.1 = bt435.2.1 then (if (bt432.2.2 == bt435.2.2) = true then ((topo_Ports.f k a0_0 l0_1 a1).bind fun t438 => ((timesyncref18_Ports.f k a0_0 l0_1 a1).bind fun t441 => ((slices_Equal_int_int.f k t438 t441).bind fun t444 => (if t444 = true then ((timesynclaw18_awake.f k).bind fun t445 => (some t445)) else (none))))) else (none)) else (none)) else (none)))))) = some r := h
 clear h
 replace H := Option.bind_eq_some_iff.mp H
 obtain ⟨t430, A40, H⟩ := H
 replace H : (if t430 = true then ((timesynclaw18_awake.f k).bind fun t431 => (some t431)) else ((topo_Peer.f k a0_0 l0_1 a1 a2).bind fun bt432 => ((timesyncref18_Peer.f k a0_0 l0_1 a1 a2).bind fun bt435 => (if bt432.1 = bt435.1 then (if bt432.2.1 = bt435.2.1 then (if (bt432.2.2 == bt435.2.2) = true then ((topo_Ports.f k a0_0 l0_1 a1).bind fun t438 => ((timesyncref18_Ports.f k a0_0 l0_1 a1).bind fun t441 => ((slices_Equal_int_int.f k t438 t441).bind fun t444 => (if t444 = true then ((timesynclaw18_awake.f k).bind fun t445 => (some t445)) else (none))))) else (none)) else (none)) else (none))))) = some r := H
 have A4 := Aside0.mk A40
 clear A40
 by_cases c5 : t430 = true
 ·subst c5
  have H1 : ((timesynclaw18_awake.f k).bind fun t431 => (some t431)) = some r := by rw [if_pos rfl] at H; exact H
  clear H
  have H := H1
  clear H1
  replace H := Option.bind_eq_some_iff.mp H
  obtain ⟨t431, A60, H⟩ := H
  replace H : (some t431) = some r := H
  have A6 := Aside0.mk A60
  clear A60
  obtain rfl := Option.some.inj H
  go_enter Try.func9, Try.ntmps9
  go_wp2_with (first | ((with_reducible refine gate_dst (N := 3) rfl ?_); refine box_event ?hg (N := 3) ?hd (cs := #[.int .i64 a0_0, .slice A0_1 l0_1.length c0_1]) (t := 24) ?hr ?_; (case hd => rfl); (case hg => rfl); (case hr => first | (go_simp; done) | (go_simp; rfl)); intro gb429 hg w7 hbox hb; have n0_ := Aside0.mk (below_step (by exact HB.out) hb); have n1_ := Aside0.mk (hbox); have n2_ := Aside0.mk ((by rw [hg]; exact (below_size (by exact HB.out)) : w.heap.size ≤ gb429)); have n3_ := Aside0.mk ((by rw [hg]; exact (below_size (by exact HB.out)) : w.heap.size ≤ gb429)); clear HB; have HB := n0_; have BK429 := n1_; have GW429 := n2_; have GE429 := n3_; clear n0_ n1_ n2_ n3_; clear hb hbox hg; have hcz8_0 : w7.cell? ⟨gb429, 0, none⟩ = some (.int .i64 a0_0) := (blk_cell BK429.out 0).trans rfl; have hcz8_1 : w7.cell? ⟨gb429, 1, none⟩ = some (.slice A0_1 l0_1.length c0_1) := (blk_cell BK429.out 1).trans rfl; have hfz8_0 := blk_frozen BK429.out 0; have hfz8_1 := blk_frozen BK429.out 1) | ((with_reducible refine gate_callee (f := 15) rfl ?_); refine goesL_ (some 14) rfl rfl Try.func15 (by kernel_rfl) rfl #[.agg #[.int .i64 a0_0, .slice A0_1 l0_1.length c0_1]] rfl (by (try simp only [List.map_toArray, List.map_cons, List.map_nil]); first | done | rfl | (simp only [List.length_drop, List.length_take]; rfl)) ?_; (with_reducible refine (timesynclaw18_long.calls a0_0 _ _ l0_1 true _ ?side1 ?side2 A4.out).mono ?_); (case side1 => exact (Kd.C_below HR0_1.out HB.out)); (case side2 => exact HC0_1.out); rintro e w9 ⟨rfl, hb⟩; refine ⟨_, rfl, ?_⟩; have n0_ := Aside0.mk (blk_below (g := gb429) (o := .cells #[.int .i64 a0_0, .slice A0_1 l0_1.length c0_1] 24 (0, 0)) (by exact BK429.out) hb); have n1_ := Aside0.mk (below_step (by exact HB.out) hb); clear BK429; clear HB; have BK429 := n0_; have HB := n1_; clear n0_ n1_; (try clear hi)) | ((with_reducible refine gate_callee (f := 16) rfl ?_); refine goesL_ (some 15) rfl rfl Try.func16 (by kernel_rfl) rfl #[] rfl (by (try simp only [List.map_toArray, List.map_cons, List.map_nil]); first | done | rfl | (simp only [List.length_drop, List.length_take]; rfl)) ?_; (with_reducible refine (timesynclaw18_awake.calls k  t431 _ A6.out).mono ?_); rintro e w10 ⟨rfl, hb⟩; refine ⟨_, rfl, ?_⟩; have n0_ := Aside0.mk (blk_below (g := gb429) (o := .cells #[.int .i64 a0_0, .slice A0_1 l0_1.length c0_1] 24 (0, 0)) (by exact BK429.out) hb); have n1_ := Aside0.mk (below_step (by exact HB.out) hb); clear BK429; clear HB; have BK429 := n0_; have HB := n1_; clear n0_ n1_; (try clear hi)))
  go_ret
  exact ⟨by first | rfl | (simp [errW_none, errW_some] <;> rfl) | (simp [*, errW_none, errW_some] <;> rfl), by exact HB.out⟩
 ·replace c5 := Bool.eq_false_iff.mpr c5
  subst c5
  have H1 : ((topo_Peer.f k a0_0 l0_1 a1 a2).bind fun bt432 => ((timesyncref18_Peer.f k a0_0 l0_1 a1 a2).bind fun bt435 => (if bt432.1 = bt435.1 then (if bt432.2.1 = bt435.2.1 then (if (bt432.2.2 == bt435.2.2) = true then ((topo_Ports.f k a0_0 l0_1 a1).bind fun t438 => ((timesyncref18_Ports.f k a0_0 l0_1 a1).bind fun t441 => ((slices_Equal_int_int.f k t438 t441).bind fun t444 => (if t444 = true then ((timesynclaw18_awake.f k).bind fun t445 => (some t445)) else (none))))) else (none)) else (none)) else (none)))) = some r := by rw [if_neg (show ¬ (false = true) by decide)] at H; exact H
  clear H
  have H := H1
  clear H1
  replace H := Option.bind_eq_some_iff.mp H
  obtain ⟨⟨t432, t433, t434⟩, A110, H⟩ := H
  replace H : ((timesyncref18_Peer.f k a0_0 l0_1 a1 a2).bind fun bt435 => (if t432 = bt435.1 then (if t433 = bt435.2.1 then (if (t434 == bt435.2.2) = true then ((topo_Ports.f k a0_0 l0_1 a1).bind fun t438 => ((timesyncref18_Ports.f k a0_0 l0_1 a1).bind fun t441 => ((slices_Equal_int_int.f k t438 t441).bind fun t444 => (if t444 = true then ((timesynclaw18_awake.f k).bind fun t445 => (some t445)) else (none))))) else (none)) else (none)) else (none))) = some r := H
  have A11 := Aside0.mk A110
  clear A110
  replace H := Option.bind_eq_some_iff.mp H
  obtain ⟨⟨t435, t436, t437⟩, A120, H⟩ := H
  replace H : (if t432 = t435 then (if t433 = t436 then (if (t434 == t437) = true then ((topo_Ports.f k a0_0 l0_1 a1).bind fun t438 => ((timesyncref18_Ports.f k a0_0 l0_1 a1).bind fun t441 => ((slices_Equal_int_int.f k t438 t441).bind fun t444 => (if t444 = true then ((timesynclaw18_awake.f k).bind fun t445 => (some t445)) else (none))))) else (none)) else (none)) else (none)) = some r := H
  have A12 := Aside0.mk A120
  clear A120
  by_cases c13 : t432 = t435
  ·rw [if_pos c13] at H
   have c13b0 : (t432 == t435) = true := beq_iff_eq.mpr c13
   have c13b1 : (t432 != t435) = false := bne_eq_false_iff_eq.mpr c13
   clear c13
   by_cases c14 : t433 = t436
   ·rw [if_pos c14] at H
    have c14b0 : (t433 == t436) = true := beq_iff_eq.mpr c14
    have c14b1 : (t433 != t436) = false := bne_eq_false_iff_eq.mpr c14
    clear c14
    by_cases c15 : (t434 == t437) = true
    ·rw [if_pos c15] at H
     have c15b0 : (t434 == t437) = true := c15
     (try (have c15b1 : decide (t434 = t437) = true := by simpa using c15))
     (try (have c15b2 : (t434 == t437) = true := by simpa using c15))
     clear c15
     replace H := Option.bind_eq_some_iff.mp H
     obtain ⟨t438, A160, H⟩ := H
     replace H : ((timesyncref18_Ports.f k a0_0 l0_1 a1).bind fun t441 => ((slices_Equal_int_int.f k t438 t441).bind fun t444 => (if t444 = true then ((timesynclaw18_awake.f k).bind fun t445 => (some t445)) else (none)))) = some r := H
     have A16 := Aside0.mk A160
     clear A160
     replace H := Option.bind_eq_some_iff.mp H
     obtain ⟨t441, A170, H⟩ := H
     replace H : ((slices_Equal_int_int.f k t438 t441).bind fun t444 => (if t444 = true then ((timesynclaw18_awake.f k).bind fun t445 => (some t445)) else (none))) = some r := H
     have A17 := Aside0.mk A170
     clear A170
     replace H := Option.bind_eq_some_iff.mp H
     obtain ⟨t444, A180, H⟩ := H
     replace H : (if t444 = true then ((timesynclaw18_awake.f k).bind fun t445 => (some t445)) else (none)) = some r := H
     have A18 := Aside0.mk A180
     clear A180
     by_cases c19 : t444 = true
     ·subst c19
      have H1 : ((timesynclaw18_awake.f k).bind fun t445 => (some t445)) = some r := by rw [if_pos rfl] at H; exact H
      clear H
      have H := H1
      clear H1
      replace H := Option.bind_eq_some_iff.mp H
      obtain ⟨t445, A200, H⟩ := H
      replace H : (some t445) = some r := H
      have A20 := Aside0.mk A200
      clear A200
      obtain rfl := Option.some.inj H
      go_enter Try.func9, Try.ntmps9
      try go_wp2_with (first | ((with_reducible refine gate_dst (N := 3) rfl ?_); refine box_event ?hg (N := 3) ?hd (cs := #[.int .i64 a0_0, .slice A0_1 l0_1.length c0_1]) (t := 24) ?hr ?_; (case hd => rfl); (case hg => rfl); (case hr => first | (go_simp; done) | (go_simp; rfl)); intro gb429 hg w21 hbox hb; have n0_ := Aside0.mk (below_step (by repeat (first | (with_reducible first | exact HB.out | apply below_alloc | apply pw_below_drewN | apply below_drew1) | exact HB.out)) hb); have n1_ := Aside0.mk (hbox); have n2_ := Aside0.mk ((by rw [hg]; exact (below_size (by repeat (first | (with_reducible first | exact HB.out | apply below_alloc | apply pw_below_drewN | apply below_drew1) | exact HB.out))) : w.heap.size ≤ gb429)); have n3_ := Aside0.mk ((by rw [hg]; exact (below_size (by repeat (first | (with_reducible first | exact HB.out | apply below_alloc | apply pw_below_drewN | apply below_drew1) | exact HB.out))) : w.heap.size ≤ gb429)); clear HB; have HB := n0_; have BK429 := n1_; have GW429 := n2_; have GE429 := n3_; clear n0_ n1_ n2_ n3_; clear hb hbox hg; have hcz22_0 : w21.cell? ⟨gb429, 0, none⟩ = some (.int .i64 a0_0) := (blk_cell BK429.out 0).trans rfl; have hcz22_1 : w21.cell? ⟨gb429, 1, none⟩ = some (.slice A0_1 l0_1.length c0_1) := (blk_cell BK429.out 1).trans rfl; have hfz22_0 := blk_frozen BK429.out 0; have hfz22_1 := blk_frozen BK429.out 1) | ((with_reducible refine gate_callee (f := 15) rfl ?_); refine goesL_ (some 14) rfl rfl Try.func15 (by kernel_rfl) rfl #[.agg #[.int .i64 a0_0, .slice A0_1 l0_1.length c0_1]] rfl (by (try simp only [List.map_toArray, List.map_cons, List.map_nil]); first | done | rfl | (simp only [List.length_drop, List.length_take]; rfl)) ?_; (with_reducible refine (timesynclaw18_long.calls a0_0 _ _ l0_1 false _ ?side1 ?side2 A4.out).mono ?_); (case side1 => repeat (first | exact (Kd.C_below HR0_1.out HB.out) | (with_reducible refine Kd.C_alloc ?_ _) | (with_reducible refine Kd.C_drewN ?_ _) | (with_reducible refine Kd.C_drew ?_))); (case side2 => exact HC0_1.out); rintro e w23 ⟨rfl, hb⟩; refine ⟨_, rfl, ?_⟩; have n0_ := Aside0.mk (blk_below (g := gb429) (o := .cells #[.int .i64 a0_0, .slice A0_1 l0_1.length c0_1] 24 (0, 0)) (by (with_reducible repeat (first | refine blk_drewN ?_ _ | refine blk_drew ?_ | refine blk_alloc ?_ _)); exact BK429.out) hb); have n1_ := Aside0.mk (below_step (by repeat (first | (with_reducible first | exact HB.out | apply below_alloc | apply pw_below_drewN | apply below_drew1 | refine below_set ?_ GE429.out) | exact HB.out)) hb); clear BK429; clear HB; have BK429 := n0_; have HB := n1_; clear n0_ n1_; have hcz24_0 : w23.cell? ⟨gb429, 0, none⟩ = some (.int .i64 a0_0) := (blk_cell BK429.out 0).trans rfl; have hcz24_1 : w23.cell? ⟨gb429, 1, none⟩ = some (.slice A0_1 l0_1.length c0_1) := (blk_cell BK429.out 1).trans rfl; have hfz24_0 := blk_frozen BK429.out 0; have hfz24_1 := blk_frozen BK429.out 1) | ((with_reducible refine gate_callee (f := 39) rfl ?_); refine goesL_ (some 20) rfl rfl Try.func39 (by kernel_rfl) rfl #[.agg #[.int .i64 a0_0, .slice A0_1 l0_1.length c0_1], .int .i64 a1, .int .i64 a2] rfl (by (try simp only [List.map_toArray, List.map_cons, List.map_nil]); first | done | rfl | (simp only [List.length_drop, List.length_take]; rfl)) ?_; (with_reducible refine (topo_Peer.calls k a0_0 _ _ l0_1 a1 a2 t432 t433 t434 _ ?side1 ?side2 A11.out).mono ?_); (case side1 => repeat (first | exact (Kd.C_below HR0_1.out HB.out) | (with_reducible refine Kd.C_alloc ?_ _) | (with_reducible refine Kd.C_drewN ?_ _) | (with_reducible refine Kd.C_drew ?_))); (case side2 => exact HC0_1.out); rintro e w25 ⟨rfl, hb⟩; refine ⟨_, rfl, ?_⟩; have n0_ := Aside0.mk (blk_below (g := gb429) (o := .cells #[.int .i64 a0_0, .slice A0_1 l0_1.length c0_1] 24 (0, 0)) (by (with_reducible repeat (first | refine blk_drewN ?_ _ | refine blk_drew ?_ | refine blk_alloc ?_ _)); exact BK429.out) hb); have n1_ := Aside0.mk (below_step (by repeat (first | (with_reducible first | exact HB.out | apply below_alloc | apply pw_below_drewN | apply below_drew1 | refine below_set ?_ GE429.out) | exact HB.out)) hb); clear BK429; clear HB; have BK429 := n0_; have HB := n1_; clear n0_ n1_; have hcz26_0 : w25.cell? ⟨gb429, 0, none⟩ = some (.int .i64 a0_0) := (blk_cell BK429.out 0).trans rfl; have hcz26_1 : w25.cell? ⟨gb429, 1, none⟩ = some (.slice A0_1 l0_1.length c0_1) := (blk_cell BK429.out 1).trans rfl; have hfz26_0 := blk_frozen BK429.out 0; have hfz26_1 := blk_frozen BK429.out 1) | ((with_reducible refine gate_callee (f := 40) rfl ?_); refine goesL_ (some 28) rfl rfl Try.func40 (by kernel_rfl) rfl #[.agg #[.int .i64 a0_0, .slice A0_1 l0_1.length c0_1], .int .i64 a1, .int .i64 a2] rfl (by (try simp only [List.map_toArray, List.map_cons, List.map_nil]); first | done | rfl | (simp only [List.length_drop, List.length_take]; rfl)) ?_; (with_reducible refine (timesyncref18_Peer.calls k a0_0 _ _ l0_1 a1 a2 t435 t436 t437 _ ?side1 ?side2 A12.out).mono ?_); (case side1 => repeat (first | exact (Kd.C_below HR0_1.out HB.out) | (with_reducible refine Kd.C_alloc ?_ _) | (with_reducible refine Kd.C_drewN ?_ _) | (with_reducible refine Kd.C_drew ?_))); (case side2 => exact HC0_1.out); rintro e w27 ⟨rfl, hb⟩; refine ⟨_, rfl, ?_⟩; have n0_ := Aside0.mk (blk_below (g := gb429) (o := .cells #[.int .i64 a0_0, .slice A0_1 l0_1.length c0_1] 24 (0, 0)) (by (with_reducible repeat (first | refine blk_drewN ?_ _ | refine blk_drew ?_ | refine blk_alloc ?_ _)); exact BK429.out) hb); have n1_ := Aside0.mk (below_step (by repeat (first | (with_reducible first | exact HB.out | apply below_alloc | apply pw_below_drewN | apply below_drew1 | refine below_set ?_ GE429.out) | exact HB.out)) hb); clear BK429; clear HB; have BK429 := n0_; have HB := n1_; clear n0_ n1_; (try clear hi)))
      have n0_ := Aside0.mk (blk_drew BK429.out)
      have n1_ := Aside0.mk (below_drew1 HB.out)
      clear BK429
      clear HB
      have BK429 := n0_
      have HB := n1_
      clear n0_ n1_
      refine start_ (n := 26) (S := fun w' => w'.cell? ⟨gb429, 0, none⟩ = some (.int .i64 a0_0) ∧ w'.cell? ⟨gb429, 1, none⟩ = some (.slice A0_1 l0_1.length c0_1)) (ds := []) #[false, false, false, false, false, false, false, false, false, false, false, false, false, false, false, false, false, false, false, false, false, false, false, false, false, false] (by kernel_rfl) rfl rfl ⟨(blk_cell BK429.out 0).trans rfl, (blk_cell BK429.out 1).trans rfl⟩ (fun hHeld => ?_); refine with_tabW timesynclaw18_TopoPorts.tab5 timesynclaw18_TopoPorts.bits5 (fun HT_ HW_ => ?_)
      generalize w27.drew = w28 at BK429 HB hHeld ⊢
      refine pure_ (i := 0) (N := some 32) (v := ?_) (a' := ?_) #[true, false, false, false, false, false, false, false, false, false, false, false, false, false, false, false, false, false, false, false, false, false, false, false, false, false] rfl rfl (any_of HT_.out (by kernel_rfl)) (fun _ _ _ h => h) (Or.inl ⟨by rfl, ?_⟩) ?_ ?_
      rotate_left
      ·intro w'
       go_simp
       with_reducible rfl
      rotate_left
      ·simp only [Act.put, List.setIfInBounds_toArray, List.set_cons_zero, List.set_cons_succ, i64_w, i32_w]
       rfl
      refine pure_ (i := 1) (N := some 33) (v := ?_) (a' := ?_) #[true, true, false, false, false, false, false, false, false, false, false, false, false, false, false, false, false, false, false, false, false, false, false, false, false, false] rfl rfl (any_of HT_.out (by kernel_rfl)) (fun _ _ _ h => h) (Or.inl ⟨by rfl, ?_⟩) ?_ ?_
      rotate_left
      ·intro w'
       go_simp
       with_reducible rfl
      rotate_left
      ·simp only [Act.put, List.setIfInBounds_toArray, List.set_cons_zero, List.set_cons_succ, i64_w, i32_w]
       rfl
      refine pure_ (i := 2) (N := some 34) (v := ?_) (a' := ?_) #[true, true, true, false, false, false, false, false, false, false, false, false, false, false, false, false, false, false, false, false, false, false, false, false, false, false] rfl rfl (any_of HT_.out (by kernel_rfl)) (fun _ _ _ h => h) (Or.inl ⟨by rfl, ?_⟩) ?_ ?_
      rotate_left
      ·intro w'
       go_simp
       with_reducible rfl
      rotate_left
      ·simp only [Act.put, List.setIfInBounds_toArray, List.set_cons_zero, List.set_cons_succ, i64_w, i32_w]
       rfl
      refine pure_ (i := 3) (N := some 35) (v := ?_) (a' := ?_) #[true, true, true, true, false, false, false, false, false, false, false, false, false, false, false, false, false, false, false, false, false, false, false, false, false, false] rfl rfl (any_of HT_.out (by kernel_rfl)) (fun _ _ _ h => h) (Or.inl ⟨by rfl, ?_⟩) ?_ ?_
      rotate_left
      ·intro w'
       go_simp
       with_reducible rfl
      rotate_left
      ·simp only [Act.put, List.setIfInBounds_toArray, List.set_cons_zero, List.set_cons_succ, i64_w, i32_w]
       rfl
      refine pure_ (i := 4) (N := some 36) (v := ?_) (a' := ?_) #[true, true, true, true, true, false, false, false, false, false, false, false, false, false, false, false, false, false, false, false, false, false, false, false, false, false] rfl rfl (any_of HT_.out (by kernel_rfl)) (fun _ _ _ h => h) (Or.inl ⟨by rfl, ?_⟩) ?_ ?_
      rotate_left
      ·intro w'
       go_simp
       with_reducible rfl
      rotate_left
      ·simp only [Act.put, List.setIfInBounds_toArray, List.set_cons_zero, List.set_cons_succ, i64_w, i32_w]
       rfl
      refine pure_ (i := 5) (N := some 37) (v := ?_) (a' := ?_) #[true, true, true, true, true, true, false, false, false, false, false, false, false, false, false, false, false, false, false, false, false, false, false, false, false, false] rfl rfl (any_of HT_.out (by kernel_rfl)) (fun _ _ _ h => h) (Or.inl ⟨by rfl, ?_⟩) ?_ ?_
      rotate_left
      ·intro w'
       go_simp
       with_reducible rfl
      rotate_left
      ·simp only [Act.put, List.setIfInBounds_toArray, List.set_cons_zero, List.set_cons_succ, i64_w, i32_w]
       rfl
      refine pure_ (i := 6) (N := some 38) (v := ?_) (a' := ?_) #[true, true, true, true, true, true, true, false, false, false, false, false, false, false, false, false, false, false, false, false, false, false, false, false, false, false] rfl rfl (any_of HT_.out (by kernel_rfl)) (fun _ _ _ h => h) (Or.inl ⟨by rfl, ?_⟩) ?_ ?_
      rotate_left
      ·intro w'
       go_simp
       with_reducible rfl
      rotate_left
      ·simp only [Act.put, List.setIfInBounds_toArray, List.set_cons_zero, List.set_cons_succ, i64_w, i32_w]
       rfl
      refine pure_ (i := 7) (N := some 39) (v := ?_) (a' := ?_) #[true, true, true, true, true, true, true, true, false, false, false, false, false, false, false, false, false, false, false, false, false, false, false, false, false, false] rfl rfl (any_of HT_.out (by kernel_rfl)) (fun _ _ _ h => h) (Or.inl ⟨by rfl, ?_⟩) ?_ ?_
      rotate_left
      ·intro w'
       go_simp
       with_reducible rfl
      rotate_left
      ·simp only [Act.put, List.setIfInBounds_toArray, List.set_cons_zero, List.set_cons_succ, i64_w, i32_w]
       rfl
      refine pure_ (i := 8) (N := some 40) (v := ?_) (a' := ?_) #[true, true, true, true, true, true, true, true, true, false, false, false, false, false, false, false, false, false, false, false, false, false, false, false, false, false] rfl rfl (any_of HT_.out (by kernel_rfl)) (fun _ _ _ h => h) (Or.inl ⟨by rfl, ?_⟩) ?_ ?_
      rotate_left
      ·intro w'
       go_simp
       with_reducible rfl
      rotate_left
      ·simp only [Act.put, List.setIfInBounds_toArray, List.set_cons_zero, List.set_cons_succ, i64_w, i32_w]
       rfl
      refine pure_ (i := 9) (N := some 41) (v := ?_) (a' := ?_) #[true, true, true, true, true, true, true, true, true, true, false, false, false, false, false, false, false, false, false, false, false, false, false, false, false, false] rfl rfl (any_of HT_.out (by kernel_rfl)) (fun _ _ _ h => h) (Or.inl ⟨by rfl, ?_⟩) ?_ ?_
      rotate_left
      ·intro w'
       go_simp
       with_reducible rfl
      rotate_left
      ·simp only [Act.put, List.setIfInBounds_toArray, List.set_cons_zero, List.set_cons_succ, i64_w, i32_w]
       rfl
      refine pure_ (i := 10) (N := some 42) (v := ?_) (a' := ?_) #[true, true, true, true, true, true, true, true, true, true, true, false, false, false, false, false, false, false, false, false, false, false, false, false, false, false] rfl rfl (any_of HT_.out (by kernel_rfl)) (fun _ _ _ h => h) (Or.inl ⟨by rfl, ?_⟩) ?_ ?_
      rotate_left
      ·intro w'
       go_simp
       with_reducible rfl
      rotate_left
      ·simp only [Act.put, List.setIfInBounds_toArray, List.set_cons_zero, List.set_cons_succ, i64_w, i32_w]
       rfl
      refine pure_ (i := 11) (N := some 43) (v := ?_) (a' := ?_) #[true, true, true, true, true, true, true, true, true, true, true, true, false, false, false, false, false, false, false, false, false, false, false, false, false, false] rfl rfl (any_of HT_.out (by kernel_rfl)) (fun _ _ _ h => h) (Or.inl ⟨by rfl, ?_⟩) ?_ ?_
      rotate_left
      ·intro w'
       go_simp
       with_reducible rfl
      rotate_left
      ·simp only [Act.put, List.setIfInBounds_toArray, List.set_cons_zero, List.set_cons_succ, i64_w, i32_w]
       rfl
      refine pure_ (i := 12) (N := some 44) (v := ?_) (a' := ?_) #[true, true, true, true, true, true, true, true, true, true, true, true, true, false, false, false, false, false, false, false, false, false, false, false, false, false] rfl rfl (any_of HT_.out (by kernel_rfl)) (fun _ _ _ h => h) (Or.inl ⟨by rfl, ?_⟩) ?_ ?_
      rotate_left
      ·intro w'
       go_simp
       with_reducible rfl
      rotate_left
      ·simp only [Act.put, List.setIfInBounds_toArray, List.set_cons_zero, List.set_cons_succ, i64_w, i32_w]
       rfl
      refine pure_ (i := 13) (N := some 45) (v := ?_) (a' := ?_) #[true, true, true, true, true, true, true, true, true, true, true, true, true, true, false, false, false, false, false, false, false, false, false, false, false, false] rfl rfl (any_of HT_.out (by kernel_rfl)) (fun _ _ _ h => h) (Or.inl ⟨by rfl, ?_⟩) ?_ ?_
      rotate_left
      ·intro w'
       go_simp
       with_reducible rfl
      rotate_left
      ·simp only [Act.put, List.setIfInBounds_toArray, List.set_cons_zero, List.set_cons_succ, i64_w, i32_w]
       rfl
      refine pure_ (i := 15) (N := some 47) (v := ?_) (a' := ?_) #[true, true, true, true, true, true, true, true, true, true, true, true, true, true, false, true, false, false, false, false, false, false, false, false, false, false] rfl rfl (any_of HT_.out (by kernel_rfl)) (fun _ _ _ h => h) (Or.inl ⟨by rfl, ?_⟩) ?_ ?_
      rotate_left
      ·intro w'
       go_simp
       with_reducible rfl
      rotate_left
      ·simp only [Act.put, List.setIfInBounds_toArray, List.set_cons_zero, List.set_cons_succ, i64_w, i32_w]
       rfl
      refine pure_ (i := 18) (N := some 50) (v := ?_) (a' := ?_) #[true, true, true, true, true, true, true, true, true, true, true, true, true, true, false, true, false, false, true, false, false, false, false, false, false, false] rfl rfl (any_of HT_.out (by kernel_rfl)) (fun _ _ _ h => h) (Or.inl ⟨by rfl, ?_⟩) ?_ ?_
      rotate_left
      ·intro w'
       go_simp
       with_reducible rfl
      rotate_left
      ·simp only [Act.put, List.setIfInBounds_toArray, List.set_cons_zero, List.set_cons_succ, i64_w, i32_w]
       rfl
      refine take_ (i := 14) (N := some 46) (v := ?_) (a' := ?_) #[true, true, true, true, true, true, true, true, true, true, true, true, true, true, true, true, false, false, true, false, false, false, false, false, false, false] rfl rfl (take_ofW HT_.out HW_.out (by kernel_rfl)) (fun _ _ _ h => h) (Or.inl ⟨by rfl, ?_⟩) hHeld ?_ ?_
      rotate_left
      ·rintro w' ⟨s0, s1⟩
       go_simp
       with_reducible rfl
      rotate_left
      ·simp only [Act.put, List.setIfInBounds_toArray, List.set_cons_zero, List.set_cons_succ, i64_w, i32_w]
       rfl
      refine take_ (i := 17) (N := some 49) (v := ?_) (a' := ?_) #[true, true, true, true, true, true, true, true, true, true, true, true, true, true, true, true, false, true, true, false, false, false, false, false, false, false] rfl rfl (take_ofW HT_.out HW_.out (by kernel_rfl)) (fun _ _ _ h => h) (Or.inl ⟨by rfl, ?_⟩) hHeld ?_ ?_
      rotate_left
      ·rintro w' ⟨s0, s1⟩
       go_simp
       with_reducible rfl
      rotate_left
      ·simp only [Act.put, List.setIfInBounds_toArray, List.set_cons_zero, List.set_cons_succ, i64_w, i32_w]
       rfl
      refine one_ (i := 16) (N := some 48) #[true, true, true, true, true, true, true, true, true, true, true, true, true, true, true, true, true, true, true, false, false, false, false, false, false, false] rfl rfl (one_of HT_.out (by kernel_rfl)) (by decide) (fun K hK => ?_)
      refine goes_ Try.func41 (by kernel_rfl) rfl #[.agg #[.int .i64 a0_0, .slice A0_1 l0_1.length c0_1], .int .i64 a1] (by rfl) rfl rfl (by (try simp only [List.map_toArray, List.map_cons, List.map_nil]); first | done | rfl | (simp only [List.length_drop, List.length_take]; rfl)) ?_
      with_reducible refine (topo_Ports.calls k a0_0 _ _ l0_1 a1 t438 _ ?side1 ?side2 A16.out).mono ?_
      (case side1 => exact (Kd.C_below HR0_1.out HB.out))
      (case side2 => exact HC0_1.out)
      rintro e w29 ⟨v439, rfl, ho0, hb⟩
      refine ⟨_, rfl, ?_⟩
      have n0_ := Aside0.mk (Kd.R_lower ho0 (below_size (by exact HB.out)))
      have n1_ := Aside0.mk (blk_below (g := gb429) (o := .cells #[.int .i64 a0_0, .slice A0_1 l0_1.length c0_1] 24 (0, 0)) (by exact BK429.out) hb)
      have n2_ := Aside0.mk (below_step (by exact HB.out) hb)
      clear BK429
      clear HB
      have HO440 := n0_
      have BK429 := n1_
      have HB := n2_
      clear n0_ n1_ n2_





      refine hK.out _ _ ⟨(blk_cell BK429.out 0).trans rfl, (blk_cell BK429.out 1).trans rfl⟩ (fun hHeld => ?_)
      clear hK K
      refine norm_ (a' := ?_) ?_ ?_
      rotate_left
      ·show Act.put _ (some 48) _ = _
       simp only [Act.put, List.setIfInBounds_toArray, List.set_cons_zero, List.set_cons_succ, i64_w, i32_w]
       rfl
      refine one_ (i := 19) (N := some 51) #[true, true, true, true, true, true, true, true, true, true, true, true, true, true, true, true, true, true, true, true, false, false, false, false, false, false] rfl rfl (one_of HT_.out (by kernel_rfl)) (by decide) (fun K hK => ?_)
      refine goes_ Try.func42 (by kernel_rfl) rfl #[.agg #[.int .i64 a0_0, .slice A0_1 l0_1.length c0_1], .int .i64 a1] (by rfl) rfl rfl (by (try simp only [List.map_toArray, List.map_cons, List.map_nil]); first | done | rfl | (simp only [List.length_drop, List.length_take]; rfl)) ?_
      with_reducible refine (timesyncref18_Ports.calls k a0_0 _ _ l0_1 a1 t441 _ ?side1 ?side2 A17.out).mono ?_
      (case side1 => exact (Kd.C_below HR0_1.out HB.out))
      (case side2 => exact HC0_1.out)
      rintro e w30 ⟨v442, rfl, ho0, hb⟩
      refine ⟨_, rfl, ?_⟩
      have n0_ := Aside0.mk (Kd.R_elder' (by exact HO440.out) (Kd.R_base ho0) hb)
      have n1_ := Aside0.mk (Kd.R_lower (Kd.R_new' ho0 (Kd.R_lt (by exact HO440.out))) (below_size (by exact HB.out)))
      have n2_ := Aside0.mk (blk_below (g := gb429) (o := .cells #[.int .i64 a0_0, .slice A0_1 l0_1.length c0_1] 24 (0, 0)) (by exact BK429.out) hb)
      have n3_ := Aside0.mk (below_step (by exact HB.out) hb)
      clear HO440
      clear BK429
      clear HB
      have HO440 := n0_
      have HO443 := n1_
      have BK429 := n2_
      have HB := n3_
      clear n0_ n1_ n2_ n3_





      obtain ⟨Ao31, co31, eo31⟩ := Kd.R_slice HO440.out
      (first | subst eo31 | (injection eo31 with f1_ f2_ f3_; have f4_ := f1_.symm; have f5_ := f3_.symm; clear f1_ f2_ f3_; subst f4_; subst f5_))
      obtain ⟨Ao32, co32, eo32⟩ := Kd.R_slice HO443.out
      (first | subst eo32 | (injection eo32 with f1_ f2_ f3_; have f4_ := f1_.symm; have f5_ := f3_.symm; clear f1_ f2_ f3_; subst f4_; subst f5_))
      refine hK.out _ _ ⟨(blk_cell BK429.out 0).trans rfl, (blk_cell BK429.out 1).trans rfl⟩ (fun hHeld => ?_)
      clear hK K
      refine norm_ (a' := ?_) ?_ ?_
      rotate_left
      ·show Act.put _ (some 51) _ = _
       simp only [Act.put, List.setIfInBounds_toArray, List.set_cons_zero, List.set_cons_succ, i64_w, i32_w]
       rfl
      refine one_ (i := 20) (N := some 52) #[true, true, true, true, true, true, true, true, true, true, true, true, true, true, true, true, true, true, true, true, true, false, false, false, false, false] rfl rfl (one_of HT_.out (by kernel_rfl)) (by decide) (fun K hK => ?_)
      refine goes_ Try.func19 (by kernel_rfl) rfl #[.slice Ao31 t438.length co31, .slice Ao32 t441.length co32] (by rfl) rfl rfl (by (try simp only [List.map_toArray, List.map_cons, List.map_nil]); first | done | rfl | (simp only [List.length_drop, List.length_take]; rfl)) ?_
      with_reducible refine (slices_Equal_int_int.calls k _ _ t438 _ _ t441 true _ ?side1 ?side2 ?side3 ?side4 A18.out).mono ?_
      (case side1 => repeat (first | exact (Kd.R_reads' HO440.out).2.2 | (with_reducible refine Kd.C_alloc ?_ _) | (with_reducible refine Kd.C_drewN ?_ _) | (with_reducible refine Kd.C_drew ?_)))
      (case side2 => exact (Kd.R_reads' HO440.out).2.1)
      (case side3 => repeat (first | exact (Kd.R_reads' HO443.out).2.2 | (with_reducible refine Kd.C_alloc ?_ _) | (with_reducible refine Kd.C_drewN ?_ _) | (with_reducible refine Kd.C_drew ?_)))
      (case side4 => exact (Kd.R_reads' HO443.out).2.1)
      rintro e w' ⟨rfl, ⟨nd, rfl⟩⟩
      refine ⟨_, rfl, ?_⟩
      refine hK.out _ _ ⟨(blk_cell BK429.out 0).trans rfl, (blk_cell BK429.out 1).trans rfl⟩ (fun hHeld => ?_)
      clear hK K
      refine norm_ (a' := ?_) ?_ ?_
      rotate_left
      ·show Act.put _ (some 52) _ = _
       simp only [Act.put, List.setIfInBounds_toArray, List.set_cons_zero, List.set_cons_succ, i64_w, i32_w]
       rfl
      refine pure_ (i := 21) (N := some 53) (v := ?_) (a' := ?_) #[true, true, true, true, true, true, true, true, true, true, true, true, true, true, true, true, true, true, true, true, true, true, false, false, false, false] rfl rfl (any_of HT_.out (by kernel_rfl)) (fun _ _ _ h => h) (Or.inl ⟨by rfl, ?_⟩) ?_ ?_
      rotate_left
      ·intro w'
       go_simp
       with_reducible rfl
      rotate_left
      ·simp only [Act.put, List.setIfInBounds_toArray, List.set_cons_zero, List.set_cons_succ, i64_w, i32_w]
       rfl
      refine pure_ (i := 22) (N := some 54) (v := ?_) (a' := ?_) #[true, true, true, true, true, true, true, true, true, true, true, true, true, true, true, true, true, true, true, true, true, true, true, false, false, false] rfl rfl (any_of HT_.out (by kernel_rfl)) (fun _ _ _ h => h) (Or.inl ⟨by rfl, ?_⟩) ?_ ?_
      rotate_left
      ·intro w'
       go_simp
       with_reducible rfl
      rotate_left
      ·simp only [Act.put, List.setIfInBounds_toArray, List.set_cons_zero, List.set_cons_succ, i64_w, i32_w]
       rfl
      refine one_ (i := 23) (N := some 55) #[true, true, true, true, true, true, true, true, true, true, true, true, true, true, true, true, true, true, true, true, true, true, true, true, false, false] rfl rfl (one_of HT_.out (by kernel_rfl)) (by decide) (fun K hK => ?_)
      refine goes_ Try.func16 (by kernel_rfl) rfl #[] (by rfl) rfl rfl (by (try simp only [List.map_toArray, List.map_cons, List.map_nil]); first | done | rfl | (simp only [List.length_drop, List.length_take]; rfl)) ?_
      with_reducible refine (timesynclaw18_awake.calls k  t445 _ A20.out).mono ?_
      rintro e w33 ⟨rfl, hb⟩
      refine ⟨_, rfl, ?_⟩
      have n0_ := Aside0.mk (Kd.R_below (by exact HO440.out) hb)
      have n1_ := Aside0.mk (Kd.R_below (by exact HO443.out) hb)
      have n2_ := Aside0.mk (blk_below (g := gb429) (o := .cells #[.int .i64 a0_0, .slice A0_1 l0_1.length c0_1] 24 (0, 0)) (by exact BK429.out) hb)
      have n3_ := Aside0.mk (below_step (by repeat (first | (with_reducible first | exact HB.out | apply below_alloc | apply pw_below_drewN | apply below_drew1 | refine below_set ?_ GE429.out) | exact HB.out)) hb)
      clear HO440
      clear HO443
      clear BK429
      clear HB
      have HO440 := n0_
      have HO443 := n1_
      have BK429 := n2_
      have HB := n3_
      clear n0_ n1_ n2_ n3_




      refine hK.out _ _ ⟨(blk_cell BK429.out 0).trans rfl, (blk_cell BK429.out 1).trans rfl⟩ (fun hHeld => ?_)
      clear hK K
      refine norm_ (a' := ?_) ?_ ?_
      rotate_left
      ·show Act.put _ (some 55) _ = _
       simp only [Act.put, List.setIfInBounds_toArray, List.set_cons_zero, List.set_cons_succ, i64_w, i32_w]
       rfl
      refine pure_ (i := 24) (N := some 56) (v := ?_) (a' := ?_) #[true, true, true, true, true, true, true, true, true, true, true, true, true, true, true, true, true, true, true, true, true, true, true, true, true, false] rfl rfl (any_of HT_.out (by kernel_rfl)) (fun _ _ _ h => h) (Or.inl ⟨by rfl, ?_⟩) ?_ ?_
      rotate_left
      ·intro w'
       go_simp
       with_reducible rfl
      rotate_left
      ·simp only [Act.put, List.setIfInBounds_toArray, List.set_cons_zero, List.set_cons_succ, i64_w, i32_w]
       rfl
      refine pure_ (i := 25) (N := some 6) (v := ?_) (a' := ?_) #[true, true, true, true, true, true, true, true, true, true, true, true, true, true, true, true, true, true, true, true, true, true, true, true, true, true] rfl rfl (any_of HT_.out (by kernel_rfl)) (fun _ _ _ h => h) (Or.inl ⟨by rfl, ?_⟩) ?_ ?_
      rotate_left
      ·intro w'
       go_simp
       with_reducible rfl
      rotate_left
      ·simp only [Act.put, List.setIfInBounds_toArray, List.set_cons_zero, List.set_cons_succ, i64_w, i32_w]
       rfl
      refine done_ (done_of HT_.out (by kernel_rfl)) ?_
      try go_wp2
      go_ret
      exact ⟨by first | rfl | (simp [errW_none, errW_some] <;> rfl) | (simp [*, errW_none, errW_some] <;> rfl), by exact HB.out⟩
     ·replace c19 := Bool.eq_false_iff.mpr c19
      subst c19
      have H1 : (none) = some r := by rw [if_neg (show ¬ (false = true) by decide)] at H; exact H
      clear H
      have H := H1
      clear H1
      exact absurd H (by simp)
    ·rw [if_neg c15] at H
     have c15b0 : (t434 == t437) = false := by simpa using c15
     (try (have c15b1 : decide (t434 = t437) = false := by simpa using c15))
     (try (have c15b2 : (t434 == t437) = false := by simpa using c15))
     (try (have c15b3 : ¬ (t434 = t437) := by simpa using c15))
     clear c15
     exact absurd H (by simp)
   ·rw [if_neg c14] at H
    have c14b0 : (t433 == t436) = false := beq_eq_false_iff_ne.mpr c14
    have c14b1 : (t433 != t436) = true := bne_iff_ne.mpr c14
    exact absurd H (by simp)
  ·rw [if_neg c13] at H
   have c13b0 : (t432 == t435) = false := beq_eq_false_iff_ne.mpr c13
   have c13b1 : (t432 != t435) = true := bne_iff_ne.mpr c13
   exact absurd H (by simp)

end Go.Proofs.Ythkpnkmbmlbefaa.X

namespace Go.Proofs.Ythkpnkmbmlbefaa.X
open Go.RowKit Go.Proofs.YthkpnkmbmlbefaaW.PrintWords Go.Proofs.YthkpnkmbmlbefaaW.PrintLast Go.Proofs.YthkpnkmbmlbefaaW.PrintMore
attribute [local go_sem] max2_int min2_int max_two min_two max_three min_three max_four min_four   -- for this text's walks alone
set_option linter.unusedVariables false
set_option linter.unusedSimpArgs false

def WFi64 (x : Int) : Prop := (Lit.int .i64 x).wf = true
def WF37 (x : S37) : Prop := WFi64 x.f0 ∧ WFi64 x.f1 ∧ WFi64 x.f2 ∧ WFi64 x.f3
def WFL37 (x : List (S37)) : Prop := x.length ≤ 9223372036854775807 ∧ ∀ y ∈ x, WF37 y
def WF24 (x : S24) : Prop := WFi64 x.f0 ∧ WFL37 x.f1
end Go.Proofs.Ythkpnkmbmlbefaa.X

/- Plain words of this seat: rounds, wrapped numbers, lists by index; the check of graphs: the program's and the reference's tell the same. -/
namespace Go.Proofs.Ythkpnkmbmlbefaa.PB
open Go.RowKit Go.Proofs.Ythkpnkmbmlbefaa.X Go.Proofs.YthkpnkmbmlbefaaW.PrintWords Go.Proofs.YthkpnkmbmlbefaaW.PrintLast

section
variable {α β : Type} {f g h : Nat → Option α} {r : α} {c : Prop} [Decidable c]
theorem Ev.pos (hc : c) (h : Ev f r) : Ev (fun n => if c then f n else g n) r := Ev.congr (fun _ => if_pos hc) h
theorem Ev.neg (hc : ¬ c) (h : Ev g r) : Ev (fun n => if c then f n else g n) r := Ev.congr (fun _ => if_neg hc) h
theorem Ev.ite_ (h1 : c → Ev f r) (h2 : ¬ c → Ev g r) : Ev (fun n => if c then f n else g n) r := by
  by_cases hc : c
  · exact Ev.pos hc (h1 hc)
  · exact Ev.neg hc (h2 hc)
theorem Ev.bind' {g : Nat → Option α} {f : Nat → α → Option β} {r : β} (a : α) (h : Ev g a) (k : Ev (fun n => f n a) r) : Ev (fun n => (g n).bind (f n)) r := Ev.bind h k
theorem Ev.some_bind {f : Nat → α → Option β} {a : α} {r : β} (k : Ev (fun n => f n a) r) : Ev (fun n => (some a).bind (f n)) r := k
theorem Ev.const {x : Option α} (h : x = some r) : Ev (fun _ => x) r := ⟨0, fun _ _ => h⟩
theorem Ev.uniq {r r' : α} (h : Ev f r) (h' : Ev f r') : r = r' := by
  obtain ⟨K, h⟩ := h
  obtain ⟨K', h'⟩ := h'
  have h1 := h (max K K') (by omega)
  have h2 := h' (max K K') (by omega)
  rw [h1] at h2
  exact Option.some.inj h2
end
theorem wrap_id {x : Int} (h0 : -9223372036854775808 ≤ x) (h1 : x < 9223372036854775808) : wrap64 x = x := by
  unfold wrap64; omega
theorem wrap_nat {i : Nat} (h : i < 9223372036854775807) : wrap64 ((i : Int) + 1) = ((i + 1 : Nat) : Int) := by
  rw [wrap_id (by omega) (by omega)]; rfl
theorem rd37 (l : List S37) (i : Nat) : rd_T37 l (i : Int) = l.getD i z37 := by simp [rd_T37]
theorem rdI (l : List Int) (i : Nat) : rd l (i : Int) = l.getD i 0 := by simp [rd]
theorem rdL3 (l : List (List Int)) (i : Nat) : rd_L3 l (i : Int) = l.getD i [] := by simp [rd_L3]

/-! ### Rows of numbers alike -/
theorem eq_from (x y : List Int) (hx : x.length < 9223372036854775807) (he : x.length = y.length) : ∀ d i, i + d = x.length → Ev (fun k => slices_Equal_int_int.l0 k x y x.length i) (decide (x.drop i = y.drop i)) := by
  intro d
  induction d with
  | zero =>
    intro i hi
    refine Ev.step (fun k => by rw [slices_Equal_int_int.l0]) ?_
    refine Ev.neg (by omega) (Ev.const ?_)
    rw [List.drop_of_length_le (by omega), List.drop_of_length_le (by omega)]
    simp
  | succ d ih =>
    intro i hi
    refine Ev.step (fun k => by rw [slices_Equal_int_int.l0]) ?_
    refine Ev.pos (by omega) (Ev.pos (by omega) (Ev.pos (by omega) (Ev.pos (by omega) ?_)))
    rw [rdI, rdI]
    have e1 : x.drop i = x.getD i 0 :: x.drop (i + 1) := by
      rw [List.drop_eq_getElem_cons (by omega)]; simp [List.getD, show i < x.length by omega]
    have e2 : y.drop i = y.getD i 0 :: y.drop (i + 1) := by
      rw [List.drop_eq_getElem_cons (by omega)]; simp [List.getD, show i < y.length by omega]
    refine Ev.ite_ (fun h => ?_) (fun h => Ev.const ?_)
    · rw [wrap_nat (by omega), e1, e2]
      have := ih (i + 1) (by omega)
      rw [h]
      simp only [List.cons.injEq, true_and]
      exact this
    · rw [e1, e2]
      have : ¬ (x.getD i 0 :: x.drop (i + 1) = y.getD i 0 :: y.drop (i + 1)) := fun q => h (by injection q)
      simp only [this, decide_false]
theorem eq_ints (x y : List Int) (hx : x.length < 9223372036854775807) : Ev (fun k => slices_Equal_int_int.f k x y) (decide (x = y)) := by
  unfold slices_Equal_int_int.f
  refine Ev.ite_ (fun h => ?_) (fun h => Ev.const ?_)
  · have he : x.length = y.length := by omega
    have := eq_from x y hx he x.length 0 (by omega)
    simpa using this
  · have : ¬ x = y := fun e => h (by rw [e])
    simp [this]

/-! ### Check -/
/-- An edge with its ends within the limits. -/
def OkE (a : Int) (e : S37) : Prop := 0 ≤ e.f0 ∧ e.f0 < a ∧ 0 ≤ e.f2 ∧ e.f2 < a ∧ 1 ≤ e.f1 ∧ e.f1 ≤ 8 ∧ 1 ≤ e.f3 ∧ e.f3 ≤ 8
instance (a : Int) (e : S37) : Decidable (OkE a e) := by unfold OkE; infer_instance
def hasEnd (e : S37) (q : Int × Int) : Prop := (e.f0 = q.1 ∧ e.f1 = q.2) ∨ (e.f2 = q.1 ∧ e.f3 = q.2)
instance (e : S37) (q : Int × Int) : Decidable (hasEnd e q) := by unfold hasEnd; infer_instance
/-- One of the n edges from j on has this end. -/
def usedFrom (l : List S37) (q : Int × Int) : Nat → Nat → Bool
  | 0, _ => false
  | d + 1, j => if hasEnd (l.getD j z37) q then true else usedFrom l q d (j + 1)
def chkFrom (a : Int) (l : List S37) : Nat → Nat → Int
  | 0, _ => 0
  | d + 1, i => if OkE a (l.getD i z37) then (if (l.getD i z37).f0 = (l.getD i z37).f2 then 18 else if usedFrom l ((l.getD i z37).f0, (l.getD i z37).f1) i 0 = true then 10 else if usedFrom l ((l.getD i z37).f2, (l.getD i z37).f3) i 0 = true then 10 else chkFrom a l d (i + 1)) else 3
def chk (a : Int) (l : List S37) : Int := if a < 1 ∨ a > 24 then 3 else if (l.length : Int) > 64 then 6 else chkFrom a l l.length 0
theorem usedFrom_iff (l : List S37) (q : Int × Int) : ∀ d j, usedFrom l q d j = true ↔ ∃ i, j ≤ i ∧ i < j + d ∧ hasEnd (l.getD i z37) q
  | 0, j => by simp [usedFrom]; omega
  | d + 1, j => by
    unfold usedFrom
    by_cases h : hasEnd (l.getD j z37) q
    · rw [if_pos h]
      exact ⟨fun _ => ⟨j, by omega, by omega, h⟩, fun _ => rfl⟩
    · rw [if_neg h, usedFrom_iff l q d (j + 1)]
      constructor
      · rintro ⟨i, h1, h2, h3⟩; exact ⟨i, by omega, by omega, h3⟩
      · rintro ⟨i, h1, h2, h3⟩
        refine ⟨i, ?_, by omega, h3⟩
        rcases Nat.lt_or_ge j i with q | q
        · omega
        · obtain rfl : i = j := by omega
          exact absurd h3 h
theorem ref_used (a : Int) (l : List S37) (hn : l.length ≤ 200) (n : Nat) (hnl : n ≤ l.length) (x y : Int) : ∀ d j, j + d = n → Ev (fun k => timesyncref18_used.l0 k n x y j a l) (usedFrom l (x, y) d j) := by
  intro d
  induction d with
  | zero =>
    intro j hj
    refine Ev.step (fun k => by rw [timesyncref18_used.l0]) ?_
    exact Ev.neg (by omega) (Ev.const rfl)
  | succ d ih =>
    intro j hj
    refine Ev.step (fun k => by rw [timesyncref18_used.l0]) ?_
    refine Ev.pos (by omega) (Ev.pos (by omega) (Ev.pos (by omega) ?_))
    rw [rd37, wrap_nat (by omega)]
    unfold usedFrom
    have next : ¬ hasEnd (l.getD j z37) (x, y) → Ev (fun k => timesyncref18_used.l0 k n x y ((j + 1 : Nat) : Int) a l) (if hasEnd (l.getD j z37) (x, y) then true else usedFrom l (x, y) d (j + 1)) := fun h => by
      rw [if_neg h]; exact ih (j + 1) (by omega)
    have second : ¬ ((l.getD j z37).f0 = x ∧ (l.getD j z37).f1 = y) → Ev (fun k => if (l.getD j z37).f2 = x then (if (l.getD j z37).f3 = y then some true else timesyncref18_used.l0 k n x y ((j + 1 : Nat) : Int) a l) else timesyncref18_used.l0 k n x y ((j + 1 : Nat) : Int) a l) (if hasEnd (l.getD j z37) (x, y) then true else usedFrom l (x, y) d (j + 1)) := fun h => by
      refine Ev.ite_ (fun h1 => Ev.ite_ (fun h2 => ?_) (fun h2 => next ?_)) (fun h1 => next ?_)
      · rw [if_pos (.inr ⟨h1, h2⟩)]; exact Ev.const rfl
      · rintro (q | q)
        · exact h q
        · exact h2 q.2
      · rintro (q | q)
        · exact h q
        · exact h1 q.1
    refine Ev.ite_ (fun h1 => Ev.ite_ (fun h2 => ?_) (fun h2 => second (fun q => h2 q.2))) (fun h1 => second (fun q => h1 q.1))
    rw [if_pos (.inl ⟨h1, h2⟩)]; exact Ev.const rfl
theorem ref_j2 (a : Int) (l : List S37) (hn : l.length ≤ 64) (i d : Nat) (hi : i < l.length) (bad : Bool) (hbad : bad = true ↔ ¬ OkE a (l.getD i z37)) (hnext : Ev (fun k => timesyncref18_Check.l0 k ((i + 1 : Nat) : Int) a l) (chkFrom a l d (i + 1))) :
    Ev (fun k => timesyncref18_Check.j2 k i bad a l (l.getD i z37).f0 (l.getD i z37).f1 (l.getD i z37).f2 (l.getD i z37).f3) (chkFrom a l (d + 1) i) := by
  refine Ev.step (fun k => by rw [timesyncref18_Check.j2]) ?_
  unfold chkFrom
  refine Ev.ite_ (fun h => ?_) (fun h => ?_)
  · rw [if_neg (hbad.1 h)]; exact Ev.const rfl
  · rw [if_pos (Decidable.not_not.1 (fun q => h (hbad.2 q)))]
    refine Ev.ite_ (fun h1 => ?_) (fun h1 => ?_)
    · rw [if_pos h1]; exact Ev.const rfl
    · rw [if_neg h1]
      have u1 := ref_used a l (by omega) i (by omega) (l.getD i z37).f0 (l.getD i z37).f1 i 0 (by omega)
      have u2 := ref_used a l (by omega) i (by omega) (l.getD i z37).f2 (l.getD i z37).f3 i 0 (by omega)
      refine Ev.bind' _ u1 (Ev.ite_ (fun h2 => ?_) (fun h2 => Ev.bind' _ u2 (Ev.ite_ (fun h3 => ?_) (fun h3 => ?_))))
      · rw [if_pos h2]; exact Ev.const rfl
      · rw [if_neg h2, if_pos h3]; exact Ev.const rfl
      · rw [if_neg h2, if_neg h3, wrap_nat (by omega)]; exact hnext
theorem ref_from (a : Int) (l : List S37) (hn : l.length ≤ 64) : ∀ d i, i + d = l.length → Ev (fun k => timesyncref18_Check.l0 k i a l) (chkFrom a l d i) := by
  intro d
  induction d with
  | zero =>
    intro i hi
    refine Ev.step (fun k => by rw [timesyncref18_Check.l0]) ?_
    exact Ev.neg (by omega) (Ev.const rfl)
  | succ d ih =>
    intro i hi
    have hnext := ih (i + 1) (by omega)
    have J : ∀ bad : Bool, (bad = true ↔ ¬ OkE a (l.getD i z37)) → _ := fun bad hb => ref_j2 a l hn i d (by omega) bad hb hnext
    refine Ev.step (fun k => by rw [timesyncref18_Check.l0]) ?_
    refine Ev.pos (by omega) (Ev.pos (by omega) ?_)
    rw [rd37]
    generalize l.getD i z37 = e at J ⊢
    unfold timesyncref18_isNode.f timesyncref18_isPort.f
    have T : ¬ OkE a e → Ev (fun k => timesyncref18_Check.j2 k i true a l e.f0 e.f1 e.f2 e.f3) (chkFrom a l (d + 1) i) := fun h => J true (by simp [h])
    have node : ∀ x : Int, (if x ≥ 0 then some (decide (x < a)) else some false) = some (decide (0 ≤ x ∧ x < a)) := fun x => by
      by_cases h : x ≥ 0
      · simp [h]
      · simp [h] <;> omega
    have port : ∀ x : Int, (if x ≥ 1 then some (decide (x ≤ 8)) else some false) = some (decide (1 ≤ x ∧ x ≤ 8)) := fun x => by
      by_cases h : x ≥ 1
      · simp [h]
      · simp [h] <;> omega
    simp only [node, port]
    refine Ev.some_bind (Ev.ite_ (fun h1 => Ev.some_bind (Ev.ite_ (fun h2 => Ev.some_bind (Ev.ite_ (fun h3 => Ev.some_bind ?_) (fun h3 => T ?_))) (fun h2 => T ?_))) (fun h1 => T ?_))
    · refine J _ ?_
      simp only [decide_eq_true_eq] at h1 h2 h3
      unfold OkE
      simp only [Bool.not_eq_true', decide_eq_false_iff_not]
      omega
    all_goals (simp only [decide_eq_true_eq] at *; unfold OkE; omega)
theorem ref_check (a : Int) (l : List S37) : Ev (fun k => timesyncref18_Check.f k a l) (chk a l) := by
  unfold timesyncref18_Check.f chk
  refine Ev.ite_ (fun h => ?_) (fun h => ?_)
  · rw [if_pos (.inl h)]
    refine Ev.step (fun k => by rw [timesyncref18_Check.j0]) ?_
    exact Ev.pos rfl (Ev.const rfl)
  · refine Ev.step (fun k => by rw [timesyncref18_Check.j0]) ?_
    refine Ev.ite_ (fun h1 => ?_) (fun h1 => ?_)
    · rw [if_pos (.inr (of_decide_eq_true h1))]; exact Ev.const rfl
    · rw [if_neg (by simp at h1; omega)]
      refine Ev.ite_ (fun h2 => ?_) (fun h2 => ?_)
      · rw [if_pos h2]; exact Ev.const rfl
      · rw [if_neg h2]; exact ref_from a l (by omega) l.length 0 (by omega)
theorem impl_from (a : Int) (l : List S37) (hn : l.length ≤ 64) : ∀ d i ks, i + d = l.length → (∀ q, q ∈ ks ↔ usedFrom l q i 0 = true) → Ev (fun k => topo_Check.l0 k l i a ks) (chkFrom a l d i) := by
  intro d
  induction d with
  | zero =>
    intro i ks hi _
    refine Ev.step (fun k => by rw [topo_Check.l0]) ?_
    exact Ev.neg (by omega) (Ev.const rfl)
  | succ d ih =>
    intro i ks hi hks
    refine Ev.step (fun k => by rw [topo_Check.l0]) ?_
    refine Ev.pos (by omega) (Ev.pos (by omega) (Ev.pos (by omega) ?_))
    rw [rd37]
    unfold topo_ends.f
    refine Ev.some_bind ?_
    dsimp only
    have hnext := ih (i + 1) ((((l.getD i z37).f2, (l.getD i z37).f3)) :: ((l.getD i z37).f0, (l.getD i z37).f1) :: ks) (by omega) (fun q => by
      rw [usedFrom_iff]
      simp only [List.mem_cons]
      rw [hks q, usedFrom_iff]
      constructor
      · rintro (h | h | ⟨j, h1, h2, h3⟩)
        · exact ⟨i, by omega, by omega, .inr (by rw [h]; exact ⟨rfl, rfl⟩)⟩
        · exact ⟨i, by omega, by omega, .inl (by rw [h]; exact ⟨rfl, rfl⟩)⟩
        · exact ⟨j, by omega, by omega, h3⟩
      · rintro ⟨j, h1, h2, h3⟩
        by_cases hj : j = i
        · subst hj
          rcases h3 with ⟨h3, h4⟩ | ⟨h3, h4⟩
          · exact .inr (.inl (by rw [h3, h4]))
          · exact .inl (by rw [h3, h4])
        · exact .inr (.inr ⟨j, h1, by omega, h3⟩))
    have k1 := hks ((l.getD i z37).f0, (l.getD i z37).f1)
    have k2 := hks ((l.getD i z37).f2, (l.getD i z37).f3)
    unfold chkFrom
    generalize l.getD i z37 = e at *
    have bad : ¬ OkE a e → ∀ r : Int, Ev (fun _ : Nat => some 3) (if OkE a e then r else 3) := fun h r => by rw [if_neg h]; exact Ev.const rfl
    refine Ev.step (fun k => by rw [topo_Check.l1]) ?_
    refine Ev.pos rfl (Ev.ite_ (fun h1 => bad (by unfold OkE; omega) _) (fun h1 => Ev.ite_ (fun h2 => bad (by unfold OkE; omega) _) (fun h2 => Ev.ite_ (fun h3 => bad (by unfold OkE; omega) _) (fun h3 => Ev.ite_ (fun h4 => bad (by unfold OkE; omega) _) (fun h4 => ?_)))))
    refine Ev.step (fun k => by rw [topo_Check.l1]) ?_
    refine Ev.neg (by decide) (Ev.pos rfl (Ev.ite_ (fun h5 => bad (by unfold OkE; omega) _) (fun h5 => Ev.ite_ (fun h6 => bad (by unfold OkE; omega) _) (fun h6 => Ev.ite_ (fun h7 => bad (by unfold OkE; omega) _) (fun h7 => Ev.ite_ (fun h8 => bad (by unfold OkE; omega) _) (fun h8 => ?_))))))
    refine Ev.step (fun k => by rw [topo_Check.l1]) ?_
    refine Ev.neg (by decide) (Ev.neg (by decide) ?_)
    rw [if_pos (by unfold OkE; omega)]
    refine Ev.ite_ (fun h9 => ?_) (fun h9 => ?_)
    · rw [if_pos h9]; exact Ev.const rfl
    · rw [if_neg h9]
      refine Ev.ite_ (fun h10 => ?_) (fun h10 => ?_)
      · rw [if_pos (k1.1 h10)]; exact Ev.const rfl
      · rw [if_neg (fun q => h10 (k1.2 q))]
        refine Ev.ite_ (fun h11 => ?_) (fun h11 => ?_)
        · rw [if_pos (k2.1 h11)]; exact Ev.const rfl
        · rw [if_neg (fun q => h11 (k2.2 q)), wrap_nat (by omega)]
          exact hnext
theorem impl_check (a : Int) (l : List S37) : Ev (fun k => topo_Check.f k a l) (chk a l) := by
  unfold topo_Check.f chk
  refine Ev.ite_ (fun h => ?_) (fun h => ?_)
  · rw [if_pos (.inl h)]
    refine Ev.step (fun k => by rw [topo_Check.j0]) ?_
    exact Ev.pos rfl (Ev.const rfl)
  · refine Ev.step (fun k => by rw [topo_Check.j0]) ?_
    refine Ev.ite_ (fun h1 => ?_) (fun h1 => ?_)
    · rw [if_pos (.inr (of_decide_eq_true h1))]; exact Ev.const rfl
    · have h1' : ¬ a > 24 := by simpa using h1
      rw [if_neg (by omega)]
      refine Ev.pos (by omega) (Ev.ite_ (fun h2 => ?_) (fun h2 => ?_))
      · rw [if_pos h2]; exact Ev.const rfl
      · rw [if_neg h2]
        exact impl_from a l (by omega) l.length 0 [] (by omega) (fun q => by simp [usedFrom])
end Go.Proofs.Ythkpnkmbmlbefaa.PB

/- Distances in a graph, as the chapter's rules determine them; the search in waves, the reference's rounds, and the way down give what they determine. -/
namespace Go.Proofs.Ythkpnkmbmlbefaa.PB
open Go.RowKit Go.Proofs.Ythkpnkmbmlbefaa Go.Proofs.Ythkpnkmbmlbefaa.X Go.Proofs.YthkpnkmbmlbefaaW.PrintWords Go.Proofs.YthkpnkmbmlbefaaW.PrintLast
structure IsDist (N : Nat) (adj : Nat → Nat → Prop) (a : Nat) (d : Nat → Int) : Prop where
  zero : d a = 0
  only : ∀ x, x < N → d x = 0 → x = a
  low : ∀ x, x < N → -1 ≤ d x
  edge : ∀ x y, adj x y → 0 ≤ d x → 0 ≤ d y ∧ d y ≤ d x + 1
  back : ∀ x, x < N → 0 < d x → ∃ y, adj y x ∧ d y = d x - 1
section
variable {N : Nat} {adj : Nat → Nat → Prop} {a : Nat} {d d' : Nat → Int}
theorem IsDist.le (hr : ∀ x y, adj x y → x < N ∧ y < N) (h : IsDist N adj a d) (h' : IsDist N adj a d') : ∀ (n : Nat) (x : Nat), x < N → d x = n → 0 ≤ d' x ∧ d' x ≤ n
  | 0, x, hx, e => by
    have := h.only x hx (by simpa using e)
    subst this
    have := h'.zero
    omega
  | n + 1, x, hx, e => by
    obtain ⟨y, ha, hy⟩ := h.back x hx (by omega)
    have h1 := IsDist.le hr h h' n y (hr _ _ ha).1 (by omega)
    have h2 := h'.edge y x ha h1.1
    omega
theorem IsDist.uniq (hr : ∀ x y, adj x y → x < N ∧ y < N) (h : IsDist N adj a d) (h' : IsDist N adj a d') (x : Nat) (hx : x < N) : d x = d' x := by
  have l1 := h.low x hx
  have l2 := h'.low x hx
  rcases Int.lt_or_le (d x) 0 with q | q
  · rcases Int.lt_or_le (d' x) 0 with q' | q'
    · omega
    · have := h'.le hr h (d' x).toNat x hx (by omega)
      omega
  · have h1 := h.le hr h' (d x).toNat x hx (by omega)
    have h2 := h'.le hr h (d' x).toNat x hx (by omega)
    omega
theorem pigeon : ∀ (N n : Nat) (f : Nat → Nat), (∀ i, i < n → f i < N) → (∀ i j, i < n → j < n → f i = f j → i = j) → n ≤ N
  | 0, n, f, h, _ => by
    rcases Nat.eq_zero_or_pos n with h0 | h0
    · omega
    · exact absurd (h 0 h0) (by omega)
  | N + 1, n, f, h, hi => by
    by_cases q : ∃ i, i < n ∧ f i = N
    · obtain ⟨i0, h0, e0⟩ := q
      have := pigeon N (n - 1) (fun j => if j < i0 then f j else f (j + 1)) (fun j hj => by
        split
        · rename_i hlt
          have h1 := h j (by omega)
          have h2 : f j ≠ N := fun e => by have := hi j i0 (by omega) h0 (by omega); omega
          omega
        · rename_i hlt
          have h1 := h (j + 1) (by omega)
          have h2 : f (j + 1) ≠ N := fun e => by have := hi (j + 1) i0 (by omega) h0 (by omega); omega
          omega) (fun i j hi' hj' e => by
        split at e <;> split at e
        · exact hi i j (by omega) (by omega) e
        · have := hi i (j + 1) (by omega) (by omega) e; omega
        · have := hi (i + 1) j (by omega) (by omega) e; omega
        · have := hi (i + 1) (j + 1) (by omega) (by omega) e; omega)
      omega
    · have := pigeon N n f (fun i hi' => by
        have h1 := h i hi'
        have h2 : f i ≠ N := fun e => q ⟨i, hi', e⟩
        omega) hi
      omega
theorem IsDist.levels (hr : ∀ x y, adj x y → x < N ∧ y < N) (h : IsDist N adj a d) : ∀ (n : Nat) (x : Nat), x < N → d x = n → ∀ k : Nat, k ≤ n → ∃ y, y < N ∧ d y = k
  | 0, x, hx, e, k, hk => ⟨x, hx, by omega⟩
  | n + 1, x, hx, e, k, hk => by
    by_cases q : k = n + 1
    · exact ⟨x, hx, by omega⟩
    · obtain ⟨y, ha, hy⟩ := h.back x hx (by omega)
      exact IsDist.levels hr h n y (hr _ _ ha).1 (by omega) k (by omega)
theorem IsDist.lt (hr : ∀ x y, adj x y → x < N ∧ y < N) (h : IsDist N adj a d) (x : Nat) (hx : x < N) : d x < N := by
  rcases Int.lt_or_le (d x) 0 with q | q
  · omega
  · have h1 := h.levels hr (d x).toNat x hx (by omega)
    have h2 : ∀ k : Nat, ∃ y, k ≤ (d x).toNat → (y < N ∧ d y = k) := fun k => by
      by_cases hk : k ≤ (d x).toNat
      · obtain ⟨y, hy⟩ := h1 k hk
        exact ⟨y, fun _ => hy⟩
      · exact ⟨0, fun h => absurd h hk⟩
    have := pigeon N ((d x).toNat + 1) (fun k => Classical.choose (h2 k)) (fun i hi => (Classical.choose_spec (h2 i) (by omega)).1) (fun i j hi hj e => by
      have e1 := (Classical.choose_spec (h2 i) (by omega)).2
      have e2 := (Classical.choose_spec (h2 j) (by omega)).2
      rw [e] at e1
      omega)
    omega
end
section
variable {N : Nat} {adj : Nat → Nat → Prop} {a : Nat}
def gd (l : List Int) (i : Nat) : Int := l.getD i 0
theorem gd_set {l : List Int} {i : Nat} (h : i < l.length) (v : Int) (j : Nat) : gd (l.set i v) j = if j = i then v else gd l j := by
  unfold gd
  by_cases q : j = i
  · subst q; simp [h]
  · rw [if_neg q]; simp [List.getD, Ne.symm q]
def push (x : Nat) (s : List Int × List Nat) (y : Nat) : List Int × List Nat := if gd s.1 y < 0 then (s.1.set y (gd s.1 x + 1), s.2 ++ [y]) else s
structure Base (N : Nat) (adj : Nat → Nat → Prop) (a : Nat) (d : List Int) (w : List Nat) : Prop where
  len : d.length = N
  node : ∀ x ∈ w, x < N ∧ 0 ≤ gd d x
  zero : gd d a = 0
  only : ∀ x, x < N → gd d x = 0 → x = a
  low : ∀ x, x < N → -1 ≤ gd d x
  back : ∀ x, x < N → 0 < gd d x → ∃ y, adj y x ∧ gd d y = gd d x - 1
  order : w.Pairwise (fun x y => gd d x ≤ gd d y)
structure Outer (N : Nat) (adj : Nat → Nat → Prop) (a : Nat) (d : List Int) (w : List Nat) : Prop extends Base N adj a d w where
  closed : ∀ z, z < N → 0 ≤ gd d z → z ∈ w ∨ ∀ y, adj z y → 0 ≤ gd d y ∧ gd d y ≤ gd d z + 1
  head : ∀ x ∈ w, ∀ z, z < N → gd d z ≤ gd d x + 1
structure Inner (N : Nat) (adj : Nat → Nat → Prop) (a : Nat) (x : Nat) (done : List Nat) (d : List Int) (w : List Nat) : Prop extends Base N adj a d w where
  hx : x < N ∧ 0 ≤ gd d x
  closed : ∀ z, z < N → 0 ≤ gd d z → z ∈ w ∨ z = x ∨ ∀ y, adj z y → 0 ≤ gd d y ∧ gd d y ≤ gd d z + 1
  did : ∀ y ∈ done, 0 ≤ gd d y ∧ gd d y ≤ gd d x + 1
  top : ∀ z, z < N → gd d z ≤ gd d x + 1
  wave : ∀ u ∈ w, gd d x ≤ gd d u
theorem Inner.push (hr : ∀ x y, adj x y → x < N ∧ y < N) {x : Nat} {done : List Nat} {d : List Int} {w : List Nat} (h : Inner N adj a x done d w) {y : Nat} (hy : adj x y) :
    Inner N adj a x (y :: done) (push x (d, w) y).1 (push x (d, w) y).2 := by
  have hyN := (hr _ _ hy).2
  unfold PB.push
  by_cases q : gd d y < 0
  · simp only [if_pos q]
    have g : ∀ j, gd (d.set y (gd d x + 1)) j = if j = y then gd d x + 1 else gd d j := fun j => gd_set (by rw [h.len]; exact hyN) _ j
    have hxy : x ≠ y := fun e => by subst e; have := h.hx.2; omega
    have gp : ∀ j, 0 ≤ gd d j → gd (d.set y (gd d x + 1)) j = gd d j := fun j hj => by
      rw [g, if_neg (fun e => by subst e; omega)]
    have gx : gd (d.set y (gd d x + 1)) x = gd d x := gp x h.hx.2
    have gy : gd (d.set y (gd d x + 1)) y = gd d x + 1 := by rw [g, if_pos rfl]
    have hx0 := h.hx.2
    refine { len := by simp [h.len], node := ?_, zero := ?_, only := ?_, low := ?_, back := ?_, order := ?_, hx := ⟨h.hx.1, by rw [gx]; exact hx0⟩, closed := ?_, did := ?_, top := ?_, wave := ?_ }
    · intro u hu
      rcases List.mem_append.1 hu with hu | hu
      · have := h.node u hu
        rw [gp u this.2]; exact this
      · obtain rfl := List.mem_singleton.1 hu
        rw [gy]; exact ⟨hyN, by omega⟩
    · rw [gp a (by have := h.zero; omega)]; exact h.zero
    · intro u hu e
      rw [g] at e
      split at e
      · omega
      · exact h.only u hu e
    · intro u hu
      rw [g]
      split
      · omega
      · exact h.low u hu
    · intro u hu e
      rw [g] at e ⊢
      split at e
      · rename_i q2
        subst q2
        rw [if_pos rfl]
        exact ⟨x, hy, by rw [gx]; omega⟩
      · rename_i q2
        rw [if_neg q2]
        obtain ⟨v, hv, e2⟩ := h.back u hu e
        exact ⟨v, hv, by rw [gp v (by omega)]; exact e2⟩
    · refine List.pairwise_append.2 ⟨?_, by simp, ?_⟩
      · refine (List.Pairwise.and_mem.1 h.order).imp ?_
        rintro u v ⟨hu, hv, huv⟩
        rw [gp u (h.node u hu).2, gp v (h.node v hv).2]; exact huv
      · intro u hu v hv
        obtain rfl := List.mem_singleton.1 hv
        rw [gp u (h.node u hu).2, gy]
        exact h.top u (h.node u hu).1
    · intro z hz e
      rw [g] at e
      split at e
      · rename_i q2
        exact .inl (by simp [q2])
      · rcases h.closed z hz e with q3 | q3 | q3
        · exact .inl (by simp [q3])
        · exact .inr (.inl q3)
        · refine .inr (.inr fun v hv => ?_)
          have := q3 v hv
          rw [gp v this.1, gp z e]
          exact this
    · intro v hv
      rw [gx]
      rcases List.mem_cons.1 hv with rfl | hv
      · rw [gy]; omega
      · have := h.did v hv
        rw [gp v this.1]; exact this
    · intro z hz
      rw [gx, g]
      split
      · omega
      · exact h.top z hz
    · intro u hu
      rw [gx]
      rcases List.mem_append.1 hu with hu | hu
      · rw [gp u (h.node u hu).2]; exact h.wave u hu
      · obtain rfl := List.mem_singleton.1 hu
        rw [gy]; omega
  · simp only [if_neg q]
    exact { h with
      did := fun v hv => by
        rcases List.mem_cons.1 hv with rfl | hv
        · exact ⟨by omega, h.top v hyN⟩
        · exact h.did v hv }
theorem Outer.inner {x : Nat} {d : List Int} {w : List Nat} (h : Outer N adj a d (x :: w)) : Inner N adj a x [] d w :=
  { len := h.len, node := fun u hu => h.node u (List.mem_cons_of_mem _ hu), zero := h.zero, only := h.only, low := h.low, back := h.back, order := (List.pairwise_cons.1 h.order).2,
    hx := h.node x List.mem_cons_self, closed := fun z hz e => by
      rcases h.closed z hz e with q | q
      · rcases List.mem_cons.1 q with q | q
        · exact .inr (.inl q)
        · exact .inl q
      · exact .inr (.inr q)
    did := fun y hy => by simp at hy
    top := h.head x List.mem_cons_self
    wave := (List.pairwise_cons.1 h.order).1 }
theorem Inner.outer {x : Nat} {done : List Nat} {d : List Int} {w : List Nat} (h : Inner N adj a x done d w) (hd : ∀ y, adj x y → y ∈ done) : Outer N adj a d w :=
  { h with
    closed := fun z hz e => by
      rcases h.closed z hz e with q | q | q
      · exact .inl q
      · subst q
        exact .inr fun y hy => h.did y (hd y hy)
      · exact .inr q
    head := fun u hu z hz => by have := h.top z hz; have := h.wave u hu; omega }
theorem Outer.dist {d : List Int} (h : Outer N adj a d []) (hr : ∀ x y, adj x y → x < N ∧ y < N) : IsDist N adj a (gd d) :=
  { zero := h.zero, only := h.only, low := h.low, back := h.back, edge := fun x y hxy e => by
      rcases h.closed x (hr _ _ hxy).1 e with q | q
      · simp at q
      · exact q y hxy }
theorem Outer.init (ha : a < N) : Outer N adj a ((List.replicate N (-1)).set a 0) [a] := by
  have g : ∀ j, gd ((List.replicate N (-1)).set a 0) j = if j = a then 0 else gd (List.replicate N (-1)) j := fun j => gd_set (by simpa using ha) _ j
  have gn : ∀ j, j < N → gd (List.replicate N (-1)) j = -1 := fun j hj => by simp [gd, List.getD, hj]
  have ga : gd ((List.replicate N (-1)).set a 0) a = 0 := by rw [g, if_pos rfl]
  refine { len := by simp, node := fun x hx => ?_, zero := ga, only := fun x hx e => ?_, low := fun x hx => ?_, back := fun x hx e => ?_, order := by simp, closed := fun z hz e => ?_, head := fun x hx z hz => ?_ }
  · obtain rfl := List.mem_singleton.1 hx
    exact ⟨ha, by omega⟩
  · rw [g] at e
    split at e
    · assumption
    · rw [gn x hx] at e; omega
  · rw [g]; split
    · omega
    · rw [gn x hx]; omega
  · rw [g] at e
    split at e
    · omega
    · rw [gn x hx] at e; omega
  · rw [g] at e
    split at e
    · rename_i q; simp [q]
    · rw [gn z hz] at e; omega
  · obtain rfl := List.mem_singleton.1 hx
    rw [ga, g]; split
    · omega
    · rw [gn z hz]; omega
/-- How many are without a number. -/
def negs (d : List Int) : Nat := d.countP (fun v => decide (v < 0))
theorem push_size {x y : Nat} {d : List Int} {w : List Nat} (hy : y < d.length) (hx : 0 ≤ gd d x) : negs (push x (d, w) y).1 + (push x (d, w) y).2.length = negs d + w.length := by
  unfold push
  by_cases q : gd d y < 0
  · simp only [if_pos q]
    have : negs (d.set y (gd d x + 1)) + 1 = negs d := by
      unfold negs
      rw [List.countP_set hy]
      have e : d[y] = gd d y := by simp [gd, hy]
      rw [e]
      have hp : 0 < d.countP (fun v => decide (v < 0)) := List.countP_pos_iff.2 ⟨d[y], List.getElem_mem hy, by rw [e]; simpa using q⟩
      rw [if_pos (by simpa using q), if_neg (by simp; omega)]
      omega
    simp only [List.length_append, List.length_singleton]
    omega
  · simp only [if_neg q]
end
/-! Rounds of the reference. -/
section
def better (d e : Int) : Int := if e ≥ 0 ∧ (d < 0 ∨ e + 1 < d) then e + 1 else d
def upd (d : List Int) (x y : Nat) : List Int := d.set x (better (gd d x) (gd d y))
def relax (d : List Int) (p : Nat × Nat) : List Int := upd (upd d p.1 p.2) p.2 p.1
def adjOf (es : List (Nat × Nat)) (x y : Nat) : Prop := (x, y) ∈ es ∨ (y, x) ∈ es
variable {N : Nat} {adj : Nat → Nat → Prop} {a : Nat} {D : Nat → Int}
structure Over (N : Nat) (D : Nat → Int) (e : List Int) : Prop where
  len : e.length = N
  over : ∀ x, x < N → gd e x = -1 ∨ (0 ≤ D x ∧ D x ≤ gd e x)
theorem Over.upd (hD : IsDist N adj a D) (hr : ∀ x y, adj x y → x < N ∧ y < N) (hs : ∀ x y, adj x y → adj y x) {e : List Int} (h : Over N D e) {x y : Nat} (hxy : adj x y) :
    Over N D (upd e x y) ∧ (∀ z, z < N → 0 ≤ D z → gd e z = D z → gd (upd e x y) z = D z) ∧ (0 ≤ D y → gd e y = D y → D x = D y + 1 → gd (upd e x y) x = D x) := by
  obtain ⟨hx, hy⟩ := hr _ _ hxy
  have g : ∀ j, gd (PB.upd e x y) j = if j = x then better (gd e x) (gd e y) else gd e j := fun j => gd_set (by rw [h.len]; exact hx) _ j
  have ex := h.over x hx
  have ey := h.over y hy
  have lx := hD.low x hx
  have key : 0 ≤ gd e y → 0 ≤ D x ∧ D x ≤ gd e y + 1 := fun q => by
    have := hD.edge y x (hs _ _ hxy) (by omega)
    omega
  refine ⟨⟨by simp [PB.upd, h.len], fun z hz => ?_⟩, fun z hz h0 e1 => ?_, fun h0 e1 e2 => ?_⟩
  · rw [g]
    split
    · rename_i q; subst q
      unfold better
      split
      · rename_i c; have := key c.1; omega
      · exact ex
    · exact h.over z hz
  · rw [g]
    split
    · rename_i q; subst q
      unfold better
      split
      · rename_i c; have := key c.1; omega
      · exact e1
    · exact e1
  · rw [g, if_pos rfl]
    unfold better
    split
    · omega
    · omega
theorem Over.relax (hD : IsDist N adj a D) (hr : ∀ x y, adj x y → x < N ∧ y < N) (hs : ∀ x y, adj x y → adj y x) {e : List Int} (h : Over N D e) {p : Nat × Nat} (hp : adj p.1 p.2) :
    Over N D (relax e p) ∧ (∀ z, z < N → 0 ≤ D z → gd e z = D z → gd (relax e p) z = D z) ∧ (∀ x y, (p = (x, y) ∨ p = (y, x)) → 0 ≤ D y → gd e y = D y → D x = D y + 1 → gd (relax e p) x = D x) := by
  obtain ⟨h1, k1, r1⟩ := h.upd hD hr hs hp
  obtain ⟨h2, k2, r2⟩ := h1.upd hD hr hs (hs _ _ hp)
  refine ⟨h2, fun z hz h0 e1 => k2 z hz h0 (k1 z hz h0 e1), fun x y hxy h0 e1 e2 => ?_⟩
  rcases hxy with rfl | rfl
  · exact k2 _ (hr _ _ hp).1 (by omega) (r1 h0 e1 e2)
  · exact r2 h0 (k1 _ (hr _ _ hp).1 h0 e1) e2
def rounds (es : List (Nat × Nat)) : Nat → List Int → List Int
  | 0, d => d
  | n + 1, d => rounds es n (es.foldl relax d)
end
/-! The closure that goes down. -/
section
variable {N : Nat} {adj : Nat → Nat → Prop}
inductive Conn (adj : Nat → Nat → Prop) : Nat → Nat → Prop
  | refl (x : Nat) : Conn adj x x
  | step {x y z : Nat} : Conn adj x y → adj y z → Conn adj x z
theorem Conn.trans {x y z : Nat} (h : Conn adj x y) (k : Conn adj y z) : Conn adj x z := by
  induction k with
  | refl => exact h
  | step _ e ih => exact ih.step e
theorem Conn.symm (hs : ∀ x y, adj x y → adj y x) {x y : Nat} (h : Conn adj x y) : Conn adj y x := by
  induction h with
  | refl => exact .refl _
  | step _ e ih => exact ((Conn.refl _).step (hs _ _ e)).trans ih
/-- What one way down has done. -/
structure Down (N : Nat) (adj : Nat → Nat → Prop) (x : Nat) (least : Int) (c r : List Int) : Prop where
  len : r.length = N
  old : ∀ z, 0 ≤ gd c z → gd r z = gd c z
  new : ∀ z, z < N → gd c z < 0 → gd r z = gd c z ∨ (gd r z = least ∧ (∀ y, adj z y → 0 ≤ gd r y) ∧ Conn adj x z)
theorem Down.trans {x : Nat} {least : Int} {c r q : List Int} (h0 : 0 ≤ least) (h : Down N adj x least c r) (k : Down N adj x least r q) : Down N adj x least c q :=
  ⟨k.len, fun z hz => by have := h.old z hz; rw [k.old z (by omega), this], fun z hz e => by
    rcases h.new z hz e with e1 | ⟨e1, e2, e3⟩
    · rcases k.new z hz (by omega) with e4 | e4
      · exact .inl (by omega)
      · exact .inr e4
    · exact .inr ⟨by rw [k.old z (by omega), e1], fun y hy => by rw [k.old y (e2 y hy)]; exact e2 y hy, e3⟩⟩
end
section
variable {N : Nat}
/-- What the rows of neighbors say. -/
structure Rows (N : Nat) (next : List (List Int)) (adj : Nat → Nat → Prop) : Prop where
  len : next.length = N
  short : ∀ x, x < N → (next.getD x []).length < 4611686018427387904
  mem : ∀ x, x < N → ∀ y ∈ next.getD x [], ∃ z : Nat, y = z ∧ z < N ∧ adj x z
  all : ∀ x y, adj x y → x < N ∧ y < N ∧ (y : Int) ∈ next.getD x []
variable {next : List (List Int)} {adj : Nat → Nat → Prop}
theorem getD_in {α : Type} {l : List α} {j : Nat} (h : j < l.length) (d : α) : l.getD j d ∈ l := by
  rw [List.getD_eq_getElem?_getD, List.getElem?_eq_getElem h]; exact List.getElem_mem h
theorem Down.refl {x : Nat} {least : Int} {c : List Int} (h : c.length = N) : Down N adj x least c c := ⟨h, fun _ _ => rfl, fun _ _ _ => .inl rfl⟩
theorem Down.from {x y : Nat} {least : Int} {c r : List Int} (h : Down N adj y least c r) (hc : Conn adj x y) : Down N adj x least c r :=
  ⟨h.len, h.old, fun z hz e => by
    rcases h.new z hz e with q | ⟨q1, q2, q3⟩
    · exact .inl q
    · exact .inr ⟨q1, q2, hc.trans q3⟩⟩
theorem negs_set {c : List Int} {x : Nat} (hx : x < c.length) (hn : gd c x < 0) {v : Int} (hv : 0 ≤ v) : negs (c.set x v) + 1 = negs c := by
  unfold negs
  rw [List.countP_set hx]
  have e : c[x] = gd c x := by simp [gd, hx]
  rw [e]
  have hp : 0 < c.countP (fun v => decide (v < 0)) := List.countP_pos_iff.2 ⟨c[x], List.getElem_mem hx, by rw [e]; simpa using hn⟩
  rw [if_pos (by simpa using hn), if_neg (by simp; omega)]
  omega
/-- After the first i nodes have been visited. -/
structure Comps (N : Nat) (adj : Nat → Nat → Prop) (i : Nat) (c : List Int) : Prop where
  len : c.length = N
  low : ∀ z, z < N → -1 ≤ gd c z
  seen : ∀ z, z < i → z < N → 0 ≤ gd c z
  lab : ∀ z, z < N → 0 ≤ gd c z → ∃ b : Nat, gd c z = b ∧ b ≤ z ∧ b < N ∧ gd c b = b ∧ Conn adj b z
  edge : ∀ z y, adj z y → 0 ≤ gd c z → gd c y = gd c z
theorem Comps.init (hr : ∀ x y, adj x y → x < N ∧ y < N) : Comps N adj 0 (List.replicate N (-1)) := by
  have gn : ∀ j, j < N → gd (List.replicate N (-1)) j = -1 := fun j hj => by simp [gd, List.getD, hj]
  exact ⟨by simp, fun z hz => by rw [gn z hz]; omega, fun z hz => by omega, fun z hz h => by rw [gn z hz] at h; omega, fun z y h h1 => by
    rw [gn z (hr _ _ h).1] at h1; omega⟩
theorem Comps.conn {i : Nat} {c : List Int} (h : Comps N adj i c) {x y : Nat} (hc : Conn adj x y) (h0 : 0 ≤ gd c x) : gd c y = gd c x := by
  induction hc with
  | refl => rfl
  | step _ e ih => rw [h.edge _ _ e (by omega), ih]
theorem Comps.step (hs : ∀ x y, adj x y → adj y x) (hr : ∀ x y, adj x y → x < N ∧ y < N) {i : Nat} {c r : List Int} (h : Comps N adj i c) (hi : i < N) (hd : Down N adj i (i : Int) c r) (h0 : 0 ≤ gd r i) : Comps N adj (i + 1) r := by
  have key : ∀ z, z < N → gd c z < 0 → 0 ≤ gd r z → gd r z = i ∧ (∀ y, adj z y → 0 ≤ gd r y) ∧ Conn adj i z ∧ i ≤ z := fun z hz e1 e2 => by
    rcases hd.new z hz e1 with q | ⟨q1, q2, q3⟩
    · omega
    · refine ⟨q1, q2, q3, ?_⟩
      rcases Nat.lt_or_ge z i with q | q
      · have := h.seen z q hz; omega
      · exact q
  have hci : ∀ z, z < N → gd c z < 0 → 0 ≤ gd r z → gd c i < 0 := fun z hz e1 e2 => by
    rcases Int.lt_or_le (gd c i) 0 with q | q
    · exact q
    · have := h.conn (key z hz e1 e2).2.2.1 q; omega
  refine ⟨hd.len, fun z hz => ?_, fun z hz hz' => ?_, fun z hz e => ?_, fun z y hzy e => ?_⟩
  · rcases Int.lt_or_le (gd c z) 0 with q | q
    · rcases hd.new z hz q with q1 | q1
      · have := h.low z hz; omega
      · omega
    · rw [hd.old z q]; omega
  · by_cases q : z = i
    · subst q; exact h0
    · have := h.seen z (by omega) hz'
      rw [hd.old z this]; exact this
  · rcases Int.lt_or_le (gd c z) 0 with q | q
    · obtain ⟨k1, k2, k3, k4⟩ := key z hz q e
      exact ⟨i, k1, k4, hi, (key i hi (hci z hz q e) h0).1, k3⟩
    · obtain ⟨b, k1, k2, k3, k4, k5⟩ := h.lab z hz q
      exact ⟨b, by rw [hd.old z q, k1], k2, k3, by rw [hd.old b (by omega), k4], k5⟩
  · obtain ⟨hz, hy⟩ := hr _ _ hzy
    rcases Int.lt_or_le (gd c z) 0 with q | q
    · obtain ⟨k1, k2, k3, k4⟩ := key z hz q e
      have hy0 := k2 y hzy
      rcases Int.lt_or_le (gd c y) 0 with q2 | q2
      · rw [(key y hy q2 hy0).1, k1]
      · have := h.edge y z (hs _ _ hzy) q2; omega
    · have := h.edge z y hzy q
      rw [hd.old y (by omega), hd.old z q, this]
theorem IsDist.conn (hr : ∀ x y, adj x y → x < N ∧ y < N) {a : Nat} {d : Nat → Int} (h : IsDist N adj a d) {x : Nat} (hx : x < N) : 0 ≤ d x ↔ Conn adj a x := by
  constructor
  · intro h0
    have : ∀ (n : Nat) (x : Nat), x < N → d x = n → Conn adj a x := by
      intro n
      induction n with
      | zero => intro x hx e; rw [h.only x hx (by omega)]; exact .refl _
      | succ n ih =>
        intro x hx e
        obtain ⟨y, ha, hy⟩ := h.back x hx (by omega)
        exact (ih y (hr _ _ ha).1 (by omega)).step ha
    exact this (d x).toNat x hx (by omega)
  · intro hc
    clear hx
    induction hc with
    | refl => rw [h.zero]; omega
    | step _ e ih => exact (h.edge _ _ e ih).1
/-- The label is the least node that is not out of reach. -/
theorem Comps.least (hs : ∀ x y, adj x y → adj y x) (hr : ∀ x y, adj x y → x < N ∧ y < N) {c : List Int} (h : Comps N adj N c) {i : Nat} (hi : i < N) {d : Nat → Int} (hd : IsDist N adj i d) :
    ∃ b : Nat, gd c i = b ∧ b < N ∧ 0 ≤ d b ∧ ∀ k, k < N → 0 ≤ d k → b ≤ k := by
  obtain ⟨b, h1, h2, h3, h4, h5⟩ := h.lab i hi (h.seen i hi hi)
  refine ⟨b, h1, h3, (hd.conn hr h3).2 (h5.symm hs), fun k hk h0 => ?_⟩
  have := h.conn ((hd.conn hr hk).1 h0) (h.seen i hi hi)
  obtain ⟨b', k1, k2, _⟩ := h.lab k hk (h.seen k hk hk)
  omega
end
end Go.Proofs.Ythkpnkmbmlbefaa.PB

/- The rows of neighbors: what the program's rows hold, in order. -/
namespace Go.Proofs.Ythkpnkmbmlbefaa.PB
open Go.RowKit Go.Proofs.Ythkpnkmbmlbefaa Go.Proofs.Ythkpnkmbmlbefaa.X Go.Proofs.YthkpnkmbmlbefaaW.PrintWords Go.Proofs.YthkpnkmbmlbefaaW.PrintLast

/-! ### What a valid graph is -/
/-- A graph that the check lets pass. -/
structure Valid (a : Int) (l : List S37) : Prop where
  pos : 1 ≤ a
  most : a ≤ 24
  few : l.length ≤ 64
  ok : ∀ i, i < l.length → OkE a (l.getD i z37)
  loop : ∀ i, i < l.length → (l.getD i z37).f0 ≠ (l.getD i z37).f2
  once0 : ∀ i j, j < i → i < l.length → ¬ hasEnd (l.getD j z37) ((l.getD i z37).f0, (l.getD i z37).f1)
  once1 : ∀ i j, j < i → i < l.length → ¬ hasEnd (l.getD j z37) ((l.getD i z37).f2, (l.getD i z37).f3)
theorem chkFrom_ok {a : Int} {l : List S37} : ∀ {d i}, i + d = l.length → chkFrom a l d i = 0 → ∀ i', i ≤ i' → i' < l.length → OkE a (l.getD i' z37) ∧ (l.getD i' z37).f0 ≠ (l.getD i' z37).f2 ∧ (∀ j, j < i' → ¬ hasEnd (l.getD j z37) ((l.getD i' z37).f0, (l.getD i' z37).f1)) ∧ (∀ j, j < i' → ¬ hasEnd (l.getD j z37) ((l.getD i' z37).f2, (l.getD i' z37).f3))
  | 0, i, hi, _, i', h1, h2 => by omega
  | d + 1, i, hi, h, i', h1, h2 => by
    unfold chkFrom at h
    split at h
    · rename_i hok
      split at h
      · omega
      · rename_i hloop
        split at h
        · omega
        · rename_i hu1
          split at h
          · omega
          · rename_i hu2
            rw [usedFrom_iff] at hu1 hu2
            by_cases q : i' = i
            · subst q
              exact ⟨hok, hloop, fun j hj hh => hu1 ⟨j, by omega, by omega, hh⟩, fun j hj hh => hu2 ⟨j, by omega, by omega, hh⟩⟩
            · exact chkFrom_ok (by omega) h i' (by omega) h2
    · omega
theorem chk_valid {a : Int} {l : List S37} (h : chk a l = 0) : Valid a l := by
  unfold chk at h
  split at h
  · omega
  · split at h
    · omega
    · have k := chkFrom_ok (i := 0) (by omega) h
      exact ⟨by omega, by omega, by omega, fun i hi => (k i (by omega) hi).1, fun i hi => (k i (by omega) hi).2.1, fun i j hj hi => (k i (by omega) hi).2.2.1 j hj, fun i j hj hi => (k i (by omega) hi).2.2.2 j hj⟩

/-! ### The edges as pairs of nodes -/
def es (l : List S37) : List (Nat × Nat) := l.map fun e => (e.f0.toNat, e.f2.toNat)
theorem OkE.nat {a : Int} {e : S37} (h : OkE a e) : ∃ x y : Nat, e.f0 = x ∧ e.f2 = y ∧ x < a.toNat ∧ y < a.toNat := by
  unfold OkE at h
  exact ⟨e.f0.toNat, e.f2.toNat, by omega, by omega, by omega, by omega⟩
theorem Valid.mem {a : Int} {l : List S37} (h : Valid a l) {e : S37} (he : e ∈ l) : OkE a e ∧ e.f0 ≠ e.f2 := by
  obtain ⟨i, hi, rfl⟩ := List.mem_iff_getElem.1 he
  have h1 := h.ok i hi
  have h2 := h.loop i hi
  rw [List.getD_eq_getElem?_getD, List.getElem?_eq_getElem hi, Option.getD_some] at h1 h2
  exact ⟨h1, h2⟩
theorem Valid.range {a : Int} {l : List S37} (h : Valid a l) (x y : Nat) (hxy : adjOf (es l) x y) : x < a.toNat ∧ y < a.toNat := by
  have key : ∀ u v : Nat, (u, v) ∈ es l → u < a.toNat ∧ v < a.toNat := fun u v hu => by
    obtain ⟨e, he, e1⟩ := List.mem_map.1 hu
    obtain ⟨x', y', h1, h2, h3, h4⟩ := (h.mem he).1.nat
    injection e1 with e1 e2
    omega
  rcases hxy with q | q
  · exact key _ _ q
  · exact (key _ _ q).symm

/-! ### The rows -/
def addE (rows : List (List Int)) (e : S37) : List (List Int) :=
  let r1 := rows.set e.f0.toNat (rows.getD e.f0.toNat [] ++ [e.f2])
  r1.set e.f2.toNat (r1.getD e.f2.toNat [] ++ [e.f0])
structure Raw (N : Nat) (l : List S37) (i : Nat) (rows : List (List Int)) : Prop where
  len : rows.length = N
  short : ∀ x, x < N → (rows.getD x []).length ≤ 2 * i
  mem : ∀ x, x < N → ∀ y : Int, y ∈ rows.getD x [] ↔ ∃ j, j < i ∧ (((l.getD j z37).f0 = x ∧ (l.getD j z37).f2 = y) ∨ ((l.getD j z37).f2 = x ∧ (l.getD j z37).f0 = y))
theorem getD_set {α : Type} {l : List α} {i : Nat} (h : i < l.length) (v : α) (j : Nat) (z : α) : (l.set i v).getD j z = if j = i then v else l.getD j z := by
  by_cases q : j = i
  · subst q; simp [h]
  · rw [if_neg q]; simp [List.getD, Ne.symm q]
theorem Raw.step {N : Nat} {a : Int} {l : List S37} {i : Nat} {rows : List (List Int)} (h : Raw N l i rows) (hok : OkE a (l.getD i z37)) (hN : N = a.toNat) : Raw N l (i + 1) (addE rows (l.getD i z37)) := by
  obtain ⟨u, v, hu, hv, hul, hvl⟩ := hok.nat
  subst hN
  have hlen := h.len
  unfold addE
  simp only [hu, hv, Int.toNat_natCast]
  have g1 : ∀ j, (rows.set u (rows.getD u [] ++ [(v : Int)])).getD j [] = if j = u then rows.getD u [] ++ [(v : Int)] else rows.getD j [] := fun j => getD_set (by omega) _ _ _
  have g2 : ∀ j (w : List Int), ((rows.set u (rows.getD u [] ++ [(v : Int)])).set v w).getD j [] = if j = v then w else (rows.set u (rows.getD u [] ++ [(v : Int)])).getD j [] := fun j w => getD_set (by rw [List.length_set]; omega) _ _ _
  refine ⟨by simp [hlen], fun x hx => ?_, fun x hx y => ?_⟩
  · have h1 := h.short x hx
    have h2 := h.short u hul
    have h3 := h.short v hvl
    rw [g2]
    split
    · rw [List.length_append, g1]
      split
      · rw [List.length_append]; simp; simp at h2; omega
      · simp; simp at h3; omega
    · rw [g1]
      split
      · rw [List.length_append]; simp; simp at h2; omega
      · omega
  · have hm := h.mem x hx y
    have split_ : (∃ j, j < i + 1 ∧ (((l.getD j z37).f0 = x ∧ (l.getD j z37).f2 = y) ∨ ((l.getD j z37).f2 = x ∧ (l.getD j z37).f0 = y))) ↔ (y ∈ rows.getD x [] ∨ ((u : Int) = x ∧ (v : Int) = y) ∨ ((v : Int) = x ∧ (u : Int) = y)) := by
      rw [hm]
      constructor
      · rintro ⟨j, hj, hh⟩
        by_cases q : j = i
        · subst q; rw [hu, hv] at hh; exact .inr hh
        · exact .inl ⟨j, by omega, hh⟩
      · rintro (⟨j, hj, hh⟩ | hh)
        · exact ⟨j, by omega, hh⟩
        · exact ⟨i, by omega, by rw [hu, hv]; exact hh⟩
    rw [split_, g2]
    by_cases q1 : x = v
    · subst q1
      rw [if_pos rfl, List.mem_append, g1]
      by_cases q2 : x = u
      · subst q2
        rw [if_pos rfl, List.mem_append]
        simp only [List.mem_singleton]
        constructor
        · rintro ((h1 | h1) | h1)
          · exact .inl h1
          · exact .inr (.inl ⟨by simp, h1.symm⟩)
          · exact .inr (.inl ⟨by simp, h1.symm⟩)
        · rintro (h1 | h1 | h1)
          · exact .inl (.inl h1)
          · exact .inr h1.2.symm
          · exact .inr h1.2.symm
      · rw [if_neg q2]
        simp only [List.mem_singleton]
        constructor
        · rintro (h1 | h1)
          · exact .inl h1
          · exact .inr (.inr ⟨by simp, h1.symm⟩)
        · rintro (h1 | h1 | h1)
          · exact .inl h1
          · exact absurd h1.1 (by omega)
          · exact .inr h1.2.symm
    · rw [if_neg q1, g1]
      by_cases q2 : x = u
      · subst q2
        rw [if_pos rfl, List.mem_append]
        simp only [List.mem_singleton]
        constructor
        · rintro (h1 | h1)
          · exact .inl h1
          · exact .inr (.inl ⟨by simp, h1.symm⟩)
        · rintro (h1 | h1 | h1)
          · exact .inl h1
          · exact .inr h1.2.symm
          · exact absurd h1.1 (by omega)
      · rw [if_neg q2]
        constructor
        · exact .inl
        · rintro (h1 | h1 | h1)
          · exact h1
          · exact absurd h1.1 (by omega)
          · exact absurd h1.1 (by omega)
theorem Raw.init (N : Nat) (l : List S37) : Raw N l 0 (List.replicate N []) :=
  ⟨by simp, fun x hx => by simp [List.getD, hx], fun x hx y => by simp [List.getD, hx]⟩
def rawFrom (l : List S37) : Nat → Nat → List (List Int) → List (List Int)
  | 0, _, rows => rows
  | d + 1, i, rows => rawFrom l d (i + 1) (addE rows (l.getD i z37))
def sortI (l : List Int) : List Int := l.mergeSort fun x y => decide (x ≤ y)
theorem sortI_sorted (z : List Int) : (sortI z).Pairwise (· ≤ ·) := by
  have := List.pairwise_mergeSort (le := fun a b : Int => decide (a ≤ b)) (fun a b c h1 h2 => by simp at *; omega) (fun a b => by simp; omega) z
  exact this.imp (fun h => by simpa using h)
theorem sortI_is {x y : List Int} (h : x.Perm y) (hs : y.Pairwise (· ≤ ·)) : sortI x = y :=
  List.Perm.eq_of_pairwise (fun _ _ _ _ h1 h2 => Int.le_antisymm h1 h2) (sortI_sorted x) hs ((List.mergeSort_perm x _).trans h)
theorem sortI_len (l : List Int) : (sortI l).length = l.length := (List.mergeSort_perm l _).length_eq
theorem sortI_mem {l : List Int} {y : Int} : y ∈ sortI l ↔ y ∈ l := (List.mergeSort_perm l _).mem_iff
def nb (a : Int) (l : List S37) : List (List Int) := (rawFrom l l.length 0 (List.replicate a.toNat [])).map sortI
theorem rawFrom_raw {N : Nat} {a : Int} {l : List S37} (h : Valid a l) (hN : N = a.toNat) : ∀ d i rows, i + d = l.length → Raw N l i rows → Raw N l l.length (rawFrom l d i rows)
  | 0, i, rows, hi, hr => by
    obtain rfl : i = l.length := by omega
    exact hr
  | d + 1, i, rows, hi, hr => rawFrom_raw h hN d (i + 1) _ (by omega) (hr.step (h.ok i (by omega)) hN)
theorem nb_get (a : Int) (l : List S37) (x : Nat) : (nb a l).getD x [] = sortI ((rawFrom l l.length 0 (List.replicate a.toNat [])).getD x []) := by
  unfold nb
  simp only [List.getD_eq_getElem?_getD, List.getElem?_map]
  cases (rawFrom l l.length 0 (List.replicate a.toNat []))[x]? with
  | none => simp [sortI]
  | some r => rfl
theorem Valid.raw {a : Int} {l : List S37} (h : Valid a l) : Raw a.toNat l l.length (rawFrom l l.length 0 (List.replicate a.toNat [])) := rawFrom_raw h rfl _ _ _ (by omega) (Raw.init _ _)
theorem Valid.nb_mem {a : Int} {l : List S37} (h : Valid a l) {x : Nat} (hx : x < a.toNat) (y : Int) : y ∈ (nb a l).getD x [] ↔ ∃ z : Nat, y = z ∧ z < a.toNat ∧ adjOf (es l) x z := by
  rw [nb_get, sortI_mem, h.raw.mem x hx]
  constructor
  · rintro ⟨j, hj, hh⟩
    obtain ⟨u, v, hu, hv, hul, hvl⟩ := (h.ok j hj).nat
    have hm : (u, v) ∈ es l := List.mem_map.2 ⟨l.getD j z37, getD_in hj _, by rw [hu, hv]; rfl⟩
    rw [hu, hv] at hh
    rcases hh with ⟨h1, h2⟩ | ⟨h1, h2⟩
    · obtain rfl : u = x := by omega
      exact ⟨v, h2.symm, hvl, .inl hm⟩
    · obtain rfl : v = x := by omega
      exact ⟨u, h2.symm, hul, .inr hm⟩
  · rintro ⟨z, rfl, hz, hadj⟩
    rcases hadj with q | q
    · obtain ⟨e, he, e1⟩ := List.mem_map.1 q
      obtain ⟨j, hj, e2⟩ := List.mem_iff_getElem.1 he
      obtain ⟨u, v, hu, hv, _, _⟩ := (h.mem he).1.nat
      injection e1 with e3 e4
      refine ⟨j, hj, .inl ?_⟩
      rw [List.getD_eq_getElem?_getD, List.getElem?_eq_getElem hj, Option.getD_some, e2]
      omega
    · obtain ⟨e, he, e1⟩ := List.mem_map.1 q
      obtain ⟨j, hj, e2⟩ := List.mem_iff_getElem.1 he
      obtain ⟨u, v, hu, hv, _, _⟩ := (h.mem he).1.nat
      injection e1 with e3 e4
      refine ⟨j, hj, .inr ?_⟩
      rw [List.getD_eq_getElem?_getD, List.getElem?_eq_getElem hj, Option.getD_some, e2]
      omega
theorem Valid.nb_len {a : Int} {l : List S37} (h : Valid a l) : (nb a l).length = a.toNat := by
  unfold nb; rw [List.length_map]; exact h.raw.len
theorem Valid.nb_short {a : Int} {l : List S37} (h : Valid a l) {x : Nat} (hx : x < a.toNat) : ((nb a l).getD x []).length ≤ 128 := by
  rw [nb_get, sortI_len]
  have := h.raw.short x hx
  have := h.few
  omega
theorem Valid.rows {a : Int} {l : List S37} (h : Valid a l) : Rows a.toNat (nb a l) (adjOf (es l)) :=
  ⟨h.nb_len, fun x hx => by have := h.nb_short hx; omega, fun x hx y hy => (h.nb_mem hx y).1 hy, fun x y hxy => ⟨(h.range x y hxy).1, (h.range x y hxy).2, (h.nb_mem (h.range x y hxy).1 y).2 ⟨y, rfl, (h.range x y hxy).2, hxy⟩⟩⟩
theorem sort_loop (rows : List (List Int)) (hsh : ∀ x, x < rows.length → (rows.getD x []).length ≤ 128) (hn : rows.length ≤ 24) : ∀ d i (cur : List (List Int)), i + d = rows.length → cur = (rows.take i).map sortI ++ rows.drop i → Ev (fun k => topo_neighbors.l1 k cur rows.length i) (rows.map sortI) := by
  intro d
  induction d with
  | zero =>
    intro i cur hi hc
    refine Ev.step (fun k => by rw [topo_neighbors.l1]) ?_
    refine Ev.neg (by omega) (Ev.const ?_)
    rw [hc, List.take_of_length_le (by omega), List.drop_of_length_le (by omega), List.append_nil]
  | succ d ih =>
    intro i cur hi hc
    have hil : i < rows.length := by omega
    have hlen : cur.length = rows.length := by rw [hc]; simp; omega
    have hget : cur.getD i [] = rows.getD i [] := by
      rw [hc]
      simp [List.getD, List.getElem?_append, Nat.min_eq_left (Nat.le_of_lt hil)]
    refine Ev.step (fun k => by rw [topo_neighbors.l1]) ?_
    refine Ev.pos (by omega) (Ev.pos (by omega) (Ev.pos (by omega) (Ev.bind' (sortI (rows.getD i [])) (Ev.const ?_) ?_)))
    · rw [rdL3, hget]
      unfold slices_Sort_int_int.f
      rw [if_pos (by have := hsh i hil; omega)]
      rfl
    · rw [wrap_nat (by omega), Int.toNat_natCast]
      refine ih (i + 1) _ (by omega) ?_
      rw [hc]
      apply List.ext_getElem?
      intro j
      have hmin : min i rows.length = i := by omega
      have hmin2 : min (i + 1) rows.length = i + 1 := by omega
      simp only [List.getElem?_set, List.getElem?_append, List.length_map, List.length_take, List.getElem?_map, List.getElem?_take, List.getElem?_drop, List.length_append, List.length_drop, hmin, hmin2]
      by_cases q1 : i = j
      · subst q1
        simp [hil, List.getD]
        omega
      · rw [if_neg q1]
        by_cases q2 : j < i
        · simp [q2, show j < i + 1 by omega]
        · have q3 : ¬ j < i + 1 := by omega
          simp only [q2, q3, if_false]
          congr 1
          omega
theorem impl_nb_from {a : Int} {l : List S37} (h : Valid a l) (r : List (List Int)) : ∀ d i rows, i + d = l.length → Raw a.toNat l i rows → Ev (fun k => topo_neighbors.l1 k (rawFrom l d i rows) ((rawFrom l d i rows).length : Int) 0) r → Ev (fun k => topo_neighbors.l0 k rows l l.length i) r := by
  intro d
  induction d with
  | zero =>
    intro i rows hi hr hk
    refine Ev.step (fun k => by rw [topo_neighbors.l0]) ?_
    exact Ev.neg (by omega) hk
  | succ d ih =>
    intro i rows hi hr hk
    have hil : i < l.length := by omega
    have hok := h.ok i hil
    have hfew := h.few
    obtain ⟨u, v, hu, hv, hul, hvl⟩ := hok.nat
    have hlen := hr.len
    have hst := hr.step hok rfl
    have s1 := hr.short u hul
    have s2 := hst.short v hvl
    refine Ev.step (fun k => by rw [topo_neighbors.l0]) ?_
    have hk2 := ih (i + 1) (addE rows (l.getD i z37)) (by omega) hst hk
    unfold addE at hk2 hst s2
    simp only [hu, hv, Int.toNat_natCast] at hk2 s2
    refine Ev.pos (by omega) (Ev.pos (by omega) (Ev.pos (by omega) ?_))
    rw [rd37, hu, hv, wrap_nat (by omega)]
    simp only [rdL3, Int.toNat_natCast]
    refine Ev.pos (by omega) (Ev.pos (by omega) (Ev.pos (by omega) (Ev.some_bind (Ev.pos (by omega) (Ev.pos (by omega) (Ev.pos ?_ ?_))))))
    · rw [getD_set (by omega)]
      have s3 := hr.short v hvl
      split
      · rw [List.length_append]; simp; simp at s1; omega
      · omega
    · exact hk2
theorem impl_nb {a : Int} {l : List S37} (h : Valid a l) : Ev (fun k => topo_neighbors.f k a l) (nb a l) := by
  unfold topo_neighbors.f
  have h1 := h.pos
  have h2 := h.most
  refine Ev.pos (by omega) (Ev.pos (by omega) (impl_nb_from h _ l.length 0 _ (by omega) (Raw.init _ _) ?_))
  have hr := h.raw
  refine sort_loop _ (fun x hx => ?_) (by rw [hr.len]; omega) _ 0 _ (Nat.zero_add _) (by simp)
  have := hr.short x (by rw [← hr.len]; exact hx)
  have := h.few
  omega
end Go.Proofs.Ythkpnkmbmlbefaa.PB

/- The examples of the chapter on graphs, reckoned. -/
namespace Go.Proofs.Ythkpnkmbmlbefaa.PB
open Go.RowKit Go.Proofs.Ythkpnkmbmlbefaa Go.Proofs.Ythkpnkmbmlbefaa.X Go.Proofs.YthkpnkmbmlbefaaW.PrintWords Go.Proofs.YthkpnkmbmlbefaaW.PrintLast
def exG : List S37 := [⟨0, 1, 2, 1⟩, ⟨3, 1, 2, 2⟩, ⟨0, 2, 1, 1⟩]
theorem exG_valid : Valid 4 exG := chk_valid (by kernel_rfl)
theorem ex0_valid : Valid 2 [] := chk_valid (by kernel_rfl)
theorem exG_nb : nb 4 exG = [[1, 2], [0], [0, 3], [2]] := by
  have h : rawFrom exG exG.length 0 (List.replicate (4 : Int).toNat []) = [[2, 1], [0], [0, 3], [2]] := by kernel_rfl
  unfold nb
  rw [h]
  simp only [List.map_cons, List.map_nil]
  rw [sortI_is (x := [2, 1]) (y := [1, 2]) (by decide) (by decide), sortI_is (x := [0]) (y := [0]) (by decide) (by decide), sortI_is (x := [0, 3]) (y := [0, 3]) (by decide) (by decide), sortI_is (x := [2]) (y := [2]) (by decide) (by decide)]
theorem ex0_nb : nb 2 [] = [[], []] := by
  unfold nb
  rw [show rawFrom [] ([] : List S37).length 0 (List.replicate (2 : Int).toNat []) = [[], []] by kernel_rfl]
  simp [sortI]
theorem exN : Ev (fun k => topo_neighbors.f k 4 exG) [[1, 2], [0], [0, 3], [2]] := exG_nb ▸ impl_nb exG_valid
theorem ex0N : Ev (fun k => topo_neighbors.f k 2 []) [[], []] := ex0_nb ▸ impl_nb ex0_valid
theorem exC : Ev (fun k => topo_Check.f k 4 exG) 0 := impl_check 4 exG
theorem ex0C : Ev (fun k => topo_Check.f k 2 []) 0 := impl_check 2 []
theorem ex_peer : Ev (fun k => topo_Peer.f k 4 exG 2 2) (3, 1, true) :=
  Ev.of (fun k => topo_Peer.mono _ _ _ _ k) (show topo_Peer.f 60 4 exG 2 2 = some (3, 1, true) by kernel_rfl)
theorem ex_knows (x : Int) (h : 0 ≤ x ∧ x < 4) : Ev (fun k => topo_knows.f k 4 exG x) true := by
  unfold topo_knows.f
  exact Ev.bind' _ exC (Ev.pos rfl (Ev.pos h.1 (Ev.const (by simp [h.2]))))
theorem ex_dist : Ev (fun k => topo_Dist.f k 4 exG 3) [2, 3, 1, 0] := by
  unfold topo_Dist.f
  exact Ev.bind' _ (ex_knows 3 (by decide)) (Ev.pos rfl (Ev.bind' _ exN (Ev.bind' _ (Ev.of (fun k => topo_distances.mono _ _ k) (show topo_distances.f 60 [[1, 2], [0], [0, 3], [2]] 3 = some [2, 3, 1, 0] by kernel_rfl)) (Ev.const rfl))))
theorem ex0_dist : Ev (fun k => topo_Dist.f k 2 [] 0) [0, -1] := by
  unfold topo_Dist.f topo_knows.f
  exact Ev.bind' true (Ev.bind' _ ex0C (Ev.pos rfl (Ev.pos (by decide) (Ev.const (by decide))))) (Ev.pos rfl (Ev.bind' _ ex0N (Ev.bind' _ (Ev.of (fun k => topo_distances.mono _ _ k) (show topo_distances.f 60 [[], []] 0 = some [0, -1] by kernel_rfl)) (Ev.const rfl))))
theorem ex_path : Ev (fun k => topo_Path.f k 4 exG 3 1) [3, 2, 0, 1] := by
  unfold topo_Path.f
  refine Ev.bind' _ (ex_knows 3 (by decide)) (Ev.pos rfl (Ev.bind' _ (ex_knows 1 (by decide)) ?_))
  refine Ev.step (fun k => by rw [topo_Path.j0]) ?_
  refine Ev.neg (by decide) (Ev.bind' _ exN (Ev.bind' _ (Ev.of (fun k => topo_distances.mono _ _ k) (show topo_distances.f 60 [[1, 2], [0], [0, 3], [2]] 1 = some [1, 0, 2, 3] by kernel_rfl)) ?_))
  refine Ev.pos (by decide) (Ev.pos (by decide) (Ev.neg (by decide) ?_))
  exact Ev.of (fun k => (topo_Path.mono_l k).2.1 _ _ _ _ _) (show topo_Path.l0 60 3 1 [[1, 2], [0], [0, 3], [2]] [1, 0, 2, 3] [3] = some [3, 2, 0, 1] by kernel_rfl)
theorem ex0_comp : Ev (fun k => topo_Comp.f k 2 []) [0, 1] := by
  unfold topo_Comp.f
  refine Ev.bind' _ ex0C (Ev.pos rfl (Ev.bind' _ ex0N (Ev.pos (by decide) (Ev.pos (by decide) ?_))))
  exact Ev.of (fun k => (topo_Comp.mono_l k).1 _ _ _) (show topo_Comp.l0 60 [[], []] (List.replicate (2 : Int).toNat 0) 0 = some [0, 1] by kernel_rfl)
theorem ex_diam : Ev (fun k => topo_Diameter.f k 4 exG) 3 := by
  unfold topo_Diameter.f
  refine Ev.bind' _ exC (Ev.pos rfl (Ev.bind' _ exN ?_))
  exact Ev.of (fun k => topo_Diameter.mono_l k _ _ _ _) (show topo_Diameter.l0 60 [[1, 2], [0], [0, 3], [2]] 0 4 0 = some 3 by kernel_rfl)
theorem eq_true' (x : List Int) (hx : x.length < 9223372036854775807) : Ev (fun k => slices_Equal_int_int.f k x x) true := by
  have := eq_ints x x hx
  simpa using this
theorem awake18 : Ev (fun k => timesynclaw18_awake.f k) true := by
  unfold timesynclaw18_awake.f
  refine Ev.some_bind (Ev.bind' (3, 1, true) ex_peer (Ev.pos rfl (Ev.pos rfl (Ev.pos rfl (Ev.bind' _ ex_dist (Ev.bind' _ (eq_true' _ (by decide)) (Ev.pos rfl (Ev.bind' _ ex_path (Ev.bind' _ (eq_true' _ (by decide)) (Ev.pos rfl (Ev.bind' _ ex0_dist (Ev.bind' _ (eq_true' _ (by decide)) (Ev.pos rfl ?_)))))))))))))
  exact Ev.bind' _ ex0_comp (Ev.bind' _ (eq_true' _ (by decide)) (Ev.pos rfl (Ev.bind' _ ex_diam (Ev.const rfl))))
theorem awake18' : Ev (fun k => (timesynclaw18_awake.f k).bind fun t => some t) true := Ev.bind' true awake18 (Ev.const rfl)
end Go.Proofs.Ythkpnkmbmlbefaa.PB

/- Distances: the program's search in waves and the reference's rounds give the numbers that the chapter's rules determine. -/
namespace Go.Proofs.Ythkpnkmbmlbefaa.PB
open Go.RowKit Go.Proofs.Ythkpnkmbmlbefaa Go.Proofs.Ythkpnkmbmlbefaa.X Go.Proofs.YthkpnkmbmlbefaaW.PrintWords Go.Proofs.YthkpnkmbmlbefaaW.PrintLast

theorem rd_gd (l : List Int) (i : Nat) : rd l (i : Int) = gd l i := rdI l i
theorem fill_set (i d : Nat) : (List.replicate i (-1 : Int) ++ List.replicate (d + 1) 0).set i (-1) = List.replicate (i + 1) (-1) ++ List.replicate d 0 := by
  rw [List.set_append_right _ _ (by simp), List.length_replicate, Nat.sub_self, List.replicate_succ, List.set_cons_zero, List.replicate_succ', List.append_assoc]
  rfl
theorem set_nat {l : List Int} {v : Int} (x : Nat) : l.set ((x : Int)).toNat v = l.set x v := by rw [Int.toNat_natCast]
/-! ### The search in waves -/
def toI (w : List Nat) : List Int := w.map fun n : Nat => (n : Int)
theorem toI_len (w : List Nat) : (toI w).length = w.length := by simp [toI]
section
variable {N a : Nat} {next : List (List Int)} {adj : Nat → Nat → Prop}
theorem push_high {x y : Nat} {d : List Int} {w : List Nat} (hlen : d.length = N) (hx : x < N) (hy : y < N) (hx0 : 0 ≤ gd d x) (h : ∀ z, z < N → gd d z + (negs d : Int) < N) (z : Nat) (hz : z < N) : gd (push x (d, w) y).1 z + (negs (push x (d, w) y).1 : Int) < N := by
  have hs := push_size (x := x) (y := y) (d := d) (w := w) (by omega) hx0
  unfold push at hs ⊢
  by_cases q : gd d y < 0
  · simp only [if_pos q] at hs ⊢
    rw [List.length_append, List.length_singleton] at hs
    rw [gd_set (by omega)]
    have h1 := h x hx
    have h2 := h z hz
    split <;> omega
  · simp only [if_neg q]
    exact h z hz
theorem bfs_ok (hR : Rows N next adj) (hN : N ≤ 24) : ∀ (m : Nat) (d : List Int) (w : List Nat), m ≤ 24 → Outer N adj a d w → negs d + w.length ≤ m → (∀ z, z < N → gd d z + (negs d : Int) < N) →
    ∃ r, Ev (fun k => topo_distances.l1 k next d (toI w)) r ∧ Outer N adj a r [] := by
  intro m
  induction m with
  | zero =>
    intro d w _ h hm _
    have hw : w = [] := List.length_eq_zero_iff.1 (by omega)
    subst hw
    refine ⟨d, ?_, h⟩
    refine Ev.step (fun k => by rw [topo_distances.l1]) ?_
    exact Ev.neg (by simp [toI]) (Ev.const rfl)
  | succ m ih =>
    intro d w hm24 h hm hhigh
    cases w with
    | nil =>
      refine ⟨d, ?_, h⟩
      refine Ev.step (fun k => by rw [topo_distances.l1]) ?_
      exact Ev.neg (by simp [toI]) (Ev.const rfl)
    | cons x w =>
      have hr : ∀ u v, adj u v → u < N ∧ v < N := fun u v q => ⟨(hR.all u v q).1, (hR.all u v q).2.1⟩
      have hx := (h.node x List.mem_cons_self).1
      have hrow := hR.mem x hx
      have hsh := hR.short x hx
      have hnl := hR.len
      rw [List.length_cons] at hm
      have hI : ∀ e j done d w, j + e = (next.getD x []).length → Inner N adj a x done d w → (∀ i, i < j → ∀ z : Nat, (next.getD x []).getD i 0 = z → z ∈ done) → negs d + w.length ≤ m → (∀ z, z < N → gd d z + (negs d : Int) < N) →
          ∃ r, Ev (fun k => topo_distances.l2 k next d (toI w) x (next.getD x []) (next.getD x []).length j) r ∧ Outer N adj a r [] := by
        intro e
        induction e with
        | zero =>
          intro j done d w hj hin hdone hm2 hh
          obtain ⟨r, h1, h2⟩ := ih d w (by omega) (hin.outer (fun y hy => by
            obtain ⟨_, _, hmem⟩ := hR.all x y hy
            obtain ⟨i, hi, he⟩ := List.mem_iff_getElem.1 hmem
            refine hdone i (by omega) y ?_
            rw [List.getD_eq_getElem?_getD, List.getElem?_eq_getElem hi, Option.getD_some, he])) hm2 hh
          refine ⟨r, ?_, h2⟩
          refine Ev.step (fun k => by rw [topo_distances.l2]) ?_
          exact Ev.neg (by omega) h1
        | succ e ihe =>
          intro j done d w hj hin hdone hm2 hh
          have hjl : j < (next.getD x []).length := by omega
          obtain ⟨y, hy, hyN, hadj⟩ := hrow ((next.getD x []).getD j 0) (getD_in hjl 0)
          have hlen := hin.len
          have hx0 := hin.hx.2
          have hsz := push_size (x := x) (y := y) (d := d) (w := w) (by omega) hx0
          have hhi := push_high (w := w) hlen hx hyN hx0 hh
          have hin2 := hin.push hr hadj
          obtain ⟨r, h1, h2⟩ := ihe (j + 1) (y :: done) (push x (d, w) y).1 (push x (d, w) y).2 (by omega) hin2 (fun i hi z hz => by
            by_cases q : i = j
            · subst q
              have : z = y := by rw [hy] at hz; omega
              subst this; exact List.mem_cons_self
            · exact List.mem_cons_of_mem _ (hdone i (by omega) z hz)) (by omega) hhi
          refine ⟨r, ?_, h2⟩
          refine Ev.step (fun k => by rw [topo_distances.l2]) ?_
          refine Ev.pos (by omega) (Ev.pos (by omega) (Ev.pos (by omega) ?_))
          rw [rdI, hy, rd_gd, rd_gd, wrap_nat (by omega), set_nat]
          unfold push at h1
          have b1 := hh x hx
          refine Ev.pos (by omega) (Ev.pos (by omega) (Ev.ite_ (fun q => ?_) (fun q => ?_)))
          · simp only [if_pos q] at h1
            refine Ev.pos (by omega) (Ev.pos (by omega) (Ev.pos (by rw [toI_len]; omega) ?_))
            rw [wrap_id (by omega) (by omega), show toI w ++ [(y : Int)] = toI (w ++ [y]) by simp [toI]]
            exact h1
          · simp only [if_neg q] at h1
            exact h1
      obtain ⟨r, h1, h2⟩ := hI _ 0 [] d w (Nat.zero_add _) h.inner (fun i hi => by omega) (by omega) hhigh
      refine ⟨r, ?_, h2⟩
      refine Ev.step (fun k => by rw [topo_distances.l1]) ?_
      have e1 : rd (toI (x :: w)) 0 = (x : Int) := rfl
      have e2 : (toI (x :: w)).drop ((1 : Int)).toNat = toI w := rfl
      rw [e1, e2, rdL3]
      refine Ev.pos (by rw [toI_len, List.length_cons]; omega) (Ev.pos (by rw [toI_len, List.length_cons]; omega) (Ev.pos (by rw [toI_len, List.length_cons]; omega) (Ev.pos (by omega) (Ev.pos (by omega) h1))))
theorem fill_ok (hN : N ≤ 24) {x1 : Int} {r : List Int} (hr : Ev (fun k => if 0 ≤ x1 then (if x1 < ((List.replicate N (-1 : Int)).length : Int) then (topo_distances.l1 k next ((List.replicate N (-1 : Int)).set x1.toNat 0) [x1]) else none) else none) r) :
    ∀ d i, i + d = N → Ev (fun k => topo_distances.l0 k next x1 (List.replicate i (-1 : Int) ++ List.replicate d 0) (N : Int) i) r := by
  intro d
  induction d with
  | zero =>
    intro i hi
    refine Ev.step (fun k => by rw [topo_distances.l0]) ?_
    obtain rfl : i = N := by omega
    rw [List.replicate_zero, List.append_nil]
    exact Ev.neg (by omega) hr
  | succ d ih =>
    intro i hi
    refine Ev.step (fun k => by rw [topo_distances.l0]) ?_
    refine Ev.pos (by omega) (Ev.pos (by omega) (Ev.pos (by simp; omega) ?_))
    rw [wrap_nat (by omega), set_nat, fill_set]
    exact ih (i + 1) (by omega)
theorem negs_init (ha : a < N) : negs ((List.replicate N (-1 : Int)).set a 0) + 1 = N := by
  have := negs_set (c := List.replicate N (-1 : Int)) (x := a) (by simpa using ha) (by simp [gd, List.getD, ha]) (v := 0) (by omega)
  rw [this]
  simp [negs, List.countP_replicate]
theorem distances_ok (hR : Rows N next adj) (hN : N ≤ 24) (ha : a < N) : ∃ r, Ev (fun k => topo_distances.f k next a) r ∧ r.length = N ∧ IsDist N adj a (gd r) := by
  have hr : ∀ u v, adj u v → u < N ∧ v < N := fun u v q => ⟨(hR.all u v q).1, (hR.all u v q).2.1⟩
  have hn := negs_init ha
  have h0 : Outer N adj a ((List.replicate N (-1 : Int)).set a 0) [a] := Outer.init ha
  have g : ∀ j, gd ((List.replicate N (-1)).set a 0) j = if j = a then 0 else gd (List.replicate N (-1)) j := fun j => gd_set (by simpa using ha) _ j
  have gn : ∀ j, j < N → gd (List.replicate N (-1)) j = -1 := fun j hj => by simp [gd, List.getD, hj]
  obtain ⟨r, h1, h2⟩ := bfs_ok hR hN N _ _ hN h0 (by simp; omega) (fun z hz => by rw [g]; split
                                                                                  · omega
                                                                                  · rw [gn z hz]; omega)
  refine ⟨r, ?_, h2.len, h2.dist hr⟩
  unfold topo_distances.f
  have hnl := hR.len
  rw [hnl]
  refine Ev.pos (by omega) (Ev.pos (by omega) (Ev.some_bind ?_))
  rw [Int.toNat_natCast, List.length_replicate]
  have := fill_ok (next := next) (x1 := (a : Int)) hN (r := r) (Ev.pos (by omega) (Ev.pos (by simpa using ha) (by rw [set_nat]; exact h1))) N 0 (by omega)
  simpa using this
end
/-- The distances that the chapter determines. -/
theorem Valid.dist {a : Int} {l : List S37} (h : Valid a l) {x : Nat} (hx : x < a.toNat) : ∃ r, Ev (fun k => topo_distances.f k (nb a l) x) r ∧ r.length = a.toNat ∧ IsDist a.toNat (adjOf (es l)) x (gd r) :=
  distances_ok h.rows (by have := h.most; omega) hx
open Classical in
noncomputable def dst (a : Int) (l : List S37) (x : Nat) : List Int := if h : Valid a l ∧ x < a.toNat then Classical.choose (h.1.dist h.2) else []
/-! ### knows, Dist -/
def isNode (a x : Int) : Prop := 0 ≤ x ∧ x < a
instance (a x : Int) : Decidable (isNode a x) := by unfold isNode; infer_instance
theorem impl_knows (a : Int) (l : List S37) (x : Int) : Ev (fun k => topo_knows.f k a l x) (decide (chk a l = 0 ∧ isNode a x)) := by
  unfold topo_knows.f
  refine Ev.bind' _ (impl_check a l) (Ev.ite_ (fun h => Ev.ite_ (fun h1 => Ev.const ?_) (fun h1 => Ev.const ?_)) (fun h => Ev.const ?_))
  · simp only [h, isNode, true_and]
    congr 1
    by_cases q : x < a <;> simp [q] <;> omega
  · have : ¬ (chk a l = 0 ∧ isNode a x) := fun q => h1 q.2.1
    simp [this]
  · simp [h]
/-! ### The reference's rounds -/
/-- Numbers within bounds. -/
def Small (N c : Nat) (d : List Int) : Prop := d.length = N ∧ ∀ x, x < N → -1 ≤ gd d x ∧ gd d x ≤ c
theorem Small.upd {N c : Nat} {d : List Int} (h : Small N c d) {x y : Nat} (hx : x < N) (hy : y < N) : Small N (c + 1) (upd d x y) := by
  refine ⟨by simp [PB.upd, h.1], fun z hz => ?_⟩
  have h1 := h.2 z hz
  have h2 := h.2 y hy
  have h3 := h.2 x hx
  unfold PB.upd
  rw [gd_set (by rw [h.1]; exact hx)]
  split
  · unfold better
    split <;> omega
  · omega
theorem Small.relax {N c : Nat} {d : List Int} (h : Small N c d) {p : Nat × Nat} (hx : p.1 < N) (hy : p.2 < N) : Small N (c + 2) (relax d p) := (h.upd hx hy).upd hy hx
theorem ref_isNode (a : Int) (l : List S37) (x : Int) : timesyncref18_isNode.f a l x = some (decide (isNode a x)) := by
  unfold timesyncref18_isNode.f isNode
  by_cases h : x ≥ 0
  · simp [h]
  · simp [h] <;> omega
end Go.Proofs.Ythkpnkmbmlbefaa.PB

/- Peer and Ports: the program and the reference give the same. -/
namespace Go.Proofs.Ythkpnkmbmlbefaa.PB
open Go.RowKit Go.Proofs.Ythkpnkmbmlbefaa Go.Proofs.Ythkpnkmbmlbefaa.X Go.Proofs.YthkpnkmbmlbefaaW.PrintWords Go.Proofs.YthkpnkmbmlbefaaW.PrintLast
/-- What an edge's one end sees of its other end. -/
def sees (e : S37) (x p : Int) : Option (Int × Int) := if e.f0 = x ∧ e.f1 = p then some (e.f2, e.f3) else if e.f2 = x ∧ e.f3 = p then some (e.f0, e.f1) else none
def peerFrom (l : List S37) (x p : Int) : Nat → Nat → Int × Int × Bool
  | 0, _ => (0, 0, false)
  | d + 1, j => match sees (l.getD j z37) x p with
    | some q => (q.1, q.2, true)
    | none => peerFrom l x p d (j + 1)
def peer (a : Int) (l : List S37) (x p : Int) : Int × Int × Bool := if chk a l = 0 ∧ isNode a x then peerFrom l x p l.length 0 else (0, 0, false)
theorem impl_peer_l0 (l : List S37) (hn : l.length ≤ 64) (x p : Int) : ∀ d j, j + d = l.length → Ev (fun k => topo_Peer.l0 k x p l l.length j) (peerFrom l x p d j) := by
  intro d
  induction d with
  | zero =>
    intro j hj
    refine Ev.step (fun k => by rw [topo_Peer.l0]) ?_
    exact Ev.neg (by omega) (Ev.const rfl)
  | succ d ih =>
    intro j hj
    refine Ev.step (fun k => by rw [topo_Peer.l0]) ?_
    refine Ev.pos (by omega) (Ev.pos (by omega) (Ev.pos (by omega) ?_))
    rw [rd37, wrap_nat (by omega)]
    unfold topo_ends.f
    refine Ev.some_bind ?_
    dsimp only
    unfold peerFrom sees
    refine Ev.ite_ (fun q => ?_) (fun q => Ev.ite_ (fun q2 => ?_) (fun q2 => ?_))
    · have q' : (l.getD j z37).f0 = x ∧ (l.getD j z37).f1 = p := by simp at q; exact ⟨by simp; omega, by simp; omega⟩
      rw [if_pos q']; exact Ev.const rfl
    · have q' : ¬ ((l.getD j z37).f0 = x ∧ (l.getD j z37).f1 = p) := fun h => by simp at q h; omega
      have q2' : (l.getD j z37).f2 = x ∧ (l.getD j z37).f3 = p := by simp at q2; exact ⟨by simp; omega, by simp; omega⟩
      rw [if_neg q', if_pos q2']; exact Ev.const rfl
    · have q' : ¬ ((l.getD j z37).f0 = x ∧ (l.getD j z37).f1 = p) := fun h => by simp at q h; omega
      have q2' : ¬ ((l.getD j z37).f2 = x ∧ (l.getD j z37).f3 = p) := fun h => by simp at q2 h; omega
      rw [if_neg q', if_neg q2']; exact ih (j + 1) (by omega)
theorem impl_peer (a : Int) (l : List S37) (x p : Int) : Ev (fun k => topo_Peer.f k a l x p) (peer a l x p) := by
  unfold topo_Peer.f peer
  refine Ev.bind' _ (impl_knows a l x) (Ev.ite_ (fun h => ?_) (fun h => ?_))
  · have h := of_decide_eq_true h
    rw [if_pos h]
    have hv := chk_valid h.1
    exact impl_peer_l0 l hv.few x p l.length 0 (by omega)
  · rw [if_neg (by simpa using h)]; exact Ev.const rfl
theorem ref_peer_l0 (a : Int) (l : List S37) (hn : l.length ≤ 64) (x p : Int) : ∀ d j, j + d = l.length → Ev (fun k => timesyncref18_Peer.l0 k x p j a l) (peerFrom l x p d j) := by
  intro d
  induction d with
  | zero =>
    intro j hj
    refine Ev.step (fun k => by rw [timesyncref18_Peer.l0]) ?_
    exact Ev.neg (by omega) (Ev.const rfl)
  | succ d ih =>
    intro j hj
    have hnext := ih (j + 1) (by omega)
    have J : ∀ t : Bool, (t = true ↔ ((l.getD j z37).f0 = x ∧ (l.getD j z37).f1 = p)) → Ev (fun k => timesyncref18_Peer.j2 k x p j t a l (l.getD j z37).f0 (l.getD j z37).f1 (l.getD j z37).f2 (l.getD j z37).f3) (peerFrom l x p (d + 1) j) := fun t ht => by
      refine Ev.step (fun k => by rw [timesyncref18_Peer.j2]) ?_
      rw [wrap_nat (by omega)]
      unfold peerFrom sees
      refine Ev.ite_ (fun q => ?_) (fun q => ?_)
      · rw [if_pos (ht.1 q)]; exact Ev.const rfl
      · rw [if_neg (fun h => q (ht.2 h))]
        refine Ev.ite_ (fun q1 => Ev.ite_ (fun q2 => ?_) (fun q2 => ?_)) (fun q1 => ?_)
        · rw [if_pos ⟨q1, q2⟩]; exact Ev.const rfl
        · rw [if_neg (fun h => q2 h.2)]; exact hnext
        · rw [if_neg (fun h => q1 h.1)]; exact hnext
    refine Ev.step (fun k => by rw [timesyncref18_Peer.l0]) ?_
    rw [rd37]
    refine Ev.pos (by omega) (Ev.pos (by omega) (Ev.ite_ (fun q => J _ ?_) (fun q => J _ ?_)))
    · simp only [beq_iff_eq]; exact ⟨fun h => ⟨q, h⟩, fun h => h.2⟩
    · exact ⟨fun h => by simp at h, fun h => absurd h.1 q⟩
theorem ref_peer (a : Int) (l : List S37) (x p : Int) : Ev (fun k => timesyncref18_Peer.f k a l x p) (peer a l x p) := by
  unfold timesyncref18_Peer.f peer
  have T : Ev (fun k => timesyncref18_Peer.j0 k x p true a l) ((0, 0, false) : Int × Int × Bool) := by
    refine Ev.step (fun k => by rw [timesyncref18_Peer.j0]) ?_
    exact Ev.pos rfl (Ev.const rfl)
  refine Ev.bind' _ (ref_check a l) (Ev.ite_ (fun h => ?_) (fun h => ?_))
  · rw [ref_isNode]
    refine Ev.some_bind ?_
    by_cases hx : isNode a x
    · rw [if_pos ⟨h, hx⟩]
      have hv := chk_valid h
      refine Ev.step (fun k => by rw [timesyncref18_Peer.j0]) ?_
      exact Ev.neg (by simp [hx]) (ref_peer_l0 a l hv.few x p l.length 0 (by omega))
    · rw [if_neg (fun q => hx q.2)]
      simp only [hx, decide_false, Bool.not_false]
      exact T
  · rw [if_neg (fun q => h q.1)]; exact T
/-! ### Ports -/
def portsFrom (a : Int) (l : List S37) (x : Int) : Nat → Nat → List Int
  | 0, _ => []
  | d + 1, j => if (peer a l x j).2.2 = true then (j : Int) :: portsFrom a l x d (j + 1) else portsFrom a l x d (j + 1)
def ports (a : Int) (l : List S37) (x : Int) : List Int := portsFrom a l x 8 1
theorem impl_ports_l0 (a : Int) (l : List S37) (x : Int) : ∀ (d j : Nat) (acc : List Int), j + d = 9 → acc.length ≤ j → Ev (fun k => topo_Ports.l0 k x acc j a l) (acc ++ portsFrom a l x d j) := by
  intro d
  induction d with
  | zero =>
    intro j acc hj ha
    refine Ev.step (fun k => by rw [topo_Ports.l0]) ?_
    exact Ev.neg (by omega) (Ev.const (by simp [portsFrom]))
  | succ d ih =>
    intro j acc hj ha
    refine Ev.step (fun k => by rw [topo_Ports.l0]) ?_
    rw [wrap_nat (by omega)]
    unfold portsFrom
    refine Ev.pos (by omega) (Ev.bind' _ (impl_peer a l x j) (Ev.ite_ (fun q => Ev.pos (by omega) ?_) (fun q => ?_)))
    · rw [if_pos q]
      have := ih (j + 1) (acc ++ [(j : Int)]) (by omega) (by simp; omega)
      simpa using this
    · rw [if_neg q]
      exact ih (j + 1) acc (by omega) (by omega)
theorem ref_ports_l0 (a : Int) (l : List S37) (x : Int) : ∀ (d j : Nat) (acc : List Int), j + d = 9 → acc.length ≤ j → Ev (fun k => timesyncref18_Ports.l0 k x acc j a l) (acc ++ portsFrom a l x d j) := by
  intro d
  induction d with
  | zero =>
    intro j acc hj ha
    refine Ev.step (fun k => by rw [timesyncref18_Ports.l0]) ?_
    exact Ev.neg (by omega) (Ev.const (by simp [portsFrom]))
  | succ d ih =>
    intro j acc hj ha
    refine Ev.step (fun k => by rw [timesyncref18_Ports.l0]) ?_
    rw [wrap_nat (by omega)]
    unfold portsFrom
    refine Ev.pos (by omega) (Ev.bind' _ (ref_peer a l x j) (Ev.ite_ (fun q => Ev.pos (by omega) ?_) (fun q => ?_)))
    · rw [if_pos q]
      have := ih (j + 1) (acc ++ [(j : Int)]) (by omega) (by simp; omega)
      simpa using this
    · rw [if_neg q]
      exact ih (j + 1) acc (by omega) (by omega)
theorem impl_ports (a : Int) (l : List S37) (x : Int) : Ev (fun k => topo_Ports.f k a l x) (ports a l x) := by
  unfold topo_Ports.f
  have := impl_ports_l0 a l x 8 1 [] rfl (by simp)
  simpa [ports] using this
theorem ref_ports (a : Int) (l : List S37) (x : Int) : Ev (fun k => timesyncref18_Ports.f k a l x) (ports a l x) := by
  unfold timesyncref18_Ports.f
  have := ref_ports_l0 a l x 8 1 [] rfl (by simp)
  simpa [ports] using this
theorem portsFrom_len (a : Int) (l : List S37) (x : Int) : ∀ d j, (portsFrom a l x d j).length ≤ d
  | 0, _ => by simp [portsFrom]
  | d + 1, j => by
    unfold portsFrom
    have := portsFrom_len a l x d (j + 1)
    split
    · simp; omega
    · omega
end Go.Proofs.Ythkpnkmbmlbefaa.PB

/- The pure statement of TopoPorts: Peer and Ports give what the reference gives, for any graph, node and port. -/
namespace Go.Proofs.Ythkpnkmbmlbefaa.PureTopoPorts
open Go.RowKit Go.Proofs.Ythkpnkmbmlbefaa.X Go.Proofs.Ythkpnkmbmlbefaa.PB Go.Proofs.YthkpnkmbmlbefaaW.PrintWords Go.Proofs.YthkpnkmbmlbefaaW.PrintLast
theorem TopoPorts : ∀ (x0 : S24) (a1 : Int) (a2 : Int), WF24 x0 → WFi64 a1 → WFi64 a2 → ∃ k, timesynclaw18_TopoPorts.f k x0.f0 x0.f1 a1 a2 = some true := by
  intro x a b _ _ _
  refine Ev.rounds ?_
  unfold timesynclaw18_TopoPorts.f timesynclaw18_long.f
  refine Ev.some_bind (Ev.ite_ (fun _ => awake18') (fun _ => ?_))
  have hl := portsFrom_len x.f0 x.f1 a 8 1
  refine Ev.bind' _ (impl_peer x.f0 x.f1 a b) (Ev.bind' _ (ref_peer x.f0 x.f1 a b) (Ev.pos rfl (Ev.pos rfl (Ev.pos (by simp) (Ev.bind' _ (impl_ports x.f0 x.f1 a) (Ev.bind' _ (ref_ports x.f0 x.f1 a) (Ev.bind' _ (eq_true' _ (by unfold ports; omega)) (Ev.pos rfl awake18'))))))))
end Go.Proofs.Ythkpnkmbmlbefaa.PureTopoPorts

/- What an argument reads as, in the printed words: a type's reading gives cells of its kind, and bounds on the numbers. -/
namespace Go.Proofs.Ythkpnkmbmlbefaa.HO
open Go.RowKit Go.Proofs.YthkpnkmbmlbefaaW.PrintWords Go.Deep

structure Opens {α : Type} (P : Program) (t : TypeId) (d : Kd α) (B : α → Prop) : Prop where
  out : ∀ {H : Type} (enc : TypeId × Value → H) (w : World) (base : Nat) (spare : Nat → Bool) (held : Bool) (fuel : Nat) (cs : List Value) (x : DataW H × List MemPlace),
    DataW.trod enc P w base spare held fuel t cs = some x → ∃ a : α, d.K w a cs ∧ B a

theorem opens_int {P : Program} {t : TypeId} {k : IntKind} (ht : P.underlying t = some (.int k)) : Opens P t (Kd.int k) (fun n => (Lit.int k n).wf = true) := by
  constructor
  intro H enc w base spare held fuel cs x h
  obtain ⟨n, rfl, _, hw⟩ := DataW.trod_int ht h
  exact ⟨n, rfl, hw⟩
theorem opens_slice {α : Type} [Inhabited α] {P : Program} {t e : TypeId} {d : Kd α} {B : α → Prop} (he : Opens P e d B) (ht : P.underlying t = some (.slice e)) (hs : P.cellsOf e = d.sz) :
    Opens P t (Kd.slice e d) (fun xs => xs.length ≤ 9223372036854775807 ∧ ∀ x ∈ xs, B x) := by
  constructor
  intro H enc w base spare held fuel cs x h
  rcases open_slice ht h with ⟨rfl, _⟩ | ⟨a, len, cap, m, n, D, Pl, rfl, _, hl, hm, hmm, _, hx⟩
  · exact ⟨[], ⟨none, 0, rfl, Nat.le_refl _, rfl, by simp, fun h => by simp at h⟩, by simp, by simp⟩
  · have hlm : len ≤ m := by rw [hmm]; split <;> omega
    obtain ⟨X, hX⟩ := choose_lt (α := α) (n := len) (p := fun i x => B x ∧ ∃ c, c.length = d.sz ∧ d.K w x c ∧ ∀ j u, c[j]? = some u → w.cell? (a.add (i * d.sz + j)) = some u) (fun i hi => by
      obtain ⟨cs', h1, h2⟩ := hx i (Nat.lt_of_lt_of_le hi hlm)
      obtain ⟨x, hK, hB⟩ := he.out enc w base spare held n cs' _ h2
      refine ⟨x, hB, cs', d.K_len hK, hK, fun j u hj => ?_⟩
      obtain ⟨_, h4, h5⟩ := World.cells?_some h1
      have hj' : j < cs'.length := (List.getElem?_eq_some_iff.1 hj).1
      have h6 := h5 j (by rw [h4] at hj'; exact hj')
      rw [Go.Deep.add_add, hs] at h6
      rw [h6, hj])
    refine ⟨(List.range len).map X, ⟨some a, cap, by simp, by simpa using hl, by simp, ?_, fun h0 => ⟨a, rfl, fun j p hp => ?_⟩⟩, ?_, ?_⟩
    · have : cap ≤ 9223372036854775807 := by simpa [maxLen] using hm
      simp only [List.length_map, List.length_range]; omega
    · have hj : j < len := by
        have := (List.getElem?_eq_some_iff.1 hp).1
        simpa using this
      have : X j = p := by simpa [hj] using hp
      subst this
      obtain ⟨_, c, h1, h2, h3⟩ := hX j hj
      exact ⟨c, h1, h2, h3⟩
    · have : cap ≤ 9223372036854775807 := by simpa [maxLen] using hm
      simp only [List.length_map, List.length_range]; omega
    · intro x hx
      obtain ⟨j, hj, rfl⟩ := List.mem_map.1 hx
      exact (hX j (List.mem_range.1 hj)).1

/-- The fields from cell 'off' on. -/
structure OpF {α : Type} (P : Program) (off : Nat) (fs : List Field) (d : Kd α) (B : α → Prop) : Prop where
  out : ∀ {H : Type} (enc : TypeId × Value → H) (w : World) (base : Nat) (spare : Nat → Bool) (held : Bool) (n : Nat) (cs : List Value), cs.length = off + d.sz →
    (∀ f ∈ fs, ∃ y, DataW.trod enc P w base spare held n f.type ((cs.drop f.offset).take (P.cellsOf f.type)) = some y) → ∃ a : α, d.K w a (cs.drop off) ∧ B a
theorem opF_one {α : Type} {P : Program} {off : Nat} {f : Field} {d : Kd α} {B : α → Prop} (h : Opens P f.type d B) (ho : f.offset = off) (hs : P.cellsOf f.type = d.sz) : OpF P off [f] d B := by
  constructor
  intro H enc w base spare held n cs hl hf
  obtain ⟨y, hy⟩ := hf f (by simp)
  rw [ho, hs, List.take_of_length_le (by rw [List.length_drop]; omega)] at hy
  exact h.out enc w base spare held n _ _ hy
theorem opF_cons {α β : Type} {P : Program} {off : Nat} {f : Field} {fs : List Field} {d : Kd α} {d' : Kd β} {B : α → Prop} {B' : β → Prop} (h : Opens P f.type d B) (ho : f.offset = off) (hs : P.cellsOf f.type = d.sz) (hr : OpF P (off + d.sz) fs d' B') :
    OpF P off (f :: fs) (Kd.pair d d') (fun p => B p.1 ∧ B' p.2) := by
  constructor
  intro H enc w base spare held n cs hl hf
  obtain ⟨y, hy⟩ := hf f (by simp)
  rw [ho, hs] at hy
  have hl' : cs.length = off + (d.sz + d'.sz) := hl
  obtain ⟨a, hK, hB⟩ := h.out enc w base spare held n _ _ hy
  obtain ⟨b, hK', hB'⟩ := hr.out enc w base spare held n cs (by omega) (fun g hg => hf g (by simp [hg]))
  refine ⟨(a, b), ⟨(cs.drop off).take d.sz, cs.drop (off + d.sz), ?_, hK, hK'⟩, hB, hB'⟩
  rw [← List.drop_drop]
  exact (List.take_append_drop _ _).symm
theorem opens_struct {α β : Type} {P : Program} {t : TypeId} {fs : Array Field} {d : Kd α} {B : α → Prop} (f : β → α) (g : α → β) (hfg : ∀ a, f (g a) = a) (h : OpF P 0 fs.toList d B) (ht : P.underlying t = some (.struct fs)) (hs : P.cellsOf t = d.sz) :
    Opens P t (Kd.iso d f) (fun x => B (f x)) := by
  constructor
  intro H enc w base spare held fuel cs x hx
  obtain ⟨xs, n, _, _, hl, hlen, hf⟩ := DataW.trod_struct ht hx
  obtain ⟨a, hK, hB⟩ := h.out enc w base spare held n cs (by omega) (fun q hq => by
    obtain ⟨i, hi⟩ := List.mem_iff_getElem?.1 hq
    have hi' : fs[i]? = some q := by simpa using hi
    have hlt : i < xs.length := by
      have := (Array.getElem?_eq_some_iff.1 hi').1
      omega
    exact ⟨xs[i], by rw [hf i q hi', List.getElem?_eq_getElem hlt]⟩)
  refine ⟨g a, ?_, by show B (f (g a)); rw [hfg]; exact hB⟩
  show d.K w (f (g a)) cs
  rw [hfg]
  exact hK
end Go.Proofs.Ythkpnkmbmlbefaa.HO

/- The row of TopoPorts: for every input the law returns true, and each argument reads as it read before: out of its pure statement (YthkpnkmbmlbefaaPureTopoPorts) and the printed walk. No condition. -/
namespace Go.Proofs.Ythkpnkmbmlbefaa.topoPorts
open Go.ChangeShapes Go.WideShapes Go.ChangeAt Go.RowKit Go.Proofs.Ythkpnkmbmlbefaa.X Go.Proofs.YthkpnkmbmlbefaaW.PrintWords
open Go.ChangeMaps (open_string shut_string)
set_option linter.unusedVariables false
theorem own : ownKnob Try.prog.godebug = none := by kernel_rfl
theorem laidOut : laidOutB Try.prog = true := by kernel_rfl
theorem opens3 : HO.Opens Try.prog 3 (Kd.int .i64) WFi64 := HO.opens_int Try.underlying3
theorem opens37 : HO.Opens Try.prog 37 k37 WF37 := HO.opens_struct (d := (Kd.pair (Kd.int .i64) (Kd.pair (Kd.int .i64) (Kd.pair (Kd.int .i64) (Kd.int .i64))))) (B := fun p => WFi64 p.1 ∧ WFi64 p.2.1 ∧ WFi64 p.2.2.1 ∧ WFi64 p.2.2.2) (fun x : S37 => (x.f0, x.f1, x.f2, x.f3)) (fun p => (⟨p.1, p.2.1, p.2.2.1, p.2.2.2⟩ : S37)) (fun _ => rfl) (HO.opF_cons (B := WFi64) (B' := (fun p : (Int) × (Int) × (Int) => WFi64 p.1 ∧ WFi64 p.2.1 ∧ WFi64 p.2.2)) opens3 rfl (by kernel_rfl) (HO.opF_cons (B := WFi64) (B' := (fun p : (Int) × (Int) => WFi64 p.1 ∧ WFi64 p.2)) opens3 rfl (by kernel_rfl) (HO.opF_cons (B := WFi64) (B' := WFi64) opens3 rfl (by kernel_rfl) (HO.opF_one opens3 rfl (by kernel_rfl))))) Try.underlying37 (by kernel_rfl)
theorem opens22 : HO.Opens Try.prog 22 (Kd.slice 37 k37) WFL37 := haveI : Inhabited S37 := ⟨z37⟩; HO.opens_slice opens37 Try.underlying22 (by kernel_rfl)
theorem opens24 : HO.Opens Try.prog 24 k24 WF24 := HO.opens_struct (d := (Kd.pair (Kd.int .i64) (Kd.slice 37 k37))) (B := fun p => WFi64 p.1 ∧ WFL37 p.2) (fun x : S24 => (x.f0, x.f1)) (fun p => (⟨p.1, p.2⟩ : S24)) (fun _ => rfl) (HO.opF_cons (B := WFi64) (B' := WFL37) opens3 rfl (by kernel_rfl) (HO.opF_one opens22 rfl (by kernel_rfl))) Try.underlying24 (by kernel_rfl)
set_option maxRecDepth 100000 in
theorem lifted (os : Os) (started : os.Started) (H : Type) (enc : TypeId × Value → H) :
    ReturnsInHanded {} Try.checked os 9 .any (Rows.topoPortsSpec.pre6 enc Try.prog Try.f9 Rows.topoPortsRow.domain false) (Rows.topoPortsSpec.post enc Try.prog Try.f9 false true false false) := by
  refine returnsInHanded_of_change_sized (C := Try.checked) own started (by kernel_rfl) Try.func9
    (ChangeSpec.witness6 (enc := enc) (C := Try.checked) false ⟨#[], #[.agg #[.int .i64 0, .slice none 0 0], .int .i64 0, .int .i64 0], []⟩ 8 (by kernel_rfl) (by kernel_rfl) (by kernel_rfl) (by kernel_rfl)) ?_
  intro W base args ds gs before hval0 hW hcnd hsz0 _
  have hval : ∀ (j : Nat) t v, Try.f9.params[j]? = some t → args[j]? = some v → Value.okWide Try.prog W .any base t v := hval0
  have hW' := hW
  obtain ⟨p, q, hA0, hV, rfl, hfz, hnd⟩ := hW
  have hA : DataW.TrodAll enc Try.prog W 0 (fun _ => true) true Try.f9.params.toList args.toList ds p := hA0
  rw [Try.params9] at hA hval
  obtain ⟨v0, vs0, d0, ds0, p0, q0, hargs, rfl, rfl, h0, r0⟩ := trodAll_cons hA
  obtain ⟨v1, vs1, d1, ds1, p1, q1, rfl, rfl, rfl, h1, r1⟩ := trodAll_cons r0
  obtain ⟨v2, vs2, d2, ds2, p2, q2, rfl, rfl, rfl, h2, r2⟩ := trodAll_cons r1
  obtain ⟨rfl, rfl, rfl⟩ := trodAll_nil r2
  obtain rfl : args = #[v0, v1, v2] := by cases args; simp_all
  obtain ⟨rfl, rfl⟩ := trodVars_none hV
  have k0 := h0
  have lt0 : ∀ x ∈ p0, x.block < W.heap.size := by obtain ⟨m, hm⟩ := k0; exact DataW.trod_lt m _ _ _ hm
  obtain ⟨fuel0, hf0⟩ := h0
  obtain ⟨x0, K0, B0⟩ := opens24.out enc W 0 _ true fuel0 _ _ hf0
  obtain ⟨cs0, rfl, hs0⟩ := okWide_struct Try.underlying24 (hval 0 24 v0 rfl rfl)
  obtain ⟨A0_1, c0_1, e0, hc0_1, hr0_1⟩ := k24_open K0
  obtain ⟨cl0⟩ := cs0
  simp only [Value.cells] at e0
  subst e0
  obtain ⟨a1, rfl, rfl, rfl, w1⟩ := open_int Try.underlying3 (hval 1 3 v1 rfl rfl) h1
  obtain ⟨a2, rfl, rfl, rfl, w2⟩ := open_int Try.underlying3 (hval 2 3 v2 rfl rfl) h2
  clear hA0 hval0 hsz0
  obtain ⟨k, hp⟩ := PureTopoPorts.TopoPorts x0 a1 a2 B0 w1 w2
  refine (timesynclaw18_TopoPorts.calls k x0.f0 _ _ x0.f1 a1 a2 true W hr0_1 hc0_1 hp).mono fun e W' ⟨he, bel0⟩ => ?_
  have bel := bel0
  subst he
  exact ⟨_, rfl, _, _, _, [], _, [], hW', trodAll_mk1 (shut_bool Try.underlying4 _), (trodAll_cons_mk (Below.trod laidOut (by kernel_rfl) (of_decide_eq_true (by kernel_rfl)) k0 bel lt0) (trodAll_cons_mk (shut_int Try.underlying3 w1) (trodAll_cons_mk (shut_int Try.underlying3 w2) trodAll_mk0))), rfl, bel.frame _, fun h => by cases h⟩
theorem over : Rows.topoPortsRow.holds Try.pinned (OpenSpec.ofChange Rows.topoPortsSpec) :=
  OpenClaim.holds_of_wide 9 Try.f9 rfl rfl rfl rfl rfl rfl rfl ⟨rfl, rfl, rfl, rfl, rfl⟩ rfl rfl rfl rfl rfl (by kernel_rfl) Try.func9 (by kernel_rfl)
    (of_decide_eq_true (by kernel_rfl)) (by unfold Func.isWrapper; first | (rw [if_pos (by decide +kernel)]; kernel_rfl) | (rw [if_neg (by decide +kernel)]; exact ⟨rfl, rfl⟩))
    (fun os started H enc _ => lifted os started H enc)
#print axioms over
end Go.Proofs.Ythkpnkmbmlbefaa.topoPorts
namespace Go.Proofs.Ythkpnkmbmlbefaa
/-- The row of TopoPorts. -/
theorem topoPorts_holds : Rows.TopoPortsSaid := topoPorts.over
end Go.Proofs.Ythkpnkmbmlbefaa
