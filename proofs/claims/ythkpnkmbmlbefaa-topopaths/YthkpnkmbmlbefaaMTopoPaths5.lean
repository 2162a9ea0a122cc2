/- Ythkpnkmbmlbefaa: part 5 of 7 of the proof that the law TopoPaths returns true for every input, its arguments reading as before. No condition. -/
import Derived.Test.YthkpnkmbmlbefaaMTopoPaths1
import Derived.Test.YthkpnkmbmlbefaaMTopoPaths4
namespace Go.Proofs.Ythkpnkmbmlbefaa.X
open Go.RowKit Go.Proofs.YthkpnkmbmlbefaaW.PrintWords Go.Proofs.YthkpnkmbmlbefaaW.PrintLast Go.Proofs.YthkpnkmbmlbefaaW.PrintMore
attribute [local go_sem] max2_int min2_int max_two min_two max_three min_three max_four min_four   -- for this text's walks alone
set_option linter.unusedVariables false
set_option linter.unusedSimpArgs false

/-! ### timesyncref18_Check: function 18 -/
mutual
def timesyncref18_Check.j0 : Nat → Bool → Int → List (S37) → Option (Int)
 | 0, _, _, _ => none
 | k + 1, x12, x225000, x225001 => if x12 = true then (some 3) else (if (x225001.length : Int) > 64 then (some 6) else (timesyncref18_Check.l0 k 0 x225000 x225001))
def timesyncref18_Check.l0 : Nat → Int → Int → List (S37) → Option (Int)
 | 0, _, _, _ => none
 | k + 1, x3, x225000, x225001 => if x3 < (x225001.length : Int) then (if 0 ≤ x3 then ((timesyncref18_isNode.f x225000 x225001 ((rd_T37 x225001 x3).f0)).bind fun t227 => (if t227 = true then ((timesyncref18_isNode.f x225000 x225001 ((rd_T37 x225001 x3).f2)).bind fun t228 => (if t228 = true then ((timesyncref18_isPort.f ((rd_T37 x225001 x3).f1)).bind fun t229 => (if t229 = true then ((timesyncref18_isPort.f ((rd_T37 x225001 x3).f3)).bind fun t230 => (timesyncref18_Check.j2 k x3 (!t230) x225000 x225001 ((rd_T37 x225001 x3).f0) ((rd_T37 x225001 x3).f1) ((rd_T37 x225001 x3).f2) ((rd_T37 x225001 x3).f3))) else (timesyncref18_Check.j2 k x3 true x225000 x225001 ((rd_T37 x225001 x3).f0) ((rd_T37 x225001 x3).f1) ((rd_T37 x225001 x3).f2) ((rd_T37 x225001 x3).f3)))) else (timesyncref18_Check.j2 k x3 true x225000 x225001 ((rd_T37 x225001 x3).f0) ((rd_T37 x225001 x3).f1) ((rd_T37 x225001 x3).f2) ((rd_T37 x225001 x3).f3)))) else (timesyncref18_Check.j2 k x3 true x225000 x225001 ((rd_T37 x225001 x3).f0) ((rd_T37 x225001 x3).f1) ((rd_T37 x225001 x3).f2) ((rd_T37 x225001 x3).f3)))) else (none)) else (some 0)
def timesyncref18_Check.j2 : Nat → Int → Bool → Int → List (S37) → Int → Int → Int → Int → Option (Int)
 | 0, _, _, _, _, _, _, _, _ => none
 | k + 1, x3, x52, x225000, x225001, x227000, x227001, x227002, x227003 => if x52 = true then (some 3) else (if x227000 = x227002 then (some 18) else ((timesyncref18_used.f k x225000 x225001 x3 x227000 x227001).bind fun t231 => (if t231 = true then (some 10) else ((timesyncref18_used.f k x225000 x225001 x3 x227002 x227003).bind fun t232 => (if t232 = true then (some 10) else (timesyncref18_Check.l0 k (wrap64 (x3 + 1)) x225000 x225001))))))
end
def timesyncref18_Check.f (k : Nat) (a0_0 : Int) (l0_1 : List (S37)) : Option (Int) := if a0_0 < 1 then (timesyncref18_Check.j0 k true a0_0 l0_1) else (timesyncref18_Check.j0 k (decide (a0_0 > 24)) a0_0 l0_1)
set_option maxHeartbeats 8000000 in
set_option maxRecDepth 100000 in
theorem timesyncref18_Check.calls (k : Nat) (a0_0 : Int) (A0_1 : Option Addr) (c0_1 : Nat) (l0_1 : List (S37)) (r : Int) (w : World) (hr0_1 : Kd.C k37 w A0_1 l0_1.length l0_1) (hc0_1 : l0_1.length ≤ c0_1) (h : timesyncref18_Check.f k a0_0 l0_1 = some r) :
  Calls Try.prog 18 #[.agg #[.int .i64 a0_0, .slice A0_1 l0_1.length c0_1]] w fun e w' => e = .returned (.int .i64 r) ∧ Below w.heap.size w w' := by
 have hu24 := Try.underlying24
 have hu37 := Try.underlying37
 have HR0_1 := Aside0.mk hr0_1
 have HC0_1 := Aside0.mk hc0_1
 clear hr0_1 hc0_1
 have HB := Aside0.mk (Below.refl w.heap.size w)
 have H : (if a0_0 < 1 then (timesyncref18_Check.j0 k true a0_0 l0_1) else (timesyncref18_Check.j0 k (decide (a0_0 > 24)) a0_0 l0_1)) = some r := h
 clear h
 have HC2 := Aside0.mk H
 clear H
 go_enter Try.func18, Try.ntmps18
 go_upto_region 1 with (first | ((with_reducible refine gate_dst (N := 1) rfl ?_); refine box_event ?hg (N := 1) ?hd (cs := #[.int .i64 a0_0, .slice A0_1 l0_1.length c0_1]) (t := 24) ?hr ?_; (case hd => rfl); (case hg => rfl); (case hr => first | (go_simp; done) | (go_simp; rfl)); intro gb224 hg w3 hbox hb; have n0_ := Aside0.mk (below_step (by exact HB.out) hb); have n1_ := Aside0.mk (hbox); have n2_ := Aside0.mk ((by rw [hg]; exact (below_size (by exact HB.out)) : w.heap.size ≤ gb224)); have n3_ := Aside0.mk ((by rw [hg]; exact (below_size (by exact HB.out)) : w.heap.size ≤ gb224)); clear HB; have HB := n0_; have BK224 := n1_; have GW224 := n2_; have GE224 := n3_; clear n0_ n1_ n2_ n3_; clear hb hbox hg))
 (try simp only [Act.put, List.setIfInBounds_toArray, List.set_cons_zero, List.set_cons_succ])
 go_cut [12] (fun v12 wc => ∃ (kq : Nat) (x12_1 : Bool), v12 = .bool x12_1 ∧ Aside0 (timesyncref18_Check.j0 kq x12_1 a0_0 l0_1 = some r) ∧ Aside0 (kq ≤ k) ∧ Aside0 (wc.heap[gb224]? = some (.cells #[.int .i64 a0_0, (.slice A0_1 l0_1.length c0_1)] 24 (0, 0))) ∧ Aside0 (Below w.heap.size w wc))
 case first =>
  have H := HC2.out
  clear HC2
  by_cases c4 : a0_0 < 1
  ·rw [if_pos c4] at H
   have c4b0 : decide (a0_0 < 1) = true := decide_eq_true c4
   clear c4
   (first | rw [c4b0] | (simp only [i64_w, i32_w]; rw [c4b0]) | skip)
   have H' := Aside0.mk H
   clear H
   have hcz5_0 : w3.cell? ⟨gb224, 0, none⟩ = some (.int .i64 a0_0) := (blk_cell BK224.out 0).trans rfl
   have hcz5_1 : w3.cell? ⟨gb224, 1, none⟩ = some (.slice A0_1 l0_1.length c0_1) := (blk_cell BK224.out 1).trans rfl
   have hfz5_0 := blk_frozen BK224.out 0
   have hfz5_1 := blk_frozen BK224.out 1
   go_wp2
   go_meet
   case rel => exact ⟨_, (true), (by first | rfl | (simp; done) | (simp [*]; done)), H', ⟨by first | omega | exact Nat.le_refl _⟩, ⟨by exact BK224.out⟩, ⟨by exact HB.out⟩⟩
  ·rw [if_neg c4] at H
   have c4b0 : decide (a0_0 < 1) = false := decide_eq_false c4
   clear c4
   (first | rw [c4b0] | (simp only [i64_w, i32_w]; rw [c4b0]) | skip)
   have H' := Aside0.mk H
   clear H
   have hcz6_0 : w3.cell? ⟨gb224, 0, none⟩ = some (.int .i64 a0_0) := (blk_cell BK224.out 0).trans rfl
   have hcz6_1 : w3.cell? ⟨gb224, 1, none⟩ = some (.slice A0_1 l0_1.length c0_1) := (blk_cell BK224.out 1).trans rfl
   have hfz6_0 := blk_frozen BK224.out 0
   have hfz6_1 := blk_frozen BK224.out 1
   go_wp2
   go_meet
   case rel => exact ⟨_, (decide (a0_0 > 24)), (by first | rfl | (simp; done) | (simp [*]; done)), H', ⟨by first | omega | exact Nat.le_refl _⟩, ⟨by exact BK224.out⟩, ⟨by exact HB.out⟩⟩
 case rest =>
  clear HC2












  obtain ⟨kq, x12_1, rfl, HA, HJ1, BK224, HB⟩ := hcut
  cases kq with
  | zero => exact absurd HA.out (by simp [timesyncref18_Check.j0])
  | succ kj1 =>
   have H := HA.out
   clear HA
   simp only [timesyncref18_Check.j0] at H
   by_cases c7 : x12_1 = true
   ·subst c7
    have H1 : (some 3) = some r := by rw [if_pos rfl] at H; exact H
    clear H
    have H := H1
    clear H1
    obtain rfl := Option.some.inj H
    go_wp2
    go_ret
    exact ⟨by first | rfl | (simp [errW_none, errW_some] <;> rfl) | (simp [*, errW_none, errW_some] <;> rfl), by exact HB.out⟩
   ·replace c7 := Bool.eq_false_iff.mpr c7
    subst c7
    have H1 : (if (l0_1.length : Int) > 64 then (some 6) else (timesyncref18_Check.l0 kj1 0 a0_0 l0_1)) = some r := by rw [if_neg (show ¬ (false = true) by decide)] at H; exact H
    clear H
    have H := H1
    clear H1
    by_cases c8 : (l0_1.length : Int) > 64
    ·rw [if_pos c8] at H
     have c8b0 : decide (64 < (l0_1.length : Int)) = true := decide_eq_true c8
     have c8b1 : decide (64 < l0_1.length) = true := decide_eq_true (by omega)
     clear c8
     obtain rfl := Option.some.inj H
     have hcz9_0 : wc.cell? ⟨gb224, 0, none⟩ = some (.int .i64 a0_0) := (blk_cell BK224.out 0).trans rfl
     have hcz9_1 : wc.cell? ⟨gb224, 1, none⟩ = some (.slice A0_1 l0_1.length c0_1) := (blk_cell BK224.out 1).trans rfl
     have hfz9_0 := blk_frozen BK224.out 0
     have hfz9_1 := blk_frozen BK224.out 1
     go_wp2
     go_ret
     exact ⟨by first | rfl | (simp [errW_none, errW_some] <;> rfl) | (simp [*, errW_none, errW_some] <;> rfl), by exact HB.out⟩
    ·rw [if_neg c8] at H
     have c8b0 : decide (64 < (l0_1.length : Int)) = false := decide_eq_false c8
     have c8b1 : decide (64 < l0_1.length) = false := decide_eq_false (by omega)
     clear c8
     have H' := Aside0.mk H
     clear H
     have hcz10_0 : wc.cell? ⟨gb224, 0, none⟩ = some (.int .i64 a0_0) := (blk_cell BK224.out 0).trans rfl
     have hcz10_1 : wc.cell? ⟨gb224, 1, none⟩ = some (.slice A0_1 l0_1.length c0_1) := (blk_cell BK224.out 1).trans rfl
     have hfz10_0 := blk_frozen BK224.out 0
     have hfz10_1 := blk_frozen BK224.out 1
     go_wp2
     go_loopg [3] kj1 (fun kq v3 w' => ∃ (x3_2 : Int), v3 = .int .i64 x3_2 ∧ Aside0 (timesyncref18_Check.l0 kq x3_2 a0_0 l0_1 = some r) ∧ Aside0 (kq ≤ kj1) ∧ Aside0 (w'.heap[gb224]? = some (.cells #[.int .i64 a0_0, (.slice A0_1 l0_1.length c0_1)] 24 (0, 0))) ∧ Aside0 (Below w.heap.size w w'))
     case atStart => exact ⟨(0), (by first | rfl | (simp; done) | (simp [*]; done)), H', ⟨Nat.le_refl _⟩, ⟨by exact BK224.out⟩, ⟨by exact HB.out⟩⟩
     case round =>
      clear H'

























      obtain ⟨x3_2, rfl, HA, HK2, BK224, HB⟩ := hrel
      cases gk with
      | zero => exact absurd HA.out (by simp [timesyncref18_Check.l0])
      | succ k2 =>
       have H := HA.out
       clear HA
       simp only [timesyncref18_Check.l0] at H
       by_cases c11 : x3_2 < (l0_1.length : Int)
       ·rw [if_pos c11] at H
        have c11b0 : decide (x3_2 < (l0_1.length : Int)) = true := decide_eq_true c11
        clear c11
        by_cases c12 : 0 ≤ x3_2
        ·rw [if_pos c12] at H
         have c12b0 : decide (0 ≤ x3_2) = true := decide_eq_true c12
         clear c12
         have HC13 := Aside0.mk H
         clear H
         have hcz14_0 : wr.cell? ⟨gb224, 0, none⟩ = some (.int .i64 a0_0) := (blk_cell BK224.out 0).trans rfl
         have hcz14_1 : wr.cell? ⟨gb224, 1, none⟩ = some (.slice A0_1 l0_1.length c0_1) := (blk_cell BK224.out 1).trans rfl
         have hfz14_0 := blk_frozen BK224.out 0
         have hfz14_1 := blk_frozen BK224.out 1
         have p225 : 0 ≤ (x3_2 : Int) := of_decide_eq_true (by first | (with_reducible assumption) | assumption)
         have q225 : x3_2 < (l0_1.length : Int) := of_decide_eq_true (by first | (with_reducible assumption) | assumption)
         obtain ⟨ad225, e225, hx225_0, hx225_1, hx225_2, hx225_3⟩ := at_T37 HR0_1.out x3_2 p225 q225
         cases e225
         try replace hx225_0 := (HB.out.cell (World.block_lt_of_cell? w _ hx225_0)).trans hx225_0
         try replace hx225_1 := (HB.out.cell (World.block_lt_of_cell? w _ hx225_1)).trans hx225_1
         try replace hx225_2 := (HB.out.cell (World.block_lt_of_cell? w _ hx225_2)).trans hx225_2
         try replace hx225_3 := (HB.out.cell (World.block_lt_of_cell? w _ hx225_3)).trans hx225_3
         replace p225 := eq_true p225
         replace q225 := eq_true q225
         go_upto_region 9 with (first | ((with_reducible refine gate_dst (N := 4) rfl ?_); refine box_event ?hg (N := 4) ?hd (cs := #[.int .i64 0, .int .i64 0, .int .i64 0, .int .i64 0]) (t := 37) ?hr ?_; (case hd => rfl); (case hg => rfl); (case hr => first | (go_simp; done) | (go_simp; rfl)); intro gb226 hg w15 hbox hb; have n0_ := Aside0.mk (blk_below (g := gb224) (o := .cells #[.int .i64 a0_0, .slice (some ad225) l0_1.length c0_1] 24 (0, 0)) (by exact BK224.out) hb); have n1_ := Aside0.mk (below_step (by exact HB.out) hb); have n2_ := Aside0.mk (hbox); have n3_ := Aside0.mk ((by rw [hg]; exact (below_size (by exact HB.out)) : w.heap.size ≤ gb226)); have n4_ := Aside0.mk ((by rw [hg]; exact (below_size (by exact HB.out)) : w.heap.size ≤ gb226)); have n5_ := Aside0.mk ((by rw [hg]; exact Nat.ne_of_lt (blk_lt (g := gb224) (o := .cells #[.int .i64 a0_0, .slice (some ad225) l0_1.length c0_1] 24 (0, 0)) (by exact BK224.out)) : gb224 ≠ gb226)); have n6_ := Aside0.mk ((by rw [hg]; exact Nat.ne_of_gt (blk_lt (g := gb224) (o := .cells #[.int .i64 a0_0, .slice (some ad225) l0_1.length c0_1] 24 (0, 0)) (by exact BK224.out)) : gb226 ≠ gb224)); clear BK224; clear HB; have BK224 := n0_; have HB := n1_; have BK226 := n2_; have GW226 := n3_; have GE226 := n4_; have NB224_226 := n5_; have NB226_224 := n6_; clear n0_ n1_ n2_ n3_ n4_ n5_ n6_; clear hb hbox hg; have hnb16 := NB226_224.out; have hnc16 := NB224_226.out; have hcz17_0 : w15.cell? ⟨gb226, 0, none⟩ = some (.int .i64 0) := (blk_cell BK226.out 0).trans rfl; have hcz17_1 : w15.cell? ⟨gb226, 1, none⟩ = some (.int .i64 0) := (blk_cell BK226.out 1).trans rfl; have hcz17_2 : w15.cell? ⟨gb226, 2, none⟩ = some (.int .i64 0) := (blk_cell BK226.out 2).trans rfl; have hcz17_3 : w15.cell? ⟨gb226, 3, none⟩ = some (.int .i64 0) := (blk_cell BK226.out 3).trans rfl; have hfz17_0 := blk_frozen BK226.out 0; have hfz17_1 := blk_frozen BK226.out 1; have hfz17_2 := blk_frozen BK226.out 2; have hfz17_3 := blk_frozen BK226.out 3))
         (try simp only [Act.put, List.setIfInBounds_toArray, List.set_cons_zero, List.set_cons_succ])
         go_cut [52] (fun v52 wc => ∃ (kq : Nat) (x52_12 : Bool), v52 = .bool x52_12 ∧ Aside0 (timesyncref18_Check.j2 kq x3_2 x52_12 a0_0 l0_1 ((rd_T37 l0_1 x3_2).f0) ((rd_T37 l0_1 x3_2).f1) ((rd_T37 l0_1 x3_2).f2) ((rd_T37 l0_1 x3_2).f3) = some r) ∧ Aside0 (kq ≤ k2) ∧ Aside0 (wc.heap[gb224]? = some (.cells #[.int .i64 a0_0, (.slice (some ad225) l0_1.length c0_1)] 24 (0, 0))) ∧ Aside0 (wc.heap[gb226]? = some (.cells #[.int .i64 ((rd_T37 l0_1 x3_2).f0), .int .i64 ((rd_T37 l0_1 x3_2).f1), .int .i64 ((rd_T37 l0_1 x3_2).f2), .int .i64 ((rd_T37 l0_1 x3_2).f3)] 37 (0, 0))) ∧ Aside0 (Below w.heap.size w wc))
         case first =>
          have H := HC13.out
          clear HC13
          replace H := Option.bind_eq_some_iff.mp H
          obtain ⟨t227, A180, H⟩ := H
          replace H : (if t227 = true then ((timesyncref18_isNode.f a0_0 l0_1 ((rd_T37 l0_1 x3_2).f2)).bind fun t228 => (if t228 = true then ((timesyncref18_isPort.f ((rd_T37 l0_1 x3_2).f1)).bind fun t229 => (if t229 = true then ((timesyncref18_isPort.f ((rd_T37 l0_1 x3_2).f3)).bind fun t230 => (timesyncref18_Check.j2 k2 x3_2 (!t230) a0_0 l0_1 ((rd_T37 l0_1 x3_2).f0) ((rd_T37 l0_1 x3_2).f1) ((rd_T37 l0_1 x3_2).f2) ((rd_T37 l0_1 x3_2).f3))) else (timesyncref18_Check.j2 k2 x3_2 true a0_0 l0_1 ((rd_T37 l0_1 x3_2).f0) ((rd_T37 l0_1 x3_2).f1) ((rd_T37 l0_1 x3_2).f2) ((rd_T37 l0_1 x3_2).f3)))) else (timesyncref18_Check.j2 k2 x3_2 true a0_0 l0_1 ((rd_T37 l0_1 x3_2).f0) ((rd_T37 l0_1 x3_2).f1) ((rd_T37 l0_1 x3_2).f2) ((rd_T37 l0_1 x3_2).f3)))) else (timesyncref18_Check.j2 k2 x3_2 true a0_0 l0_1 ((rd_T37 l0_1 x3_2).f0) ((rd_T37 l0_1 x3_2).f1) ((rd_T37 l0_1 x3_2).f2) ((rd_T37 l0_1 x3_2).f3))) = some r := H
          have A18 := Aside0.mk A180
          clear A180
          by_cases c19 : t227 = true
          ·subst c19
           have H1 : ((timesyncref18_isNode.f a0_0 l0_1 ((rd_T37 l0_1 x3_2).f2)).bind fun t228 => (if t228 = true then ((timesyncref18_isPort.f ((rd_T37 l0_1 x3_2).f1)).bind fun t229 => (if t229 = true then ((timesyncref18_isPort.f ((rd_T37 l0_1 x3_2).f3)).bind fun t230 => (timesyncref18_Check.j2 k2 x3_2 (!t230) a0_0 l0_1 ((rd_T37 l0_1 x3_2).f0) ((rd_T37 l0_1 x3_2).f1) ((rd_T37 l0_1 x3_2).f2) ((rd_T37 l0_1 x3_2).f3))) else (timesyncref18_Check.j2 k2 x3_2 true a0_0 l0_1 ((rd_T37 l0_1 x3_2).f0) ((rd_T37 l0_1 x3_2).f1) ((rd_T37 l0_1 x3_2).f2) ((rd_T37 l0_1 x3_2).f3)))) else (timesyncref18_Check.j2 k2 x3_2 true a0_0 l0_1 ((rd_T37 l0_1 x3_2).f0) ((rd_T37 l0_1 x3_2).f1) ((rd_T37 l0_1 x3_2).f2) ((rd_T37 l0_1 x3_2).f3)))) = some r := by rw [if_pos rfl] at H; exact H
           clear H
           have H := H1
           clear H1
           replace H := Option.bind_eq_some_iff.mp H
           obtain ⟨t228, A200, H⟩ := H
           replace H : (if t228 = true then ((timesyncref18_isPort.f ((rd_T37 l0_1 x3_2).f1)).bind fun t229 => (if t229 = true then ((timesyncref18_isPort.f ((rd_T37 l0_1 x3_2).f3)).bind fun t230 => (timesyncref18_Check.j2 k2 x3_2 (!t230) a0_0 l0_1 ((rd_T37 l0_1 x3_2).f0) ((rd_T37 l0_1 x3_2).f1) ((rd_T37 l0_1 x3_2).f2) ((rd_T37 l0_1 x3_2).f3))) else (timesyncref18_Check.j2 k2 x3_2 true a0_0 l0_1 ((rd_T37 l0_1 x3_2).f0) ((rd_T37 l0_1 x3_2).f1) ((rd_T37 l0_1 x3_2).f2) ((rd_T37 l0_1 x3_2).f3)))) else (timesyncref18_Check.j2 k2 x3_2 true a0_0 l0_1 ((rd_T37 l0_1 x3_2).f0) ((rd_T37 l0_1 x3_2).f1) ((rd_T37 l0_1 x3_2).f2) ((rd_T37 l0_1 x3_2).f3))) = some r := H
           have A20 := Aside0.mk A200
           clear A200
           by_cases c21 : t228 = true
           ·subst c21
            have H1 : ((timesyncref18_isPort.f ((rd_T37 l0_1 x3_2).f1)).bind fun t229 => (if t229 = true then ((timesyncref18_isPort.f ((rd_T37 l0_1 x3_2).f3)).bind fun t230 => (timesyncref18_Check.j2 k2 x3_2 (!t230) a0_0 l0_1 ((rd_T37 l0_1 x3_2).f0) ((rd_T37 l0_1 x3_2).f1) ((rd_T37 l0_1 x3_2).f2) ((rd_T37 l0_1 x3_2).f3))) else (timesyncref18_Check.j2 k2 x3_2 true a0_0 l0_1 ((rd_T37 l0_1 x3_2).f0) ((rd_T37 l0_1 x3_2).f1) ((rd_T37 l0_1 x3_2).f2) ((rd_T37 l0_1 x3_2).f3)))) = some r := by rw [if_pos rfl] at H; exact H
            clear H
            have H := H1
            clear H1
            replace H := Option.bind_eq_some_iff.mp H
            obtain ⟨t229, A220, H⟩ := H
            replace H : (if t229 = true then ((timesyncref18_isPort.f ((rd_T37 l0_1 x3_2).f3)).bind fun t230 => (timesyncref18_Check.j2 k2 x3_2 (!t230) a0_0 l0_1 ((rd_T37 l0_1 x3_2).f0) ((rd_T37 l0_1 x3_2).f1) ((rd_T37 l0_1 x3_2).f2) ((rd_T37 l0_1 x3_2).f3))) else (timesyncref18_Check.j2 k2 x3_2 true a0_0 l0_1 ((rd_T37 l0_1 x3_2).f0) ((rd_T37 l0_1 x3_2).f1) ((rd_T37 l0_1 x3_2).f2) ((rd_T37 l0_1 x3_2).f3))) = some r := H
            have A22 := Aside0.mk A220
            clear A220
            by_cases c23 : t229 = true
            ·subst c23
             have H1 : ((timesyncref18_isPort.f ((rd_T37 l0_1 x3_2).f3)).bind fun t230 => (timesyncref18_Check.j2 k2 x3_2 (!t230) a0_0 l0_1 ((rd_T37 l0_1 x3_2).f0) ((rd_T37 l0_1 x3_2).f1) ((rd_T37 l0_1 x3_2).f2) ((rd_T37 l0_1 x3_2).f3))) = some r := by rw [if_pos rfl] at H; exact H
             clear H
             have H := H1
             clear H1
             replace H := Option.bind_eq_some_iff.mp H
             obtain ⟨t230, A240, H⟩ := H
             replace H : (timesyncref18_Check.j2 k2 x3_2 (!t230) a0_0 l0_1 ((rd_T37 l0_1 x3_2).f0) ((rd_T37 l0_1 x3_2).f1) ((rd_T37 l0_1 x3_2).f2) ((rd_T37 l0_1 x3_2).f3)) = some r := H
             have A24 := Aside0.mk A240
             clear A240
             have H' := Aside0.mk H
             clear H
             have hnb25 := NB224_226.out
             have hnc25 := NB226_224.out
             have hcz26_0 : w15.cell? ⟨gb224, 0, none⟩ = some (.int .i64 a0_0) := (blk_cell BK224.out 0).trans rfl
             have hcz26_1 : w15.cell? ⟨gb224, 1, none⟩ = some (.slice (some ad225) l0_1.length c0_1) := (blk_cell BK224.out 1).trans rfl
             have hfz26_0 := blk_frozen BK224.out 0
             have hfz26_1 := blk_frozen BK224.out 1
             have hcz27_0 : w15.cell? ⟨gb226, 0, none⟩ = some (.int .i64 0) := (blk_cell BK226.out 0).trans rfl
             have hcz27_1 : w15.cell? ⟨gb226, 1, none⟩ = some (.int .i64 0) := (blk_cell BK226.out 1).trans rfl
             have hcz27_2 : w15.cell? ⟨gb226, 2, none⟩ = some (.int .i64 0) := (blk_cell BK226.out 2).trans rfl
             have hcz27_3 : w15.cell? ⟨gb226, 3, none⟩ = some (.int .i64 0) := (blk_cell BK226.out 3).trans rfl
             have hfz27_0 := blk_frozen BK226.out 0
             have hfz27_1 := blk_frozen BK226.out 1
             have hfz27_2 := blk_frozen BK226.out 2
             have hfz27_3 := blk_frozen BK226.out 3
             go_wp2_with (first | ((with_reducible refine gate_callee (f := 54) rfl ?_); refine goesL_ (some 32) rfl rfl Try.func54 (by kernel_rfl) rfl #[.agg #[.int .i64 a0_0, .slice (some ad225) l0_1.length c0_1], .int .i64 ((rd_T37 l0_1 x3_2).f0)] rfl (by (try simp only [List.map_toArray, List.map_cons, List.map_nil]); first | done | rfl | (simp only [List.length_drop, List.length_take]; rfl)) ?_; (with_reducible refine (timesyncref18_isNode.calls a0_0 _ _ l0_1 ((rd_T37 l0_1 x3_2).f0) true _ ?side1 ?side2 A18.out).mono ?_); (case side1 => exact Kd.C_below HR0_1.out (by repeat (first | (with_reducible first | exact HB.out | apply below_alloc | apply pw_below_drewN | apply below_drew1 | refine below_set ?_ GE224.out | refine below_set ?_ GE226.out) | exact HB.out))); (case side2 => exact HC0_1.out); rintro e w28 ⟨rfl, hb⟩; refine ⟨_, rfl, ?_⟩; have n0_ := Aside0.mk (blk_below (g := gb224) (o := .cells #[.int .i64 a0_0, .slice (some ad225) l0_1.length c0_1] 24 (0, 0)) (by (with_reducible repeat (first | refine blk_drewN ?_ _ | refine blk_drew ?_ | refine blk_alloc ?_ _)); refine blk_far ?_ NB224_226.out _; (with_reducible repeat (first | refine blk_drewN ?_ _ | refine blk_drew ?_ | refine blk_alloc ?_ _)); refine blk_far ?_ NB224_226.out _; (with_reducible repeat (first | refine blk_drewN ?_ _ | refine blk_drew ?_ | refine blk_alloc ?_ _)); refine blk_far ?_ NB224_226.out _; (with_reducible repeat (first | refine blk_drewN ?_ _ | refine blk_drew ?_ | refine blk_alloc ?_ _)); refine blk_far ?_ NB224_226.out _; (with_reducible repeat (first | refine blk_drewN ?_ _ | refine blk_drew ?_ | refine blk_alloc ?_ _)); exact BK224.out) hb); have n1_ := Aside0.mk (blk_below (g := gb226) (o := .cells #[.int .i64 ((rd_T37 l0_1 x3_2).f0), .int .i64 ((rd_T37 l0_1 x3_2).f1), .int .i64 ((rd_T37 l0_1 x3_2).f2), .int .i64 ((rd_T37 l0_1 x3_2).f3)] 37 (0, 0)) (by (with_reducible repeat (first | refine blk_drewN ?_ _ | refine blk_drew ?_ | refine blk_alloc ?_ _)); refine blk_put (cs := #[.int .i64 ((rd_T37 l0_1 x3_2).f0), .int .i64 ((rd_T37 l0_1 x3_2).f1), .int .i64 ((rd_T37 l0_1 x3_2).f2), .int .i64 0]) ?_ 3 _ rfl; (with_reducible repeat (first | refine blk_drewN ?_ _ | refine blk_drew ?_ | refine blk_alloc ?_ _)); refine blk_put (cs := #[.int .i64 ((rd_T37 l0_1 x3_2).f0), .int .i64 ((rd_T37 l0_1 x3_2).f1), .int .i64 0, .int .i64 0]) ?_ 2 _ rfl; (with_reducible repeat (first | refine blk_drewN ?_ _ | refine blk_drew ?_ | refine blk_alloc ?_ _)); refine blk_put (cs := #[.int .i64 ((rd_T37 l0_1 x3_2).f0), .int .i64 0, .int .i64 0, .int .i64 0]) ?_ 1 _ rfl; (with_reducible repeat (first | refine blk_drewN ?_ _ | refine blk_drew ?_ | refine blk_alloc ?_ _)); refine blk_put (cs := #[.int .i64 0, .int .i64 0, .int .i64 0, .int .i64 0]) ?_ 0 _ rfl; (with_reducible repeat (first | refine blk_drewN ?_ _ | refine blk_drew ?_ | refine blk_alloc ?_ _)); exact BK226.out) hb); have n2_ := Aside0.mk (below_step (by repeat (first | (with_reducible first | exact HB.out | apply below_alloc | apply pw_below_drewN | apply below_drew1 | refine below_set ?_ GE224.out | refine below_set ?_ GE226.out) | exact HB.out)) hb); clear BK224; clear BK226; clear HB; have BK224 := n0_; have BK226 := n1_; have HB := n2_; clear n0_ n1_ n2_; have hcz29_0 : w28.cell? ⟨gb224, 0, none⟩ = some (.int .i64 a0_0) := (blk_cell BK224.out 0).trans rfl; have hcz29_1 : w28.cell? ⟨gb224, 1, none⟩ = some (.slice (some ad225) l0_1.length c0_1) := (blk_cell BK224.out 1).trans rfl; have hfz29_0 := blk_frozen BK224.out 0; have hfz29_1 := blk_frozen BK224.out 1; have hcz30_0 : w28.cell? ⟨gb226, 0, none⟩ = some (.int .i64 ((rd_T37 l0_1 x3_2).f0)) := (blk_cell BK226.out 0).trans rfl; have hcz30_1 : w28.cell? ⟨gb226, 1, none⟩ = some (.int .i64 ((rd_T37 l0_1 x3_2).f1)) := (blk_cell BK226.out 1).trans rfl; have hcz30_2 : w28.cell? ⟨gb226, 2, none⟩ = some (.int .i64 ((rd_T37 l0_1 x3_2).f2)) := (blk_cell BK226.out 2).trans rfl; have hcz30_3 : w28.cell? ⟨gb226, 3, none⟩ = some (.int .i64 ((rd_T37 l0_1 x3_2).f3)) := (blk_cell BK226.out 3).trans rfl; have hfz30_0 := blk_frozen BK226.out 0; have hfz30_1 := blk_frozen BK226.out 1; have hfz30_2 := blk_frozen BK226.out 2; have hfz30_3 := blk_frozen BK226.out 3) | (go_at_call 54; (with_reducible refine (timesyncref18_isNode.calls a0_0 _ _ l0_1 ((rd_T37 l0_1 x3_2).f2) true _ ?side1 ?side2 A20.out).mono ?_); (case side1 => repeat (first | exact (Kd.C_below HR0_1.out HB.out) | (with_reducible refine Kd.C_alloc ?_ _) | (with_reducible refine Kd.C_drewN ?_ _) | (with_reducible refine Kd.C_drew ?_))); (case side2 => exact HC0_1.out); rintro e w31 ⟨rfl, hb⟩; have n0_ := Aside0.mk (blk_below (g := gb224) (o := .cells #[.int .i64 a0_0, .slice (some ad225) l0_1.length c0_1] 24 (0, 0)) (by (with_reducible repeat (first | refine blk_drewN ?_ _ | refine blk_drew ?_ | refine blk_alloc ?_ _)); exact BK224.out) hb); have n1_ := Aside0.mk (blk_below (g := gb226) (o := .cells #[.int .i64 ((rd_T37 l0_1 x3_2).f0), .int .i64 ((rd_T37 l0_1 x3_2).f1), .int .i64 ((rd_T37 l0_1 x3_2).f2), .int .i64 ((rd_T37 l0_1 x3_2).f3)] 37 (0, 0)) (by (with_reducible repeat (first | refine blk_drewN ?_ _ | refine blk_drew ?_ | refine blk_alloc ?_ _)); exact BK226.out) hb); have n2_ := Aside0.mk (below_step (by repeat (first | (with_reducible first | exact HB.out | apply below_alloc | apply pw_below_drewN | apply below_drew1 | refine below_set ?_ GE224.out | refine below_set ?_ GE226.out) | exact HB.out)) hb); clear BK224; clear BK226; clear HB; have BK224 := n0_; have BK226 := n1_; have HB := n2_; clear n0_ n1_ n2_; have hcz32_0 : w31.cell? ⟨gb226, 0, none⟩ = some (.int .i64 ((rd_T37 l0_1 x3_2).f0)) := (blk_cell BK226.out 0).trans rfl; have hcz32_1 : w31.cell? ⟨gb226, 1, none⟩ = some (.int .i64 ((rd_T37 l0_1 x3_2).f1)) := (blk_cell BK226.out 1).trans rfl; have hcz32_2 : w31.cell? ⟨gb226, 2, none⟩ = some (.int .i64 ((rd_T37 l0_1 x3_2).f2)) := (blk_cell BK226.out 2).trans rfl; have hcz32_3 : w31.cell? ⟨gb226, 3, none⟩ = some (.int .i64 ((rd_T37 l0_1 x3_2).f3)) := (blk_cell BK226.out 3).trans rfl; have hfz32_0 := blk_frozen BK226.out 0; have hfz32_1 := blk_frozen BK226.out 1; have hfz32_2 := blk_frozen BK226.out 2; have hfz32_3 := blk_frozen BK226.out 3) | (go_at_call 55; (with_reducible refine (timesyncref18_isPort.calls ((rd_T37 l0_1 x3_2).f1) true _ A22.out).mono ?_); rintro e w' ⟨rfl, ⟨nd, rfl⟩⟩) | (go_at_call 55; (with_reducible refine (timesyncref18_isPort.calls ((rd_T37 l0_1 x3_2).f3) t230 _ A24.out).mono ?_); rintro e w' ⟨rfl, ⟨nd, rfl⟩⟩))
             go_meet
             case rel => exact ⟨_, (!t230), (by first | rfl | (simp; done) | (simp [*]; done)), H', ⟨by have := HJ1.out; have := HK2.out; first | omega | exact Nat.le_refl _⟩, ⟨by (with_reducible repeat (first | refine blk_drewN ?_ _ | refine blk_drew ?_ | refine blk_alloc ?_ _)); exact BK224.out⟩, ⟨by (with_reducible repeat (first | refine blk_drewN ?_ _ | refine blk_drew ?_ | refine blk_alloc ?_ _)); exact BK226.out⟩, ⟨by repeat (first | (with_reducible first | exact HB.out | apply below_alloc | apply pw_below_drewN | apply below_drew1 | refine below_set ?_ GE224.out | refine below_set ?_ GE226.out) | exact HB.out)⟩⟩
            ·replace c23 := Bool.eq_false_iff.mpr c23
             subst c23
             have H1 : (timesyncref18_Check.j2 k2 x3_2 true a0_0 l0_1 ((rd_T37 l0_1 x3_2).f0) ((rd_T37 l0_1 x3_2).f1) ((rd_T37 l0_1 x3_2).f2) ((rd_T37 l0_1 x3_2).f3)) = some r := by rw [if_neg (show ¬ (false = true) by decide)] at H; exact H
             clear H
             have H := H1
             clear H1
             have H' := Aside0.mk H
             clear H
             have hnb33 := NB224_226.out
             have hnc33 := NB226_224.out
             have hcz34_0 : w15.cell? ⟨gb224, 0, none⟩ = some (.int .i64 a0_0) := (blk_cell BK224.out 0).trans rfl
             have hcz34_1 : w15.cell? ⟨gb224, 1, none⟩ = some (.slice (some ad225) l0_1.length c0_1) := (blk_cell BK224.out 1).trans rfl
             have hfz34_0 := blk_frozen BK224.out 0
             have hfz34_1 := blk_frozen BK224.out 1
             have hcz35_0 : w15.cell? ⟨gb226, 0, none⟩ = some (.int .i64 0) := (blk_cell BK226.out 0).trans rfl
             have hcz35_1 : w15.cell? ⟨gb226, 1, none⟩ = some (.int .i64 0) := (blk_cell BK226.out 1).trans rfl
             have hcz35_2 : w15.cell? ⟨gb226, 2, none⟩ = some (.int .i64 0) := (blk_cell BK226.out 2).trans rfl
             have hcz35_3 : w15.cell? ⟨gb226, 3, none⟩ = some (.int .i64 0) := (blk_cell BK226.out 3).trans rfl
             have hfz35_0 := blk_frozen BK226.out 0
             have hfz35_1 := blk_frozen BK226.out 1
             have hfz35_2 := blk_frozen BK226.out 2
             have hfz35_3 := blk_frozen BK226.out 3
             go_wp2_with (first | ((with_reducible refine gate_callee (f := 54) rfl ?_); refine goesL_ (some 32) rfl rfl Try.func54 (by kernel_rfl) rfl #[.agg #[.int .i64 a0_0, .slice (some ad225) l0_1.length c0_1], .int .i64 ((rd_T37 l0_1 x3_2).f0)] rfl (by (try simp only [List.map_toArray, List.map_cons, List.map_nil]); first | done | rfl | (simp only [List.length_drop, List.length_take]; rfl)) ?_; (with_reducible refine (timesyncref18_isNode.calls a0_0 _ _ l0_1 ((rd_T37 l0_1 x3_2).f0) true _ ?side1 ?side2 A18.out).mono ?_); (case side1 => exact Kd.C_below HR0_1.out (by repeat (first | (with_reducible first | exact HB.out | apply below_alloc | apply pw_below_drewN | apply below_drew1 | refine below_set ?_ GE224.out | refine below_set ?_ GE226.out) | exact HB.out))); (case side2 => exact HC0_1.out); rintro e w36 ⟨rfl, hb⟩; refine ⟨_, rfl, ?_⟩; have n0_ := Aside0.mk (blk_below (g := gb224) (o := .cells #[.int .i64 a0_0, .slice (some ad225) l0_1.length c0_1] 24 (0, 0)) (by (with_reducible repeat (first | refine blk_drewN ?_ _ | refine blk_drew ?_ | refine blk_alloc ?_ _)); refine blk_far ?_ NB224_226.out _; (with_reducible repeat (first | refine blk_drewN ?_ _ | refine blk_drew ?_ | refine blk_alloc ?_ _)); refine blk_far ?_ NB224_226.out _; (with_reducible repeat (first | refine blk_drewN ?_ _ | refine blk_drew ?_ | refine blk_alloc ?_ _)); refine blk_far ?_ NB224_226.out _; (with_reducible repeat (first | refine blk_drewN ?_ _ | refine blk_drew ?_ | refine blk_alloc ?_ _)); refine blk_far ?_ NB224_226.out _; (with_reducible repeat (first | refine blk_drewN ?_ _ | refine blk_drew ?_ | refine blk_alloc ?_ _)); exact BK224.out) hb); have n1_ := Aside0.mk (blk_below (g := gb226) (o := .cells #[.int .i64 ((rd_T37 l0_1 x3_2).f0), .int .i64 ((rd_T37 l0_1 x3_2).f1), .int .i64 ((rd_T37 l0_1 x3_2).f2), .int .i64 ((rd_T37 l0_1 x3_2).f3)] 37 (0, 0)) (by (with_reducible repeat (first | refine blk_drewN ?_ _ | refine blk_drew ?_ | refine blk_alloc ?_ _)); refine blk_put (cs := #[.int .i64 ((rd_T37 l0_1 x3_2).f0), .int .i64 ((rd_T37 l0_1 x3_2).f1), .int .i64 ((rd_T37 l0_1 x3_2).f2), .int .i64 0]) ?_ 3 _ rfl; (with_reducible repeat (first | refine blk_drewN ?_ _ | refine blk_drew ?_ | refine blk_alloc ?_ _)); refine blk_put (cs := #[.int .i64 ((rd_T37 l0_1 x3_2).f0), .int .i64 ((rd_T37 l0_1 x3_2).f1), .int .i64 0, .int .i64 0]) ?_ 2 _ rfl; (with_reducible repeat (first | refine blk_drewN ?_ _ | refine blk_drew ?_ | refine blk_alloc ?_ _)); refine blk_put (cs := #[.int .i64 ((rd_T37 l0_1 x3_2).f0), .int .i64 0, .int .i64 0, .int .i64 0]) ?_ 1 _ rfl; (with_reducible repeat (first | refine blk_drewN ?_ _ | refine blk_drew ?_ | refine blk_alloc ?_ _)); refine blk_put (cs := #[.int .i64 0, .int .i64 0, .int .i64 0, .int .i64 0]) ?_ 0 _ rfl; (with_reducible repeat (first | refine blk_drewN ?_ _ | refine blk_drew ?_ | refine blk_alloc ?_ _)); exact BK226.out) hb); have n2_ := Aside0.mk (below_step (by repeat (first | (with_reducible first | exact HB.out | apply below_alloc | apply pw_below_drewN | apply below_drew1 | refine below_set ?_ GE224.out | refine below_set ?_ GE226.out) | exact HB.out)) hb); clear BK224; clear BK226; clear HB; have BK224 := n0_; have BK226 := n1_; have HB := n2_; clear n0_ n1_ n2_; have hcz37_0 : w36.cell? ⟨gb224, 0, none⟩ = some (.int .i64 a0_0) := (blk_cell BK224.out 0).trans rfl; have hcz37_1 : w36.cell? ⟨gb224, 1, none⟩ = some (.slice (some ad225) l0_1.length c0_1) := (blk_cell BK224.out 1).trans rfl; have hfz37_0 := blk_frozen BK224.out 0; have hfz37_1 := blk_frozen BK224.out 1; have hcz38_0 : w36.cell? ⟨gb226, 0, none⟩ = some (.int .i64 ((rd_T37 l0_1 x3_2).f0)) := (blk_cell BK226.out 0).trans rfl; have hcz38_1 : w36.cell? ⟨gb226, 1, none⟩ = some (.int .i64 ((rd_T37 l0_1 x3_2).f1)) := (blk_cell BK226.out 1).trans rfl; have hcz38_2 : w36.cell? ⟨gb226, 2, none⟩ = some (.int .i64 ((rd_T37 l0_1 x3_2).f2)) := (blk_cell BK226.out 2).trans rfl; have hcz38_3 : w36.cell? ⟨gb226, 3, none⟩ = some (.int .i64 ((rd_T37 l0_1 x3_2).f3)) := (blk_cell BK226.out 3).trans rfl; have hfz38_0 := blk_frozen BK226.out 0; have hfz38_1 := blk_frozen BK226.out 1; have hfz38_2 := blk_frozen BK226.out 2; have hfz38_3 := blk_frozen BK226.out 3) | (go_at_call 54; (with_reducible refine (timesyncref18_isNode.calls a0_0 _ _ l0_1 ((rd_T37 l0_1 x3_2).f2) true _ ?side1 ?side2 A20.out).mono ?_); (case side1 => repeat (first | exact (Kd.C_below HR0_1.out HB.out) | (with_reducible refine Kd.C_alloc ?_ _) | (with_reducible refine Kd.C_drewN ?_ _) | (with_reducible refine Kd.C_drew ?_))); (case side2 => exact HC0_1.out); rintro e w39 ⟨rfl, hb⟩; have n0_ := Aside0.mk (blk_below (g := gb224) (o := .cells #[.int .i64 a0_0, .slice (some ad225) l0_1.length c0_1] 24 (0, 0)) (by (with_reducible repeat (first | refine blk_drewN ?_ _ | refine blk_drew ?_ | refine blk_alloc ?_ _)); exact BK224.out) hb); have n1_ := Aside0.mk (blk_below (g := gb226) (o := .cells #[.int .i64 ((rd_T37 l0_1 x3_2).f0), .int .i64 ((rd_T37 l0_1 x3_2).f1), .int .i64 ((rd_T37 l0_1 x3_2).f2), .int .i64 ((rd_T37 l0_1 x3_2).f3)] 37 (0, 0)) (by (with_reducible repeat (first | refine blk_drewN ?_ _ | refine blk_drew ?_ | refine blk_alloc ?_ _)); exact BK226.out) hb); have n2_ := Aside0.mk (below_step (by repeat (first | (with_reducible first | exact HB.out | apply below_alloc | apply pw_below_drewN | apply below_drew1 | refine below_set ?_ GE224.out | refine below_set ?_ GE226.out) | exact HB.out)) hb); clear BK224; clear BK226; clear HB; have BK224 := n0_; have BK226 := n1_; have HB := n2_; clear n0_ n1_ n2_; have hcz40_0 : w39.cell? ⟨gb226, 0, none⟩ = some (.int .i64 ((rd_T37 l0_1 x3_2).f0)) := (blk_cell BK226.out 0).trans rfl; have hcz40_1 : w39.cell? ⟨gb226, 1, none⟩ = some (.int .i64 ((rd_T37 l0_1 x3_2).f1)) := (blk_cell BK226.out 1).trans rfl; have hcz40_2 : w39.cell? ⟨gb226, 2, none⟩ = some (.int .i64 ((rd_T37 l0_1 x3_2).f2)) := (blk_cell BK226.out 2).trans rfl; have hcz40_3 : w39.cell? ⟨gb226, 3, none⟩ = some (.int .i64 ((rd_T37 l0_1 x3_2).f3)) := (blk_cell BK226.out 3).trans rfl; have hfz40_0 := blk_frozen BK226.out 0; have hfz40_1 := blk_frozen BK226.out 1; have hfz40_2 := blk_frozen BK226.out 2; have hfz40_3 := blk_frozen BK226.out 3) | (go_at_call 55; (with_reducible refine (timesyncref18_isPort.calls ((rd_T37 l0_1 x3_2).f1) false _ A22.out).mono ?_); rintro e w' ⟨rfl, ⟨nd, rfl⟩⟩))
             go_meet
             case rel => exact ⟨_, (true), (by first | rfl | (simp; done) | (simp [*]; done)), H', ⟨by have := HJ1.out; have := HK2.out; first | omega | exact Nat.le_refl _⟩, ⟨by (with_reducible repeat (first | refine blk_drewN ?_ _ | refine blk_drew ?_ | refine blk_alloc ?_ _)); exact BK224.out⟩, ⟨by (with_reducible repeat (first | refine blk_drewN ?_ _ | refine blk_drew ?_ | refine blk_alloc ?_ _)); exact BK226.out⟩, ⟨by repeat (first | (with_reducible first | exact HB.out | apply below_alloc | apply pw_below_drewN | apply below_drew1 | refine below_set ?_ GE224.out | refine below_set ?_ GE226.out) | exact HB.out)⟩⟩
           ·replace c21 := Bool.eq_false_iff.mpr c21
            subst c21
            have H1 : (timesyncref18_Check.j2 k2 x3_2 true a0_0 l0_1 ((rd_T37 l0_1 x3_2).f0) ((rd_T37 l0_1 x3_2).f1) ((rd_T37 l0_1 x3_2).f2) ((rd_T37 l0_1 x3_2).f3)) = some r := by rw [if_neg (show ¬ (false = true) by decide)] at H; exact H
            clear H
            have H := H1
            clear H1
            have H' := Aside0.mk H
            clear H
            have hnb41 := NB224_226.out
            have hnc41 := NB226_224.out
            have hcz42_0 : w15.cell? ⟨gb224, 0, none⟩ = some (.int .i64 a0_0) := (blk_cell BK224.out 0).trans rfl
            have hcz42_1 : w15.cell? ⟨gb224, 1, none⟩ = some (.slice (some ad225) l0_1.length c0_1) := (blk_cell BK224.out 1).trans rfl
            have hfz42_0 := blk_frozen BK224.out 0
            have hfz42_1 := blk_frozen BK224.out 1
            have hcz43_0 : w15.cell? ⟨gb226, 0, none⟩ = some (.int .i64 0) := (blk_cell BK226.out 0).trans rfl
            have hcz43_1 : w15.cell? ⟨gb226, 1, none⟩ = some (.int .i64 0) := (blk_cell BK226.out 1).trans rfl
            have hcz43_2 : w15.cell? ⟨gb226, 2, none⟩ = some (.int .i64 0) := (blk_cell BK226.out 2).trans rfl
            have hcz43_3 : w15.cell? ⟨gb226, 3, none⟩ = some (.int .i64 0) := (blk_cell BK226.out 3).trans rfl
            have hfz43_0 := blk_frozen BK226.out 0
            have hfz43_1 := blk_frozen BK226.out 1
            have hfz43_2 := blk_frozen BK226.out 2
            have hfz43_3 := blk_frozen BK226.out 3
            go_wp2_with (first | ((with_reducible refine gate_callee (f := 54) rfl ?_); refine goesL_ (some 32) rfl rfl Try.func54 (by kernel_rfl) rfl #[.agg #[.int .i64 a0_0, .slice (some ad225) l0_1.length c0_1], .int .i64 ((rd_T37 l0_1 x3_2).f0)] rfl (by (try simp only [List.map_toArray, List.map_cons, List.map_nil]); first | done | rfl | (simp only [List.length_drop, List.length_take]; rfl)) ?_; (with_reducible refine (timesyncref18_isNode.calls a0_0 _ _ l0_1 ((rd_T37 l0_1 x3_2).f0) true _ ?side1 ?side2 A18.out).mono ?_); (case side1 => exact Kd.C_below HR0_1.out (by repeat (first | (with_reducible first | exact HB.out | apply below_alloc | apply pw_below_drewN | apply below_drew1 | refine below_set ?_ GE224.out | refine below_set ?_ GE226.out) | exact HB.out))); (case side2 => exact HC0_1.out); rintro e w44 ⟨rfl, hb⟩; refine ⟨_, rfl, ?_⟩; have n0_ := Aside0.mk (blk_below (g := gb224) (o := .cells #[.int .i64 a0_0, .slice (some ad225) l0_1.length c0_1] 24 (0, 0)) (by (with_reducible repeat (first | refine blk_drewN ?_ _ | refine blk_drew ?_ | refine blk_alloc ?_ _)); refine blk_far ?_ NB224_226.out _; (with_reducible repeat (first | refine blk_drewN ?_ _ | refine blk_drew ?_ | refine blk_alloc ?_ _)); refine blk_far ?_ NB224_226.out _; (with_reducible repeat (first | refine blk_drewN ?_ _ | refine blk_drew ?_ | refine blk_alloc ?_ _)); refine blk_far ?_ NB224_226.out _; (with_reducible repeat (first | refine blk_drewN ?_ _ | refine blk_drew ?_ | refine blk_alloc ?_ _)); refine blk_far ?_ NB224_226.out _; (with_reducible repeat (first | refine blk_drewN ?_ _ | refine blk_drew ?_ | refine blk_alloc ?_ _)); exact BK224.out) hb); have n1_ := Aside0.mk (blk_below (g := gb226) (o := .cells #[.int .i64 ((rd_T37 l0_1 x3_2).f0), .int .i64 ((rd_T37 l0_1 x3_2).f1), .int .i64 ((rd_T37 l0_1 x3_2).f2), .int .i64 ((rd_T37 l0_1 x3_2).f3)] 37 (0, 0)) (by (with_reducible repeat (first | refine blk_drewN ?_ _ | refine blk_drew ?_ | refine blk_alloc ?_ _)); refine blk_put (cs := #[.int .i64 ((rd_T37 l0_1 x3_2).f0), .int .i64 ((rd_T37 l0_1 x3_2).f1), .int .i64 ((rd_T37 l0_1 x3_2).f2), .int .i64 0]) ?_ 3 _ rfl; (with_reducible repeat (first | refine blk_drewN ?_ _ | refine blk_drew ?_ | refine blk_alloc ?_ _)); refine blk_put (cs := #[.int .i64 ((rd_T37 l0_1 x3_2).f0), .int .i64 ((rd_T37 l0_1 x3_2).f1), .int .i64 0, .int .i64 0]) ?_ 2 _ rfl; (with_reducible repeat (first | refine blk_drewN ?_ _ | refine blk_drew ?_ | refine blk_alloc ?_ _)); refine blk_put (cs := #[.int .i64 ((rd_T37 l0_1 x3_2).f0), .int .i64 0, .int .i64 0, .int .i64 0]) ?_ 1 _ rfl; (with_reducible repeat (first | refine blk_drewN ?_ _ | refine blk_drew ?_ | refine blk_alloc ?_ _)); refine blk_put (cs := #[.int .i64 0, .int .i64 0, .int .i64 0, .int .i64 0]) ?_ 0 _ rfl; (with_reducible repeat (first | refine blk_drewN ?_ _ | refine blk_drew ?_ | refine blk_alloc ?_ _)); exact BK226.out) hb); have n2_ := Aside0.mk (below_step (by repeat (first | (with_reducible first | exact HB.out | apply below_alloc | apply pw_below_drewN | apply below_drew1 | refine below_set ?_ GE224.out | refine below_set ?_ GE226.out) | exact HB.out)) hb); clear BK224; clear BK226; clear HB; have BK224 := n0_; have BK226 := n1_; have HB := n2_; clear n0_ n1_ n2_; have hcz45_0 : w44.cell? ⟨gb224, 0, none⟩ = some (.int .i64 a0_0) := (blk_cell BK224.out 0).trans rfl; have hcz45_1 : w44.cell? ⟨gb224, 1, none⟩ = some (.slice (some ad225) l0_1.length c0_1) := (blk_cell BK224.out 1).trans rfl; have hfz45_0 := blk_frozen BK224.out 0; have hfz45_1 := blk_frozen BK224.out 1; have hcz46_0 : w44.cell? ⟨gb226, 0, none⟩ = some (.int .i64 ((rd_T37 l0_1 x3_2).f0)) := (blk_cell BK226.out 0).trans rfl; have hcz46_1 : w44.cell? ⟨gb226, 1, none⟩ = some (.int .i64 ((rd_T37 l0_1 x3_2).f1)) := (blk_cell BK226.out 1).trans rfl; have hcz46_2 : w44.cell? ⟨gb226, 2, none⟩ = some (.int .i64 ((rd_T37 l0_1 x3_2).f2)) := (blk_cell BK226.out 2).trans rfl; have hcz46_3 : w44.cell? ⟨gb226, 3, none⟩ = some (.int .i64 ((rd_T37 l0_1 x3_2).f3)) := (blk_cell BK226.out 3).trans rfl; have hfz46_0 := blk_frozen BK226.out 0; have hfz46_1 := blk_frozen BK226.out 1; have hfz46_2 := blk_frozen BK226.out 2; have hfz46_3 := blk_frozen BK226.out 3) | (go_at_call 54; (with_reducible refine (timesyncref18_isNode.calls a0_0 _ _ l0_1 ((rd_T37 l0_1 x3_2).f2) false _ ?side1 ?side2 A20.out).mono ?_); (case side1 => repeat (first | exact (Kd.C_below HR0_1.out HB.out) | (with_reducible refine Kd.C_alloc ?_ _) | (with_reducible refine Kd.C_drewN ?_ _) | (with_reducible refine Kd.C_drew ?_))); (case side2 => exact HC0_1.out); rintro e w47 ⟨rfl, hb⟩; have n0_ := Aside0.mk (blk_below (g := gb224) (o := .cells #[.int .i64 a0_0, .slice (some ad225) l0_1.length c0_1] 24 (0, 0)) (by (with_reducible repeat (first | refine blk_drewN ?_ _ | refine blk_drew ?_ | refine blk_alloc ?_ _)); exact BK224.out) hb); have n1_ := Aside0.mk (blk_below (g := gb226) (o := .cells #[.int .i64 ((rd_T37 l0_1 x3_2).f0), .int .i64 ((rd_T37 l0_1 x3_2).f1), .int .i64 ((rd_T37 l0_1 x3_2).f2), .int .i64 ((rd_T37 l0_1 x3_2).f3)] 37 (0, 0)) (by (with_reducible repeat (first | refine blk_drewN ?_ _ | refine blk_drew ?_ | refine blk_alloc ?_ _)); exact BK226.out) hb); have n2_ := Aside0.mk (below_step (by repeat (first | (with_reducible first | exact HB.out | apply below_alloc | apply pw_below_drewN | apply below_drew1 | refine below_set ?_ GE224.out | refine below_set ?_ GE226.out) | exact HB.out)) hb); clear BK224; clear BK226; clear HB; have BK224 := n0_; have BK226 := n1_; have HB := n2_; clear n0_ n1_ n2_; (try clear hi)))
            go_meet
            case rel => exact ⟨_, (true), (by first | rfl | (simp; done) | (simp [*]; done)), H', ⟨by have := HJ1.out; have := HK2.out; first | omega | exact Nat.le_refl _⟩, ⟨by exact BK224.out⟩, ⟨by exact BK226.out⟩, ⟨by exact HB.out⟩⟩
          ·replace c19 := Bool.eq_false_iff.mpr c19
           subst c19
           have H1 : (timesyncref18_Check.j2 k2 x3_2 true a0_0 l0_1 ((rd_T37 l0_1 x3_2).f0) ((rd_T37 l0_1 x3_2).f1) ((rd_T37 l0_1 x3_2).f2) ((rd_T37 l0_1 x3_2).f3)) = some r := by rw [if_neg (show ¬ (false = true) by decide)] at H; exact H
           clear H
           have H := H1
           clear H1
           have H' := Aside0.mk H
           clear H
           have hnb48 := NB224_226.out
           have hnc48 := NB226_224.out
           have hcz49_0 : w15.cell? ⟨gb224, 0, none⟩ = some (.int .i64 a0_0) := (blk_cell BK224.out 0).trans rfl
           have hcz49_1 : w15.cell? ⟨gb224, 1, none⟩ = some (.slice (some ad225) l0_1.length c0_1) := (blk_cell BK224.out 1).trans rfl
           have hfz49_0 := blk_frozen BK224.out 0
           have hfz49_1 := blk_frozen BK224.out 1
           have hcz50_0 : w15.cell? ⟨gb226, 0, none⟩ = some (.int .i64 0) := (blk_cell BK226.out 0).trans rfl
           have hcz50_1 : w15.cell? ⟨gb226, 1, none⟩ = some (.int .i64 0) := (blk_cell BK226.out 1).trans rfl
           have hcz50_2 : w15.cell? ⟨gb226, 2, none⟩ = some (.int .i64 0) := (blk_cell BK226.out 2).trans rfl
           have hcz50_3 : w15.cell? ⟨gb226, 3, none⟩ = some (.int .i64 0) := (blk_cell BK226.out 3).trans rfl
           have hfz50_0 := blk_frozen BK226.out 0
           have hfz50_1 := blk_frozen BK226.out 1
           have hfz50_2 := blk_frozen BK226.out 2
           have hfz50_3 := blk_frozen BK226.out 3
           go_wp2_with (first | ((with_reducible refine gate_callee (f := 54) rfl ?_); refine goesL_ (some 32) rfl rfl Try.func54 (by kernel_rfl) rfl #[.agg #[.int .i64 a0_0, .slice (some ad225) l0_1.length c0_1], .int .i64 ((rd_T37 l0_1 x3_2).f0)] rfl (by (try simp only [List.map_toArray, List.map_cons, List.map_nil]); first | done | rfl | (simp only [List.length_drop, List.length_take]; rfl)) ?_; (with_reducible refine (timesyncref18_isNode.calls a0_0 _ _ l0_1 ((rd_T37 l0_1 x3_2).f0) false _ ?side1 ?side2 A18.out).mono ?_); (case side1 => exact Kd.C_below HR0_1.out (by repeat (first | (with_reducible first | exact HB.out | apply below_alloc | apply pw_below_drewN | apply below_drew1 | refine below_set ?_ GE224.out | refine below_set ?_ GE226.out) | exact HB.out))); (case side2 => exact HC0_1.out); rintro e w51 ⟨rfl, hb⟩; refine ⟨_, rfl, ?_⟩; have n0_ := Aside0.mk (blk_below (g := gb224) (o := .cells #[.int .i64 a0_0, .slice (some ad225) l0_1.length c0_1] 24 (0, 0)) (by (with_reducible repeat (first | refine blk_drewN ?_ _ | refine blk_drew ?_ | refine blk_alloc ?_ _)); refine blk_far ?_ NB224_226.out _; (with_reducible repeat (first | refine blk_drewN ?_ _ | refine blk_drew ?_ | refine blk_alloc ?_ _)); refine blk_far ?_ NB224_226.out _; (with_reducible repeat (first | refine blk_drewN ?_ _ | refine blk_drew ?_ | refine blk_alloc ?_ _)); refine blk_far ?_ NB224_226.out _; (with_reducible repeat (first | refine blk_drewN ?_ _ | refine blk_drew ?_ | refine blk_alloc ?_ _)); refine blk_far ?_ NB224_226.out _; (with_reducible repeat (first | refine blk_drewN ?_ _ | refine blk_drew ?_ | refine blk_alloc ?_ _)); exact BK224.out) hb); have n1_ := Aside0.mk (blk_below (g := gb226) (o := .cells #[.int .i64 ((rd_T37 l0_1 x3_2).f0), .int .i64 ((rd_T37 l0_1 x3_2).f1), .int .i64 ((rd_T37 l0_1 x3_2).f2), .int .i64 ((rd_T37 l0_1 x3_2).f3)] 37 (0, 0)) (by (with_reducible repeat (first | refine blk_drewN ?_ _ | refine blk_drew ?_ | refine blk_alloc ?_ _)); refine blk_put (cs := #[.int .i64 ((rd_T37 l0_1 x3_2).f0), .int .i64 ((rd_T37 l0_1 x3_2).f1), .int .i64 ((rd_T37 l0_1 x3_2).f2), .int .i64 0]) ?_ 3 _ rfl; (with_reducible repeat (first | refine blk_drewN ?_ _ | refine blk_drew ?_ | refine blk_alloc ?_ _)); refine blk_put (cs := #[.int .i64 ((rd_T37 l0_1 x3_2).f0), .int .i64 ((rd_T37 l0_1 x3_2).f1), .int .i64 0, .int .i64 0]) ?_ 2 _ rfl; (with_reducible repeat (first | refine blk_drewN ?_ _ | refine blk_drew ?_ | refine blk_alloc ?_ _)); refine blk_put (cs := #[.int .i64 ((rd_T37 l0_1 x3_2).f0), .int .i64 0, .int .i64 0, .int .i64 0]) ?_ 1 _ rfl; (with_reducible repeat (first | refine blk_drewN ?_ _ | refine blk_drew ?_ | refine blk_alloc ?_ _)); refine blk_put (cs := #[.int .i64 0, .int .i64 0, .int .i64 0, .int .i64 0]) ?_ 0 _ rfl; (with_reducible repeat (first | refine blk_drewN ?_ _ | refine blk_drew ?_ | refine blk_alloc ?_ _)); exact BK226.out) hb); have n2_ := Aside0.mk (below_step (by repeat (first | (with_reducible first | exact HB.out | apply below_alloc | apply pw_below_drewN | apply below_drew1 | refine below_set ?_ GE224.out | refine below_set ?_ GE226.out) | exact HB.out)) hb); clear BK224; clear BK226; clear HB; have BK224 := n0_; have BK226 := n1_; have HB := n2_; clear n0_ n1_ n2_; (try clear hi)))
           go_meet
           case rel => exact ⟨_, (true), (by first | rfl | (simp; done) | (simp [*]; done)), H', ⟨by have := HJ1.out; have := HK2.out; first | omega | exact Nat.le_refl _⟩, ⟨by exact BK224.out⟩, ⟨by exact BK226.out⟩, ⟨by exact HB.out⟩⟩
         case rest =>
          clear HC13




































































































































































          obtain ⟨kq, x52_12, rfl, HA, HJ12, BK224, BK226, HB⟩ := hcut
          cases kq with
          | zero => exact absurd HA.out (by simp [timesyncref18_Check.j2])
          | succ kj12 =>
           have H := HA.out
           clear HA
           simp only [timesyncref18_Check.j2] at H
           by_cases c52 : x52_12 = true
           ·subst c52
            have H1 : (some 3) = some r := by rw [if_pos rfl] at H; exact H
            clear H
            have H := H1
            clear H1
            obtain rfl := Option.some.inj H
            go_wp2
            go_ret
            exact ⟨by first | rfl | (simp [errW_none, errW_some] <;> rfl) | (simp [*, errW_none, errW_some] <;> rfl), by exact HB.out⟩
           ·replace c52 := Bool.eq_false_iff.mpr c52
            subst c52
            have H1 : (if ((rd_T37 l0_1 x3_2).f0) = ((rd_T37 l0_1 x3_2).f2) then (some 18) else ((timesyncref18_used.f kj12 a0_0 l0_1 x3_2 ((rd_T37 l0_1 x3_2).f0) ((rd_T37 l0_1 x3_2).f1)).bind fun t231 => (if t231 = true then (some 10) else ((timesyncref18_used.f kj12 a0_0 l0_1 x3_2 ((rd_T37 l0_1 x3_2).f2) ((rd_T37 l0_1 x3_2).f3)).bind fun t232 => (if t232 = true then (some 10) else (timesyncref18_Check.l0 kj12 (wrap64 (x3_2 + 1)) a0_0 l0_1)))))) = some r := by rw [if_neg (show ¬ (false = true) by decide)] at H; exact H
            clear H
            have H := H1
            clear H1
            by_cases c53 : ((rd_T37 l0_1 x3_2).f0) = ((rd_T37 l0_1 x3_2).f2)
            ·rw [if_pos c53] at H
             have c53b0 : (((rd_T37 l0_1 x3_2).f0) == ((rd_T37 l0_1 x3_2).f2)) = true := beq_iff_eq.mpr c53
             have c53b1 : (((rd_T37 l0_1 x3_2).f0) != ((rd_T37 l0_1 x3_2).f2)) = false := bne_eq_false_iff_eq.mpr c53
             clear c53
             obtain rfl := Option.some.inj H
             have hnb54 := NB226_224.out
             have hnc54 := NB224_226.out
             have hcz55_0 : wc.cell? ⟨gb226, 0, none⟩ = some (.int .i64 ((rd_T37 l0_1 x3_2).f0)) := (blk_cell BK226.out 0).trans rfl
             have hcz55_1 : wc.cell? ⟨gb226, 1, none⟩ = some (.int .i64 ((rd_T37 l0_1 x3_2).f1)) := (blk_cell BK226.out 1).trans rfl
             have hcz55_2 : wc.cell? ⟨gb226, 2, none⟩ = some (.int .i64 ((rd_T37 l0_1 x3_2).f2)) := (blk_cell BK226.out 2).trans rfl
             have hcz55_3 : wc.cell? ⟨gb226, 3, none⟩ = some (.int .i64 ((rd_T37 l0_1 x3_2).f3)) := (blk_cell BK226.out 3).trans rfl
             have hfz55_0 := blk_frozen BK226.out 0
             have hfz55_1 := blk_frozen BK226.out 1
             have hfz55_2 := blk_frozen BK226.out 2
             have hfz55_3 := blk_frozen BK226.out 3
             go_wp2
             go_ret
             exact ⟨by first | rfl | (simp [errW_none, errW_some] <;> rfl) | (simp [*, errW_none, errW_some] <;> rfl), by exact HB.out⟩
            ·rw [if_neg c53] at H
             have c53b0 : (((rd_T37 l0_1 x3_2).f0) == ((rd_T37 l0_1 x3_2).f2)) = false := beq_eq_false_iff_ne.mpr c53
             have c53b1 : (((rd_T37 l0_1 x3_2).f0) != ((rd_T37 l0_1 x3_2).f2)) = true := bne_iff_ne.mpr c53
             replace H := Option.bind_eq_some_iff.mp H
             obtain ⟨t231, A560, H⟩ := H
             replace H : (if t231 = true then (some 10) else ((timesyncref18_used.f kj12 a0_0 l0_1 x3_2 ((rd_T37 l0_1 x3_2).f2) ((rd_T37 l0_1 x3_2).f3)).bind fun t232 => (if t232 = true then (some 10) else (timesyncref18_Check.l0 kj12 (wrap64 (x3_2 + 1)) a0_0 l0_1)))) = some r := H
             have A56 := Aside0.mk A560
             clear A560
             by_cases c57 : t231 = true
             ·subst c57
              have H1 : (some 10) = some r := by rw [if_pos rfl] at H; exact H
              clear H
              have H := H1
              clear H1
              obtain rfl := Option.some.inj H
              have hnb58 := NB226_224.out
              have hnc58 := NB224_226.out
              have hcz59_0 : wc.cell? ⟨gb226, 0, none⟩ = some (.int .i64 ((rd_T37 l0_1 x3_2).f0)) := (blk_cell BK226.out 0).trans rfl
              have hcz59_1 : wc.cell? ⟨gb226, 1, none⟩ = some (.int .i64 ((rd_T37 l0_1 x3_2).f1)) := (blk_cell BK226.out 1).trans rfl
              have hcz59_2 : wc.cell? ⟨gb226, 2, none⟩ = some (.int .i64 ((rd_T37 l0_1 x3_2).f2)) := (blk_cell BK226.out 2).trans rfl
              have hcz59_3 : wc.cell? ⟨gb226, 3, none⟩ = some (.int .i64 ((rd_T37 l0_1 x3_2).f3)) := (blk_cell BK226.out 3).trans rfl
              have hfz59_0 := blk_frozen BK226.out 0
              have hfz59_1 := blk_frozen BK226.out 1
              have hfz59_2 := blk_frozen BK226.out 2
              have hfz59_3 := blk_frozen BK226.out 3
              have hcz60_0 : wc.cell? ⟨gb224, 0, none⟩ = some (.int .i64 a0_0) := (blk_cell BK224.out 0).trans rfl
              have hcz60_1 : wc.cell? ⟨gb224, 1, none⟩ = some (.slice (some ad225) l0_1.length c0_1) := (blk_cell BK224.out 1).trans rfl
              have hfz60_0 := blk_frozen BK224.out 0
              have hfz60_1 := blk_frozen BK224.out 1
              go_wp2_with (first | ((with_reducible refine gate_callee (f := 56) rfl ?_); refine goesL_ (some 64) rfl rfl Try.func56 (by kernel_rfl) rfl #[.agg #[.int .i64 a0_0, .slice (some ad225) l0_1.length c0_1], .int .i64 x3_2, .int .i64 ((rd_T37 l0_1 x3_2).f0), .int .i64 ((rd_T37 l0_1 x3_2).f1)] rfl (by (try simp only [List.map_toArray, List.map_cons, List.map_nil]); first | done | rfl | (simp only [List.length_drop, List.length_take]; rfl)) ?_; (with_reducible refine (timesyncref18_used.calls kj12 a0_0 _ _ l0_1 x3_2 ((rd_T37 l0_1 x3_2).f0) ((rd_T37 l0_1 x3_2).f1) true _ ?side1 ?side2 A56.out).mono ?_); (case side1 => exact (Kd.C_below HR0_1.out HB.out)); (case side2 => exact HC0_1.out); rintro e w61 ⟨rfl, hb⟩; refine ⟨_, rfl, ?_⟩; have n0_ := Aside0.mk (blk_below (g := gb224) (o := .cells #[.int .i64 a0_0, .slice (some ad225) l0_1.length c0_1] 24 (0, 0)) (by exact BK224.out) hb); have n1_ := Aside0.mk (blk_below (g := gb226) (o := .cells #[.int .i64 ((rd_T37 l0_1 x3_2).f0), .int .i64 ((rd_T37 l0_1 x3_2).f1), .int .i64 ((rd_T37 l0_1 x3_2).f2), .int .i64 ((rd_T37 l0_1 x3_2).f3)] 37 (0, 0)) (by exact BK226.out) hb); have n2_ := Aside0.mk (below_step (by exact HB.out) hb); clear BK224; clear BK226; clear HB; have BK224 := n0_; have BK226 := n1_; have HB := n2_; clear n0_ n1_ n2_; (try clear hi)))
              go_ret
              exact ⟨by first | rfl | (simp [errW_none, errW_some] <;> rfl) | (simp [*, errW_none, errW_some] <;> rfl), by exact HB.out⟩
             ·replace c57 := Bool.eq_false_iff.mpr c57
              subst c57
              have H1 : ((timesyncref18_used.f kj12 a0_0 l0_1 x3_2 ((rd_T37 l0_1 x3_2).f2) ((rd_T37 l0_1 x3_2).f3)).bind fun t232 => (if t232 = true then (some 10) else (timesyncref18_Check.l0 kj12 (wrap64 (x3_2 + 1)) a0_0 l0_1))) = some r := by rw [if_neg (show ¬ (false = true) by decide)] at H; exact H
              clear H
              have H := H1
              clear H1
              replace H := Option.bind_eq_some_iff.mp H
              obtain ⟨t232, A620, H⟩ := H
              replace H : (if t232 = true then (some 10) else (timesyncref18_Check.l0 kj12 (wrap64 (x3_2 + 1)) a0_0 l0_1)) = some r := H
              have A62 := Aside0.mk A620
              clear A620
              by_cases c63 : t232 = true
              ·subst c63
               have H1 : (some 10) = some r := by rw [if_pos rfl] at H; exact H
               clear H
               have H := H1
               clear H1
               obtain rfl := Option.some.inj H
               have hnb64 := NB226_224.out
               have hnc64 := NB224_226.out
               have hcz65_0 : wc.cell? ⟨gb226, 0, none⟩ = some (.int .i64 ((rd_T37 l0_1 x3_2).f0)) := (blk_cell BK226.out 0).trans rfl
               have hcz65_1 : wc.cell? ⟨gb226, 1, none⟩ = some (.int .i64 ((rd_T37 l0_1 x3_2).f1)) := (blk_cell BK226.out 1).trans rfl
               have hcz65_2 : wc.cell? ⟨gb226, 2, none⟩ = some (.int .i64 ((rd_T37 l0_1 x3_2).f2)) := (blk_cell BK226.out 2).trans rfl
               have hcz65_3 : wc.cell? ⟨gb226, 3, none⟩ = some (.int .i64 ((rd_T37 l0_1 x3_2).f3)) := (blk_cell BK226.out 3).trans rfl
               have hfz65_0 := blk_frozen BK226.out 0
               have hfz65_1 := blk_frozen BK226.out 1
               have hfz65_2 := blk_frozen BK226.out 2
               have hfz65_3 := blk_frozen BK226.out 3
               have hcz66_0 : wc.cell? ⟨gb224, 0, none⟩ = some (.int .i64 a0_0) := (blk_cell BK224.out 0).trans rfl
               have hcz66_1 : wc.cell? ⟨gb224, 1, none⟩ = some (.slice (some ad225) l0_1.length c0_1) := (blk_cell BK224.out 1).trans rfl
               have hfz66_0 := blk_frozen BK224.out 0
               have hfz66_1 := blk_frozen BK224.out 1
               go_wp2_with (first | ((with_reducible refine gate_callee (f := 56) rfl ?_); refine goesL_ (some 64) rfl rfl Try.func56 (by kernel_rfl) rfl #[.agg #[.int .i64 a0_0, .slice (some ad225) l0_1.length c0_1], .int .i64 x3_2, .int .i64 ((rd_T37 l0_1 x3_2).f0), .int .i64 ((rd_T37 l0_1 x3_2).f1)] rfl (by (try simp only [List.map_toArray, List.map_cons, List.map_nil]); first | done | rfl | (simp only [List.length_drop, List.length_take]; rfl)) ?_; (with_reducible refine (timesyncref18_used.calls kj12 a0_0 _ _ l0_1 x3_2 ((rd_T37 l0_1 x3_2).f0) ((rd_T37 l0_1 x3_2).f1) false _ ?side1 ?side2 A56.out).mono ?_); (case side1 => exact (Kd.C_below HR0_1.out HB.out)); (case side2 => exact HC0_1.out); rintro e w67 ⟨rfl, hb⟩; refine ⟨_, rfl, ?_⟩; have n0_ := Aside0.mk (blk_below (g := gb224) (o := .cells #[.int .i64 a0_0, .slice (some ad225) l0_1.length c0_1] 24 (0, 0)) (by exact BK224.out) hb); have n1_ := Aside0.mk (blk_below (g := gb226) (o := .cells #[.int .i64 ((rd_T37 l0_1 x3_2).f0), .int .i64 ((rd_T37 l0_1 x3_2).f1), .int .i64 ((rd_T37 l0_1 x3_2).f2), .int .i64 ((rd_T37 l0_1 x3_2).f3)] 37 (0, 0)) (by exact BK226.out) hb); have n2_ := Aside0.mk (below_step (by exact HB.out) hb); clear BK224; clear BK226; clear HB; have BK224 := n0_; have BK226 := n1_; have HB := n2_; clear n0_ n1_ n2_; have hcz68_0 : w67.cell? ⟨gb224, 0, none⟩ = some (.int .i64 a0_0) := (blk_cell BK224.out 0).trans rfl; have hcz68_1 : w67.cell? ⟨gb224, 1, none⟩ = some (.slice (some ad225) l0_1.length c0_1) := (blk_cell BK224.out 1).trans rfl; have hfz68_0 := blk_frozen BK224.out 0; have hfz68_1 := blk_frozen BK224.out 1; have hcz69_0 : w67.cell? ⟨gb226, 0, none⟩ = some (.int .i64 ((rd_T37 l0_1 x3_2).f0)) := (blk_cell BK226.out 0).trans rfl; have hcz69_1 : w67.cell? ⟨gb226, 1, none⟩ = some (.int .i64 ((rd_T37 l0_1 x3_2).f1)) := (blk_cell BK226.out 1).trans rfl; have hcz69_2 : w67.cell? ⟨gb226, 2, none⟩ = some (.int .i64 ((rd_T37 l0_1 x3_2).f2)) := (blk_cell BK226.out 2).trans rfl; have hcz69_3 : w67.cell? ⟨gb226, 3, none⟩ = some (.int .i64 ((rd_T37 l0_1 x3_2).f3)) := (blk_cell BK226.out 3).trans rfl; have hfz69_0 := blk_frozen BK226.out 0; have hfz69_1 := blk_frozen BK226.out 1; have hfz69_2 := blk_frozen BK226.out 2; have hfz69_3 := blk_frozen BK226.out 3) | (go_at_call 56; (with_reducible refine (timesyncref18_used.calls kj12 a0_0 _ _ l0_1 x3_2 ((rd_T37 l0_1 x3_2).f2) ((rd_T37 l0_1 x3_2).f3) true _ ?side1 ?side2 A62.out).mono ?_); (case side1 => exact (Kd.C_below HR0_1.out HB.out)); (case side2 => exact HC0_1.out); rintro e w70 ⟨rfl, hb⟩; have n0_ := Aside0.mk (blk_below (g := gb224) (o := .cells #[.int .i64 a0_0, .slice (some ad225) l0_1.length c0_1] 24 (0, 0)) (by exact BK224.out) hb); have n1_ := Aside0.mk (blk_below (g := gb226) (o := .cells #[.int .i64 ((rd_T37 l0_1 x3_2).f0), .int .i64 ((rd_T37 l0_1 x3_2).f1), .int .i64 ((rd_T37 l0_1 x3_2).f2), .int .i64 ((rd_T37 l0_1 x3_2).f3)] 37 (0, 0)) (by exact BK226.out) hb); have n2_ := Aside0.mk (below_step (by exact HB.out) hb); clear BK224; clear BK226; clear HB; have BK224 := n0_; have BK226 := n1_; have HB := n2_; clear n0_ n1_ n2_; (try clear hi)))
               go_ret
               exact ⟨by first | rfl | (simp [errW_none, errW_some] <;> rfl) | (simp [*, errW_none, errW_some] <;> rfl), by exact HB.out⟩
              ·replace c63 := Bool.eq_false_iff.mpr c63
               subst c63
               have H1 : (timesyncref18_Check.l0 kj12 (wrap64 (x3_2 + 1)) a0_0 l0_1) = some r := by rw [if_neg (show ¬ (false = true) by decide)] at H; exact H
               clear H
               have H := H1
               clear H1
               have H' := Aside0.mk H
               clear H
               have hnb71 := NB226_224.out
               have hnc71 := NB224_226.out
               have hcz72_0 : wc.cell? ⟨gb226, 0, none⟩ = some (.int .i64 ((rd_T37 l0_1 x3_2).f0)) := (blk_cell BK226.out 0).trans rfl
               have hcz72_1 : wc.cell? ⟨gb226, 1, none⟩ = some (.int .i64 ((rd_T37 l0_1 x3_2).f1)) := (blk_cell BK226.out 1).trans rfl
               have hcz72_2 : wc.cell? ⟨gb226, 2, none⟩ = some (.int .i64 ((rd_T37 l0_1 x3_2).f2)) := (blk_cell BK226.out 2).trans rfl
               have hcz72_3 : wc.cell? ⟨gb226, 3, none⟩ = some (.int .i64 ((rd_T37 l0_1 x3_2).f3)) := (blk_cell BK226.out 3).trans rfl
               have hfz72_0 := blk_frozen BK226.out 0
               have hfz72_1 := blk_frozen BK226.out 1
               have hfz72_2 := blk_frozen BK226.out 2
               have hfz72_3 := blk_frozen BK226.out 3
               have hcz73_0 : wc.cell? ⟨gb224, 0, none⟩ = some (.int .i64 a0_0) := (blk_cell BK224.out 0).trans rfl
               have hcz73_1 : wc.cell? ⟨gb224, 1, none⟩ = some (.slice (some ad225) l0_1.length c0_1) := (blk_cell BK224.out 1).trans rfl
               have hfz73_0 := blk_frozen BK224.out 0
               have hfz73_1 := blk_frozen BK224.out 1
               go_wp2_with (first | ((with_reducible refine gate_callee (f := 56) rfl ?_); refine goesL_ (some 64) rfl rfl Try.func56 (by kernel_rfl) rfl #[.agg #[.int .i64 a0_0, .slice (some ad225) l0_1.length c0_1], .int .i64 x3_2, .int .i64 ((rd_T37 l0_1 x3_2).f0), .int .i64 ((rd_T37 l0_1 x3_2).f1)] rfl (by (try simp only [List.map_toArray, List.map_cons, List.map_nil]); first | done | rfl | (simp only [List.length_drop, List.length_take]; rfl)) ?_; (with_reducible refine (timesyncref18_used.calls kj12 a0_0 _ _ l0_1 x3_2 ((rd_T37 l0_1 x3_2).f0) ((rd_T37 l0_1 x3_2).f1) false _ ?side1 ?side2 A56.out).mono ?_); (case side1 => exact (Kd.C_below HR0_1.out HB.out)); (case side2 => exact HC0_1.out); rintro e w74 ⟨rfl, hb⟩; refine ⟨_, rfl, ?_⟩; have n0_ := Aside0.mk (blk_below (g := gb224) (o := .cells #[.int .i64 a0_0, .slice (some ad225) l0_1.length c0_1] 24 (0, 0)) (by exact BK224.out) hb); have n1_ := Aside0.mk (blk_below (g := gb226) (o := .cells #[.int .i64 ((rd_T37 l0_1 x3_2).f0), .int .i64 ((rd_T37 l0_1 x3_2).f1), .int .i64 ((rd_T37 l0_1 x3_2).f2), .int .i64 ((rd_T37 l0_1 x3_2).f3)] 37 (0, 0)) (by exact BK226.out) hb); have n2_ := Aside0.mk (below_step (by exact HB.out) hb); clear BK224; clear BK226; clear HB; have BK224 := n0_; have BK226 := n1_; have HB := n2_; clear n0_ n1_ n2_; have hcz75_0 : w74.cell? ⟨gb224, 0, none⟩ = some (.int .i64 a0_0) := (blk_cell BK224.out 0).trans rfl; have hcz75_1 : w74.cell? ⟨gb224, 1, none⟩ = some (.slice (some ad225) l0_1.length c0_1) := (blk_cell BK224.out 1).trans rfl; have hfz75_0 := blk_frozen BK224.out 0; have hfz75_1 := blk_frozen BK224.out 1; have hcz76_0 : w74.cell? ⟨gb226, 0, none⟩ = some (.int .i64 ((rd_T37 l0_1 x3_2).f0)) := (blk_cell BK226.out 0).trans rfl; have hcz76_1 : w74.cell? ⟨gb226, 1, none⟩ = some (.int .i64 ((rd_T37 l0_1 x3_2).f1)) := (blk_cell BK226.out 1).trans rfl; have hcz76_2 : w74.cell? ⟨gb226, 2, none⟩ = some (.int .i64 ((rd_T37 l0_1 x3_2).f2)) := (blk_cell BK226.out 2).trans rfl; have hcz76_3 : w74.cell? ⟨gb226, 3, none⟩ = some (.int .i64 ((rd_T37 l0_1 x3_2).f3)) := (blk_cell BK226.out 3).trans rfl; have hfz76_0 := blk_frozen BK226.out 0; have hfz76_1 := blk_frozen BK226.out 1; have hfz76_2 := blk_frozen BK226.out 2; have hfz76_3 := blk_frozen BK226.out 3) | (go_at_call 56; (with_reducible refine (timesyncref18_used.calls kj12 a0_0 _ _ l0_1 x3_2 ((rd_T37 l0_1 x3_2).f2) ((rd_T37 l0_1 x3_2).f3) false _ ?side1 ?side2 A62.out).mono ?_); (case side1 => exact (Kd.C_below HR0_1.out HB.out)); (case side2 => exact HC0_1.out); rintro e w77 ⟨rfl, hb⟩; have n0_ := Aside0.mk (blk_below (g := gb224) (o := .cells #[.int .i64 a0_0, .slice (some ad225) l0_1.length c0_1] 24 (0, 0)) (by exact BK224.out) hb); have n1_ := Aside0.mk (blk_below (g := gb226) (o := .cells #[.int .i64 ((rd_T37 l0_1 x3_2).f0), .int .i64 ((rd_T37 l0_1 x3_2).f1), .int .i64 ((rd_T37 l0_1 x3_2).f2), .int .i64 ((rd_T37 l0_1 x3_2).f3)] 37 (0, 0)) (by exact BK226.out) hb); have n2_ := Aside0.mk (below_step (by exact HB.out) hb); clear BK224; clear BK226; clear HB; have BK224 := n0_; have BK226 := n1_; have HB := n2_; clear n0_ n1_ n2_; (try clear hi)))
               go_roundg kj12
               case measure => have := HJ1.out; have := HK2.out; have := HJ12.out; omega
               case rel => exact ⟨(wrap64 (x3_2 + 1)), (by first | rfl | (simp; done) | (simp [*]; done)), H', ⟨by have := HJ1.out; have := HK2.out; have := HJ12.out; omega⟩, ⟨by exact BK224.out⟩, ⟨by exact HB.out⟩⟩
        ·rw [if_neg c12] at H
         exact absurd H (by simp)
       ·rw [if_neg c11] at H
        have c11b0 : decide (x3_2 < (l0_1.length : Int)) = false := decide_eq_false c11
        clear c11
        obtain rfl := Option.some.inj H
        have hcz78_0 : wr.cell? ⟨gb224, 0, none⟩ = some (.int .i64 a0_0) := (blk_cell BK224.out 0).trans rfl
        have hcz78_1 : wr.cell? ⟨gb224, 1, none⟩ = some (.slice A0_1 l0_1.length c0_1) := (blk_cell BK224.out 1).trans rfl
        have hfz78_0 := blk_frozen BK224.out 0
        have hfz78_1 := blk_frozen BK224.out 1
        go_wp2
        go_ret
        exact ⟨by first | rfl | (simp [errW_none, errW_some] <;> rfl) | (simp [*, errW_none, errW_some] <;> rfl), by exact HB.out⟩

end Go.Proofs.Ythkpnkmbmlbefaa.X

namespace Go.Proofs.Ythkpnkmbmlbefaa.X
open Go.RowKit Go.Proofs.YthkpnkmbmlbefaaW.PrintWords Go.Proofs.YthkpnkmbmlbefaaW.PrintLast Go.Proofs.YthkpnkmbmlbefaaW.PrintMore
attribute [local go_sem] max2_int min2_int max_two min_two max_three min_three max_four min_four   -- for this text's walks alone
set_option linter.unusedVariables false
set_option linter.unusedSimpArgs false

/-! ### timesyncref18_better: function 60 -/
def timesyncref18_better.f (a0 : Int) (a1 : Int) : Option (Int) := if a1 ≥ 0 then (if a0 < 0 then (some (wrap64 (a1 + 1))) else (if (wrap64 (a1 + 1)) < a0 then (some (wrap64 (a1 + 1))) else (some a0))) else (some a0)
set_option maxHeartbeats 8000000 in
set_option maxRecDepth 100000 in
theorem timesyncref18_better.calls (a0 : Int) (a1 : Int) (r : Int) (w : World) (h : timesyncref18_better.f a0 a1 = some r) :
  Calls Try.prog 60 #[.int .i64 a0, .int .i64 a1] w fun e w' => e = .returned (.int .i64 r) ∧ Drawn0 w w' := by
 have H : (if a1 ≥ 0 then (if a0 < 0 then (some (wrap64 (a1 + 1))) else (if (wrap64 (a1 + 1)) < a0 then (some (wrap64 (a1 + 1))) else (some a0))) else (some a0)) = some r := h
 clear h
 by_cases c3 : a1 ≥ 0
 ·rw [if_pos c3] at H
  have c3b0 : decide (0 ≤ a1) = true := decide_eq_true c3
  clear c3
  by_cases c4 : a0 < 0
  ·rw [if_pos c4] at H
   have c4b0 : decide (a0 < 0) = true := decide_eq_true c4
   clear c4
   obtain rfl := Option.some.inj H
   go_enter Try.func60, Try.ntmps60
   go_wp2
   go_ret
   exact ⟨by first | rfl | (simp; done) | (simp [*]; done), by repeat (first | exact Drawn0.refl _ | apply Drawn0.step)⟩
  ·rw [if_neg c4] at H
   have c4b0 : decide (a0 < 0) = false := decide_eq_false c4
   clear c4
   by_cases c5 : (wrap64 (a1 + 1)) < a0
   ·rw [if_pos c5] at H
    have c5b0 : decide ((wrap64 (a1 + 1)) < a0) = true := decide_eq_true c5
    clear c5
    obtain rfl := Option.some.inj H
    go_enter Try.func60, Try.ntmps60
    go_wp2
    go_ret
    exact ⟨by first | rfl | (simp; done) | (simp [*]; done), by repeat (first | exact Drawn0.refl _ | apply Drawn0.step)⟩
   ·rw [if_neg c5] at H
    have c5b0 : decide ((wrap64 (a1 + 1)) < a0) = false := decide_eq_false c5
    clear c5
    obtain rfl := Option.some.inj H
    go_enter Try.func60, Try.ntmps60
    go_wp2
    go_ret
    exact ⟨by first | rfl | (simp; done) | (simp [*]; done), by repeat (first | exact Drawn0.refl _ | apply Drawn0.step)⟩
 ·rw [if_neg c3] at H
  have c3b0 : decide (0 ≤ a1) = false := decide_eq_false c3
  clear c3
  obtain rfl := Option.some.inj H
  go_enter Try.func60, Try.ntmps60
  go_wp2
  go_ret
  exact ⟨by first | rfl | (simp; done) | (simp [*]; done), by repeat (first | exact Drawn0.refl _ | apply Drawn0.step)⟩

end Go.Proofs.Ythkpnkmbmlbefaa.X

namespace Go.Proofs.Ythkpnkmbmlbefaa.X
open Go.RowKit Go.Proofs.YthkpnkmbmlbefaaW.PrintWords Go.Proofs.YthkpnkmbmlbefaaW.PrintLast Go.Proofs.YthkpnkmbmlbefaaW.PrintMore
attribute [local go_sem] max2_int min2_int max_two min_two max_three min_three max_four min_four   -- for this text's walks alone
set_option linter.unusedVariables false
set_option linter.unusedSimpArgs false

/-! ### timesyncref18_Dist: function 21 -/
mutual
def timesyncref18_Dist.j0 : Nat → Int → Bool → Int → List (S37) → Option (List Int)
 | 0, _, _, _, _ => none
 | k + 1, x1, x18, x240000, x240001 => if x18 = true then (some ([] : List Int)) else (if 0 ≤ x240000 then (if (x240000 : Int).toNat ≤ 35184372088832 then (timesyncref18_Dist.l0 k x1 (List.replicate (x240000 : Int).toNat 0) 0 x240000 x240001) else (none)) else (none))
def timesyncref18_Dist.l0 : Nat → Int → List Int → Int → Int → List (S37) → Option (List Int)
 | 0, _, _, _, _, _ => none
 | k + 1, x1, x5, x6, x240000, x240001 => if x6 < x240000 then (if 0 ≤ x6 then (if x6 < (x5.length : Int) then (timesyncref18_Dist.l0 k x1 (x5.set (x6 : Int).toNat (-1)) (wrap64 (x6 + 1)) x240000 x240001) else (none)) else (none)) else (if 0 ≤ x1 then (if x1 < (x5.length : Int) then (timesyncref18_Dist.l1 k (x5.set (x1 : Int).toNat 0) 0 x240000 x240001) else (none)) else (none))
def timesyncref18_Dist.l1 : Nat → List Int → Int → Int → List (S37) → Option (List Int)
 | 0, _, _, _, _ => none
 | k + 1, x5, x7, x240000, x240001 => if x7 < x240000 then (timesyncref18_Dist.l2 k x5 x7 0 x240000 x240001) else (some x5)
def timesyncref18_Dist.l2 : Nat → List Int → Int → Int → Int → List (S37) → Option (List Int)
 | 0, _, _, _, _, _ => none
 | k + 1, x5, x7, x8, x240000, x240001 => if x8 < (x240001.length : Int) then (if 0 ≤ x8 then (if 0 ≤ ((rd_T37 x240001 x8).f0) then (if ((rd_T37 x240001 x8).f0) < (x5.length : Int) then (if 0 ≤ ((rd_T37 x240001 x8).f2) then (if ((rd_T37 x240001 x8).f2) < (x5.length : Int) then ((timesyncref18_better.f (rd x5 ((rd_T37 x240001 x8).f0)) (rd x5 ((rd_T37 x240001 x8).f2))).bind fun t251 => ((some (x5.set (((rd_T37 x240001 x8).f0) : Int).toNat t251 : List Int)).bind fun y252 => ((timesyncref18_better.f (rd y252 ((rd_T37 x240001 x8).f2)) (rd y252 ((rd_T37 x240001 x8).f0))).bind fun t255 => (timesyncref18_Dist.l2 k (y252.set (((rd_T37 x240001 x8).f2) : Int).toNat t255) x7 (wrap64 (x8 + 1)) x240000 x240001)))) else (none)) else (none)) else (none)) else (none)) else (none)) else (timesyncref18_Dist.l1 k x5 (wrap64 (x7 + 1)) x240000 x240001)
end
def timesyncref18_Dist.f (k : Nat) (a0_0 : Int) (l0_1 : List (S37)) (a1 : Int) : Option (List Int) := (timesyncref18_Check.f k a0_0 l0_1).bind fun t240 => (if t240 = 0 then ((timesyncref18_isNode.f a0_0 l0_1 a1).bind fun t241 => (timesyncref18_Dist.j0 k a1 (!t241) a0_0 l0_1)) else (timesyncref18_Dist.j0 k a1 true a0_0 l0_1))
def timesyncref18_Dist.T16 : Bool × List (List Nat × List Nat) := (true, [([], []), ([], []), ([1], [1]), ([], []), ([], []), ([4], [4]), ([3, 5], [3, 5]), ([6], [6]), ([], []), ([], []), ([9], [9]), ([8, 10], [8, 10]), ([11], [11]), ([7, 12], [7, 12]), ([0, 2, 0, 1, 2, 3, 4, 5, 6, 7, 8, 9, 10, 11, 12, 13], [0, 2]), ([14, 13, 13, 0, 1, 2, 3, 4, 5, 6, 7, 8, 9, 10, 11, 12, 13], [13, 14])])
def timesyncref18_Dist.B16 : List Nat := [0, 0, 2, 0, 0, 16, 56, 120, 0, 0, 512, 1792, 3840, 8184, 16383, 32767]
theorem timesyncref18_Dist.tab16 : rtab .any (opsOf Try.f21 16) = timesyncref18_Dist.T16 := by kernel_rfl
theorem timesyncref18_Dist.bits16 : waitsOk timesyncref18_Dist.T16.2 timesyncref18_Dist.B16 = true := by kernel_rfl
def timesyncref18_Dist.T17 : Bool × List (List Nat × List Nat) := (true, [([], []), ([], []), ([1], [1]), ([], []), ([], []), ([4], [4]), ([3, 5], [3, 5]), ([6], [6]), ([], []), ([], []), ([9], [9]), ([8, 10], [8, 10]), ([11], [11]), ([7, 12], [7, 12]), ([0, 2, 0, 1, 2, 3, 4, 5, 6, 7, 8, 9, 10, 11, 12, 13], [0, 2]), ([14, 13, 13, 0, 1, 2, 3, 4, 5, 6, 7, 8, 9, 10, 11, 12, 13], [13, 14])])
def timesyncref18_Dist.B17 : List Nat := [0, 0, 2, 0, 0, 16, 56, 120, 0, 0, 512, 1792, 3840, 8184, 16383, 32767]
theorem timesyncref18_Dist.tab17 : rtab .any (opsOf Try.f21 17) = timesyncref18_Dist.T17 := by kernel_rfl
theorem timesyncref18_Dist.bits17 : waitsOk timesyncref18_Dist.T17.2 timesyncref18_Dist.B17 = true := by kernel_rfl
set_option maxHeartbeats 8000000 in
set_option maxRecDepth 100000 in
theorem timesyncref18_Dist.calls (k : Nat) (a0_0 : Int) (A0_1 : Option Addr) (c0_1 : Nat) (l0_1 : List (S37)) (a1 : Int) (r : List Int) (w : World) (hr0_1 : Kd.C k37 w A0_1 l0_1.length l0_1) (hc0_1 : l0_1.length ≤ c0_1) (h : timesyncref18_Dist.f k a0_0 l0_1 a1 = some r) :
  Calls Try.prog 21 #[.agg #[.int .i64 a0_0, .slice A0_1 l0_1.length c0_1], .int .i64 a1] w fun e w' => ∃ v0_ : Value, e = .returned (v0_) ∧ Kd.R (Kd.int .i64) 3 w' w.heap.size (fun _ => True) v0_ r ∧ Below w.heap.size w w' := by
 have hu24 := Try.underlying24
 have hu37 := Try.underlying37
 have HR0_1 := Aside0.mk hr0_1
 have HC0_1 := Aside0.mk hc0_1
 clear hr0_1 hc0_1
 have HB := Aside0.mk (Below.refl w.heap.size w)
 have H : ((timesyncref18_Check.f k a0_0 l0_1).bind fun t240 => (if t240 = 0 then ((timesyncref18_isNode.f a0_0 l0_1 a1).bind fun t241 => (timesyncref18_Dist.j0 k a1 (!t241) a0_0 l0_1)) else (timesyncref18_Dist.j0 k a1 true a0_0 l0_1))) = some r := h
 clear h
 have HC3 := Aside0.mk H
 clear H
 go_enter Try.func21, Try.ntmps21
 go_upto_region 1 with (first | ((with_reducible refine gate_dst (N := 2) rfl ?_); refine box_event ?hg (N := 2) ?hd (cs := #[.int .i64 a0_0, .slice A0_1 l0_1.length c0_1]) (t := 24) ?hr ?_; (case hd => rfl); (case hg => rfl); (case hr => first | (go_simp; done) | (go_simp; rfl)); intro gb239 hg w4 hbox hb; have n0_ := Aside0.mk (below_step (by exact HB.out) hb); have n1_ := Aside0.mk (hbox); have n2_ := Aside0.mk ((by rw [hg]; exact (below_size (by exact HB.out)) : w.heap.size ≤ gb239)); have n3_ := Aside0.mk ((by rw [hg]; exact (below_size (by exact HB.out)) : w.heap.size ≤ gb239)); clear HB; have HB := n0_; have BK239 := n1_; have GW239 := n2_; have GE239 := n3_; clear n0_ n1_ n2_ n3_; clear hb hbox hg))
 (try simp only [Act.put, List.setIfInBounds_toArray, List.set_cons_zero, List.set_cons_succ])
 go_cut [18] (fun v18 wc => ∃ (kq : Nat) (x18_2 : Bool), v18 = .bool x18_2 ∧ Aside0 (timesyncref18_Dist.j0 kq a1 x18_2 a0_0 l0_1 = some r) ∧ Aside0 (kq ≤ k) ∧ Aside0 (wc.heap[gb239]? = some (.cells #[.int .i64 a0_0, (.slice A0_1 l0_1.length c0_1)] 24 (0, 0))) ∧ Aside0 (Below w.heap.size w wc))
 case first =>
  have H := HC3.out
  clear HC3
  replace H := Option.bind_eq_some_iff.mp H
  obtain ⟨t240, A50, H⟩ := H
  replace H : (if t240 = 0 then ((timesyncref18_isNode.f a0_0 l0_1 a1).bind fun t241 => (timesyncref18_Dist.j0 k a1 (!t241) a0_0 l0_1)) else (timesyncref18_Dist.j0 k a1 true a0_0 l0_1)) = some r := H
  have A5 := Aside0.mk A50
  clear A50
  by_cases c6 : t240 = 0
  ·rw [if_pos c6] at H
   have c6b0 : (t240 == 0) = true := beq_iff_eq.mpr c6
   have c6b1 : (t240 != 0) = false := bne_eq_false_iff_eq.mpr c6
   clear c6
   (first | rw [c6b0] | (simp only [i64_w, i32_w]; rw [c6b0]) | skip)
   replace H := Option.bind_eq_some_iff.mp H
   obtain ⟨t241, A70, H⟩ := H
   replace H : (timesyncref18_Dist.j0 k a1 (!t241) a0_0 l0_1) = some r := H
   have A7 := Aside0.mk A70
   clear A70
   have H' := Aside0.mk H
   clear H
   have hcz8_0 : w4.cell? ⟨gb239, 0, none⟩ = some (.int .i64 a0_0) := (blk_cell BK239.out 0).trans rfl
   have hcz8_1 : w4.cell? ⟨gb239, 1, none⟩ = some (.slice A0_1 l0_1.length c0_1) := (blk_cell BK239.out 1).trans rfl
   have hfz8_0 := blk_frozen BK239.out 0
   have hfz8_1 := blk_frozen BK239.out 1
   go_wp2_with (first | ((with_reducible refine gate_callee (f := 18) rfl ?_); refine goesL_ (some 11) rfl rfl Try.func18 (by kernel_rfl) rfl #[.agg #[.int .i64 a0_0, .slice A0_1 l0_1.length c0_1]] rfl (by (try simp only [List.map_toArray, List.map_cons, List.map_nil]); first | done | rfl | (simp only [List.length_drop, List.length_take]; rfl)) ?_; (with_reducible refine (timesyncref18_Check.calls k a0_0 _ _ l0_1 t240 _ ?side1 ?side2 A5.out).mono ?_); (case side1 => repeat (first | exact (Kd.C_below HR0_1.out HB.out) | (with_reducible refine Kd.C_alloc ?_ _) | (with_reducible refine Kd.C_drewN ?_ _) | (with_reducible refine Kd.C_drew ?_))); (case side2 => exact HC0_1.out); rintro e w9 ⟨rfl, hb⟩; refine ⟨_, rfl, ?_⟩; have n0_ := Aside0.mk (blk_below (g := gb239) (o := .cells #[.int .i64 a0_0, .slice A0_1 l0_1.length c0_1] 24 (0, 0)) (by (with_reducible repeat (first | refine blk_drewN ?_ _ | refine blk_drew ?_ | refine blk_alloc ?_ _)); exact BK239.out) hb); have n1_ := Aside0.mk (below_step (by repeat (first | (with_reducible first | exact HB.out | apply below_alloc | apply pw_below_drewN | apply below_drew1 | refine below_set ?_ GE239.out) | exact HB.out)) hb); clear BK239; clear HB; have BK239 := n0_; have HB := n1_; clear n0_ n1_; have hcz10_0 : w9.cell? ⟨gb239, 0, none⟩ = some (.int .i64 a0_0) := (blk_cell BK239.out 0).trans rfl; have hcz10_1 : w9.cell? ⟨gb239, 1, none⟩ = some (.slice A0_1 l0_1.length c0_1) := (blk_cell BK239.out 1).trans rfl; have hfz10_0 := blk_frozen BK239.out 0; have hfz10_1 := blk_frozen BK239.out 1) | (go_at_call 54; (with_reducible refine (timesyncref18_isNode.calls a0_0 _ _ l0_1 a1 t241 _ ?side1 ?side2 A7.out).mono ?_); (case side1 => repeat (first | exact (Kd.C_below HR0_1.out HB.out) | (with_reducible refine Kd.C_alloc ?_ _) | (with_reducible refine Kd.C_drewN ?_ _) | (with_reducible refine Kd.C_drew ?_))); (case side2 => exact HC0_1.out); rintro e w11 ⟨rfl, hb⟩; have n0_ := Aside0.mk (blk_below (g := gb239) (o := .cells #[.int .i64 a0_0, .slice A0_1 l0_1.length c0_1] 24 (0, 0)) (by (with_reducible repeat (first | refine blk_drewN ?_ _ | refine blk_drew ?_ | refine blk_alloc ?_ _)); exact BK239.out) hb); have n1_ := Aside0.mk (below_step (by repeat (first | (with_reducible first | exact HB.out | apply below_alloc | apply pw_below_drewN | apply below_drew1 | refine below_set ?_ GE239.out) | exact HB.out)) hb); clear BK239; clear HB; have BK239 := n0_; have HB := n1_; clear n0_ n1_; (try clear hi)))
   go_meet
   case rel => exact ⟨_, (!t241), (by first | rfl | (simp; done) | (simp [*]; done)), H', ⟨by first | omega | exact Nat.le_refl _⟩, ⟨by exact BK239.out⟩, ⟨by exact HB.out⟩⟩
  ·rw [if_neg c6] at H
   have c6b0 : (t240 == 0) = false := beq_eq_false_iff_ne.mpr c6
   have c6b1 : (t240 != 0) = true := bne_iff_ne.mpr c6
   (first | rw [c6b0] | (simp only [i64_w, i32_w]; rw [c6b0]) | skip)
   have H' := Aside0.mk H
   clear H
   have hcz12_0 : w4.cell? ⟨gb239, 0, none⟩ = some (.int .i64 a0_0) := (blk_cell BK239.out 0).trans rfl
   have hcz12_1 : w4.cell? ⟨gb239, 1, none⟩ = some (.slice A0_1 l0_1.length c0_1) := (blk_cell BK239.out 1).trans rfl
   have hfz12_0 := blk_frozen BK239.out 0
   have hfz12_1 := blk_frozen BK239.out 1
   go_wp2_with (first | ((with_reducible refine gate_callee (f := 18) rfl ?_); refine goesL_ (some 11) rfl rfl Try.func18 (by kernel_rfl) rfl #[.agg #[.int .i64 a0_0, .slice A0_1 l0_1.length c0_1]] rfl (by (try simp only [List.map_toArray, List.map_cons, List.map_nil]); first | done | rfl | (simp only [List.length_drop, List.length_take]; rfl)) ?_; (with_reducible refine (timesyncref18_Check.calls k a0_0 _ _ l0_1 t240 _ ?side1 ?side2 A5.out).mono ?_); (case side1 => repeat (first | exact (Kd.C_below HR0_1.out HB.out) | (with_reducible refine Kd.C_alloc ?_ _) | (with_reducible refine Kd.C_drewN ?_ _) | (with_reducible refine Kd.C_drew ?_))); (case side2 => exact HC0_1.out); rintro e w13 ⟨rfl, hb⟩; refine ⟨_, rfl, ?_⟩; have n0_ := Aside0.mk (blk_below (g := gb239) (o := .cells #[.int .i64 a0_0, .slice A0_1 l0_1.length c0_1] 24 (0, 0)) (by (with_reducible repeat (first | refine blk_drewN ?_ _ | refine blk_drew ?_ | refine blk_alloc ?_ _)); exact BK239.out) hb); have n1_ := Aside0.mk (below_step (by repeat (first | (with_reducible first | exact HB.out | apply below_alloc | apply pw_below_drewN | apply below_drew1 | refine below_set ?_ GE239.out) | exact HB.out)) hb); clear BK239; clear HB; have BK239 := n0_; have HB := n1_; clear n0_ n1_; (try clear hi)))
   go_meet
   case rel => exact ⟨_, (true), (by first | rfl | (simp; done) | (simp [*]; done)), H', ⟨by first | omega | exact Nat.le_refl _⟩, ⟨by exact BK239.out⟩, ⟨by exact HB.out⟩⟩
 case rest =>
  clear HC3


















  obtain ⟨kq, x18_2, rfl, HA, HJ2, BK239, HB⟩ := hcut
  cases kq with
  | zero => exact absurd HA.out (by simp [timesyncref18_Dist.j0])
  | succ kj2 =>
   have H := HA.out
   clear HA
   simp only [timesyncref18_Dist.j0] at H
   by_cases c14 : x18_2 = true
   ·subst c14
    have H1 : (some ([] : List Int)) = some r := by rw [if_pos rfl] at H; exact H
    clear H
    have H := H1
    clear H1
    obtain rfl := Option.some.inj H
    go_wp2
    go_ret
    exact ⟨_, by first | rfl | (simp [errW_none, errW_some] <;> rfl) | (simp [*, errW_none, errW_some] <;> rfl), by first | exact Kd.R_nil _ _ _ _ _ | exact Kd.N_nil _ _ _ _ _ | exact Kd.V_nil _ _ _ _ _ | exact Kd.Q_nil _ _ _ _ _ | exact Kd.S_nil _ _ _ _ _, by exact HB.out⟩
   ·replace c14 := Bool.eq_false_iff.mpr c14
    subst c14
    have H1 : (if 0 ≤ a0_0 then (if (a0_0 : Int).toNat ≤ 35184372088832 then (timesyncref18_Dist.l0 kj2 a1 (List.replicate (a0_0 : Int).toNat 0) 0 a0_0 l0_1) else (none)) else (none)) = some r := by rw [if_neg (show ¬ (false = true) by decide)] at H; exact H
    clear H
    have H := H1
    clear H1
    by_cases c15 : 0 ≤ a0_0
    ·rw [if_pos c15] at H
     have c15b0 := eq_true c15
     have c15b1 : decide (0 ≤ a0_0) = true := decide_eq_true c15
     clear c15
     by_cases c16 : (a0_0 : Int).toNat ≤ 35184372088832
     ·rw [if_pos c16] at H
      have c16b0 := eq_true c16
      have c16b1 : decide ((a0_0 : Int).toNat ≤ 35184372088832) = true := decide_eq_true c16
      clear c16
      obtain ⟨y242, hy242⟩ : ∃ y_ : List Int, y_ = (List.replicate (a0_0 : Int).toNat 0) := ⟨_, rfl⟩
      replace H : (timesyncref18_Dist.l0 kj2 a1 y242 0 a0_0 l0_1) = some r := by first | (rw [hy242]; with_reducible exact H) | (have H2_ := (Option.bind_some _ _).symm.trans H; rw [hy242]; with_reducible exact H2_) | (have H2_ := (Option.bind_some _ _).symm.trans H; with_reducible exact H2_) | with_reducible exact H | (rw [hy242]; exact H) | exact H
      have Ny242 := Aside0.mk hy242
      clear hy242
      have H' := Aside0.mk H
      clear H
      have hcz17_0 : wc.cell? ⟨gb239, 0, none⟩ = some (.int .i64 a0_0) := (blk_cell BK239.out 0).trans rfl
      have hcz17_1 : wc.cell? ⟨gb239, 1, none⟩ = some (.slice A0_1 l0_1.length c0_1) := (blk_cell BK239.out 1).trans rfl
      have hfz17_0 := blk_frozen BK239.out 0
      have hfz17_1 := blk_frozen BK239.out 1
      go_wp2_with (first | ((with_reducible refine gate_dst (N := 21) rfl ?_); refine Kd.R_make (Kd.int .i64) _ 3 rfl (N := 21) rfl 30 _ _ rfl a0_0 rfl rfl Try.underlying30 (.int .i64 0) 8 info3 rfl (by decide) (by omega) 0 (ok := fun _ => True) (okp := fun _ => True) rfl (fun _ hk => hk) trivial (of_decide_eq_true (by first | (with_reducible assumption) | assumption)) (Nat.le_trans (Nat.mul_le_mul_right _ (of_decide_eq_true (by first | (with_reducible assumption) | assumption) : a0_0.toNat ≤ 35184372088832)) (by omega)) (Below.refl _ _) (Nat.le_refl _) ?_; intro v243 w18 ho19 hb hg_ hnew_; clear hg_ hnew_; (first | rw [← Ny242.out] at ho19 | (simp only [Int.reduceToNat] at ho19; rw [← Ny242.out] at ho19)); have n0_ := Aside0.mk (Kd.R_lower ho19 (below_size (by repeat (first | (with_reducible first | exact HB.out | apply below_alloc | apply pw_below_drewN | apply below_drew1 | refine below_set ?_ GE239.out) | exact HB.out)))); have n1_ := Aside0.mk (blk_below (g := gb239) (o := .cells #[.int .i64 a0_0, .slice A0_1 l0_1.length c0_1] 24 (0, 0)) (by (with_reducible repeat (first | refine blk_drewN ?_ _ | refine blk_drew ?_ | refine blk_alloc ?_ _)); exact BK239.out) hb); have n2_ := Aside0.mk (below_step (by repeat (first | (with_reducible first | exact HB.out | apply below_alloc | apply pw_below_drewN | apply below_drew1 | refine below_set ?_ GE239.out) | exact HB.out)) hb); clear BK239; clear HB; have HO244 := n0_; have BK239 := n1_; have HB := n2_; clear n0_ n1_ n2_; clear hb ho19))
      go_loopg [6] kj2 (fun kq v6 w' => ∃ (x5_2 : List Int) (x6_2 : Int), v6 = .int .i64 x6_2 ∧ Aside0 (timesyncref18_Dist.l0 kq a1 x5_2 x6_2 a0_0 l0_1 = some r) ∧ Aside0 (kq ≤ kj2) ∧ Aside0 (Kd.R (Kd.int .i64) 3 w' w.heap.size (fun _ => True) v243 x5_2) ∧ Aside0 (w'.heap[gb239]? = some (.cells #[.int .i64 a0_0, (.slice A0_1 l0_1.length c0_1)] 24 (0, 0))) ∧ Aside0 (Below w.heap.size w w'))
      case atStart => exact ⟨(y242), (0), (by first | rfl | (simp; done) | (simp [*]; done)), H', ⟨Nat.le_refl _⟩, ⟨by exact HO244.out⟩, ⟨by exact BK239.out⟩, ⟨by exact HB.out⟩⟩
      case round =>
       clear H'































       obtain ⟨x5_2, x6_2, rfl, HA, HK2, HO_5, BK239, HB⟩ := hrel
       cases gk with
       | zero => exact absurd HA.out (by simp [timesyncref18_Dist.l0])
       | succ k2 =>
        have H := HA.out
        clear HA
        simp only [timesyncref18_Dist.l0] at H
        by_cases c20 : x6_2 < a0_0
        ·rw [if_pos c20] at H
         have c20b0 : decide (x6_2 < a0_0) = true := decide_eq_true c20
         clear c20
         by_cases c21 : 0 ≤ x6_2
         ·rw [if_pos c21] at H
          have c21b0 : decide (0 ≤ x6_2) = true := decide_eq_true c21
          clear c21
          by_cases c22 : x6_2 < (x5_2.length : Int)
          ·rw [if_pos c22] at H
           have c22b0 : decide (x6_2 < (x5_2.length : Int)) = true := decide_eq_true c22
           clear c22
           obtain ⟨y245, hy245⟩ : ∃ y_ : List Int, y_ = (x5_2.set (x6_2 : Int).toNat (-1)) := ⟨_, rfl⟩
           replace H : (timesyncref18_Dist.l0 k2 a1 y245 (wrap64 (x6_2 + 1)) a0_0 l0_1) = some r := by first | (rw [hy245]; with_reducible exact H) | (have H2_ := (Option.bind_some _ _).symm.trans H; rw [hy245]; with_reducible exact H2_) | (have H2_ := (Option.bind_some _ _).symm.trans H; with_reducible exact H2_) | with_reducible exact H | (rw [hy245]; exact H) | exact H
           have Ny245 := Aside0.mk hy245
           clear hy245
           have H' := Aside0.mk H
           clear H
           have hcz24_0 : wr.cell? ⟨gb239, 0, none⟩ = some (.int .i64 a0_0) := (blk_cell BK239.out 0).trans rfl
           have hcz24_1 : wr.cell? ⟨gb239, 1, none⟩ = some (.slice A0_1 l0_1.length c0_1) := (blk_cell BK239.out 1).trans rfl
           have hfz24_0 := blk_frozen BK239.out 0
           have hfz24_1 := blk_frozen BK239.out 1
           have p23 : 0 ≤ (x6_2 : Int) := of_decide_eq_true (by first | (with_reducible assumption) | assumption)
           have q23 : (x6_2 : Int) < ((x5_2.length : Int) : Int) := of_decide_eq_true (by first | (with_reducible assumption) | assumption)
           obtain ⟨go23, co23, eo23, gb23, gl23, cl23, HG23⟩ := Kd.R_form HO_5.out (by omega)
           (first | cases eo23 | (injection eo23 with ea_ en_ ec_; (first | subst ea_ | (injection ea_ with ea_; subst ea_)); subst ec_; clear en_))
           have GB23 := Aside0.mk gb23
           have GG23 := Aside0.mk HG23
           clear gb23 gl23 HG23
           obtain ⟨hx23_0, hf23_0⟩ := Kd.R_celln 0 HO_5.out (x6_2 : Int) p23 q23
           replace p23 := eq_true p23
           replace q23 := eq_true q23
           have HP25 := Kd.R_putg HO_5.out (x6_2 : Int) (-1)
           go_wp2_with (first | ((with_reducible refine gate_store (t := 3) (p := 30) rfl ?_); refine store_event (t := 3) (p := 30) (v := ?vo_w26) (w1 := (wr.setCell ⟨go23, (x6_2 : Int).toNat, none⟩ (.int .i64 (-1)))) ?hg ?ho ?hn ?hr ?_; (case ho => rfl); (case hg => rfl); (case hn => rfl); (case hr => first | (go_simp; done) | (go_simp; rfl)); intro w26 hw; have hg : wr.grownBy w26 (some go23) := (by rw [hw]; exact HP25.2); have hp_ : Kd.R (Kd.int .i64) 3 w26 w.heap.size (fun _ => True) (.slice (some ⟨go23, 0, none⟩) x5_2.length co23) y245 := (by rw [hw, Ny245.out]; exact HP25.1); clear HP25; have n0_ := Aside0.mk (hp_); have n1_ := Aside0.mk (blk_grown (g := gb239) (o := .cells #[.int .i64 a0_0, .slice A0_1 l0_1.length c0_1] 24 (0, 0)) (by (with_reducible repeat (first | refine blk_drewN ?_ _ | refine blk_drew ?_ | refine blk_alloc ?_ _)); exact BK239.out) hg (Kd.R_ne HO_5.out BK239.out (by decide))); have n2_ := Aside0.mk ((by rw [hw]; exact below_set (HB.out) GB23.out : Below w.heap.size w w26)); clear HO_5; clear BK239; clear HB; have HO_5 := n0_; have BK239 := n1_; have HB := n2_; clear n0_ n1_ n2_; clear hg hw hp_))
           go_roundg k2
           case measure => have := HJ2.out; have := HK2.out; omega
           case rel => exact ⟨(y245), (wrap64 (x6_2 + 1)), (by first | rfl | (simp; done) | (simp [*]; done)), H', ⟨by have := HJ2.out; have := HK2.out; omega⟩, ⟨by exact HO_5.out⟩, ⟨by exact BK239.out⟩, ⟨by exact HB.out⟩⟩
          ·rw [if_neg c22] at H
           exact absurd H (by simp)
         ·rw [if_neg c21] at H
          exact absurd H (by simp)
        ·rw [if_neg c20] at H
         have c20b0 : decide (x6_2 < a0_0) = false := decide_eq_false c20
         clear c20
         by_cases c27 : 0 ≤ a1
         ·rw [if_pos c27] at H
          have c27b0 : decide (0 ≤ a1) = true := decide_eq_true c27
          clear c27
          by_cases c28 : a1 < (x5_2.length : Int)
          ·rw [if_pos c28] at H
           have c28b0 : decide (a1 < (x5_2.length : Int)) = true := decide_eq_true c28
           clear c28
           obtain ⟨y246, hy246⟩ : ∃ y_ : List Int, y_ = (x5_2.set (a1 : Int).toNat 0) := ⟨_, rfl⟩
           replace H : (timesyncref18_Dist.l1 k2 y246 0 a0_0 l0_1) = some r := by first | (rw [hy246]; with_reducible exact H) | (have H2_ := (Option.bind_some _ _).symm.trans H; rw [hy246]; with_reducible exact H2_) | (have H2_ := (Option.bind_some _ _).symm.trans H; with_reducible exact H2_) | with_reducible exact H | (rw [hy246]; exact H) | exact H
           have Ny246 := Aside0.mk hy246
           clear hy246
           have H' := Aside0.mk H
           clear H
           have hcz30_0 : wr.cell? ⟨gb239, 0, none⟩ = some (.int .i64 a0_0) := (blk_cell BK239.out 0).trans rfl
           have hcz30_1 : wr.cell? ⟨gb239, 1, none⟩ = some (.slice A0_1 l0_1.length c0_1) := (blk_cell BK239.out 1).trans rfl
           have hfz30_0 := blk_frozen BK239.out 0
           have hfz30_1 := blk_frozen BK239.out 1
           have p29 : 0 ≤ (a1 : Int) := of_decide_eq_true (by first | (with_reducible assumption) | assumption)
           have q29 : (a1 : Int) < ((x5_2.length : Int) : Int) := of_decide_eq_true (by first | (with_reducible assumption) | assumption)
           obtain ⟨go29, co29, eo29, gb29, gl29, cl29, HG29⟩ := Kd.R_form HO_5.out (by omega)
           (first | cases eo29 | (injection eo29 with ea_ en_ ec_; (first | subst ea_ | (injection ea_ with ea_; subst ea_)); subst ec_; clear en_))
           have GB29 := Aside0.mk gb29
           have GG29 := Aside0.mk HG29
           clear gb29 gl29 HG29
           obtain ⟨hx29_0, hf29_0⟩ := Kd.R_celln 0 HO_5.out (a1 : Int) p29 q29
           replace p29 := eq_true p29
           replace q29 := eq_true q29
           have HP31 := Kd.R_putg HO_5.out (a1 : Int) 0
           go_wp2_with (first | ((with_reducible refine gate_store (t := 3) (p := 33) rfl ?_); refine store_event (t := 3) (p := 33) (v := ?vo_w32) (w1 := (wr.setCell ⟨go29, (a1 : Int).toNat, none⟩ (.int .i64 0))) ?hg ?ho ?hn ?hr ?_; (case ho => rfl); (case hg => rfl); (case hn => rfl); (case hr => first | (go_simp; done) | (go_simp; rfl)); intro w32 hw; have hg : wr.grownBy w32 (some go29) := (by rw [hw]; exact HP31.2); have hp_ : Kd.R (Kd.int .i64) 3 w32 w.heap.size (fun _ => True) (.slice (some ⟨go29, 0, none⟩) x5_2.length co29) y246 := (by rw [hw, Ny246.out]; exact HP31.1); clear HP31; have n0_ := Aside0.mk (hp_); have n1_ := Aside0.mk (blk_grown (g := gb239) (o := .cells #[.int .i64 a0_0, .slice A0_1 l0_1.length c0_1] 24 (0, 0)) (by (with_reducible repeat (first | refine blk_drewN ?_ _ | refine blk_drew ?_ | refine blk_alloc ?_ _)); exact BK239.out) hg (Kd.R_ne HO_5.out BK239.out (by decide))); have n2_ := Aside0.mk ((by rw [hw]; exact below_set (HB.out) GB29.out : Below w.heap.size w w32)); clear HO_5; clear BK239; clear HB; have HO_5 := n0_; have BK239 := n1_; have HB := n2_; clear n0_ n1_ n2_; clear hg hw hp_))
           go_loopg [7] k2 (fun kq v7 w' => ∃ (x5_3 : List Int) (x7_3 : Int), v7 = .int .i64 x7_3 ∧ Aside0 (timesyncref18_Dist.l1 kq x5_3 x7_3 a0_0 l0_1 = some r) ∧ Aside0 (kq ≤ k2) ∧ Aside0 (Kd.R (Kd.int .i64) 3 w' w.heap.size (fun _ => True) (.slice (some ⟨go29, 0, none⟩) x5_2.length co29) x5_3) ∧ Aside0 (w'.heap[gb239]? = some (.cells #[.int .i64 a0_0, (.slice A0_1 l0_1.length c0_1)] 24 (0, 0))) ∧ Aside0 (Below w.heap.size w w'))
           case atStart => exact ⟨(y246), (0), (by first | rfl | (simp; done) | (simp [*]; done)), H', ⟨Nat.le_refl _⟩, ⟨by exact HO_5.out⟩, ⟨by exact BK239.out⟩, ⟨by exact HB.out⟩⟩
           case round =>
            clear H'



































































            obtain ⟨x5_3, x7_3, rfl, HA, HK3, HO_5, BK239, HB⟩ := hrel
            have hl5_3 := (Kd.R_reads' HO_5.out).1
            rw [hl5_3] at HO_5
            (try simp only [hl5_3])
            (try simp only [hl5_3] at BK239)
            cases gk with
            | zero => exact absurd HA.out (by simp [timesyncref18_Dist.l1])
            | succ k3 =>
             have H := HA.out
             clear HA
             simp only [timesyncref18_Dist.l1] at H
             by_cases c33 : x7_3 < a0_0
             ·rw [if_pos c33] at H
              have c33b0 : decide (x7_3 < a0_0) = true := decide_eq_true c33
              clear c33
              (try (have c33r0 := c33b0; simp only [hl5_3] at c33r0))
              have H' := Aside0.mk H
              clear H
              have hcz34_0 : wr.cell? ⟨gb239, 0, none⟩ = some (.int .i64 a0_0) := (blk_cell BK239.out 0).trans rfl
              have hcz34_1 : wr.cell? ⟨gb239, 1, none⟩ = some (.slice A0_1 l0_1.length c0_1) := (blk_cell BK239.out 1).trans rfl
              have hfz34_0 := blk_frozen BK239.out 0
              have hfz34_1 := blk_frozen BK239.out 1
              go_wp2
              go_loopg [8] k3 (fun kq v8 w' => ∃ (x5_4 : List Int) (x8_4 : Int), v8 = .int .i64 x8_4 ∧ Aside0 (timesyncref18_Dist.l2 kq x5_4 x7_3 x8_4 a0_0 l0_1 = some r) ∧ Aside0 (kq ≤ k3) ∧ Aside0 (Kd.R (Kd.int .i64) 3 w' w.heap.size (fun _ => True) (.slice (some ⟨go29, 0, none⟩) x5_3.length co29) x5_4) ∧ Aside0 (w'.heap[gb239]? = some (.cells #[.int .i64 a0_0, (.slice A0_1 l0_1.length c0_1)] 24 (0, 0))) ∧ Aside0 (Below w.heap.size w w'))
              case atStart => exact ⟨(x5_3), (0), (by first | rfl | (simp; done) | (simp [*]; done)), H', ⟨Nat.le_refl _⟩, ⟨by (try simp only [hl5_3]); exact HO_5.out⟩, ⟨by (try simp only [hl5_3]); exact BK239.out⟩, ⟨by exact HB.out⟩⟩
              case round =>
               clear H'












































































               obtain ⟨x5_4, x8_4, rfl, HA, HK4, HO_5, BK239, HB⟩ := hrel
               have hl5_4 := (Kd.R_reads' HO_5.out).1
               rw [hl5_4] at HO_5
               (try simp only [hl5_4])
               (try simp only [hl5_4] at BK239)
               cases gk with
               | zero => exact absurd HA.out (by simp [timesyncref18_Dist.l2])
               | succ k4 =>
                have H := HA.out
                clear HA
                simp only [timesyncref18_Dist.l2] at H
                by_cases c35 : x8_4 < (l0_1.length : Int)
                ·rw [if_pos c35] at H
                 have c35b0 : decide (x8_4 < (l0_1.length : Int)) = true := decide_eq_true c35
                 clear c35
                 (try (have c35r0 := c35b0; simp only [hl5_3, hl5_4] at c35r0))
                 by_cases c36 : 0 ≤ x8_4
                 ·rw [if_pos c36] at H
                  have c36b0 : decide (0 ≤ x8_4) = true := decide_eq_true c36
                  clear c36
                  (try (have c36r0 := c36b0; simp only [hl5_3, hl5_4] at c36r0))
                  by_cases c37 : 0 ≤ ((rd_T37 l0_1 x8_4).f0)
                  ·rw [if_pos c37] at H
                   have c37b0 : decide (0 ≤ ((rd_T37 l0_1 x8_4).f0)) = true := decide_eq_true c37
                   clear c37
                   (try (have c37r0 := c37b0; simp only [hl5_3, hl5_4] at c37r0))
                   by_cases c38 : ((rd_T37 l0_1 x8_4).f0) < (x5_4.length : Int)
                   ·rw [if_pos c38] at H
                    have c38b0 : decide (((rd_T37 l0_1 x8_4).f0) < (x5_4.length : Int)) = true := decide_eq_true c38
                    clear c38
                    (try (have c38r0 := c38b0; simp only [hl5_3, hl5_4] at c38r0))
                    by_cases c39 : 0 ≤ ((rd_T37 l0_1 x8_4).f2)
                    ·rw [if_pos c39] at H
                     have c39b0 : decide (0 ≤ ((rd_T37 l0_1 x8_4).f2)) = true := decide_eq_true c39
                     clear c39
                     (try (have c39r0 := c39b0; simp only [hl5_3, hl5_4] at c39r0))
                     by_cases c40 : ((rd_T37 l0_1 x8_4).f2) < (x5_4.length : Int)
                     ·rw [if_pos c40] at H
                      have c40b0 : decide (((rd_T37 l0_1 x8_4).f2) < (x5_4.length : Int)) = true := decide_eq_true c40
                      clear c40
                      (try (have c40r0 := c40b0; simp only [hl5_3, hl5_4] at c40r0))
                      replace H := Option.bind_eq_some_iff.mp H
                      obtain ⟨t251, A410, H⟩ := H
                      replace H : ((some (x5_4.set (((rd_T37 l0_1 x8_4).f0) : Int).toNat t251 : List Int)).bind fun y252 => ((timesyncref18_better.f (rd y252 ((rd_T37 l0_1 x8_4).f2)) (rd y252 ((rd_T37 l0_1 x8_4).f0))).bind fun t255 => (timesyncref18_Dist.l2 k4 (y252.set (((rd_T37 l0_1 x8_4).f2) : Int).toNat t255) x7_3 (wrap64 (x8_4 + 1)) a0_0 l0_1))) = some r := H
                      have A41 := Aside0.mk A410
                      clear A410
                      obtain ⟨y252, hy252⟩ : ∃ y_ : List Int, y_ = (x5_4.set (((rd_T37 l0_1 x8_4).f0) : Int).toNat t251) := ⟨_, rfl⟩
                      replace H : ((timesyncref18_better.f (rd y252 ((rd_T37 l0_1 x8_4).f2)) (rd y252 ((rd_T37 l0_1 x8_4).f0))).bind fun t255 => (timesyncref18_Dist.l2 k4 (y252.set (((rd_T37 l0_1 x8_4).f2) : Int).toNat t255) x7_3 (wrap64 (x8_4 + 1)) a0_0 l0_1)) = some r := by first | (rw [hy252]; with_reducible exact H) | (have H2_ := (Option.bind_some _ _).symm.trans H; rw [hy252]; with_reducible exact H2_) | (have H2_ := (Option.bind_some _ _).symm.trans H; with_reducible exact H2_) | with_reducible exact H | (rw [hy252]; exact H) | exact H
                      have Ny252 := Aside0.mk hy252
                      clear hy252
                      replace H := Option.bind_eq_some_iff.mp H
                      obtain ⟨t255, A430, H⟩ := H
                      replace H : (timesyncref18_Dist.l2 k4 (y252.set (((rd_T37 l0_1 x8_4).f2) : Int).toNat t255) x7_3 (wrap64 (x8_4 + 1)) a0_0 l0_1) = some r := H
                      have A43 := Aside0.mk A430
                      clear A430
                      obtain ⟨y256, hy256⟩ : ∃ y_ : List Int, y_ = (y252.set (((rd_T37 l0_1 x8_4).f2) : Int).toNat t255) := ⟨_, rfl⟩
                      replace H : (timesyncref18_Dist.l2 k4 y256 x7_3 (wrap64 (x8_4 + 1)) a0_0 l0_1) = some r := by first | (rw [hy256]; with_reducible exact H) | (have H2_ := (Option.bind_some _ _).symm.trans H; rw [hy256]; with_reducible exact H2_) | (have H2_ := (Option.bind_some _ _).symm.trans H; with_reducible exact H2_) | with_reducible exact H | (rw [hy256]; exact H) | exact H
                      have Ny256 := Aside0.mk hy256
                      clear hy256
                      have H' := Aside0.mk H
                      clear H
                      have hcz45_0 : wr.cell? ⟨gb239, 0, none⟩ = some (.int .i64 a0_0) := (blk_cell BK239.out 0).trans rfl
                      have hcz45_1 : wr.cell? ⟨gb239, 1, none⟩ = some (.slice A0_1 l0_1.length c0_1) := (blk_cell BK239.out 1).trans rfl
                      have hfz45_0 := blk_frozen BK239.out 0
                      have hfz45_1 := blk_frozen BK239.out 1
                      have p247 : 0 ≤ (x8_4 : Int) := of_decide_eq_true (by first | (with_reducible assumption) | assumption)
                      have q247 : x8_4 < (l0_1.length : Int) := of_decide_eq_true (by first | (with_reducible assumption) | assumption)
                      obtain ⟨ad247, e247, hx247_0, hx247_1, hx247_2, hx247_3⟩ := at_T37 HR0_1.out x8_4 p247 q247
                      cases e247
                      try replace hx247_0 := (HB.out.cell (World.block_lt_of_cell? w _ hx247_0)).trans hx247_0
                      try replace hx247_1 := (HB.out.cell (World.block_lt_of_cell? w _ hx247_1)).trans hx247_1
                      try replace hx247_2 := (HB.out.cell (World.block_lt_of_cell? w _ hx247_2)).trans hx247_2
                      try replace hx247_3 := (HB.out.cell (World.block_lt_of_cell? w _ hx247_3)).trans hx247_3
                      replace p247 := eq_true p247
                      replace q247 := eq_true q247
                      try go_wp2_with (first | ((with_reducible refine gate_dst (N := 9) rfl ?_); refine box_event ?hg (N := 9) ?hd (cs := #[.int .i64 0, .int .i64 0, .int .i64 0, .int .i64 0]) (t := 37) ?hr ?_; (case hd => rfl); (case hg => rfl); (case hr => first | (go_simp; done) | (go_simp; rfl)); intro gb248 hg w46 hbox hb; have n0_ := Aside0.mk (Kd.R_below (by (with_reducible repeat (first | apply Kd.R_alloc | apply Kd.R_drewN | apply Kd.R_drew)); exact HO_5.out) hb); have n1_ := Aside0.mk (blk_below (g := gb239) (o := .cells #[.int .i64 a0_0, .slice (some ad247) l0_1.length c0_1] 24 (0, 0)) (by (with_reducible repeat (first | refine blk_drewN ?_ _ | refine blk_drew ?_ | refine blk_alloc ?_ _)); exact BK239.out) hb); have n2_ := Aside0.mk (below_step (by repeat (first | (with_reducible first | exact HB.out | apply below_alloc | apply pw_below_drewN | apply below_drew1 | refine below_set ?_ GE239.out) | exact HB.out)) hb); have n3_ := Aside0.mk (hbox); have n4_ := Aside0.mk ((by rw [hg]; exact (below_size (by repeat (first | (with_reducible first | exact HB.out | apply below_alloc | apply pw_below_drewN | apply below_drew1 | refine below_set ?_ GE239.out) | exact HB.out))) : w.heap.size ≤ gb248)); have n5_ := Aside0.mk ((by rw [hg]; exact (below_size (by repeat (first | (with_reducible first | exact HB.out | apply below_alloc | apply pw_below_drewN | apply below_drew1 | refine below_set ?_ GE239.out) | exact HB.out))) : w.heap.size ≤ gb248)); have n6_ := Aside0.mk ((by rw [hg]; exact Nat.ne_of_lt (blk_lt (g := gb239) (o := .cells #[.int .i64 a0_0, .slice (some ad247) l0_1.length c0_1] 24 (0, 0)) (by (with_reducible repeat (first | refine blk_drewN ?_ _ | refine blk_drew ?_ | refine blk_alloc ?_ _)); exact BK239.out)) : gb239 ≠ gb248)); have n7_ := Aside0.mk ((by rw [hg]; exact Nat.ne_of_gt (blk_lt (g := gb239) (o := .cells #[.int .i64 a0_0, .slice (some ad247) l0_1.length c0_1] 24 (0, 0)) (by (with_reducible repeat (first | refine blk_drewN ?_ _ | refine blk_drew ?_ | refine blk_alloc ?_ _)); exact BK239.out)) : gb248 ≠ gb239)); clear HO_5; clear BK239; clear HB; have HO_5 := n0_; have BK239 := n1_; have HB := n2_; have BK248 := n3_; have GW248 := n4_; have GE248 := n5_; have NB239_248 := n6_; have NB248_239 := n7_; clear n0_ n1_ n2_ n3_ n4_ n5_ n6_ n7_; clear hb hbox hg; have hnb47 := NB248_239.out; have hnc47 := NB239_248.out; have hcz48_0 : w46.cell? ⟨gb248, 0, none⟩ = some (.int .i64 0) := (blk_cell BK248.out 0).trans rfl; have hcz48_1 : w46.cell? ⟨gb248, 1, none⟩ = some (.int .i64 0) := (blk_cell BK248.out 1).trans rfl; have hcz48_2 : w46.cell? ⟨gb248, 2, none⟩ = some (.int .i64 0) := (blk_cell BK248.out 2).trans rfl; have hcz48_3 : w46.cell? ⟨gb248, 3, none⟩ = some (.int .i64 0) := (blk_cell BK248.out 3).trans rfl; have hfz48_0 := blk_frozen BK248.out 0; have hfz48_1 := blk_frozen BK248.out 1; have hfz48_2 := blk_frozen BK248.out 2; have hfz48_3 := blk_frozen BK248.out 3))
                      have n0_ : Aside0 (Kd.R (Kd.int .i64) 3 ((((w46.setCell ⟨gb248, 0, none⟩ (.int .i64 ((rd_T37 l0_1 x8_4).f0))).setCell ⟨gb248, 1, none⟩ (.int .i64 ((rd_T37 l0_1 x8_4).f1))).setCell ⟨gb248, 2, none⟩ (.int .i64 ((rd_T37 l0_1 x8_4).f2))).setCell ⟨gb248, 3, none⟩ (.int .i64 ((rd_T37 l0_1 x8_4).f3))) w.heap.size (fun _ => True) (.slice (some ⟨go29, 0, none⟩) x5_4.length co29) x5_4) := ⟨by exact Kd.R_mono (Kd.R_far (p := ⟨gb248, 3, none⟩) (Kd.R_far (p := ⟨gb248, 2, none⟩) (Kd.R_far (p := ⟨gb248, 1, none⟩) (Kd.R_far (p := ⟨gb248, 0, none⟩) (Kd.R_types HO_5.out BK248.out (by decide)) (fun _ hk => hk.2) (.int .i64 ((rd_T37 l0_1 x8_4).f0))) (fun _ hk => hk.2) (.int .i64 ((rd_T37 l0_1 x8_4).f1))) (fun _ hk => hk.2) (.int .i64 ((rd_T37 l0_1 x8_4).f2))) (fun _ hk => hk.2) (.int .i64 ((rd_T37 l0_1 x8_4).f3))) (fun _ hk => trivial)⟩
                      have n1_ : Aside0 (((((w46.setCell ⟨gb248, 0, none⟩ (.int .i64 ((rd_T37 l0_1 x8_4).f0))).setCell ⟨gb248, 1, none⟩ (.int .i64 ((rd_T37 l0_1 x8_4).f1))).setCell ⟨gb248, 2, none⟩ (.int .i64 ((rd_T37 l0_1 x8_4).f2))).setCell ⟨gb248, 3, none⟩ (.int .i64 ((rd_T37 l0_1 x8_4).f3))).heap[gb239]? = some (.cells #[.int .i64 a0_0, .slice (some ad247) l0_1.length c0_1] 24 (0, 0))) := ⟨by (with_reducible repeat (first | refine blk_drewN ?_ _ | refine blk_drew ?_ | refine blk_alloc ?_ _)); refine blk_far ?_ NB239_248.out _; (with_reducible repeat (first | refine blk_drewN ?_ _ | refine blk_drew ?_ | refine blk_alloc ?_ _)); refine blk_far ?_ NB239_248.out _; (with_reducible repeat (first | refine blk_drewN ?_ _ | refine blk_drew ?_ | refine blk_alloc ?_ _)); refine blk_far ?_ NB239_248.out _; (with_reducible repeat (first | refine blk_drewN ?_ _ | refine blk_drew ?_ | refine blk_alloc ?_ _)); refine blk_far ?_ NB239_248.out _; (with_reducible repeat (first | refine blk_drewN ?_ _ | refine blk_drew ?_ | refine blk_alloc ?_ _)); exact BK239.out⟩
                      have n2_ : Aside0 (((((w46.setCell ⟨gb248, 0, none⟩ (.int .i64 ((rd_T37 l0_1 x8_4).f0))).setCell ⟨gb248, 1, none⟩ (.int .i64 ((rd_T37 l0_1 x8_4).f1))).setCell ⟨gb248, 2, none⟩ (.int .i64 ((rd_T37 l0_1 x8_4).f2))).setCell ⟨gb248, 3, none⟩ (.int .i64 ((rd_T37 l0_1 x8_4).f3))).heap[gb248]? = some (.cells #[.int .i64 ((rd_T37 l0_1 x8_4).f0), .int .i64 ((rd_T37 l0_1 x8_4).f1), .int .i64 ((rd_T37 l0_1 x8_4).f2), .int .i64 ((rd_T37 l0_1 x8_4).f3)] 37 (0, 0))) := ⟨by (with_reducible repeat (first | refine blk_drewN ?_ _ | refine blk_drew ?_ | refine blk_alloc ?_ _)); refine blk_put (cs := #[.int .i64 ((rd_T37 l0_1 x8_4).f0), .int .i64 ((rd_T37 l0_1 x8_4).f1), .int .i64 ((rd_T37 l0_1 x8_4).f2), .int .i64 0]) ?_ 3 _ rfl; (with_reducible repeat (first | refine blk_drewN ?_ _ | refine blk_drew ?_ | refine blk_alloc ?_ _)); refine blk_put (cs := #[.int .i64 ((rd_T37 l0_1 x8_4).f0), .int .i64 ((rd_T37 l0_1 x8_4).f1), .int .i64 0, .int .i64 0]) ?_ 2 _ rfl; (with_reducible repeat (first | refine blk_drewN ?_ _ | refine blk_drew ?_ | refine blk_alloc ?_ _)); refine blk_put (cs := #[.int .i64 ((rd_T37 l0_1 x8_4).f0), .int .i64 0, .int .i64 0, .int .i64 0]) ?_ 1 _ rfl; (with_reducible repeat (first | refine blk_drewN ?_ _ | refine blk_drew ?_ | refine blk_alloc ?_ _)); refine blk_put (cs := #[.int .i64 0, .int .i64 0, .int .i64 0, .int .i64 0]) ?_ 0 _ rfl; (with_reducible repeat (first | refine blk_drewN ?_ _ | refine blk_drew ?_ | refine blk_alloc ?_ _)); exact BK248.out⟩
                      have n3_ : Aside0 (Below w.heap.size w ((((w46.setCell ⟨gb248, 0, none⟩ (.int .i64 ((rd_T37 l0_1 x8_4).f0))).setCell ⟨gb248, 1, none⟩ (.int .i64 ((rd_T37 l0_1 x8_4).f1))).setCell ⟨gb248, 2, none⟩ (.int .i64 ((rd_T37 l0_1 x8_4).f2))).setCell ⟨gb248, 3, none⟩ (.int .i64 ((rd_T37 l0_1 x8_4).f3)))) := ⟨by repeat (first | (with_reducible first | exact HB.out | apply below_alloc | apply pw_below_drewN | apply below_drew1 | refine below_set ?_ GE239.out | refine below_set ?_ GE248.out) | exact HB.out)⟩




                      generalize ((((w46.setCell ⟨gb248, 0, none⟩ (.int .i64 ((rd_T37 l0_1 x8_4).f0))).setCell ⟨gb248, 1, none⟩ (.int .i64 ((rd_T37 l0_1 x8_4).f1))).setCell ⟨gb248, 2, none⟩ (.int .i64 ((rd_T37 l0_1 x8_4).f2))).setCell ⟨gb248, 3, none⟩ (.int .i64 ((rd_T37 l0_1 x8_4).f3))) = w49 at n0_ n1_ n2_ n3_ ⊢
                      have HO_5 := n0_
                      have BK239 := n1_
                      have BK248 := n2_
                      have HB := n3_
                      clear n0_ n1_ n2_ n3_
                      have n0_ := Aside0.mk (Kd.R_drew HO_5.out)
                      have n1_ := Aside0.mk (blk_drew BK239.out)
                      have n2_ := Aside0.mk (blk_drew BK248.out)
                      have n3_ := Aside0.mk (below_drew1 HB.out)
                      clear HO_5
                      clear BK239
                      clear BK248
                      clear HB
                      have HO_5 := n0_
                      have BK239 := n1_
                      have BK248 := n2_
                      have HB := n3_
                      clear n0_ n1_ n2_ n3_
                      have p249 : 0 ≤ (((rd_T37 l0_1 x8_4).f0) : Int) := of_decide_eq_true (by first | (with_reducible assumption) | assumption)
                      have q249 : ((rd_T37 l0_1 x8_4).f0) < (x5_4.length : Int) := of_decide_eq_true (by first | (with_reducible assumption) | assumption)
                      obtain ⟨ad249, e249, hx249_0⟩ := Kd.at_int (Kd.R_reads' HO_5.out).2.2 ((rd_T37 l0_1 x8_4).f0) p249 q249
                      obtain rfl : (⟨go29, 0, none⟩ : Addr) = ad249 := (by injection e249)
                      (first | simp only [add_plain] at hx249_0 | simp only [add_at] at hx249_0 | simp only [Addr.add, Nat.zero_add] at hx249_0 | skip)
                      replace p249 := eq_true p249
                      replace q249 := eq_true q249
                      have p250 : 0 ≤ (((rd_T37 l0_1 x8_4).f2) : Int) := of_decide_eq_true (by first | (with_reducible assumption) | assumption)
                      have q250 : ((rd_T37 l0_1 x8_4).f2) < (x5_4.length : Int) := of_decide_eq_true (by first | (with_reducible assumption) | assumption)
                      obtain ⟨ad250, e250, hx250_0⟩ := Kd.at_int (Kd.R_reads' HO_5.out).2.2 ((rd_T37 l0_1 x8_4).f2) p250 q250
                      obtain rfl : (⟨go29, 0, none⟩ : Addr) = ad250 := (by injection e250)
                      (first | simp only [add_plain] at hx250_0 | simp only [add_at] at hx250_0 | simp only [Addr.add, Nat.zero_add] at hx250_0 | skip)
                      replace p250 := eq_true p250
                      replace q250 := eq_true q250
                      refine start_ (n := 16) (S := fun w' => w'.cell? ⟨gb248, 0, none⟩ = some (.int .i64 ((rd_T37 l0_1 x8_4).f0)) ∧ w'.cell? ⟨gb248, 1, none⟩ = some (.int .i64 ((rd_T37 l0_1 x8_4).f1)) ∧ w'.cell? ⟨gb248, 2, none⟩ = some (.int .i64 ((rd_T37 l0_1 x8_4).f2)) ∧ w'.cell? ⟨gb248, 3, none⟩ = some (.int .i64 ((rd_T37 l0_1 x8_4).f3)) ∧ w'.cell? ⟨go29, (((rd_T37 l0_1 x8_4).f0)).toNat, none⟩ = some (.int .i64 (rd x5_4 ((rd_T37 l0_1 x8_4).f0))) ∧ w'.cell? ⟨go29, (((rd_T37 l0_1 x8_4).f2)).toNat, none⟩ = some (.int .i64 (rd x5_4 ((rd_T37 l0_1 x8_4).f2)))) (ds := [15]) #[false, false, false, false, false, false, false, false, false, false, false, false, false, false, false, false] (by kernel_rfl) rfl rfl ⟨(blk_cell BK248.out 0).trans rfl, (blk_cell BK248.out 1).trans rfl, (blk_cell BK248.out 2).trans rfl, (blk_cell BK248.out 3).trans rfl, hx249_0, hx250_0⟩ (fun hHeld => ?_); refine with_tabW timesyncref18_Dist.tab16 timesyncref18_Dist.bits16 (fun HT_ HW_ => ?_)
                      generalize w49.drew = w50 at HO_5 BK239 BK248 HB hx249_0 hx250_0 hHeld ⊢
                      refine pure_ (i := 0) (N := some 52) (v := ?_) (a' := ?_) #[true, false, false, false, false, false, false, false, false, false, false, false, false, false, false, false] rfl rfl (any_of HT_.out (by kernel_rfl)) (fun _ _ _ h => h) (Or.inl ⟨by rfl, ?_⟩) ?_ ?_
                      rotate_left
                      ·intro w'
                       go_simp
                       with_reducible rfl
                      rotate_left
                      ·simp only [Act.put, List.setIfInBounds_toArray, List.set_cons_zero, List.set_cons_succ, i64_w, i32_w]
                       rfl
                      refine pure_ (i := 1) (N := some 53) (v := ?_) (a' := ?_) #[true, true, false, false, false, false, false, false, false, false, false, false, false, false, false, false] rfl rfl (any_of HT_.out (by kernel_rfl)) (fun _ _ _ h => h) (Or.inl ⟨by rfl, ?_⟩) ?_ ?_
                      rotate_left
                      ·intro w'
                       go_simp
                       with_reducible rfl
                      rotate_left
                      ·simp only [Act.put, List.setIfInBounds_toArray, List.set_cons_zero, List.set_cons_succ, i64_w, i32_w]
                       rfl
                      refine pure_ (i := 3) (N := some 55) (v := ?_) (a' := ?_) #[true, true, false, true, false, false, false, false, false, false, false, false, false, false, false, false] rfl rfl (any_of HT_.out (by kernel_rfl)) (fun _ _ _ h => h) (Or.inl ⟨by rfl, ?_⟩) ?_ ?_
                      rotate_left
                      ·intro w'
                       go_simp
                       with_reducible rfl
                      rotate_left
                      ·simp only [Act.put, List.setIfInBounds_toArray, List.set_cons_zero, List.set_cons_succ, i64_w, i32_w]
                       rfl
                      refine pure_ (i := 4) (N := some 56) (v := ?_) (a' := ?_) #[true, true, false, true, true, false, false, false, false, false, false, false, false, false, false, false] rfl rfl (any_of HT_.out (by kernel_rfl)) (fun _ _ _ h => h) (Or.inl ⟨by rfl, ?_⟩) ?_ ?_
                      rotate_left
                      ·intro w'
                       go_simp
                       with_reducible rfl
                      rotate_left
                      ·simp only [Act.put, List.setIfInBounds_toArray, List.set_cons_zero, List.set_cons_succ, i64_w, i32_w]
                       rfl
                      refine pure_ (i := 8) (N := some 60) (v := ?_) (a' := ?_) #[true, true, false, true, true, false, false, false, true, false, false, false, false, false, false, false] rfl rfl (any_of HT_.out (by kernel_rfl)) (fun _ _ _ h => h) (Or.inl ⟨by rfl, ?_⟩) ?_ ?_
                      rotate_left
                      ·intro w'
                       go_simp
                       with_reducible rfl
                      rotate_left
                      ·simp only [Act.put, List.setIfInBounds_toArray, List.set_cons_zero, List.set_cons_succ, i64_w, i32_w]
                       rfl
                      refine pure_ (i := 9) (N := some 61) (v := ?_) (a' := ?_) #[true, true, false, true, true, false, false, false, true, true, false, false, false, false, false, false] rfl rfl (any_of HT_.out (by kernel_rfl)) (fun _ _ _ h => h) (Or.inl ⟨by rfl, ?_⟩) ?_ ?_
                      rotate_left
                      ·intro w'
                       go_simp
                       with_reducible rfl
                      rotate_left
                      ·simp only [Act.put, List.setIfInBounds_toArray, List.set_cons_zero, List.set_cons_succ, i64_w, i32_w]
                       rfl
                      refine take_ (i := 2) (N := some 54) (v := ?_) (a' := ?_) #[true, true, true, true, true, false, false, false, true, true, false, false, false, false, false, false] rfl rfl (take_ofW HT_.out HW_.out (by kernel_rfl)) (fun _ _ _ h => h) (Or.inl ⟨by rfl, ?_⟩) hHeld ?_ ?_
                      rotate_left
                      ·rintro w' ⟨s0, s1, s2, s3, s4, s5⟩
                       go_simp
                       with_reducible rfl
                      rotate_left
                      ·simp only [Act.put, List.setIfInBounds_toArray, List.set_cons_zero, List.set_cons_succ, i64_w, i32_w]
                       rfl
                      refine take_ (i := 5) (N := some 57) (v := ?_) (a' := ?_) #[true, true, true, true, true, true, false, false, true, true, false, false, false, false, false, false] rfl rfl (take_ofW HT_.out HW_.out (by kernel_rfl)) (fun _ _ _ h => h) (Or.inl ⟨by rfl, ?_⟩) hHeld ?_ ?_
                      rotate_left
                      ·rintro w' ⟨s0, s1, s2, s3, s4, s5⟩
                       go_simp
                       with_reducible rfl
                      rotate_left
                      ·simp only [Act.put, List.setIfInBounds_toArray, List.set_cons_zero, List.set_cons_succ, i64_w, i32_w]
                       rfl
                      refine pure_ (i := 6) (N := some 58) (v := ?_) (a' := ?_) #[true, true, true, true, true, true, true, false, true, true, false, false, false, false, false, false] rfl rfl (any_of HT_.out (by kernel_rfl)) (fun _ _ _ h => h) (Or.inl ⟨by rfl, ?_⟩) ?_ ?_
                      rotate_left
                      ·intro w'
                       go_simp
                       with_reducible rfl
                      rotate_left
                      ·simp only [Act.put, List.setIfInBounds_toArray, List.set_cons_zero, List.set_cons_succ, i64_w, i32_w]
                       rfl
                      refine take_ (i := 7) (N := some 59) (v := ?_) (a' := ?_) #[true, true, true, true, true, true, true, true, true, true, false, false, false, false, false, false] rfl rfl (take_ofW HT_.out HW_.out (by kernel_rfl)) (fun _ _ _ h => h) (Or.inl ⟨by rfl, ?_⟩) hHeld ?_ ?_
                      rotate_left
                      ·rintro w' ⟨s0, s1, s2, s3, s4, s5⟩
                       go_simp
                       with_reducible rfl
                      rotate_left
                      ·simp only [Act.put, List.setIfInBounds_toArray, List.set_cons_zero, List.set_cons_succ, i64_w, i32_w]
                       rfl
                      refine take_ (i := 10) (N := some 62) (v := ?_) (a' := ?_) #[true, true, true, true, true, true, true, true, true, true, true, false, false, false, false, false] rfl rfl (take_ofW HT_.out HW_.out (by kernel_rfl)) (fun _ _ _ h => h) (Or.inl ⟨by rfl, ?_⟩) hHeld ?_ ?_
                      rotate_left
                      ·rintro w' ⟨s0, s1, s2, s3, s4, s5⟩
                       go_simp
                       with_reducible rfl
                      rotate_left
                      ·simp only [Act.put, List.setIfInBounds_toArray, List.set_cons_zero, List.set_cons_succ, i64_w, i32_w]
                       rfl
                      refine pure_ (i := 11) (N := some 63) (v := ?_) (a' := ?_) #[true, true, true, true, true, true, true, true, true, true, true, true, false, false, false, false] rfl rfl (any_of HT_.out (by kernel_rfl)) (fun _ _ _ h => h) (Or.inl ⟨by rfl, ?_⟩) ?_ ?_
                      rotate_left
                      ·intro w'
                       go_simp
                       with_reducible rfl
                      rotate_left
                      ·simp only [Act.put, List.setIfInBounds_toArray, List.set_cons_zero, List.set_cons_succ, i64_w, i32_w]
                       rfl
                      refine take_ (i := 12) (N := some 64) (v := ?_) (a' := ?_) #[true, true, true, true, true, true, true, true, true, true, true, true, true, false, false, false] rfl rfl (take_ofW HT_.out HW_.out (by kernel_rfl)) (fun _ _ _ h => h) (Or.inl ⟨by rfl, ?_⟩) hHeld ?_ ?_
                      rotate_left
                      ·rintro w' ⟨s0, s1, s2, s3, s4, s5⟩
                       go_simp
                       with_reducible rfl
                      rotate_left
                      ·simp only [Act.put, List.setIfInBounds_toArray, List.set_cons_zero, List.set_cons_succ, i64_w, i32_w]
                       rfl
                      refine one_ (i := 13) (N := some 65) #[true, true, true, true, true, true, true, true, true, true, true, true, true, true, false, false] rfl rfl (one_of HT_.out (by kernel_rfl)) (by decide) (fun K hK => ?_)
                      refine goes_ Try.func60 (by kernel_rfl) rfl #[.int .i64 (rd x5_4 ((rd_T37 l0_1 x8_4).f0)), .int .i64 (rd x5_4 ((rd_T37 l0_1 x8_4).f2))] (by rfl) rfl rfl (by (try simp only [List.map_toArray, List.map_cons, List.map_nil]); first | done | rfl | (simp only [List.length_drop, List.length_take]; rfl)) ?_
                      with_reducible refine (timesyncref18_better.calls (rd x5_4 ((rd_T37 l0_1 x8_4).f0)) (rd x5_4 ((rd_T37 l0_1 x8_4).f2)) t251 _ A41.out).mono ?_
                      rintro e w' ⟨rfl, ⟨nd, rfl⟩⟩
                      refine ⟨_, rfl, ?_⟩
                      have p42 : 0 ≤ (((rd_T37 l0_1 x8_4).f0) : Int) := of_decide_eq_true (by first | (with_reducible assumption) | assumption)
                      have q42 : (((rd_T37 l0_1 x8_4).f0) : Int) < ((x5_4.length : Int) : Int) := of_decide_eq_true (by first | (with_reducible assumption) | assumption)
                      obtain ⟨hx42_0, hf42_0⟩ := Kd.R_celln 0 HO_5.out (((rd_T37 l0_1 x8_4).f0) : Int) p42 q42
                      replace p42 := eq_true p42
                      replace q42 := eq_true q42
                      have HP51 := Kd.R_putn HO_5.out (((rd_T37 l0_1 x8_4).f0) : Int) t251
                      rw [← Ny252.out] at HP51
                      have HQ51 := Aside0.mk HP51
                      clear HP51
                      refine hK.out _ _ ⟨(blk_cell BK248.out 0).trans rfl, (blk_cell BK248.out 1).trans rfl, (blk_cell BK248.out 2).trans rfl, (blk_cell BK248.out 3).trans rfl, hHeld.2.2.2.2.1, hHeld.2.2.2.2.2⟩ (fun hHeld => ?_)
                      clear hK K
                      refine norm_ (a' := ?_) ?_ ?_
                      rotate_left
                      ·show Act.put _ (some 65) _ = _
                       simp only [Act.put, List.setIfInBounds_toArray, List.set_cons_zero, List.set_cons_succ, i64_w, i32_w]
                       rfl
                      refine pure_ (i := 14) (N := some 66) (v := ?_) (a' := ?_) #[true, true, true, true, true, true, true, true, true, true, true, true, true, true, true, false] rfl rfl (any_of HT_.out (by kernel_rfl)) (fun _ _ _ h => h) (Or.inl ⟨by rfl, ?_⟩) ?_ ?_
                      rotate_left
                      ·intro w'
                       go_simp
                       with_reducible rfl
                      rotate_left
                      ·simp only [Act.put, List.setIfInBounds_toArray, List.set_cons_zero, List.set_cons_succ, i64_w, i32_w]
                       rfl
                      refine last_ (i := 15) (N := none) #[true, true, true, true, true, true, true, true, true, true, true, true, true, true, true, true] rfl rfl (one_of HT_.out (by kernel_rfl)) (by decide) (fun K hK => ?_)
                      refine skip_ (w1 := ?_) (by rfl) rfl ?_ ?_
                      rotate_left
                      ·go_simp
                       rfl
                      refine hK.out _ _ ?_
                      clear hK K
                      refine done_ (done_of HT_.out (by kernel_rfl)) ?_
                      try go_wp2
                      have n0_ : Aside0 (Kd.R (Kd.int .i64) 3 (w50.setCell ⟨go29, (((rd_T37 l0_1 x8_4).f0) : Int).toNat, none⟩ (.int .i64 t251)) w.heap.size (fun _ => True) (.slice (some ⟨go29, 0, none⟩) x5_4.length co29) y252) := ⟨by (with_reducible repeat (first | apply Kd.R_alloc | apply Kd.R_drewN | apply Kd.R_drew)); exact HQ51.out⟩
                      have n1_ : Aside0 ((w50.setCell ⟨go29, (((rd_T37 l0_1 x8_4).f0) : Int).toNat, none⟩ (.int .i64 t251)).heap[gb239]? = some (.cells #[.int .i64 a0_0, .slice (some ad247) l0_1.length c0_1] 24 (0, 0))) := ⟨by (with_reducible repeat (first | refine blk_drewN ?_ _ | refine blk_drew ?_ | refine blk_alloc ?_ _)); refine blk_far ?_ (by have h_ := Kd.R_ne HO_5.out BK239.out (by decide); intro e_; exact h_ (by rw [e_]; rfl)) _; (with_reducible repeat (first | refine blk_drewN ?_ _ | refine blk_drew ?_ | refine blk_alloc ?_ _)); exact BK239.out⟩
                      have n2_ : Aside0 ((w50.setCell ⟨go29, (((rd_T37 l0_1 x8_4).f0) : Int).toNat, none⟩ (.int .i64 t251)).heap[gb248]? = some (.cells #[.int .i64 ((rd_T37 l0_1 x8_4).f0), .int .i64 ((rd_T37 l0_1 x8_4).f1), .int .i64 ((rd_T37 l0_1 x8_4).f2), .int .i64 ((rd_T37 l0_1 x8_4).f3)] 37 (0, 0))) := ⟨by (with_reducible repeat (first | refine blk_drewN ?_ _ | refine blk_drew ?_ | refine blk_alloc ?_ _)); refine blk_far ?_ (by have h_ := Kd.R_ne HO_5.out BK248.out (by decide); intro e_; exact h_ (by rw [e_]; rfl)) _; (with_reducible repeat (first | refine blk_drewN ?_ _ | refine blk_drew ?_ | refine blk_alloc ?_ _)); exact BK248.out⟩
                      have n3_ : Aside0 (Below w.heap.size w (w50.setCell ⟨go29, (((rd_T37 l0_1 x8_4).f0) : Int).toNat, none⟩ (.int .i64 t251))) := ⟨by repeat (first | (with_reducible first | exact HB.out | apply below_alloc | apply pw_below_drewN | apply below_drew1 | refine below_set ?_ GB29.out | refine below_set ?_ GE239.out | refine below_set ?_ GE248.out) | exact HB.out)⟩




                      (try rw [show ∀ n_ : Nat, (w50.drewN n_).setCell ⟨go29, (((rd_T37 l0_1 x8_4).f0) : Int).toNat, none⟩ (.int .i64 t251) = (w50.setCell ⟨go29, (((rd_T37 l0_1 x8_4).f0) : Int).toNat, none⟩ (.int .i64 t251)).drewN n_ from fun _ => rfl])
                      generalize (w50.setCell ⟨go29, (((rd_T37 l0_1 x8_4).f0) : Int).toNat, none⟩ (.int .i64 t251)) = w52 at n0_ n1_ n2_ n3_ ⊢
                      have HO_5 := n0_
                      have BK239 := n1_
                      have BK248 := n2_
                      have HB := n3_
                      clear n0_ n1_ n2_ n3_
                      (try (rw [drewN_self w52]; generalize hq_ : World.drewN w52 _ = w52; have n0_ : Aside0 (Kd.R (Kd.int .i64) 3 w52 w.heap.size (fun _ => True) (.slice (some ⟨go29, 0, none⟩) x5_4.length co29) y252) := ⟨by rw [← hq_]; exact (by (with_reducible repeat (first | apply Kd.R_alloc | apply Kd.R_drewN | apply Kd.R_drew)); exact HO_5.out)⟩; have n1_ : Aside0 (w52.heap[gb239]? = some (.cells #[.int .i64 a0_0, .slice (some ad247) l0_1.length c0_1] 24 (0, 0))) := ⟨by rw [← hq_]; exact (by (with_reducible repeat (first | refine blk_drewN ?_ _ | refine blk_drew ?_ | refine blk_alloc ?_ _)); exact BK239.out)⟩; have n2_ : Aside0 (w52.heap[gb248]? = some (.cells #[.int .i64 ((rd_T37 l0_1 x8_4).f0), .int .i64 ((rd_T37 l0_1 x8_4).f1), .int .i64 ((rd_T37 l0_1 x8_4).f2), .int .i64 ((rd_T37 l0_1 x8_4).f3)] 37 (0, 0))) := ⟨by rw [← hq_]; exact (by (with_reducible repeat (first | refine blk_drewN ?_ _ | refine blk_drew ?_ | refine blk_alloc ?_ _)); exact BK248.out)⟩; have n3_ : Aside0 (Below w.heap.size w w52) := ⟨by rw [← hq_]; exact (by repeat (first | (with_reducible first | exact HB.out | apply below_alloc | apply pw_below_drewN | apply below_drew1 | refine below_set ?_ GE239.out | refine below_set ?_ GE248.out) | exact HB.out))⟩; clear HO_5 BK239 BK248 HB hq_; have HO_5 := n0_; have BK239 := n1_; have BK248 := n2_; have HB := n3_; clear n0_ n1_ n2_ n3_))
                      have n0_ := Aside0.mk (Kd.R_drew HO_5.out)
                      have n1_ := Aside0.mk (blk_drew BK239.out)
                      have n2_ := Aside0.mk (blk_drew BK248.out)
                      have n3_ := Aside0.mk (below_drew1 HB.out)
                      clear HO_5
                      clear BK239
                      clear BK248
                      clear HB
                      have HO_5 := n0_
                      have BK239 := n1_
                      have BK248 := n2_
                      have HB := n3_
                      clear n0_ n1_ n2_ n3_
                      have p253 : 0 ≤ (((rd_T37 l0_1 x8_4).f2) : Int) := of_decide_eq_true (by first | (with_reducible assumption) | assumption)
                      have q253 : ((rd_T37 l0_1 x8_4).f2) < (y252.length : Int) := (by have h_ : (((rd_T37 l0_1 x8_4).f2) : Int) < ((x5_4.length : Int) : Int) := of_decide_eq_true (by first | (with_reducible assumption) | assumption); first | (have e_ := (Kd.R_reads' HO_5.out).1; omega) | simpa only [Ny252.out, List.length_set] using h_)
                      have ql253 : ((((rd_T37 l0_1 x8_4).f2) : Int) < ((x5_4.length : Int) : Int)) = True := eq_true (of_decide_eq_true (by first | (with_reducible assumption) | assumption))
                      obtain ⟨ad253, e253, hx253_0⟩ := Kd.at_int (Kd.R_reads' HO_5.out).2.2 ((rd_T37 l0_1 x8_4).f2) p253 q253
                      obtain rfl : (⟨go29, 0, none⟩ : Addr) = ad253 := (by injection e253)
                      (first | simp only [add_plain] at hx253_0 | simp only [add_at] at hx253_0 | simp only [Addr.add, Nat.zero_add] at hx253_0 | skip)
                      replace p253 := eq_true p253
                      replace q253 := eq_true q253
                      have p254 : 0 ≤ (((rd_T37 l0_1 x8_4).f0) : Int) := of_decide_eq_true (by first | (with_reducible assumption) | assumption)
                      have q254 : ((rd_T37 l0_1 x8_4).f0) < (y252.length : Int) := (by have h_ : (((rd_T37 l0_1 x8_4).f0) : Int) < ((x5_4.length : Int) : Int) := of_decide_eq_true (by first | (with_reducible assumption) | assumption); first | (have e_ := (Kd.R_reads' HO_5.out).1; omega) | simpa only [Ny252.out, List.length_set] using h_)
                      have ql254 : ((((rd_T37 l0_1 x8_4).f0) : Int) < ((x5_4.length : Int) : Int)) = True := eq_true (of_decide_eq_true (by first | (with_reducible assumption) | assumption))
                      obtain ⟨ad254, e254, hx254_0⟩ := Kd.at_int (Kd.R_reads' HO_5.out).2.2 ((rd_T37 l0_1 x8_4).f0) p254 q254
                      obtain rfl : (⟨go29, 0, none⟩ : Addr) = ad254 := (by injection e254)
                      (first | simp only [add_plain] at hx254_0 | simp only [add_at] at hx254_0 | simp only [Addr.add, Nat.zero_add] at hx254_0 | skip)
                      replace p254 := eq_true p254
                      replace q254 := eq_true q254
                      refine start_ (n := 16) (S := fun w' => w'.cell? ⟨gb248, 0, none⟩ = some (.int .i64 ((rd_T37 l0_1 x8_4).f0)) ∧ w'.cell? ⟨gb248, 1, none⟩ = some (.int .i64 ((rd_T37 l0_1 x8_4).f1)) ∧ w'.cell? ⟨gb248, 2, none⟩ = some (.int .i64 ((rd_T37 l0_1 x8_4).f2)) ∧ w'.cell? ⟨gb248, 3, none⟩ = some (.int .i64 ((rd_T37 l0_1 x8_4).f3)) ∧ w'.cell? ⟨go29, (((rd_T37 l0_1 x8_4).f2)).toNat, none⟩ = some (.int .i64 (rd y252 ((rd_T37 l0_1 x8_4).f2))) ∧ w'.cell? ⟨go29, (((rd_T37 l0_1 x8_4).f0)).toNat, none⟩ = some (.int .i64 (rd y252 ((rd_T37 l0_1 x8_4).f0)))) (ds := [15]) #[false, false, false, false, false, false, false, false, false, false, false, false, false, false, false, false] (by kernel_rfl) rfl rfl ⟨(blk_cell BK248.out 0).trans rfl, (blk_cell BK248.out 1).trans rfl, (blk_cell BK248.out 2).trans rfl, (blk_cell BK248.out 3).trans rfl, hx253_0, hx254_0⟩ (fun hHeld => ?_); refine with_tabW timesyncref18_Dist.tab17 timesyncref18_Dist.bits17 (fun HT_ HW_ => ?_)
                      generalize w52.drew = w53 at HO_5 BK239 BK248 HB HQ51 hx253_0 hx254_0 hHeld ⊢
                      refine pure_ (i := 0) (N := some 67) (v := ?_) (a' := ?_) #[true, false, false, false, false, false, false, false, false, false, false, false, false, false, false, false] rfl rfl (any_of HT_.out (by kernel_rfl)) (fun _ _ _ h => h) (Or.inl ⟨by rfl, ?_⟩) ?_ ?_
                      rotate_left
                      ·intro w'
                       go_simp
                       with_reducible rfl
                      rotate_left
                      ·simp only [Act.put, List.setIfInBounds_toArray, List.set_cons_zero, List.set_cons_succ, i64_w, i32_w]
                       rfl
                      refine pure_ (i := 1) (N := some 68) (v := ?_) (a' := ?_) #[true, true, false, false, false, false, false, false, false, false, false, false, false, false, false, false] rfl rfl (any_of HT_.out (by kernel_rfl)) (fun _ _ _ h => h) (Or.inl ⟨by rfl, ?_⟩) ?_ ?_
                      rotate_left
                      ·intro w'
                       go_simp
                       with_reducible rfl
                      rotate_left
                      ·simp only [Act.put, List.setIfInBounds_toArray, List.set_cons_zero, List.set_cons_succ, i64_w, i32_w]
                       rfl
                      refine pure_ (i := 3) (N := some 70) (v := ?_) (a' := ?_) #[true, true, false, true, false, false, false, false, false, false, false, false, false, false, false, false] rfl rfl (any_of HT_.out (by kernel_rfl)) (fun _ _ _ h => h) (Or.inl ⟨by rfl, ?_⟩) ?_ ?_
                      rotate_left
                      ·intro w'
                       go_simp
                       with_reducible rfl
                      rotate_left
                      ·simp only [Act.put, List.setIfInBounds_toArray, List.set_cons_zero, List.set_cons_succ, i64_w, i32_w]
                       rfl
                      refine pure_ (i := 4) (N := some 71) (v := ?_) (a' := ?_) #[true, true, false, true, true, false, false, false, false, false, false, false, false, false, false, false] rfl rfl (any_of HT_.out (by kernel_rfl)) (fun _ _ _ h => h) (Or.inl ⟨by rfl, ?_⟩) ?_ ?_
                      rotate_left
                      ·intro w'
                       go_simp
                       with_reducible rfl
                      rotate_left
                      ·simp only [Act.put, List.setIfInBounds_toArray, List.set_cons_zero, List.set_cons_succ, i64_w, i32_w]
                       rfl
                      refine pure_ (i := 8) (N := some 75) (v := ?_) (a' := ?_) #[true, true, false, true, true, false, false, false, true, false, false, false, false, false, false, false] rfl rfl (any_of HT_.out (by kernel_rfl)) (fun _ _ _ h => h) (Or.inl ⟨by rfl, ?_⟩) ?_ ?_
                      rotate_left
                      ·intro w'
                       go_simp
                       with_reducible rfl
                      rotate_left
                      ·simp only [Act.put, List.setIfInBounds_toArray, List.set_cons_zero, List.set_cons_succ, i64_w, i32_w]
                       rfl
                      refine pure_ (i := 9) (N := some 76) (v := ?_) (a' := ?_) #[true, true, false, true, true, false, false, false, true, true, false, false, false, false, false, false] rfl rfl (any_of HT_.out (by kernel_rfl)) (fun _ _ _ h => h) (Or.inl ⟨by rfl, ?_⟩) ?_ ?_
                      rotate_left
                      ·intro w'
                       go_simp
                       with_reducible rfl
                      rotate_left
                      ·simp only [Act.put, List.setIfInBounds_toArray, List.set_cons_zero, List.set_cons_succ, i64_w, i32_w]
                       rfl
                      refine take_ (i := 2) (N := some 69) (v := ?_) (a' := ?_) #[true, true, true, true, true, false, false, false, true, true, false, false, false, false, false, false] rfl rfl (take_ofW HT_.out HW_.out (by kernel_rfl)) (fun _ _ _ h => h) (Or.inl ⟨by rfl, ?_⟩) hHeld ?_ ?_
                      rotate_left
                      ·rintro w' ⟨s0, s1, s2, s3, s4, s5⟩
                       go_simp
                       with_reducible rfl
                      rotate_left
                      ·simp only [Act.put, List.setIfInBounds_toArray, List.set_cons_zero, List.set_cons_succ, i64_w, i32_w]
                       rfl
                      refine take_ (i := 5) (N := some 72) (v := ?_) (a' := ?_) #[true, true, true, true, true, true, false, false, true, true, false, false, false, false, false, false] rfl rfl (take_ofW HT_.out HW_.out (by kernel_rfl)) (fun _ _ _ h => h) (Or.inl ⟨by rfl, ?_⟩) hHeld ?_ ?_
                      rotate_left
                      ·rintro w' ⟨s0, s1, s2, s3, s4, s5⟩
                       go_simp
                       with_reducible rfl
                      rotate_left
                      ·simp only [Act.put, List.setIfInBounds_toArray, List.set_cons_zero, List.set_cons_succ, i64_w, i32_w]
                       rfl
                      refine pure_ (i := 6) (N := some 73) (v := ?_) (a' := ?_) #[true, true, true, true, true, true, true, false, true, true, false, false, false, false, false, false] rfl rfl (any_of HT_.out (by kernel_rfl)) (fun _ _ _ h => h) (Or.inl ⟨by rfl, ?_⟩) ?_ ?_
                      rotate_left
                      ·intro w'
                       go_simp
                       with_reducible rfl
                      rotate_left
                      ·simp only [Act.put, List.setIfInBounds_toArray, List.set_cons_zero, List.set_cons_succ, i64_w, i32_w]
                       rfl
                      refine take_ (i := 7) (N := some 74) (v := ?_) (a' := ?_) #[true, true, true, true, true, true, true, true, true, true, false, false, false, false, false, false] rfl rfl (take_ofW HT_.out HW_.out (by kernel_rfl)) (fun _ _ _ h => h) (Or.inl ⟨by rfl, ?_⟩) hHeld ?_ ?_
                      rotate_left
                      ·rintro w' ⟨s0, s1, s2, s3, s4, s5⟩
                       go_simp
                       with_reducible rfl
                      rotate_left
                      ·simp only [Act.put, List.setIfInBounds_toArray, List.set_cons_zero, List.set_cons_succ, i64_w, i32_w]
                       rfl
                      refine take_ (i := 10) (N := some 77) (v := ?_) (a' := ?_) #[true, true, true, true, true, true, true, true, true, true, true, false, false, false, false, false] rfl rfl (take_ofW HT_.out HW_.out (by kernel_rfl)) (fun _ _ _ h => h) (Or.inl ⟨by rfl, ?_⟩) hHeld ?_ ?_
                      rotate_left
                      ·rintro w' ⟨s0, s1, s2, s3, s4, s5⟩
                       go_simp
                       with_reducible rfl
                      rotate_left
                      ·simp only [Act.put, List.setIfInBounds_toArray, List.set_cons_zero, List.set_cons_succ, i64_w, i32_w]
                       rfl
                      refine pure_ (i := 11) (N := some 78) (v := ?_) (a' := ?_) #[true, true, true, true, true, true, true, true, true, true, true, true, false, false, false, false] rfl rfl (any_of HT_.out (by kernel_rfl)) (fun _ _ _ h => h) (Or.inl ⟨by rfl, ?_⟩) ?_ ?_
                      rotate_left
                      ·intro w'
                       go_simp
                       with_reducible rfl
                      rotate_left
                      ·simp only [Act.put, List.setIfInBounds_toArray, List.set_cons_zero, List.set_cons_succ, i64_w, i32_w]
                       rfl
                      refine take_ (i := 12) (N := some 79) (v := ?_) (a' := ?_) #[true, true, true, true, true, true, true, true, true, true, true, true, true, false, false, false] rfl rfl (take_ofW HT_.out HW_.out (by kernel_rfl)) (fun _ _ _ h => h) (Or.inl ⟨by rfl, ?_⟩) hHeld ?_ ?_
                      rotate_left
                      ·rintro w' ⟨s0, s1, s2, s3, s4, s5⟩
                       go_simp
                       with_reducible rfl
                      rotate_left
                      ·simp only [Act.put, List.setIfInBounds_toArray, List.set_cons_zero, List.set_cons_succ, i64_w, i32_w]
                       rfl
                      refine one_ (i := 13) (N := some 80) #[true, true, true, true, true, true, true, true, true, true, true, true, true, true, false, false] rfl rfl (one_of HT_.out (by kernel_rfl)) (by decide) (fun K hK => ?_)
                      refine goes_ Try.func60 (by kernel_rfl) rfl #[.int .i64 (rd y252 ((rd_T37 l0_1 x8_4).f2)), .int .i64 (rd y252 ((rd_T37 l0_1 x8_4).f0))] (by rfl) rfl rfl (by (try simp only [List.map_toArray, List.map_cons, List.map_nil]); first | done | rfl | (simp only [List.length_drop, List.length_take]; rfl)) ?_
                      with_reducible refine (timesyncref18_better.calls (rd y252 ((rd_T37 l0_1 x8_4).f2)) (rd y252 ((rd_T37 l0_1 x8_4).f0)) t255 _ A43.out).mono ?_
                      rintro e w' ⟨rfl, ⟨nd, rfl⟩⟩
                      refine ⟨_, rfl, ?_⟩
                      have p44 : 0 ≤ (((rd_T37 l0_1 x8_4).f2) : Int) := of_decide_eq_true (by first | (with_reducible assumption) | assumption)
                      have q44 : (((rd_T37 l0_1 x8_4).f2) : Int) < ((x5_4.length : Int) : Int) := of_decide_eq_true (by first | (with_reducible assumption) | assumption)
                      obtain ⟨hx44_0, hf44_0⟩ := Kd.R_celln 0 HO_5.out (((rd_T37 l0_1 x8_4).f2) : Int) p44 q44
                      replace p44 := eq_true p44
                      replace q44 := eq_true q44
                      have HP54 := Kd.R_putn HO_5.out (((rd_T37 l0_1 x8_4).f2) : Int) t255
                      rw [← Ny256.out] at HP54
                      have HQ54 := Aside0.mk HP54
                      clear HP54
                      refine hK.out _ _ ⟨(blk_cell BK248.out 0).trans rfl, (blk_cell BK248.out 1).trans rfl, (blk_cell BK248.out 2).trans rfl, (blk_cell BK248.out 3).trans rfl, hHeld.2.2.2.2.1, hHeld.2.2.2.2.2⟩ (fun hHeld => ?_)
                      clear hK K
                      refine norm_ (a' := ?_) ?_ ?_
                      rotate_left
                      ·show Act.put _ (some 80) _ = _
                       simp only [Act.put, List.setIfInBounds_toArray, List.set_cons_zero, List.set_cons_succ, i64_w, i32_w]
                       rfl
                      refine pure_ (i := 14) (N := some 81) (v := ?_) (a' := ?_) #[true, true, true, true, true, true, true, true, true, true, true, true, true, true, true, false] rfl rfl (any_of HT_.out (by kernel_rfl)) (fun _ _ _ h => h) (Or.inl ⟨by rfl, ?_⟩) ?_ ?_
                      rotate_left
                      ·intro w'
                       go_simp
                       with_reducible rfl
                      rotate_left
                      ·simp only [Act.put, List.setIfInBounds_toArray, List.set_cons_zero, List.set_cons_succ, i64_w, i32_w]
                       rfl
                      refine last_ (i := 15) (N := none) #[true, true, true, true, true, true, true, true, true, true, true, true, true, true, true, true] rfl rfl (one_of HT_.out (by kernel_rfl)) (by decide) (fun K hK => ?_)
                      refine skip_ (w1 := ?_) (by rfl) rfl ?_ ?_
                      rotate_left
                      ·go_simp
                       rfl
                      refine hK.out _ _ ?_
                      clear hK K
                      refine done_ (done_of HT_.out (by kernel_rfl)) ?_
                      try go_wp2
                      (try simp only [← hl5_4])
                      go_roundg k4
                      case measure => have := HJ2.out; have := HK2.out; have := HK3.out; have := HK4.out; omega
                      case rel => exact ⟨(y256), (wrap64 (x8_4 + 1)), (by first | rfl | (simp; done) | (simp [*]; done)), H', ⟨by have := HJ2.out; have := HK2.out; have := HK3.out; have := HK4.out; omega⟩, ⟨by (try simp only [hl5_3]); (try simp only [hl5_4]); (with_reducible repeat (first | apply Kd.R_alloc | apply Kd.R_drewN | apply Kd.R_drew)); exact HQ54.out⟩, ⟨by (try simp only [hl5_3]); (try simp only [hl5_4]); (with_reducible repeat (first | refine blk_drewN ?_ _ | refine blk_drew ?_ | refine blk_alloc ?_ _)); refine blk_far ?_ (by have h_ := Kd.R_ne HO_5.out BK239.out (by decide); intro e_; exact h_ (by rw [e_]; rfl)) _; (with_reducible repeat (first | refine blk_drewN ?_ _ | refine blk_drew ?_ | refine blk_alloc ?_ _)); exact BK239.out⟩, ⟨by repeat (first | (with_reducible first | exact HB.out | apply below_alloc | apply pw_below_drewN | apply below_drew1 | refine below_set ?_ GB29.out | refine below_set ?_ GE239.out | refine below_set ?_ GE248.out) | exact HB.out)⟩⟩
                     ·rw [if_neg c40] at H
                      exact absurd H (by simp)
                    ·rw [if_neg c39] at H
                     exact absurd H (by simp)
                   ·rw [if_neg c38] at H
                    exact absurd H (by simp)
                  ·rw [if_neg c37] at H
                   exact absurd H (by simp)
                 ·rw [if_neg c36] at H
                  exact absurd H (by simp)
                ·rw [if_neg c35] at H
                 have c35b0 : decide (x8_4 < (l0_1.length : Int)) = false := decide_eq_false c35
                 clear c35
                 (try (have c35r0 := c35b0; simp only [hl5_3, hl5_4] at c35r0))
                 have H' := Aside0.mk H
                 clear H
                 have hcz55_0 : wr.cell? ⟨gb239, 0, none⟩ = some (.int .i64 a0_0) := (blk_cell BK239.out 0).trans rfl
                 have hcz55_1 : wr.cell? ⟨gb239, 1, none⟩ = some (.slice A0_1 l0_1.length c0_1) := (blk_cell BK239.out 1).trans rfl
                 have hfz55_0 := blk_frozen BK239.out 0
                 have hfz55_1 := blk_frozen BK239.out 1
                 go_wp2
                 (try simp only [← hl5_3, ← hl5_4])
                 go_roundg k4
                 case measure => have := HJ2.out; have := HK2.out; have := HK3.out; have := HK4.out; omega
                 case rel => exact ⟨(x5_4), (wrap64 (x7_3 + 1)), (by first | rfl | (simp; done) | (simp [*]; done)), H', ⟨by have := HJ2.out; have := HK2.out; have := HK3.out; have := HK4.out; omega⟩, ⟨by (try simp only [hl5_3]); (try simp only [hl5_4]); exact HO_5.out⟩, ⟨by (try simp only [hl5_3]); (try simp only [hl5_4]); exact BK239.out⟩, ⟨by exact HB.out⟩⟩
             ·rw [if_neg c33] at H
              have c33b0 : decide (x7_3 < a0_0) = false := decide_eq_false c33
              clear c33
              (try (have c33r0 := c33b0; simp only [hl5_3] at c33r0))
              obtain rfl := Option.some.inj H
              have hcz56_0 : wr.cell? ⟨gb239, 0, none⟩ = some (.int .i64 a0_0) := (blk_cell BK239.out 0).trans rfl
              have hcz56_1 : wr.cell? ⟨gb239, 1, none⟩ = some (.slice A0_1 l0_1.length c0_1) := (blk_cell BK239.out 1).trans rfl
              have hfz56_0 := blk_frozen BK239.out 0
              have hfz56_1 := blk_frozen BK239.out 1
              go_wp2
              go_ret
              exact ⟨_, by first | rfl | (simp [errW_none, errW_some] <;> rfl) | (simp [*, errW_none, errW_some] <;> rfl), by exact HO_5.out, by exact HB.out⟩
          ·rw [if_neg c28] at H
           exact absurd H (by simp)
         ·rw [if_neg c27] at H
          exact absurd H (by simp)
     ·rw [if_neg c16] at H
      exact absurd H (by simp)
    ·rw [if_neg c15] at H
     exact absurd H (by simp)

end Go.Proofs.Ythkpnkmbmlbefaa.X

namespace Go.Proofs.Ythkpnkmbmlbefaa.X
open Go.RowKit Go.Proofs.YthkpnkmbmlbefaaW.PrintWords Go.Proofs.YthkpnkmbmlbefaaW.PrintLast Go.Proofs.YthkpnkmbmlbefaaW.PrintMore
attribute [local go_sem] max2_int min2_int max_two min_two max_three min_three max_four min_four   -- for this text's walks alone
set_option linter.unusedVariables false
set_option linter.unusedSimpArgs false

/-! ### timesyncref18_Comp: function 23 -/
mutual
def timesyncref18_Comp.l0 : Nat → List Int → Int → Int → List (S37) → Option (List Int)
 | 0, _, _, _, _ => none
 | k + 1, x3, x4, x258000, x258001 => if x4 < x258000 then ((timesyncref18_Dist.f k x258000 x258001 x4).bind fun t262 => (timesyncref18_Comp.l1 k x3 x4 t262 (wrap64 (x258000 - 1)) x258000 x258001)) else (some x3)
def timesyncref18_Comp.l1 : Nat → List Int → Int → List Int → Int → Int → List (S37) → Option (List Int)
 | 0, _, _, _, _, _, _ => none
 | k + 1, x3, x4, x5, x6, x258000, x258001 => if x6 ≥ 0 then (if 0 ≤ x6 then (if x6 < (x5.length : Int) then (if (rd x5 x6) ≥ 0 then (if 0 ≤ x4 then (if x4 < (x3.length : Int) then (timesyncref18_Comp.l1 k (x3.set (x4 : Int).toNat x6) x4 x5 (wrap64 (x6 - 1)) x258000 x258001) else (none)) else (none)) else (timesyncref18_Comp.l1 k x3 x4 x5 (wrap64 (x6 - 1)) x258000 x258001)) else (none)) else (none)) else (timesyncref18_Comp.l0 k x3 (wrap64 (x4 + 1)) x258000 x258001)
end
def timesyncref18_Comp.f (k : Nat) (a0_0 : Int) (l0_1 : List (S37)) : Option (List Int) := (timesyncref18_Check.f k a0_0 l0_1).bind fun t258 => (if t258 = 0 then (if 0 ≤ a0_0 then (if (a0_0 : Int).toNat ≤ 35184372088832 then (timesyncref18_Comp.l0 k (List.replicate (a0_0 : Int).toNat 0) 0 a0_0 l0_1) else (none)) else (none)) else (some ([] : List Int)))
set_option maxHeartbeats 8000000 in
set_option maxRecDepth 100000 in
theorem timesyncref18_Comp.calls (k : Nat) (a0_0 : Int) (A0_1 : Option Addr) (c0_1 : Nat) (l0_1 : List (S37)) (r : List Int) (w : World) (hr0_1 : Kd.C k37 w A0_1 l0_1.length l0_1) (hc0_1 : l0_1.length ≤ c0_1) (h : timesyncref18_Comp.f k a0_0 l0_1 = some r) :
  Calls Try.prog 23 #[.agg #[.int .i64 a0_0, .slice A0_1 l0_1.length c0_1]] w fun e w' => ∃ v0_ : Value, e = .returned (v0_) ∧ Kd.R (Kd.int .i64) 3 w' w.heap.size (fun _ => True) v0_ r ∧ Below w.heap.size w w' := by
 have hu24 := Try.underlying24
 have HR0_1 := Aside0.mk hr0_1
 have HC0_1 := Aside0.mk hc0_1
 clear hr0_1 hc0_1
 have HB := Aside0.mk (Below.refl w.heap.size w)
 have H : ((timesyncref18_Check.f k a0_0 l0_1).bind fun t258 => (if t258 = 0 then (if 0 ≤ a0_0 then (if (a0_0 : Int).toNat ≤ 35184372088832 then (timesyncref18_Comp.l0 k (List.replicate (a0_0 : Int).toNat 0) 0 a0_0 l0_1) else (none)) else (none)) else (some ([] : List Int)))) = some r := h
 clear h
 replace H := Option.bind_eq_some_iff.mp H
 obtain ⟨t258, A20, H⟩ := H
 replace H : (if t258 = 0 then (if 0 ≤ a0_0 then (if (a0_0 : Int).toNat ≤ 35184372088832 then (timesyncref18_Comp.l0 k (List.replicate (a0_0 : Int).toNat 0) 0 a0_0 l0_1) else (none)) else (none)) else (some ([] : List Int))) = some r := H
 have A2 := Aside0.mk A20
 clear A20
 by_cases c3 : t258 = 0
 ·rw [if_pos c3] at H
  have c3b0 : (t258 == 0) = true := beq_iff_eq.mpr c3
  have c3b1 : (t258 != 0) = false := bne_eq_false_iff_eq.mpr c3
  clear c3
  by_cases c4 : 0 ≤ a0_0
  ·rw [if_pos c4] at H
   have c4b0 := eq_true c4
   have c4b1 : decide (0 ≤ a0_0) = true := decide_eq_true c4
   clear c4
   by_cases c5 : (a0_0 : Int).toNat ≤ 35184372088832
   ·rw [if_pos c5] at H
    have c5b0 := eq_true c5
    have c5b1 : decide ((a0_0 : Int).toNat ≤ 35184372088832) = true := decide_eq_true c5
    clear c5
    obtain ⟨y259, hy259⟩ : ∃ y_ : List Int, y_ = (List.replicate (a0_0 : Int).toNat 0) := ⟨_, rfl⟩
    replace H : (timesyncref18_Comp.l0 k y259 0 a0_0 l0_1) = some r := by first | (rw [hy259]; with_reducible exact H) | (have H2_ := (Option.bind_some _ _).symm.trans H; rw [hy259]; with_reducible exact H2_) | (have H2_ := (Option.bind_some _ _).symm.trans H; with_reducible exact H2_) | with_reducible exact H | (rw [hy259]; exact H) | exact H
    have Ny259 := Aside0.mk hy259
    clear hy259
    have H' := Aside0.mk H
    clear H
    go_enter Try.func23, Try.ntmps23
    go_wp2_with (first | ((with_reducible refine gate_dst (N := 1) rfl ?_); refine box_event ?hg (N := 1) ?hd (cs := #[.int .i64 a0_0, .slice A0_1 l0_1.length c0_1]) (t := 24) ?hr ?_; (case hd => rfl); (case hg => rfl); (case hr => first | (go_simp; done) | (go_simp; rfl)); intro gb257 hg w6 hbox hb; have n0_ := Aside0.mk (below_step (by exact HB.out) hb); have n1_ := Aside0.mk (hbox); have n2_ := Aside0.mk ((by rw [hg]; exact (below_size (by exact HB.out)) : w.heap.size ≤ gb257)); have n3_ := Aside0.mk ((by rw [hg]; exact (below_size (by exact HB.out)) : w.heap.size ≤ gb257)); clear HB; have HB := n0_; have BK257 := n1_; have GW257 := n2_; have GE257 := n3_; clear n0_ n1_ n2_ n3_; clear hb hbox hg; have hcz7_0 : w6.cell? ⟨gb257, 0, none⟩ = some (.int .i64 a0_0) := (blk_cell BK257.out 0).trans rfl; have hcz7_1 : w6.cell? ⟨gb257, 1, none⟩ = some (.slice A0_1 l0_1.length c0_1) := (blk_cell BK257.out 1).trans rfl; have hfz7_0 := blk_frozen BK257.out 0; have hfz7_1 := blk_frozen BK257.out 1) | ((with_reducible refine gate_callee (f := 18) rfl ?_); refine goesL_ (some 8) rfl rfl Try.func18 (by kernel_rfl) rfl #[.agg #[.int .i64 a0_0, .slice A0_1 l0_1.length c0_1]] rfl (by (try simp only [List.map_toArray, List.map_cons, List.map_nil]); first | done | rfl | (simp only [List.length_drop, List.length_take]; rfl)) ?_; (with_reducible refine (timesyncref18_Check.calls k a0_0 _ _ l0_1 t258 _ ?side1 ?side2 A2.out).mono ?_); (case side1 => exact (Kd.C_below HR0_1.out HB.out)); (case side2 => exact HC0_1.out); rintro e w8 ⟨rfl, hb⟩; refine ⟨_, rfl, ?_⟩; have n0_ := Aside0.mk (blk_below (g := gb257) (o := .cells #[.int .i64 a0_0, .slice A0_1 l0_1.length c0_1] 24 (0, 0)) (by exact BK257.out) hb); have n1_ := Aside0.mk (below_step (by exact HB.out) hb); clear BK257; clear HB; have BK257 := n0_; have HB := n1_; clear n0_ n1_; have hcz9_0 : w8.cell? ⟨gb257, 0, none⟩ = some (.int .i64 a0_0) := (blk_cell BK257.out 0).trans rfl; have hcz9_1 : w8.cell? ⟨gb257, 1, none⟩ = some (.slice A0_1 l0_1.length c0_1) := (blk_cell BK257.out 1).trans rfl; have hfz9_0 := blk_frozen BK257.out 0; have hfz9_1 := blk_frozen BK257.out 1) | ((with_reducible refine gate_dst (N := 12) rfl ?_); refine Kd.R_make (Kd.int .i64) _ 3 rfl (N := 12) rfl 30 _ _ rfl a0_0 rfl rfl Try.underlying30 (.int .i64 0) 8 info3 rfl (by decide) (by omega) 0 (ok := fun _ => True) (okp := fun _ => True) rfl (fun _ hk => hk) trivial (of_decide_eq_true (by first | (with_reducible assumption) | assumption)) (Nat.le_trans (Nat.mul_le_mul_right _ (of_decide_eq_true (by first | (with_reducible assumption) | assumption) : a0_0.toNat ≤ 35184372088832)) (by omega)) (Below.refl _ _) (Nat.le_refl _) ?_; intro v260 w10 ho11 hb hg_ hnew_; clear hg_ hnew_; (first | rw [← Ny259.out] at ho11 | (simp only [Int.reduceToNat] at ho11; rw [← Ny259.out] at ho11)); have n0_ := Aside0.mk (Kd.R_lower ho11 (below_size (by exact HB.out))); have n1_ := Aside0.mk (blk_below (g := gb257) (o := .cells #[.int .i64 a0_0, .slice A0_1 l0_1.length c0_1] 24 (0, 0)) (by exact BK257.out) hb); have n2_ := Aside0.mk (below_step (by exact HB.out) hb); clear BK257; clear HB; have HO261 := n0_; have BK257 := n1_; have HB := n2_; clear n0_ n1_ n2_; clear hb ho11))
    go_loopg [4] k (fun kq v4 w' => ∃ (x3_1 : List Int) (x4_1 : Int), v4 = .int .i64 x4_1 ∧ Aside0 (timesyncref18_Comp.l0 kq x3_1 x4_1 a0_0 l0_1 = some r) ∧ Aside0 (kq ≤ k) ∧ Aside0 (Kd.R (Kd.int .i64) 3 w' w.heap.size (fun _ => True) v260 x3_1) ∧ Aside0 (w'.heap[gb257]? = some (.cells #[.int .i64 a0_0, (.slice A0_1 l0_1.length c0_1)] 24 (0, 0))) ∧ Aside0 (Below w.heap.size w w'))
    case atStart => exact ⟨(y259), (0), (by first | rfl | (simp; done) | (simp [*]; done)), H', ⟨Nat.le_refl _⟩, ⟨by exact HO261.out⟩, ⟨by exact BK257.out⟩, ⟨by exact HB.out⟩⟩
    case round =>
     clear H'




















     obtain ⟨x3_1, x4_1, rfl, HA, HK1, HO_3, BK257, HB⟩ := hrel
     cases gk with
     | zero => exact absurd HA.out (by simp [timesyncref18_Comp.l0])
     | succ k1 =>
      have H := HA.out
      clear HA
      simp only [timesyncref18_Comp.l0] at H
      by_cases c12 : x4_1 < a0_0
      ·rw [if_pos c12] at H
       have c12b0 : decide (x4_1 < a0_0) = true := decide_eq_true c12
       clear c12
       replace H := Option.bind_eq_some_iff.mp H
       obtain ⟨t262, A130, H⟩ := H
       replace H : (timesyncref18_Comp.l1 k1 x3_1 x4_1 t262 (wrap64 (a0_0 - 1)) a0_0 l0_1) = some r := H
       have A13 := Aside0.mk A130
       clear A130
       have H' := Aside0.mk H
       clear H
       have hcz14_0 : wr.cell? ⟨gb257, 0, none⟩ = some (.int .i64 a0_0) := (blk_cell BK257.out 0).trans rfl
       have hcz14_1 : wr.cell? ⟨gb257, 1, none⟩ = some (.slice A0_1 l0_1.length c0_1) := (blk_cell BK257.out 1).trans rfl
       have hfz14_0 := blk_frozen BK257.out 0
       have hfz14_1 := blk_frozen BK257.out 1
       go_wp2_with (first | ((with_reducible refine gate_callee (f := 21) rfl ?_); refine goesL_ (some 21) rfl rfl Try.func21 (by kernel_rfl) rfl #[.agg #[.int .i64 a0_0, .slice A0_1 l0_1.length c0_1], .int .i64 x4_1] rfl (by (try simp only [List.map_toArray, List.map_cons, List.map_nil]); first | done | rfl | (simp only [List.length_drop, List.length_take]; rfl)) ?_; (with_reducible refine (timesyncref18_Dist.calls k1 a0_0 _ _ l0_1 x4_1 t262 _ ?side1 ?side2 A13.out).mono ?_); (case side1 => exact (Kd.C_below HR0_1.out HB.out)); (case side2 => exact HC0_1.out); rintro e w15 ⟨v263, rfl, ho0, hb⟩; refine ⟨_, rfl, ?_⟩; have n0_ := Aside0.mk (Kd.R_elder' (by exact HO_3.out) (Kd.R_base ho0) hb); have n1_ := Aside0.mk (Kd.R_lower (Kd.R_new' ho0 (Kd.R_lt (by exact HO_3.out))) (below_size (by exact HB.out))); have n2_ := Aside0.mk (blk_below (g := gb257) (o := .cells #[.int .i64 a0_0, .slice A0_1 l0_1.length c0_1] 24 (0, 0)) (by exact BK257.out) hb); have n3_ := Aside0.mk (below_step (by exact HB.out) hb); clear HO_3; clear BK257; clear HB; have HO_3 := n0_; have HO264 := n1_; have BK257 := n2_; have HB := n3_; clear n0_ n1_ n2_ n3_; have hcz16_0 : w15.cell? ⟨gb257, 0, none⟩ = some (.int .i64 a0_0) := (blk_cell BK257.out 0).trans rfl; have hcz16_1 : w15.cell? ⟨gb257, 1, none⟩ = some (.slice A0_1 l0_1.length c0_1) := (blk_cell BK257.out 1).trans rfl; have hfz16_0 := blk_frozen BK257.out 0; have hfz16_1 := blk_frozen BK257.out 1))
       go_loopg [6] k1 (fun kq v6 w' => ∃ (x3_2 : List Int) (x6_2 : Int), v6 = .int .i64 x6_2 ∧ Aside0 (timesyncref18_Comp.l1 kq x3_2 x4_1 t262 x6_2 a0_0 l0_1 = some r) ∧ Aside0 (kq ≤ k1) ∧ Aside0 (Kd.R (Kd.int .i64) 3 w' w.heap.size (fun k_ => some k_ ≠ (v263 : Value).ownBlock) v260 x3_2) ∧ Aside0 (Kd.R (Kd.int .i64) 3 w' w.heap.size (fun k_ => some k_ ≠ (v260 : Value).ownBlock) v263 t262) ∧ Aside0 (w'.heap[gb257]? = some (.cells #[.int .i64 a0_0, (.slice A0_1 l0_1.length c0_1)] 24 (0, 0))) ∧ Aside0 (Below w.heap.size w w'))
       case atStart => exact ⟨(x3_1), (wrap64 (a0_0 - 1)), (by first | rfl | (simp; done) | (simp [*]; done)), H', ⟨Nat.le_refl _⟩, ⟨by exact Kd.R_mono HO_3.out (fun _ hk => hk.2)⟩, ⟨by exact Kd.R_mono HO264.out (fun _ hk => hk.2)⟩, ⟨by exact BK257.out⟩, ⟨by exact HB.out⟩⟩
       case round =>
        clear H'
































        obtain ⟨x3_2, x6_2, rfl, HA, HK2, HO_3, HO_5, BK257, HB⟩ := hrel
        cases gk with
        | zero => exact absurd HA.out (by simp [timesyncref18_Comp.l1])
        | succ k2 =>
         have H := HA.out
         clear HA
         simp only [timesyncref18_Comp.l1] at H
         by_cases c17 : x6_2 ≥ 0
         ·rw [if_pos c17] at H
          have c17b0 : decide (0 ≤ x6_2) = true := decide_eq_true c17
          clear c17
          by_cases c18 : 0 ≤ x6_2
          ·rw [if_pos c18] at H
           have c18b0 : decide (0 ≤ x6_2) = true := decide_eq_true c18
           clear c18
           by_cases c19 : x6_2 < (t262.length : Int)
           ·rw [if_pos c19] at H
            have c19b0 : decide (x6_2 < (t262.length : Int)) = true := decide_eq_true c19
            clear c19
            by_cases c20 : (rd t262 x6_2) ≥ 0
            ·rw [if_pos c20] at H
             have c20b0 : decide (0 ≤ (rd t262 x6_2)) = true := decide_eq_true c20
             clear c20
             by_cases c21 : 0 ≤ x4_1
             ·rw [if_pos c21] at H
              have c21b0 : decide (0 ≤ x4_1) = true := decide_eq_true c21
              clear c21
              by_cases c22 : x4_1 < (x3_2.length : Int)
              ·rw [if_pos c22] at H
               have c22b0 : decide (x4_1 < (x3_2.length : Int)) = true := decide_eq_true c22
               clear c22
               obtain ⟨y266, hy266⟩ : ∃ y_ : List Int, y_ = (x3_2.set (x4_1 : Int).toNat x6_2) := ⟨_, rfl⟩
               replace H : (timesyncref18_Comp.l1 k2 y266 x4_1 t262 (wrap64 (x6_2 - 1)) a0_0 l0_1) = some r := by first | (rw [hy266]; with_reducible exact H) | (have H2_ := (Option.bind_some _ _).symm.trans H; rw [hy266]; with_reducible exact H2_) | (have H2_ := (Option.bind_some _ _).symm.trans H; with_reducible exact H2_) | with_reducible exact H | (rw [hy266]; exact H) | exact H
               have Ny266 := Aside0.mk hy266
               clear hy266
               have H' := Aside0.mk H
               clear H
               obtain ⟨Ao24, co24, eo24⟩ := Kd.R_slice HO_5.out
               subst eo24
               have p265 : 0 ≤ (x6_2 : Int) := of_decide_eq_true (by first | (with_reducible assumption) | assumption)
               have q265 : x6_2 < (t262.length : Int) := of_decide_eq_true (by first | (with_reducible assumption) | assumption)
               obtain ⟨ad265, e265, hx265_0⟩ := Kd.at_int (Kd.R_reads' HO_5.out).2.2 x6_2 p265 q265
               cases e265
               replace p265 := eq_true p265
               replace q265 := eq_true q265
               have p23 : 0 ≤ (x4_1 : Int) := of_decide_eq_true (by first | (with_reducible assumption) | assumption)
               have q23 : (x4_1 : Int) < ((x3_2.length : Int) : Int) := of_decide_eq_true (by first | (with_reducible assumption) | assumption)
               obtain ⟨go23, co23, eo23, gb23, gl23, cl23, HG23⟩ := Kd.R_form HO_3.out (by omega)
               (first | cases eo23 | (injection eo23 with ea_ en_ ec_; (first | subst ea_ | (injection ea_ with ea_; subst ea_)); subst ec_; clear en_))
               have GB23 := Aside0.mk gb23
               have GG23 := Aside0.mk HG23
               clear gb23 gl23 HG23
               obtain ⟨hx23_0, hf23_0⟩ := Kd.R_celln 0 HO_3.out (x4_1 : Int) p23 q23
               replace p23 := eq_true p23
               replace q23 := eq_true q23
               have HP25 := Kd.R_putg HO_3.out (x4_1 : Int) x6_2
               go_wp2_with (first | ((with_reducible refine gate_store (t := 3) (p := 37) rfl ?_); refine store_event (t := 3) (p := 37) (v := ?vo_w26) (w1 := (wr.setCell ⟨go23, (x4_1 : Int).toNat, none⟩ (.int .i64 x6_2))) ?hg ?ho ?hn ?hr ?_; (case ho => rfl); (case hg => rfl); (case hn => rfl); (case hr => first | (go_simp; done) | (go_simp; rfl)); intro w26 hw; have hg : wr.grownBy w26 (some go23) := (by rw [hw]; exact HP25.2); have hp_ : Kd.R (Kd.int .i64) 3 w26 w.heap.size (fun k_ => some k_ ≠ (.slice (some ad265) t262.length co24 : Value).ownBlock) (.slice (some ⟨go23, 0, none⟩) x3_2.length co23) y266 := (by rw [hw, Ny266.out]; exact HP25.1); clear HP25; have n0_ := Aside0.mk (hp_); have n1_ := Aside0.mk (Kd.R_after (v := (.slice (some ⟨go23, 0, none⟩) x3_2.length co23)) (v1 := (.slice (some ⟨go23, 0, none⟩) x3_2.length co23)) (ok := (fun _ => True)) (by exact Kd.R_mono HO_5.out (fun _ hk => ⟨trivial, hk⟩)) hg (.inl rfl)); have n2_ := Aside0.mk (blk_grown (g := gb257) (o := .cells #[.int .i64 a0_0, .slice A0_1 l0_1.length c0_1] 24 (0, 0)) (by exact BK257.out) hg (Kd.R_ne HO_3.out BK257.out (by decide))); have n3_ := Aside0.mk ((by rw [hw]; exact below_set (HB.out) GB23.out : Below w.heap.size w w26)); clear HO_3; clear HO_5; clear BK257; clear HB; have HO_3 := n0_; have HO_5 := n1_; have BK257 := n2_; have HB := n3_; clear n0_ n1_ n2_ n3_; clear hg hw hp_))
               go_roundg k2
               case measure => have := HK1.out; have := HK2.out; omega
               case rel => exact ⟨(y266), (wrap64 (x6_2 - 1)), (by first | rfl | (simp; done) | (simp [*]; done)), H', ⟨by have := HK1.out; have := HK2.out; omega⟩, ⟨by exact HO_3.out⟩, ⟨by exact Kd.R_mono HO_5.out (fun _ hk => hk.2)⟩, ⟨by exact BK257.out⟩, ⟨by exact HB.out⟩⟩
              ·rw [if_neg c22] at H
               exact absurd H (by simp)
             ·rw [if_neg c21] at H
              exact absurd H (by simp)
            ·rw [if_neg c20] at H
             have c20b0 : decide (0 ≤ (rd t262 x6_2)) = false := decide_eq_false c20
             clear c20
             have H' := Aside0.mk H
             clear H
             obtain ⟨Ao27, co27, eo27⟩ := Kd.R_slice HO_5.out
             subst eo27
             have p265 : 0 ≤ (x6_2 : Int) := of_decide_eq_true (by first | (with_reducible assumption) | assumption)
             have q265 : x6_2 < (t262.length : Int) := of_decide_eq_true (by first | (with_reducible assumption) | assumption)
             obtain ⟨ad265, e265, hx265_0⟩ := Kd.at_int (Kd.R_reads' HO_5.out).2.2 x6_2 p265 q265
             cases e265
             replace p265 := eq_true p265
             replace q265 := eq_true q265
             go_wp2
             go_roundg k2
             case measure => have := HK1.out; have := HK2.out; omega
             case rel => exact ⟨(x3_2), (wrap64 (x6_2 - 1)), (by first | rfl | (simp; done) | (simp [*]; done)), H', ⟨by have := HK1.out; have := HK2.out; omega⟩, ⟨by exact HO_3.out⟩, ⟨by exact HO_5.out⟩, ⟨by exact BK257.out⟩, ⟨by exact HB.out⟩⟩
           ·rw [if_neg c19] at H
            exact absurd H (by simp)
          ·rw [if_neg c18] at H
           exact absurd H (by simp)
         ·rw [if_neg c17] at H
          have c17b0 : decide (0 ≤ x6_2) = false := decide_eq_false c17
          clear c17
          have H' := Aside0.mk H
          clear H
          go_wp2
          go_roundg k2
          case measure => have := HK1.out; have := HK2.out; omega
          case rel => exact ⟨(x3_2), (wrap64 (x4_1 + 1)), (by first | rfl | (simp; done) | (simp [*]; done)), H', ⟨by have := HK1.out; have := HK2.out; omega⟩, ⟨by exact Kd.R_mono HO_3.out (fun _ hk => trivial)⟩, ⟨by exact BK257.out⟩, ⟨by exact HB.out⟩⟩
      ·rw [if_neg c12] at H
       have c12b0 : decide (x4_1 < a0_0) = false := decide_eq_false c12
       clear c12
       obtain rfl := Option.some.inj H
       have hcz28_0 : wr.cell? ⟨gb257, 0, none⟩ = some (.int .i64 a0_0) := (blk_cell BK257.out 0).trans rfl
       have hcz28_1 : wr.cell? ⟨gb257, 1, none⟩ = some (.slice A0_1 l0_1.length c0_1) := (blk_cell BK257.out 1).trans rfl
       have hfz28_0 := blk_frozen BK257.out 0
       have hfz28_1 := blk_frozen BK257.out 1
       go_wp2
       go_ret
       exact ⟨_, by first | rfl | (simp [errW_none, errW_some] <;> rfl) | (simp [*, errW_none, errW_some] <;> rfl), by exact HO_3.out, by exact HB.out⟩
   ·rw [if_neg c5] at H
    exact absurd H (by simp)
  ·rw [if_neg c4] at H
   exact absurd H (by simp)
 ·rw [if_neg c3] at H
  have c3b0 : (t258 == 0) = false := beq_eq_false_iff_ne.mpr c3
  have c3b1 : (t258 != 0) = true := bne_iff_ne.mpr c3
  obtain rfl := Option.some.inj H
  go_enter Try.func23, Try.ntmps23
  go_wp2_with (first | ((with_reducible refine gate_dst (N := 1) rfl ?_); refine box_event ?hg (N := 1) ?hd (cs := #[.int .i64 a0_0, .slice A0_1 l0_1.length c0_1]) (t := 24) ?hr ?_; (case hd => rfl); (case hg => rfl); (case hr => first | (go_simp; done) | (go_simp; rfl)); intro gb257 hg w29 hbox hb; have n0_ := Aside0.mk (below_step (by exact HB.out) hb); have n1_ := Aside0.mk (hbox); have n2_ := Aside0.mk ((by rw [hg]; exact (below_size (by exact HB.out)) : w.heap.size ≤ gb257)); have n3_ := Aside0.mk ((by rw [hg]; exact (below_size (by exact HB.out)) : w.heap.size ≤ gb257)); clear HB; have HB := n0_; have BK257 := n1_; have GW257 := n2_; have GE257 := n3_; clear n0_ n1_ n2_ n3_; clear hb hbox hg; have hcz30_0 : w29.cell? ⟨gb257, 0, none⟩ = some (.int .i64 a0_0) := (blk_cell BK257.out 0).trans rfl; have hcz30_1 : w29.cell? ⟨gb257, 1, none⟩ = some (.slice A0_1 l0_1.length c0_1) := (blk_cell BK257.out 1).trans rfl; have hfz30_0 := blk_frozen BK257.out 0; have hfz30_1 := blk_frozen BK257.out 1) | ((with_reducible refine gate_callee (f := 18) rfl ?_); refine goesL_ (some 8) rfl rfl Try.func18 (by kernel_rfl) rfl #[.agg #[.int .i64 a0_0, .slice A0_1 l0_1.length c0_1]] rfl (by (try simp only [List.map_toArray, List.map_cons, List.map_nil]); first | done | rfl | (simp only [List.length_drop, List.length_take]; rfl)) ?_; (with_reducible refine (timesyncref18_Check.calls k a0_0 _ _ l0_1 t258 _ ?side1 ?side2 A2.out).mono ?_); (case side1 => exact (Kd.C_below HR0_1.out HB.out)); (case side2 => exact HC0_1.out); rintro e w31 ⟨rfl, hb⟩; refine ⟨_, rfl, ?_⟩; have n0_ := Aside0.mk (blk_below (g := gb257) (o := .cells #[.int .i64 a0_0, .slice A0_1 l0_1.length c0_1] 24 (0, 0)) (by exact BK257.out) hb); have n1_ := Aside0.mk (below_step (by exact HB.out) hb); clear BK257; clear HB; have BK257 := n0_; have HB := n1_; clear n0_ n1_; (try clear hi)))
  go_ret
  exact ⟨_, by first | rfl | (simp [errW_none, errW_some] <;> rfl) | (simp [*, errW_none, errW_some] <;> rfl), by first | exact Kd.R_nil _ _ _ _ _ | exact Kd.N_nil _ _ _ _ _ | exact Kd.V_nil _ _ _ _ _ | exact Kd.Q_nil _ _ _ _ _ | exact Kd.S_nil _ _ _ _ _, by exact HB.out⟩

end Go.Proofs.Ythkpnkmbmlbefaa.X

namespace Go.Proofs.Ythkpnkmbmlbefaa.X
open Go.RowKit Go.Proofs.YthkpnkmbmlbefaaW.PrintWords Go.Proofs.YthkpnkmbmlbefaaW.PrintLast Go.Proofs.YthkpnkmbmlbefaaW.PrintMore
attribute [local go_sem] max2_int min2_int max_two min_two max_three min_three max_four min_four   -- for this text's walks alone
set_option linter.unusedVariables false
set_option linter.unusedSimpArgs false

/-! ### timesyncref18_neighbors: function 62 -/
def timesyncref18_neighbors.l0 : Nat → Int → Int → Int → Int → List (S37) → Option (Bool)
 | 0, _, _, _, _, _ => none
 | k + 1, x1, x2, x7, x268000, x268001 => if x7 < (x268001.length : Int) then (if 0 ≤ x7 then (if ((rd_T37 x268001 x7).f0) = x1 then (if ((rd_T37 x268001 x7).f2) = x2 then (some true) else (if ((rd_T37 x268001 x7).f0) = x2 then (if ((rd_T37 x268001 x7).f2) = x1 then (some true) else (timesyncref18_neighbors.l0 k x1 x2 (wrap64 (x7 + 1)) x268000 x268001)) else (timesyncref18_neighbors.l0 k x1 x2 (wrap64 (x7 + 1)) x268000 x268001))) else (if ((rd_T37 x268001 x7).f0) = x2 then (if ((rd_T37 x268001 x7).f2) = x1 then (some true) else (timesyncref18_neighbors.l0 k x1 x2 (wrap64 (x7 + 1)) x268000 x268001)) else (timesyncref18_neighbors.l0 k x1 x2 (wrap64 (x7 + 1)) x268000 x268001))) else (none)) else (some false)
def timesyncref18_neighbors.f (k : Nat) (a0_0 : Int) (l0_1 : List (S37)) (a1 : Int) (a2 : Int) : Option (Bool) := timesyncref18_neighbors.l0 k a1 a2 0 a0_0 l0_1
set_option maxHeartbeats 8000000 in
set_option maxRecDepth 100000 in
theorem timesyncref18_neighbors.calls (k : Nat) (a0_0 : Int) (A0_1 : Option Addr) (c0_1 : Nat) (l0_1 : List (S37)) (a1 : Int) (a2 : Int) (r : Bool) (w : World) (hr0_1 : Kd.C k37 w A0_1 l0_1.length l0_1) (hc0_1 : l0_1.length ≤ c0_1) (h : timesyncref18_neighbors.f k a0_0 l0_1 a1 a2 = some r) :
  Calls Try.prog 62 #[.agg #[.int .i64 a0_0, .slice A0_1 l0_1.length c0_1], .int .i64 a1, .int .i64 a2] w fun e w' => e = .returned (.bool r) ∧ Below w.heap.size w w' := by
 have hu24 := Try.underlying24
 have hu37 := Try.underlying37
 have HR0_1 := Aside0.mk hr0_1
 have HC0_1 := Aside0.mk hc0_1
 clear hr0_1 hc0_1
 have HB := Aside0.mk (Below.refl w.heap.size w)
 have H : (timesyncref18_neighbors.l0 k a1 a2 0 a0_0 l0_1) = some r := h
 clear h
 have H' := Aside0.mk H
 clear H
 go_enter Try.func62, Try.ntmps62
 go_wp2_with (first | ((with_reducible refine gate_dst (N := 3) rfl ?_); refine box_event ?hg (N := 3) ?hd (cs := #[.int .i64 a0_0, .slice A0_1 l0_1.length c0_1]) (t := 24) ?hr ?_; (case hd => rfl); (case hg => rfl); (case hr => first | (go_simp; done) | (go_simp; rfl)); intro gb267 hg w4 hbox hb; have n0_ := Aside0.mk (below_step (by exact HB.out) hb); have n1_ := Aside0.mk (hbox); have n2_ := Aside0.mk ((by rw [hg]; exact (below_size (by exact HB.out)) : w.heap.size ≤ gb267)); have n3_ := Aside0.mk ((by rw [hg]; exact (below_size (by exact HB.out)) : w.heap.size ≤ gb267)); clear HB; have HB := n0_; have BK267 := n1_; have GW267 := n2_; have GE267 := n3_; clear n0_ n1_ n2_ n3_; clear hb hbox hg))
 go_loopg [7] k (fun kq v7 w' => ∃ (x7_1 : Int), v7 = .int .i64 x7_1 ∧ Aside0 (timesyncref18_neighbors.l0 kq a1 a2 x7_1 a0_0 l0_1 = some r) ∧ Aside0 (kq ≤ k) ∧ Aside0 (w'.heap[gb267]? = some (.cells #[.int .i64 a0_0, (.slice A0_1 l0_1.length c0_1)] 24 (0, 0))) ∧ Aside0 (Below w.heap.size w w'))
 case atStart => exact ⟨(0), (by first | rfl | (simp; done) | (simp [*]; done)), H', ⟨Nat.le_refl _⟩, ⟨by exact BK267.out⟩, ⟨by exact HB.out⟩⟩
 case round =>
  clear H'
  try clear p2
  obtain ⟨x7_1, rfl, HA, HK1, BK267, HB⟩ := hrel
  cases gk with
  | zero => exact absurd HA.out (by simp [timesyncref18_neighbors.l0])
  | succ k1 =>
   have H := HA.out
   clear HA
   simp only [timesyncref18_neighbors.l0] at H
   by_cases c5 : x7_1 < (l0_1.length : Int)
   ·rw [if_pos c5] at H
    have c5b0 : decide (x7_1 < (l0_1.length : Int)) = true := decide_eq_true c5
    clear c5
    by_cases c6 : 0 ≤ x7_1
    ·rw [if_pos c6] at H
     have c6b0 : decide (0 ≤ x7_1) = true := decide_eq_true c6
     clear c6
     by_cases c7 : ((rd_T37 l0_1 x7_1).f0) = a1
     ·rw [if_pos c7] at H
      have c7b0 : (((rd_T37 l0_1 x7_1).f0) == a1) = true := beq_iff_eq.mpr c7
      have c7b1 : (((rd_T37 l0_1 x7_1).f0) != a1) = false := bne_eq_false_iff_eq.mpr c7
      clear c7
      by_cases c8 : ((rd_T37 l0_1 x7_1).f2) = a2
      ·rw [if_pos c8] at H
       have c8b0 : (((rd_T37 l0_1 x7_1).f2) == a2) = true := beq_iff_eq.mpr c8
       have c8b1 : (((rd_T37 l0_1 x7_1).f2) != a2) = false := bne_eq_false_iff_eq.mpr c8
       clear c8
       obtain rfl := Option.some.inj H
       have hcz9_0 : wr.cell? ⟨gb267, 0, none⟩ = some (.int .i64 a0_0) := (blk_cell BK267.out 0).trans rfl
       have hcz9_1 : wr.cell? ⟨gb267, 1, none⟩ = some (.slice A0_1 l0_1.length c0_1) := (blk_cell BK267.out 1).trans rfl
       have hfz9_0 := blk_frozen BK267.out 0
       have hfz9_1 := blk_frozen BK267.out 1
       have p268 : 0 ≤ (x7_1 : Int) := of_decide_eq_true (by first | (with_reducible assumption) | assumption)
       have q268 : x7_1 < (l0_1.length : Int) := of_decide_eq_true (by first | (with_reducible assumption) | assumption)
       obtain ⟨ad268, e268, hx268_0, hx268_1, hx268_2, hx268_3⟩ := at_T37 HR0_1.out x7_1 p268 q268
       cases e268
       try replace hx268_0 := (HB.out.cell (World.block_lt_of_cell? w _ hx268_0)).trans hx268_0
       try replace hx268_1 := (HB.out.cell (World.block_lt_of_cell? w _ hx268_1)).trans hx268_1
       try replace hx268_2 := (HB.out.cell (World.block_lt_of_cell? w _ hx268_2)).trans hx268_2
       try replace hx268_3 := (HB.out.cell (World.block_lt_of_cell? w _ hx268_3)).trans hx268_3
       replace p268 := eq_true p268
       replace q268 := eq_true q268
       go_wp2_with (first | ((with_reducible refine gate_dst (N := 8) rfl ?_); refine box_event ?hg (N := 8) ?hd (cs := #[.int .i64 0, .int .i64 0, .int .i64 0, .int .i64 0]) (t := 37) ?hr ?_; (case hd => rfl); (case hg => rfl); (case hr => first | (go_simp; done) | (go_simp; rfl)); intro gb269 hg w10 hbox hb; have n0_ := Aside0.mk (blk_below (g := gb267) (o := .cells #[.int .i64 a0_0, .slice (some ad268) l0_1.length c0_1] 24 (0, 0)) (by (with_reducible repeat (first | refine blk_drewN ?_ _ | refine blk_drew ?_ | refine blk_alloc ?_ _)); exact BK267.out) hb); have n1_ := Aside0.mk (below_step (by repeat (first | (with_reducible first | exact HB.out | apply below_alloc | apply pw_below_drewN | apply below_drew1 | refine below_set ?_ GE267.out) | exact HB.out)) hb); have n2_ := Aside0.mk (hbox); have n3_ := Aside0.mk ((by rw [hg]; exact (below_size (by repeat (first | (with_reducible first | exact HB.out | apply below_alloc | apply pw_below_drewN | apply below_drew1 | refine below_set ?_ GE267.out) | exact HB.out))) : w.heap.size ≤ gb269)); have n4_ := Aside0.mk ((by rw [hg]; exact (below_size (by repeat (first | (with_reducible first | exact HB.out | apply below_alloc | apply pw_below_drewN | apply below_drew1 | refine below_set ?_ GE267.out) | exact HB.out))) : w.heap.size ≤ gb269)); have n5_ := Aside0.mk ((by rw [hg]; exact Nat.ne_of_lt (blk_lt (g := gb267) (o := .cells #[.int .i64 a0_0, .slice (some ad268) l0_1.length c0_1] 24 (0, 0)) (by (with_reducible repeat (first | refine blk_drewN ?_ _ | refine blk_drew ?_ | refine blk_alloc ?_ _)); exact BK267.out)) : gb267 ≠ gb269)); have n6_ := Aside0.mk ((by rw [hg]; exact Nat.ne_of_gt (blk_lt (g := gb267) (o := .cells #[.int .i64 a0_0, .slice (some ad268) l0_1.length c0_1] 24 (0, 0)) (by (with_reducible repeat (first | refine blk_drewN ?_ _ | refine blk_drew ?_ | refine blk_alloc ?_ _)); exact BK267.out)) : gb269 ≠ gb267)); clear BK267; clear HB; have BK267 := n0_; have HB := n1_; have BK269 := n2_; have GW269 := n3_; have GE269 := n4_; have NB267_269 := n5_; have NB269_267 := n6_; clear n0_ n1_ n2_ n3_ n4_ n5_ n6_; clear hb hbox hg; have hnb11 := NB269_267.out; have hnc11 := NB267_269.out; have hcz12_0 : w10.cell? ⟨gb269, 0, none⟩ = some (.int .i64 0) := (blk_cell BK269.out 0).trans rfl; have hcz12_1 : w10.cell? ⟨gb269, 1, none⟩ = some (.int .i64 0) := (blk_cell BK269.out 1).trans rfl; have hcz12_2 : w10.cell? ⟨gb269, 2, none⟩ = some (.int .i64 0) := (blk_cell BK269.out 2).trans rfl; have hcz12_3 : w10.cell? ⟨gb269, 3, none⟩ = some (.int .i64 0) := (blk_cell BK269.out 3).trans rfl; have hfz12_0 := blk_frozen BK269.out 0; have hfz12_1 := blk_frozen BK269.out 1; have hfz12_2 := blk_frozen BK269.out 2; have hfz12_3 := blk_frozen BK269.out 3))
       go_ret
       exact ⟨by first | rfl | (simp [errW_none, errW_some] <;> rfl) | (simp [*, errW_none, errW_some] <;> rfl), by repeat (first | (with_reducible first | exact HB.out | apply below_alloc | apply pw_below_drewN | apply below_drew1 | refine below_set ?_ GE267.out | refine below_set ?_ GE269.out) | exact HB.out)⟩
      ·rw [if_neg c8] at H
       have c8b0 : (((rd_T37 l0_1 x7_1).f2) == a2) = false := beq_eq_false_iff_ne.mpr c8
       have c8b1 : (((rd_T37 l0_1 x7_1).f2) != a2) = true := bne_iff_ne.mpr c8
       by_cases c13 : ((rd_T37 l0_1 x7_1).f0) = a2
       ·rw [if_pos c13] at H
        have c13b0 : (((rd_T37 l0_1 x7_1).f0) == a2) = true := beq_iff_eq.mpr c13
        have c13b1 : (((rd_T37 l0_1 x7_1).f0) != a2) = false := bne_eq_false_iff_eq.mpr c13
        clear c13
        by_cases c14 : ((rd_T37 l0_1 x7_1).f2) = a1
        ·rw [if_pos c14] at H
         have c14b0 : (((rd_T37 l0_1 x7_1).f2) == a1) = true := beq_iff_eq.mpr c14
         have c14b1 : (((rd_T37 l0_1 x7_1).f2) != a1) = false := bne_eq_false_iff_eq.mpr c14
         clear c14
         obtain rfl := Option.some.inj H
         have hcz15_0 : wr.cell? ⟨gb267, 0, none⟩ = some (.int .i64 a0_0) := (blk_cell BK267.out 0).trans rfl
         have hcz15_1 : wr.cell? ⟨gb267, 1, none⟩ = some (.slice A0_1 l0_1.length c0_1) := (blk_cell BK267.out 1).trans rfl
         have hfz15_0 := blk_frozen BK267.out 0
         have hfz15_1 := blk_frozen BK267.out 1
         have p268 : 0 ≤ (x7_1 : Int) := of_decide_eq_true (by first | (with_reducible assumption) | assumption)
         have q268 : x7_1 < (l0_1.length : Int) := of_decide_eq_true (by first | (with_reducible assumption) | assumption)
         obtain ⟨ad268, e268, hx268_0, hx268_1, hx268_2, hx268_3⟩ := at_T37 HR0_1.out x7_1 p268 q268
         cases e268
         try replace hx268_0 := (HB.out.cell (World.block_lt_of_cell? w _ hx268_0)).trans hx268_0
         try replace hx268_1 := (HB.out.cell (World.block_lt_of_cell? w _ hx268_1)).trans hx268_1
         try replace hx268_2 := (HB.out.cell (World.block_lt_of_cell? w _ hx268_2)).trans hx268_2
         try replace hx268_3 := (HB.out.cell (World.block_lt_of_cell? w _ hx268_3)).trans hx268_3
         replace p268 := eq_true p268
         replace q268 := eq_true q268
         go_wp2_with (first | ((with_reducible refine gate_dst (N := 8) rfl ?_); refine box_event ?hg (N := 8) ?hd (cs := #[.int .i64 0, .int .i64 0, .int .i64 0, .int .i64 0]) (t := 37) ?hr ?_; (case hd => rfl); (case hg => rfl); (case hr => first | (go_simp; done) | (go_simp; rfl)); intro gb269 hg w16 hbox hb; have n0_ := Aside0.mk (blk_below (g := gb267) (o := .cells #[.int .i64 a0_0, .slice (some ad268) l0_1.length c0_1] 24 (0, 0)) (by (with_reducible repeat (first | refine blk_drewN ?_ _ | refine blk_drew ?_ | refine blk_alloc ?_ _)); exact BK267.out) hb); have n1_ := Aside0.mk (below_step (by repeat (first | (with_reducible first | exact HB.out | apply below_alloc | apply pw_below_drewN | apply below_drew1 | refine below_set ?_ GE267.out) | exact HB.out)) hb); have n2_ := Aside0.mk (hbox); have n3_ := Aside0.mk ((by rw [hg]; exact (below_size (by repeat (first | (with_reducible first | exact HB.out | apply below_alloc | apply pw_below_drewN | apply below_drew1 | refine below_set ?_ GE267.out) | exact HB.out))) : w.heap.size ≤ gb269)); have n4_ := Aside0.mk ((by rw [hg]; exact (below_size (by repeat (first | (with_reducible first | exact HB.out | apply below_alloc | apply pw_below_drewN | apply below_drew1 | refine below_set ?_ GE267.out) | exact HB.out))) : w.heap.size ≤ gb269)); have n5_ := Aside0.mk ((by rw [hg]; exact Nat.ne_of_lt (blk_lt (g := gb267) (o := .cells #[.int .i64 a0_0, .slice (some ad268) l0_1.length c0_1] 24 (0, 0)) (by (with_reducible repeat (first | refine blk_drewN ?_ _ | refine blk_drew ?_ | refine blk_alloc ?_ _)); exact BK267.out)) : gb267 ≠ gb269)); have n6_ := Aside0.mk ((by rw [hg]; exact Nat.ne_of_gt (blk_lt (g := gb267) (o := .cells #[.int .i64 a0_0, .slice (some ad268) l0_1.length c0_1] 24 (0, 0)) (by (with_reducible repeat (first | refine blk_drewN ?_ _ | refine blk_drew ?_ | refine blk_alloc ?_ _)); exact BK267.out)) : gb269 ≠ gb267)); clear BK267; clear HB; have BK267 := n0_; have HB := n1_; have BK269 := n2_; have GW269 := n3_; have GE269 := n4_; have NB267_269 := n5_; have NB269_267 := n6_; clear n0_ n1_ n2_ n3_ n4_ n5_ n6_; clear hb hbox hg; have hnb17 := NB269_267.out; have hnc17 := NB267_269.out; have hcz18_0 : w16.cell? ⟨gb269, 0, none⟩ = some (.int .i64 0) := (blk_cell BK269.out 0).trans rfl; have hcz18_1 : w16.cell? ⟨gb269, 1, none⟩ = some (.int .i64 0) := (blk_cell BK269.out 1).trans rfl; have hcz18_2 : w16.cell? ⟨gb269, 2, none⟩ = some (.int .i64 0) := (blk_cell BK269.out 2).trans rfl; have hcz18_3 : w16.cell? ⟨gb269, 3, none⟩ = some (.int .i64 0) := (blk_cell BK269.out 3).trans rfl; have hfz18_0 := blk_frozen BK269.out 0; have hfz18_1 := blk_frozen BK269.out 1; have hfz18_2 := blk_frozen BK269.out 2; have hfz18_3 := blk_frozen BK269.out 3))
         go_ret
         exact ⟨by first | rfl | (simp [errW_none, errW_some] <;> rfl) | (simp [*, errW_none, errW_some] <;> rfl), by repeat (first | (with_reducible first | exact HB.out | apply below_alloc | apply pw_below_drewN | apply below_drew1 | refine below_set ?_ GE267.out | refine below_set ?_ GE269.out) | exact HB.out)⟩
        ·rw [if_neg c14] at H
         have c14b0 : (((rd_T37 l0_1 x7_1).f2) == a1) = false := beq_eq_false_iff_ne.mpr c14
         have c14b1 : (((rd_T37 l0_1 x7_1).f2) != a1) = true := bne_iff_ne.mpr c14
         have H' := Aside0.mk H
         clear H
         have hcz19_0 : wr.cell? ⟨gb267, 0, none⟩ = some (.int .i64 a0_0) := (blk_cell BK267.out 0).trans rfl
         have hcz19_1 : wr.cell? ⟨gb267, 1, none⟩ = some (.slice A0_1 l0_1.length c0_1) := (blk_cell BK267.out 1).trans rfl
         have hfz19_0 := blk_frozen BK267.out 0
         have hfz19_1 := blk_frozen BK267.out 1
         have p268 : 0 ≤ (x7_1 : Int) := of_decide_eq_true (by first | (with_reducible assumption) | assumption)
         have q268 : x7_1 < (l0_1.length : Int) := of_decide_eq_true (by first | (with_reducible assumption) | assumption)
         obtain ⟨ad268, e268, hx268_0, hx268_1, hx268_2, hx268_3⟩ := at_T37 HR0_1.out x7_1 p268 q268
         cases e268
         try replace hx268_0 := (HB.out.cell (World.block_lt_of_cell? w _ hx268_0)).trans hx268_0
         try replace hx268_1 := (HB.out.cell (World.block_lt_of_cell? w _ hx268_1)).trans hx268_1
         try replace hx268_2 := (HB.out.cell (World.block_lt_of_cell? w _ hx268_2)).trans hx268_2
         try replace hx268_3 := (HB.out.cell (World.block_lt_of_cell? w _ hx268_3)).trans hx268_3
         replace p268 := eq_true p268
         replace q268 := eq_true q268
         go_wp2_with (first | ((with_reducible refine gate_dst (N := 8) rfl ?_); refine box_event ?hg (N := 8) ?hd (cs := #[.int .i64 0, .int .i64 0, .int .i64 0, .int .i64 0]) (t := 37) ?hr ?_; (case hd => rfl); (case hg => rfl); (case hr => first | (go_simp; done) | (go_simp; rfl)); intro gb269 hg w20 hbox hb; have n0_ := Aside0.mk (blk_below (g := gb267) (o := .cells #[.int .i64 a0_0, .slice (some ad268) l0_1.length c0_1] 24 (0, 0)) (by (with_reducible repeat (first | refine blk_drewN ?_ _ | refine blk_drew ?_ | refine blk_alloc ?_ _)); exact BK267.out) hb); have n1_ := Aside0.mk (below_step (by repeat (first | (with_reducible first | exact HB.out | apply below_alloc | apply pw_below_drewN | apply below_drew1 | refine below_set ?_ GE267.out) | exact HB.out)) hb); have n2_ := Aside0.mk (hbox); have n3_ := Aside0.mk ((by rw [hg]; exact (below_size (by repeat (first | (with_reducible first | exact HB.out | apply below_alloc | apply pw_below_drewN | apply below_drew1 | refine below_set ?_ GE267.out) | exact HB.out))) : w.heap.size ≤ gb269)); have n4_ := Aside0.mk ((by rw [hg]; exact (below_size (by repeat (first | (with_reducible first | exact HB.out | apply below_alloc | apply pw_below_drewN | apply below_drew1 | refine below_set ?_ GE267.out) | exact HB.out))) : w.heap.size ≤ gb269)); have n5_ := Aside0.mk ((by rw [hg]; exact Nat.ne_of_lt (blk_lt (g := gb267) (o := .cells #[.int .i64 a0_0, .slice (some ad268) l0_1.length c0_1] 24 (0, 0)) (by (with_reducible repeat (first | refine blk_drewN ?_ _ | refine blk_drew ?_ | refine blk_alloc ?_ _)); exact BK267.out)) : gb267 ≠ gb269)); have n6_ := Aside0.mk ((by rw [hg]; exact Nat.ne_of_gt (blk_lt (g := gb267) (o := .cells #[.int .i64 a0_0, .slice (some ad268) l0_1.length c0_1] 24 (0, 0)) (by (with_reducible repeat (first | refine blk_drewN ?_ _ | refine blk_drew ?_ | refine blk_alloc ?_ _)); exact BK267.out)) : gb269 ≠ gb267)); clear BK267; clear HB; have BK267 := n0_; have HB := n1_; have BK269 := n2_; have GW269 := n3_; have GE269 := n4_; have NB267_269 := n5_; have NB269_267 := n6_; clear n0_ n1_ n2_ n3_ n4_ n5_ n6_; clear hb hbox hg; have hnb21 := NB269_267.out; have hnc21 := NB267_269.out; have hcz22_0 : w20.cell? ⟨gb269, 0, none⟩ = some (.int .i64 0) := (blk_cell BK269.out 0).trans rfl; have hcz22_1 : w20.cell? ⟨gb269, 1, none⟩ = some (.int .i64 0) := (blk_cell BK269.out 1).trans rfl; have hcz22_2 : w20.cell? ⟨gb269, 2, none⟩ = some (.int .i64 0) := (blk_cell BK269.out 2).trans rfl; have hcz22_3 : w20.cell? ⟨gb269, 3, none⟩ = some (.int .i64 0) := (blk_cell BK269.out 3).trans rfl; have hfz22_0 := blk_frozen BK269.out 0; have hfz22_1 := blk_frozen BK269.out 1; have hfz22_2 := blk_frozen BK269.out 2; have hfz22_3 := blk_frozen BK269.out 3))
         go_roundg k1
         case measure => have := HK1.out; omega
         case rel => exact ⟨(wrap64 (x7_1 + 1)), (by first | rfl | (simp; done) | (simp [*]; done)), H', ⟨by have := HK1.out; omega⟩, ⟨by (with_reducible repeat (first | refine blk_drewN ?_ _ | refine blk_drew ?_ | refine blk_alloc ?_ _)); refine blk_far ?_ NB267_269.out _; (with_reducible repeat (first | refine blk_drewN ?_ _ | refine blk_drew ?_ | refine blk_alloc ?_ _)); refine blk_far ?_ NB267_269.out _; (with_reducible repeat (first | refine blk_drewN ?_ _ | refine blk_drew ?_ | refine blk_alloc ?_ _)); refine blk_far ?_ NB267_269.out _; (with_reducible repeat (first | refine blk_drewN ?_ _ | refine blk_drew ?_ | refine blk_alloc ?_ _)); refine blk_far ?_ NB267_269.out _; (with_reducible repeat (first | refine blk_drewN ?_ _ | refine blk_drew ?_ | refine blk_alloc ?_ _)); exact BK267.out⟩, ⟨by repeat (first | (with_reducible first | exact HB.out | apply below_alloc | apply pw_below_drewN | apply below_drew1 | refine below_set ?_ GE267.out | refine below_set ?_ GE269.out) | exact HB.out)⟩⟩
       ·rw [if_neg c13] at H
        have c13b0 : (((rd_T37 l0_1 x7_1).f0) == a2) = false := beq_eq_false_iff_ne.mpr c13
        have c13b1 : (((rd_T37 l0_1 x7_1).f0) != a2) = true := bne_iff_ne.mpr c13
        have H' := Aside0.mk H
        clear H
        have hcz23_0 : wr.cell? ⟨gb267, 0, none⟩ = some (.int .i64 a0_0) := (blk_cell BK267.out 0).trans rfl
        have hcz23_1 : wr.cell? ⟨gb267, 1, none⟩ = some (.slice A0_1 l0_1.length c0_1) := (blk_cell BK267.out 1).trans rfl
        have hfz23_0 := blk_frozen BK267.out 0
        have hfz23_1 := blk_frozen BK267.out 1
        have p268 : 0 ≤ (x7_1 : Int) := of_decide_eq_true (by first | (with_reducible assumption) | assumption)
        have q268 : x7_1 < (l0_1.length : Int) := of_decide_eq_true (by first | (with_reducible assumption) | assumption)
        obtain ⟨ad268, e268, hx268_0, hx268_1, hx268_2, hx268_3⟩ := at_T37 HR0_1.out x7_1 p268 q268
        cases e268
        try replace hx268_0 := (HB.out.cell (World.block_lt_of_cell? w _ hx268_0)).trans hx268_0
        try replace hx268_1 := (HB.out.cell (World.block_lt_of_cell? w _ hx268_1)).trans hx268_1
        try replace hx268_2 := (HB.out.cell (World.block_lt_of_cell? w _ hx268_2)).trans hx268_2
        try replace hx268_3 := (HB.out.cell (World.block_lt_of_cell? w _ hx268_3)).trans hx268_3
        replace p268 := eq_true p268
        replace q268 := eq_true q268
        go_wp2_with (first | ((with_reducible refine gate_dst (N := 8) rfl ?_); refine box_event ?hg (N := 8) ?hd (cs := #[.int .i64 0, .int .i64 0, .int .i64 0, .int .i64 0]) (t := 37) ?hr ?_; (case hd => rfl); (case hg => rfl); (case hr => first | (go_simp; done) | (go_simp; rfl)); intro gb269 hg w24 hbox hb; have n0_ := Aside0.mk (blk_below (g := gb267) (o := .cells #[.int .i64 a0_0, .slice (some ad268) l0_1.length c0_1] 24 (0, 0)) (by (with_reducible repeat (first | refine blk_drewN ?_ _ | refine blk_drew ?_ | refine blk_alloc ?_ _)); exact BK267.out) hb); have n1_ := Aside0.mk (below_step (by repeat (first | (with_reducible first | exact HB.out | apply below_alloc | apply pw_below_drewN | apply below_drew1 | refine below_set ?_ GE267.out) | exact HB.out)) hb); have n2_ := Aside0.mk (hbox); have n3_ := Aside0.mk ((by rw [hg]; exact (below_size (by repeat (first | (with_reducible first | exact HB.out | apply below_alloc | apply pw_below_drewN | apply below_drew1 | refine below_set ?_ GE267.out) | exact HB.out))) : w.heap.size ≤ gb269)); have n4_ := Aside0.mk ((by rw [hg]; exact (below_size (by repeat (first | (with_reducible first | exact HB.out | apply below_alloc | apply pw_below_drewN | apply below_drew1 | refine below_set ?_ GE267.out) | exact HB.out))) : w.heap.size ≤ gb269)); have n5_ := Aside0.mk ((by rw [hg]; exact Nat.ne_of_lt (blk_lt (g := gb267) (o := .cells #[.int .i64 a0_0, .slice (some ad268) l0_1.length c0_1] 24 (0, 0)) (by (with_reducible repeat (first | refine blk_drewN ?_ _ | refine blk_drew ?_ | refine blk_alloc ?_ _)); exact BK267.out)) : gb267 ≠ gb269)); have n6_ := Aside0.mk ((by rw [hg]; exact Nat.ne_of_gt (blk_lt (g := gb267) (o := .cells #[.int .i64 a0_0, .slice (some ad268) l0_1.length c0_1] 24 (0, 0)) (by (with_reducible repeat (first | refine blk_drewN ?_ _ | refine blk_drew ?_ | refine blk_alloc ?_ _)); exact BK267.out)) : gb269 ≠ gb267)); clear BK267; clear HB; have BK267 := n0_; have HB := n1_; have BK269 := n2_; have GW269 := n3_; have GE269 := n4_; have NB267_269 := n5_; have NB269_267 := n6_; clear n0_ n1_ n2_ n3_ n4_ n5_ n6_; clear hb hbox hg; have hnb25 := NB269_267.out; have hnc25 := NB267_269.out; have hcz26_0 : w24.cell? ⟨gb269, 0, none⟩ = some (.int .i64 0) := (blk_cell BK269.out 0).trans rfl; have hcz26_1 : w24.cell? ⟨gb269, 1, none⟩ = some (.int .i64 0) := (blk_cell BK269.out 1).trans rfl; have hcz26_2 : w24.cell? ⟨gb269, 2, none⟩ = some (.int .i64 0) := (blk_cell BK269.out 2).trans rfl; have hcz26_3 : w24.cell? ⟨gb269, 3, none⟩ = some (.int .i64 0) := (blk_cell BK269.out 3).trans rfl; have hfz26_0 := blk_frozen BK269.out 0; have hfz26_1 := blk_frozen BK269.out 1; have hfz26_2 := blk_frozen BK269.out 2; have hfz26_3 := blk_frozen BK269.out 3))
        go_roundg k1
        case measure => have := HK1.out; omega
        case rel => exact ⟨(wrap64 (x7_1 + 1)), (by first | rfl | (simp; done) | (simp [*]; done)), H', ⟨by have := HK1.out; omega⟩, ⟨by (with_reducible repeat (first | refine blk_drewN ?_ _ | refine blk_drew ?_ | refine blk_alloc ?_ _)); refine blk_far ?_ NB267_269.out _; (with_reducible repeat (first | refine blk_drewN ?_ _ | refine blk_drew ?_ | refine blk_alloc ?_ _)); refine blk_far ?_ NB267_269.out _; (with_reducible repeat (first | refine blk_drewN ?_ _ | refine blk_drew ?_ | refine blk_alloc ?_ _)); refine blk_far ?_ NB267_269.out _; (with_reducible repeat (first | refine blk_drewN ?_ _ | refine blk_drew ?_ | refine blk_alloc ?_ _)); refine blk_far ?_ NB267_269.out _; (with_reducible repeat (first | refine blk_drewN ?_ _ | refine blk_drew ?_ | refine blk_alloc ?_ _)); exact BK267.out⟩, ⟨by repeat (first | (with_reducible first | exact HB.out | apply below_alloc | apply pw_below_drewN | apply below_drew1 | refine below_set ?_ GE267.out | refine below_set ?_ GE269.out) | exact HB.out)⟩⟩
     ·rw [if_neg c7] at H
      have c7b0 : (((rd_T37 l0_1 x7_1).f0) == a1) = false := beq_eq_false_iff_ne.mpr c7
      have c7b1 : (((rd_T37 l0_1 x7_1).f0) != a1) = true := bne_iff_ne.mpr c7
      by_cases c27 : ((rd_T37 l0_1 x7_1).f0) = a2
      ·rw [if_pos c27] at H
       have c27b0 : (((rd_T37 l0_1 x7_1).f0) == a2) = true := beq_iff_eq.mpr c27
       have c27b1 : (((rd_T37 l0_1 x7_1).f0) != a2) = false := bne_eq_false_iff_eq.mpr c27
       clear c27
       by_cases c28 : ((rd_T37 l0_1 x7_1).f2) = a1
       ·rw [if_pos c28] at H
        have c28b0 : (((rd_T37 l0_1 x7_1).f2) == a1) = true := beq_iff_eq.mpr c28
        have c28b1 : (((rd_T37 l0_1 x7_1).f2) != a1) = false := bne_eq_false_iff_eq.mpr c28
        clear c28
        obtain rfl := Option.some.inj H
        have hcz29_0 : wr.cell? ⟨gb267, 0, none⟩ = some (.int .i64 a0_0) := (blk_cell BK267.out 0).trans rfl
        have hcz29_1 : wr.cell? ⟨gb267, 1, none⟩ = some (.slice A0_1 l0_1.length c0_1) := (blk_cell BK267.out 1).trans rfl
        have hfz29_0 := blk_frozen BK267.out 0
        have hfz29_1 := blk_frozen BK267.out 1
        have p268 : 0 ≤ (x7_1 : Int) := of_decide_eq_true (by first | (with_reducible assumption) | assumption)
        have q268 : x7_1 < (l0_1.length : Int) := of_decide_eq_true (by first | (with_reducible assumption) | assumption)
        obtain ⟨ad268, e268, hx268_0, hx268_1, hx268_2, hx268_3⟩ := at_T37 HR0_1.out x7_1 p268 q268
        cases e268
        try replace hx268_0 := (HB.out.cell (World.block_lt_of_cell? w _ hx268_0)).trans hx268_0
        try replace hx268_1 := (HB.out.cell (World.block_lt_of_cell? w _ hx268_1)).trans hx268_1
        try replace hx268_2 := (HB.out.cell (World.block_lt_of_cell? w _ hx268_2)).trans hx268_2
        try replace hx268_3 := (HB.out.cell (World.block_lt_of_cell? w _ hx268_3)).trans hx268_3
        replace p268 := eq_true p268
        replace q268 := eq_true q268
        go_wp2_with (first | ((with_reducible refine gate_dst (N := 8) rfl ?_); refine box_event ?hg (N := 8) ?hd (cs := #[.int .i64 0, .int .i64 0, .int .i64 0, .int .i64 0]) (t := 37) ?hr ?_; (case hd => rfl); (case hg => rfl); (case hr => first | (go_simp; done) | (go_simp; rfl)); intro gb269 hg w30 hbox hb; have n0_ := Aside0.mk (blk_below (g := gb267) (o := .cells #[.int .i64 a0_0, .slice (some ad268) l0_1.length c0_1] 24 (0, 0)) (by (with_reducible repeat (first | refine blk_drewN ?_ _ | refine blk_drew ?_ | refine blk_alloc ?_ _)); exact BK267.out) hb); have n1_ := Aside0.mk (below_step (by repeat (first | (with_reducible first | exact HB.out | apply below_alloc | apply pw_below_drewN | apply below_drew1 | refine below_set ?_ GE267.out) | exact HB.out)) hb); have n2_ := Aside0.mk (hbox); have n3_ := Aside0.mk ((by rw [hg]; exact (below_size (by repeat (first | (with_reducible first | exact HB.out | apply below_alloc | apply pw_below_drewN | apply below_drew1 | refine below_set ?_ GE267.out) | exact HB.out))) : w.heap.size ≤ gb269)); have n4_ := Aside0.mk ((by rw [hg]; exact (below_size (by repeat (first | (with_reducible first | exact HB.out | apply below_alloc | apply pw_below_drewN | apply below_drew1 | refine below_set ?_ GE267.out) | exact HB.out))) : w.heap.size ≤ gb269)); have n5_ := Aside0.mk ((by rw [hg]; exact Nat.ne_of_lt (blk_lt (g := gb267) (o := .cells #[.int .i64 a0_0, .slice (some ad268) l0_1.length c0_1] 24 (0, 0)) (by (with_reducible repeat (first | refine blk_drewN ?_ _ | refine blk_drew ?_ | refine blk_alloc ?_ _)); exact BK267.out)) : gb267 ≠ gb269)); have n6_ := Aside0.mk ((by rw [hg]; exact Nat.ne_of_gt (blk_lt (g := gb267) (o := .cells #[.int .i64 a0_0, .slice (some ad268) l0_1.length c0_1] 24 (0, 0)) (by (with_reducible repeat (first | refine blk_drewN ?_ _ | refine blk_drew ?_ | refine blk_alloc ?_ _)); exact BK267.out)) : gb269 ≠ gb267)); clear BK267; clear HB; have BK267 := n0_; have HB := n1_; have BK269 := n2_; have GW269 := n3_; have GE269 := n4_; have NB267_269 := n5_; have NB269_267 := n6_; clear n0_ n1_ n2_ n3_ n4_ n5_ n6_; clear hb hbox hg; have hnb31 := NB269_267.out; have hnc31 := NB267_269.out; have hcz32_0 : w30.cell? ⟨gb269, 0, none⟩ = some (.int .i64 0) := (blk_cell BK269.out 0).trans rfl; have hcz32_1 : w30.cell? ⟨gb269, 1, none⟩ = some (.int .i64 0) := (blk_cell BK269.out 1).trans rfl; have hcz32_2 : w30.cell? ⟨gb269, 2, none⟩ = some (.int .i64 0) := (blk_cell BK269.out 2).trans rfl; have hcz32_3 : w30.cell? ⟨gb269, 3, none⟩ = some (.int .i64 0) := (blk_cell BK269.out 3).trans rfl; have hfz32_0 := blk_frozen BK269.out 0; have hfz32_1 := blk_frozen BK269.out 1; have hfz32_2 := blk_frozen BK269.out 2; have hfz32_3 := blk_frozen BK269.out 3))
        go_ret
        exact ⟨by first | rfl | (simp [errW_none, errW_some] <;> rfl) | (simp [*, errW_none, errW_some] <;> rfl), by repeat (first | (with_reducible first | exact HB.out | apply below_alloc | apply pw_below_drewN | apply below_drew1 | refine below_set ?_ GE267.out | refine below_set ?_ GE269.out) | exact HB.out)⟩
       ·rw [if_neg c28] at H
        have c28b0 : (((rd_T37 l0_1 x7_1).f2) == a1) = false := beq_eq_false_iff_ne.mpr c28
        have c28b1 : (((rd_T37 l0_1 x7_1).f2) != a1) = true := bne_iff_ne.mpr c28
        have H' := Aside0.mk H
        clear H
        have hcz33_0 : wr.cell? ⟨gb267, 0, none⟩ = some (.int .i64 a0_0) := (blk_cell BK267.out 0).trans rfl
        have hcz33_1 : wr.cell? ⟨gb267, 1, none⟩ = some (.slice A0_1 l0_1.length c0_1) := (blk_cell BK267.out 1).trans rfl
        have hfz33_0 := blk_frozen BK267.out 0
        have hfz33_1 := blk_frozen BK267.out 1
        have p268 : 0 ≤ (x7_1 : Int) := of_decide_eq_true (by first | (with_reducible assumption) | assumption)
        have q268 : x7_1 < (l0_1.length : Int) := of_decide_eq_true (by first | (with_reducible assumption) | assumption)
        obtain ⟨ad268, e268, hx268_0, hx268_1, hx268_2, hx268_3⟩ := at_T37 HR0_1.out x7_1 p268 q268
        cases e268
        try replace hx268_0 := (HB.out.cell (World.block_lt_of_cell? w _ hx268_0)).trans hx268_0
        try replace hx268_1 := (HB.out.cell (World.block_lt_of_cell? w _ hx268_1)).trans hx268_1
        try replace hx268_2 := (HB.out.cell (World.block_lt_of_cell? w _ hx268_2)).trans hx268_2
        try replace hx268_3 := (HB.out.cell (World.block_lt_of_cell? w _ hx268_3)).trans hx268_3
        replace p268 := eq_true p268
        replace q268 := eq_true q268
        go_wp2_with (first | ((with_reducible refine gate_dst (N := 8) rfl ?_); refine box_event ?hg (N := 8) ?hd (cs := #[.int .i64 0, .int .i64 0, .int .i64 0, .int .i64 0]) (t := 37) ?hr ?_; (case hd => rfl); (case hg => rfl); (case hr => first | (go_simp; done) | (go_simp; rfl)); intro gb269 hg w34 hbox hb; have n0_ := Aside0.mk (blk_below (g := gb267) (o := .cells #[.int .i64 a0_0, .slice (some ad268) l0_1.length c0_1] 24 (0, 0)) (by (with_reducible repeat (first | refine blk_drewN ?_ _ | refine blk_drew ?_ | refine blk_alloc ?_ _)); exact BK267.out) hb); have n1_ := Aside0.mk (below_step (by repeat (first | (with_reducible first | exact HB.out | apply below_alloc | apply pw_below_drewN | apply below_drew1 | refine below_set ?_ GE267.out) | exact HB.out)) hb); have n2_ := Aside0.mk (hbox); have n3_ := Aside0.mk ((by rw [hg]; exact (below_size (by repeat (first | (with_reducible first | exact HB.out | apply below_alloc | apply pw_below_drewN | apply below_drew1 | refine below_set ?_ GE267.out) | exact HB.out))) : w.heap.size ≤ gb269)); have n4_ := Aside0.mk ((by rw [hg]; exact (below_size (by repeat (first | (with_reducible first | exact HB.out | apply below_alloc | apply pw_below_drewN | apply below_drew1 | refine below_set ?_ GE267.out) | exact HB.out))) : w.heap.size ≤ gb269)); have n5_ := Aside0.mk ((by rw [hg]; exact Nat.ne_of_lt (blk_lt (g := gb267) (o := .cells #[.int .i64 a0_0, .slice (some ad268) l0_1.length c0_1] 24 (0, 0)) (by (with_reducible repeat (first | refine blk_drewN ?_ _ | refine blk_drew ?_ | refine blk_alloc ?_ _)); exact BK267.out)) : gb267 ≠ gb269)); have n6_ := Aside0.mk ((by rw [hg]; exact Nat.ne_of_gt (blk_lt (g := gb267) (o := .cells #[.int .i64 a0_0, .slice (some ad268) l0_1.length c0_1] 24 (0, 0)) (by (with_reducible repeat (first | refine blk_drewN ?_ _ | refine blk_drew ?_ | refine blk_alloc ?_ _)); exact BK267.out)) : gb269 ≠ gb267)); clear BK267; clear HB; have BK267 := n0_; have HB := n1_; have BK269 := n2_; have GW269 := n3_; have GE269 := n4_; have NB267_269 := n5_; have NB269_267 := n6_; clear n0_ n1_ n2_ n3_ n4_ n5_ n6_; clear hb hbox hg; have hnb35 := NB269_267.out; have hnc35 := NB267_269.out; have hcz36_0 : w34.cell? ⟨gb269, 0, none⟩ = some (.int .i64 0) := (blk_cell BK269.out 0).trans rfl; have hcz36_1 : w34.cell? ⟨gb269, 1, none⟩ = some (.int .i64 0) := (blk_cell BK269.out 1).trans rfl; have hcz36_2 : w34.cell? ⟨gb269, 2, none⟩ = some (.int .i64 0) := (blk_cell BK269.out 2).trans rfl; have hcz36_3 : w34.cell? ⟨gb269, 3, none⟩ = some (.int .i64 0) := (blk_cell BK269.out 3).trans rfl; have hfz36_0 := blk_frozen BK269.out 0; have hfz36_1 := blk_frozen BK269.out 1; have hfz36_2 := blk_frozen BK269.out 2; have hfz36_3 := blk_frozen BK269.out 3))
        go_roundg k1
        case measure => have := HK1.out; omega
        case rel => exact ⟨(wrap64 (x7_1 + 1)), (by first | rfl | (simp; done) | (simp [*]; done)), H', ⟨by have := HK1.out; omega⟩, ⟨by (with_reducible repeat (first | refine blk_drewN ?_ _ | refine blk_drew ?_ | refine blk_alloc ?_ _)); refine blk_far ?_ NB267_269.out _; (with_reducible repeat (first | refine blk_drewN ?_ _ | refine blk_drew ?_ | refine blk_alloc ?_ _)); refine blk_far ?_ NB267_269.out _; (with_reducible repeat (first | refine blk_drewN ?_ _ | refine blk_drew ?_ | refine blk_alloc ?_ _)); refine blk_far ?_ NB267_269.out _; (with_reducible repeat (first | refine blk_drewN ?_ _ | refine blk_drew ?_ | refine blk_alloc ?_ _)); refine blk_far ?_ NB267_269.out _; (with_reducible repeat (first | refine blk_drewN ?_ _ | refine blk_drew ?_ | refine blk_alloc ?_ _)); exact BK267.out⟩, ⟨by repeat (first | (with_reducible first | exact HB.out | apply below_alloc | apply pw_below_drewN | apply below_drew1 | refine below_set ?_ GE267.out | refine below_set ?_ GE269.out) | exact HB.out)⟩⟩
      ·rw [if_neg c27] at H
       have c27b0 : (((rd_T37 l0_1 x7_1).f0) == a2) = false := beq_eq_false_iff_ne.mpr c27
       have c27b1 : (((rd_T37 l0_1 x7_1).f0) != a2) = true := bne_iff_ne.mpr c27
       have H' := Aside0.mk H
       clear H
       have hcz37_0 : wr.cell? ⟨gb267, 0, none⟩ = some (.int .i64 a0_0) := (blk_cell BK267.out 0).trans rfl
       have hcz37_1 : wr.cell? ⟨gb267, 1, none⟩ = some (.slice A0_1 l0_1.length c0_1) := (blk_cell BK267.out 1).trans rfl
       have hfz37_0 := blk_frozen BK267.out 0
       have hfz37_1 := blk_frozen BK267.out 1
       have p268 : 0 ≤ (x7_1 : Int) := of_decide_eq_true (by first | (with_reducible assumption) | assumption)
       have q268 : x7_1 < (l0_1.length : Int) := of_decide_eq_true (by first | (with_reducible assumption) | assumption)
       obtain ⟨ad268, e268, hx268_0, hx268_1, hx268_2, hx268_3⟩ := at_T37 HR0_1.out x7_1 p268 q268
       cases e268
       try replace hx268_0 := (HB.out.cell (World.block_lt_of_cell? w _ hx268_0)).trans hx268_0
       try replace hx268_1 := (HB.out.cell (World.block_lt_of_cell? w _ hx268_1)).trans hx268_1
       try replace hx268_2 := (HB.out.cell (World.block_lt_of_cell? w _ hx268_2)).trans hx268_2
       try replace hx268_3 := (HB.out.cell (World.block_lt_of_cell? w _ hx268_3)).trans hx268_3
       replace p268 := eq_true p268
       replace q268 := eq_true q268
       go_wp2_with (first | ((with_reducible refine gate_dst (N := 8) rfl ?_); refine box_event ?hg (N := 8) ?hd (cs := #[.int .i64 0, .int .i64 0, .int .i64 0, .int .i64 0]) (t := 37) ?hr ?_; (case hd => rfl); (case hg => rfl); (case hr => first | (go_simp; done) | (go_simp; rfl)); intro gb269 hg w38 hbox hb; have n0_ := Aside0.mk (blk_below (g := gb267) (o := .cells #[.int .i64 a0_0, .slice (some ad268) l0_1.length c0_1] 24 (0, 0)) (by (with_reducible repeat (first | refine blk_drewN ?_ _ | refine blk_drew ?_ | refine blk_alloc ?_ _)); exact BK267.out) hb); have n1_ := Aside0.mk (below_step (by repeat (first | (with_reducible first | exact HB.out | apply below_alloc | apply pw_below_drewN | apply below_drew1 | refine below_set ?_ GE267.out) | exact HB.out)) hb); have n2_ := Aside0.mk (hbox); have n3_ := Aside0.mk ((by rw [hg]; exact (below_size (by repeat (first | (with_reducible first | exact HB.out | apply below_alloc | apply pw_below_drewN | apply below_drew1 | refine below_set ?_ GE267.out) | exact HB.out))) : w.heap.size ≤ gb269)); have n4_ := Aside0.mk ((by rw [hg]; exact (below_size (by repeat (first | (with_reducible first | exact HB.out | apply below_alloc | apply pw_below_drewN | apply below_drew1 | refine below_set ?_ GE267.out) | exact HB.out))) : w.heap.size ≤ gb269)); have n5_ := Aside0.mk ((by rw [hg]; exact Nat.ne_of_lt (blk_lt (g := gb267) (o := .cells #[.int .i64 a0_0, .slice (some ad268) l0_1.length c0_1] 24 (0, 0)) (by (with_reducible repeat (first | refine blk_drewN ?_ _ | refine blk_drew ?_ | refine blk_alloc ?_ _)); exact BK267.out)) : gb267 ≠ gb269)); have n6_ := Aside0.mk ((by rw [hg]; exact Nat.ne_of_gt (blk_lt (g := gb267) (o := .cells #[.int .i64 a0_0, .slice (some ad268) l0_1.length c0_1] 24 (0, 0)) (by (with_reducible repeat (first | refine blk_drewN ?_ _ | refine blk_drew ?_ | refine blk_alloc ?_ _)); exact BK267.out)) : gb269 ≠ gb267)); clear BK267; clear HB; have BK267 := n0_; have HB := n1_; have BK269 := n2_; have GW269 := n3_; have GE269 := n4_; have NB267_269 := n5_; have NB269_267 := n6_; clear n0_ n1_ n2_ n3_ n4_ n5_ n6_; clear hb hbox hg; have hnb39 := NB269_267.out; have hnc39 := NB267_269.out; have hcz40_0 : w38.cell? ⟨gb269, 0, none⟩ = some (.int .i64 0) := (blk_cell BK269.out 0).trans rfl; have hcz40_1 : w38.cell? ⟨gb269, 1, none⟩ = some (.int .i64 0) := (blk_cell BK269.out 1).trans rfl; have hcz40_2 : w38.cell? ⟨gb269, 2, none⟩ = some (.int .i64 0) := (blk_cell BK269.out 2).trans rfl; have hcz40_3 : w38.cell? ⟨gb269, 3, none⟩ = some (.int .i64 0) := (blk_cell BK269.out 3).trans rfl; have hfz40_0 := blk_frozen BK269.out 0; have hfz40_1 := blk_frozen BK269.out 1; have hfz40_2 := blk_frozen BK269.out 2; have hfz40_3 := blk_frozen BK269.out 3))
       go_roundg k1
       case measure => have := HK1.out; omega
       case rel => exact ⟨(wrap64 (x7_1 + 1)), (by first | rfl | (simp; done) | (simp [*]; done)), H', ⟨by have := HK1.out; omega⟩, ⟨by (with_reducible repeat (first | refine blk_drewN ?_ _ | refine blk_drew ?_ | refine blk_alloc ?_ _)); refine blk_far ?_ NB267_269.out _; (with_reducible repeat (first | refine blk_drewN ?_ _ | refine blk_drew ?_ | refine blk_alloc ?_ _)); refine blk_far ?_ NB267_269.out _; (with_reducible repeat (first | refine blk_drewN ?_ _ | refine blk_drew ?_ | refine blk_alloc ?_ _)); refine blk_far ?_ NB267_269.out _; (with_reducible repeat (first | refine blk_drewN ?_ _ | refine blk_drew ?_ | refine blk_alloc ?_ _)); refine blk_far ?_ NB267_269.out _; (with_reducible repeat (first | refine blk_drewN ?_ _ | refine blk_drew ?_ | refine blk_alloc ?_ _)); exact BK267.out⟩, ⟨by repeat (first | (with_reducible first | exact HB.out | apply below_alloc | apply pw_below_drewN | apply below_drew1 | refine below_set ?_ GE267.out | refine below_set ?_ GE269.out) | exact HB.out)⟩⟩
    ·rw [if_neg c6] at H
     exact absurd H (by simp)
   ·rw [if_neg c5] at H
    have c5b0 : decide (x7_1 < (l0_1.length : Int)) = false := decide_eq_false c5
    clear c5
    obtain rfl := Option.some.inj H
    have hcz41_0 : wr.cell? ⟨gb267, 0, none⟩ = some (.int .i64 a0_0) := (blk_cell BK267.out 0).trans rfl
    have hcz41_1 : wr.cell? ⟨gb267, 1, none⟩ = some (.slice A0_1 l0_1.length c0_1) := (blk_cell BK267.out 1).trans rfl
    have hfz41_0 := blk_frozen BK267.out 0
    have hfz41_1 := blk_frozen BK267.out 1
    go_wp2
    go_ret
    exact ⟨by first | rfl | (simp [errW_none, errW_some] <;> rfl) | (simp [*, errW_none, errW_some] <;> rfl), by exact HB.out⟩

end Go.Proofs.Ythkpnkmbmlbefaa.X
