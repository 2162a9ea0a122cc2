/- Ytlfilhplklifjaa: part 5 of 5 of the proof that the law TopMean returns true for every input, its arguments reading as before. No condition. -/
import Derived.Test.YtlfilhplklifjaaMTopMean3
import Derived.Test.YtlfilhplklifjaaMTopMean4
import Derived.KernelRfl
import Derived.Test.YtlfilhplklifjaaMTopMean1
import Derived.Deep.Slices
import Derived.DataReads
import Derived.Test.YtlfilhplklifjaaRows
import Derived.WalkKit
import Derived.ProofKit
import Derived.OpenShut
import Derived.ShutString
import Derived.ChangeOld
import Derived.Below
import Derived.SizedLaws
import Derived.WideShapes
/- Mean, Dist, and what was selected. -/
namespace Go.Proofs.Ytlfilhplklifjaa.PM
open Go.RowKit Go.Proofs.Ytlfilhplklifjaa.X Go.Proofs.Ytlfilhplklifjaa.PA Go.Proofs.YtlfilhplklifjaaW.PrintWords Go.Proofs.YtlfilhplklifjaaW.PrintLast Go.Proofs.YtlfilhplklifjaaW.PrintMore
theorem sum_l1 (l : List S37) (hn : l.length ≤ 12) (hok : ∀ c ∈ l, OkC c) (o : Int) (ho : -4503599627370496 ≤ o ∧ o ≤ 4503599627370496) (all : Int) (ha : ∀ c ∈ l, Wt c ≤ all) (ha2 : 0 < all ∧ all ≤ 12884901888) :
    ∀ d i (acc : Int), i + d = l.length → acc ≤ (i : Int) * 9007199254740993 → -((i : Int) * 9007199254740993) ≤ acc →
    ∃ t, (t ≤ (l.length : Int) * 9007199254740993 ∧ -((l.length : Int) * 9007199254740993) ≤ t) ∧ Ev (fun k => combine_sum_57.l1 k all acc l l.length (i : Nat) o) t := by
  intro d
  induction d with
  | zero =>
    intro i acc hd h1 h2
    obtain rfl : i = l.length := by omega
    exact ⟨acc, ⟨h1, h2⟩, Ev.step (fun k => by rw [combine_sum_57.l1]) (PM.Ev.neg (by omega) (Ev.now _))⟩
  | succ d ih =>
    intro i acc hd h1 h2
    have hc := okAt hok (show i < l.length by omega)
    have hmem : l.getD i z37 ∈ l := by simp [List.getD, show i < l.length by omega]
    have hW := weight_ok hc
    have hWb := wt_bounds hc
    have hf : -4503599627370496 ≤ (l.getD i z37).f1 ∧ (l.getD i z37).f1 ≤ 4503599627370496 := ⟨hc.2.2.1, hc.2.2.2.1⟩
    obtain ⟨r, hr, hr1, hr2⟩ := muldiv_ev (Wt (l.getD i z37)) ((l.getD i z37).f1 - o) all (by omega) (ha _ hmem) ha2.1 (by omega) (by omega)
    have hv : (if (l.getD i z37).f1 - o < 0 then -((l.getD i z37).f1 - o) else (l.getD i z37).f1 - o) ≤ 9007199254740992 := by split <;> omega
    obtain ⟨t, ht, hev⟩ := ih (i + 1) (acc + r.1) (by omega) (by omega) (by omega)
    refine ⟨t, ht, Ev.step (fun k => by rw [combine_sum_57.l1]) (PM.Ev.pos (by omega) (PM.Ev.pos (by omega) (PM.Ev.pos (by omega) ?_)))⟩
    rw [rd37, hW]
    refine PM.Ev.some_bind ?_
    rw [show combine_Mean_1.f (l.getD i z37).f0 (l.getD i z37).f1 (l.getD i z37).f2 (l.getD i z37).f3 (l.getD i z37).f4 o = some ((l.getD i z37).f1 - o) by unfold combine_Mean_1.f; rw [wrap_id (by omega) (by omega)]]
    refine PM.Ev.some_bind (PM.Ev.bind' r hr ?_)
    rw [wrap_nat (by omega), wrap_id (x := acc + r.1) (by omega) (by omega)]
    exact hev
theorem sum_ev (l : List S37) (hn : l.length ≤ 12) (h0 : 0 < l.length) (hok : ∀ c ∈ l, OkC c) (o : Int) (ho : -4503599627370496 ≤ o ∧ o ≤ 4503599627370496) :
    ∃ t, (t ≤ 108086391056891916 ∧ -108086391056891916 ≤ t) ∧ Ev (fun k => combine_sum_57.f k l o) t := by
  have main : ∀ d i (S : Int), i + d = l.length → (∀ j, j < i → Wt (l.getD j z37) ≤ S) → 0 ≤ S → S ≤ (i : Int) * 1073741824 →
      ∃ t, (t ≤ 108086391056891916 ∧ -108086391056891916 ≤ t) ∧ Ev (fun k => combine_sum_57.l0 k l S 0 l l.length (i : Nat) o) t := by
    intro d
    induction d with
    | zero =>
      intro i S hd hS h1 h2
      have hall : ∀ c ∈ l, Wt c ≤ S := by
        intro c hc
        obtain ⟨j, hj, rfl⟩ := List.getElem_of_mem hc
        have := hS j (by omega)
        simpa [List.getD, hj] using this
      have hpos : 0 < S := by
        have h3 := hS 0 (by omega)
        have h4 := (wt_bounds (okAt hok h0)).1
        omega
      obtain ⟨t, ht, hev⟩ := sum_l1 l hn hok o ho S hall ⟨hpos, by omega⟩ l.length 0 0 (by omega) (by omega) (by omega)
      have hev' : Ev (fun k => combine_sum_57.l1 k S 0 l l.length 0 o) t := hev
      exact ⟨t, by omega, Ev.step (fun k => by rw [combine_sum_57.l0]) (PM.Ev.neg (by omega) hev')⟩
    | succ d ih =>
      intro i S hd hS h1 h2
      have hc := okAt hok (show i < l.length by omega)
      have hWb := wt_bounds hc
      obtain ⟨t, ht, hev⟩ := ih (i + 1) (S + Wt (l.getD i z37)) (by omega) (fun j hj => by
        rcases Nat.lt_or_ge j i with h3 | h3
        · have := hS j h3; omega
        · rw [show j = i by omega]; omega) (by omega) (by omega)
      refine ⟨t, ht, Ev.step (fun k => by rw [combine_sum_57.l0]) (PM.Ev.pos (by omega) (PM.Ev.pos (by omega) (PM.Ev.pos (by omega) ?_)))⟩
      rw [rd37, weight_ok hc]
      refine PM.Ev.some_bind ?_
      rw [wrap_nat (by omega), wrap_id (x := S + _) (by omega) (by omega)]
      exact hev
  exact main l.length 0 0 (by omega) (fun j hj => by omega) (by omega) (by omega)
theorem mean_ev (l : List S37) (hk : chk l = 0) (h0 : 0 < l.length) : ∃ m, (m ≤ 112589990684262412 ∧ -112589990684262412 ≤ m) ∧ Ev (fun k => combine_Mean.f k l) (m, 0) := by
  obtain ⟨hn, hok⟩ := chk_ok hk
  have hc := okAt hok h0
  have hf : -4503599627370496 ≤ (l.getD 0 z37).f1 ∧ (l.getD 0 z37).f1 ≤ 4503599627370496 := ⟨hc.2.2.1, hc.2.2.2.1⟩
  obtain ⟨t, ht, hev⟩ := sum_ev l hn h0 hok (l.getD 0 z37).f1 hf
  refine ⟨(l.getD 0 z37).f1 + t, by omega, ?_⟩
  unfold combine_Mean.f
  refine PM.Ev.bind' _ (impl_check l) (PM.Ev.pos hk (PM.Ev.neg (by omega) (PM.Ev.pos (by omega) ?_)))
  rw [show rd_T37 l 0 = l.getD 0 z37 from rd37 l 0]
  refine PM.Ev.bind' t hev ?_
  exact PM.Ev.const (by rw [wrap_id (by omega) (by omega)])
/-- How far a candidate's interval reaches from an instant. -/
def dst (m : Int) (c : S37) : Int := c.f2 + (if c.f1 < m then m - c.f1 else c.f1 - m)
theorem away_ok (a m : Int) (ha : -4503599627370496 ≤ a ∧ a ≤ 4503599627370496) (hm : m ≤ 112589990684262412 ∧ -112589990684262412 ≤ m) : combine_away.f a m = some (if a < m then m - a else a - m) := by
  unfold combine_away.f
  rw [wrap_id (by omega) (by omega), wrap_id (by omega) (by omega), mx_eq]
  congr 1
  split <;> split <;> omega
theorem dist_ev (l : List S37) (hk : chk l = 0) (h0 : 0 < l.length) (m : Int) (hm : m ≤ 112589990684262412 ∧ -112589990684262412 ≤ m) (hmean : Ev (fun k => combine_Mean.f k l) (m, 0)) :
    ∃ d, (∃ c ∈ l, d = dst m c) ∧ Ev (fun k => combine_Dist.f k l) d := by
  obtain ⟨hn, hok⟩ := chk_ok hk
  have step : ∀ i, i < l.length → combine_away.f (l.getD i z37).f1 m = some (if (l.getD i z37).f1 < m then m - (l.getD i z37).f1 else (l.getD i z37).f1 - m) ∧ wrap64 ((l.getD i z37).f2 + (if (l.getD i z37).f1 < m then m - (l.getD i z37).f1 else (l.getD i z37).f1 - m)) = dst m (l.getD i z37) := by
    intro i hi
    have hc := okAt hok hi
    have hf : -4503599627370496 ≤ (l.getD i z37).f1 ∧ (l.getD i z37).f1 ≤ 4503599627370496 := ⟨hc.2.2.1, hc.2.2.2.1⟩
    have hf2 : 0 ≤ (l.getD i z37).f2 ∧ (l.getD i z37).f2 ≤ 9007199254740992 := ⟨hc.2.2.2.2.1, hc.2.2.2.2.2.1⟩
    refine ⟨away_ok _ _ hf hm, ?_⟩
    unfold dst
    split <;> exact wrap_id (by omega) (by omega)
  have mem : ∀ i, i < l.length → l.getD i z37 ∈ l := fun i hi => by simp [List.getD, hi]
  have main : ∀ d i (x : Int), i + d = l.length → (∃ c ∈ l, x = dst m c) → ∃ r, (∃ c ∈ l, r = dst m c) ∧ Ev (fun k => combine_Dist.l0 k m x l l.length (i : Nat)) r := by
    intro d
    induction d with
    | zero =>
      intro i x hd hx
      exact ⟨x, hx, Ev.step (fun k => by rw [combine_Dist.l0]) (PM.Ev.neg (by omega) (Ev.now _))⟩
    | succ d ih =>
      intro i x hd hx
      obtain ⟨r, hr, hev⟩ := ih (i + 1) (mn x (dst m (l.getD i z37))) (by omega) (by
        rw [mn_eq]
        split
        · exact ⟨_, mem i (by omega), rfl⟩
        · exact hx)
      refine ⟨r, hr, Ev.step (fun k => by rw [combine_Dist.l0]) (PM.Ev.pos (by omega) (PM.Ev.pos (by omega) (PM.Ev.pos (by omega) ?_)))⟩
      rw [rd37, (step i (by omega)).1]
      refine PM.Ev.some_bind ?_
      rw [wrap_nat (by omega), (step i (by omega)).2]
      exact hev
  obtain ⟨r, hr, hev⟩ := main l.length 0 (dst m (l.getD 0 z37)) (by omega) ⟨_, mem 0 h0, rfl⟩
  refine ⟨r, hr, ?_⟩
  unfold combine_Dist.f
  refine PM.Ev.bind' _ hmean (PM.Ev.pos rfl (PM.Ev.pos (by omega) ?_))
  rw [show rd_T37 l 0 = l.getD 0 z37 from rd37 l 0, (step 0 h0).1]
  refine PM.Ev.some_bind ?_
  rw [(step 0 h0).2]
  exact hev
/-- What stands at the positions that a selection names. -/
theorem idx_get (l : List S37) (p : S37 → Bool) : (idx l p).map (fun x => rd_T37 l x) = l.filter p := by
  have main : ∀ d i, i + d = l.length → (idxFrom l p d i).map (fun x => rd_T37 l x) = (l.drop i).filter p := by
    intro d
    induction d with
    | zero => intro i hi; rw [List.drop_of_length_le (by omega)]; rfl
    | succ d ih =>
      intro i hi
      have hlt : i < l.length := by omega
      rw [List.drop_eq_getElem_cons hlt, List.filter_cons]
      unfold idxFrom
      have e : l.getD i z37 = l[i] := by simp [List.getD, hlt]
      rw [e]
      by_cases h : p l[i] = true
      · rw [if_pos h, if_pos h, List.map_cons, ih (i + 1) (by omega), rd37, e]
      · rw [if_neg h, if_neg h, ih (i + 1) (by omega)]
  have := main l.length 0 (by omega)
  simpa [idx] using this
theorem filter_chk {l : List S37} (h : chk l = 0) (p : S37 → Bool) : chk (l.filter p) = 0 := by
  obtain ⟨hn, hok, hid⟩ := (chk_iff l).1 h
  refine (chk_iff _).2 ⟨Nat.le_trans (List.length_filter_le _ _) hn, fun c hc => hok c (List.mem_filter.1 hc).1, hid.sublist List.filter_sublist⟩
theorem awakeM : Ev (fun k => timesynctop_awake10.f k) true := by
  have h : timesynctop_awake10.f 60 = some true := by kernel_rfl
  exact Ev.of (fun k => timesynctop_awake10.mono k) h
end Go.Proofs.Ytlfilhplklifjaa.PM

/- The pure statement of TopMean: the mean of what is kept is no further from an instant in all intervals than the least reach of an interval from the mean. -/
namespace Go.Proofs.Ytlfilhplklifjaa.PureTopMean
open Go.RowKit Go.Proofs.Ytlfilhplklifjaa.X Go.Proofs.Ytlfilhplklifjaa.PA Go.Proofs.Ytlfilhplklifjaa.PM Go.Proofs.YtlfilhplklifjaaW.PrintWords Go.Proofs.YtlfilhplklifjaaW.PrintLast Go.Proofs.YtlfilhplklifjaaW.PrintMore
theorem reach {t m : Int} {c : S37} (h1 : c.f1 - c.f2 ≤ t) (h2 : t ≤ c.f1 + c.f2) : m - t ≤ dst m c ∧ t - m ≤ dst m c := by
  unfold dst
  split <;> constructor <;> omega
theorem last (r : List S37) (hk : chk r = 0) (h0 : 0 < r.length) (t : Int) (ht : -4503599627370496 ≤ t ∧ t ≤ 4503599627370496) :
    ∀ d i, i + d = r.length → (∀ j, j < i → (r.getD j z37).f1 - (r.getD j z37).f2 ≤ t ∧ t ≤ (r.getD j z37).f1 + (r.getD j z37).f2) → Ev (fun k => timesynctop_TopMean.l1 k t r r r.length (i : Nat)) true := by
  obtain ⟨hn, hok⟩ := chk_ok hk
  intro d
  induction d with
  | zero =>
    intro i hd hin
    obtain ⟨m, hm, hmean⟩ := mean_ev r hk h0
    obtain ⟨D, ⟨c, hc, rfl⟩, hdist⟩ := dist_ev r hk h0 m hm hmean
    refine Ev.step (fun k => by rw [timesynctop_TopMean.l1]) (PM.Ev.neg (by omega) (PM.Ev.bind' _ hmean (PM.Ev.bind' _ hdist (PM.Ev.pos rfl ?_))))
    refine PM.Ev.pos (show ((r.length : Nat) : Int) > 0 by omega) ?_
    obtain ⟨j, hj, rfl⟩ := List.getElem_of_mem hc
    have hj2 := hin j (by omega)
    rw [show r.getD j z37 = r[j] by simp [List.getD, hj]] at hj2
    have h3 := reach (m := m) hj2.1 hj2.2
    refine PM.Ev.pos (by show wrap64 (m - t) ≤ _; rw [wrap_id (by omega) (by omega)]; exact h3.1) (PM.Ev.const ?_)
    rw [show wrap64 (t - (m, (0 : Int)).1) = t - m from wrap_id (by show _ ≤ t - m; omega) (by show t - m < _; omega), decide_eq_true h3.2]
  | succ d ih =>
    intro i hd hin
    have hc := okAt hok (show i < r.length by omega)
    have hf : -4503599627370496 ≤ (r.getD i z37).f1 ∧ (r.getD i z37).f1 ≤ 4503599627370496 := ⟨hc.2.2.1, hc.2.2.2.1⟩
    have hf2 : 0 ≤ (r.getD i z37).f2 ∧ (r.getD i z37).f2 ≤ 9007199254740992 := ⟨hc.2.2.2.2.1, hc.2.2.2.2.2.1⟩
    refine Ev.step (fun k => by rw [timesynctop_TopMean.l1]) (PM.Ev.pos (by omega) (PM.Ev.pos (by omega) (PM.Ev.pos (by omega) ?_)))
    rw [rd37, wrap_id (x := (r.getD i z37).f1 - (r.getD i z37).f2) (by omega) (by omega), wrap_id (x := (r.getD i z37).f1 + (r.getD i z37).f2) (by omega) (by omega)]
    refine PM.Ev.ite_ (fun _ => Ev.now _) (fun h1 => PM.Ev.ite_ (fun _ => Ev.now _) (fun h2 => ?_))
    rw [wrap_nat (by omega)]
    refine ih (i + 1) (by omega) (fun j hj => ?_)
    rcases Nat.lt_or_ge j i with h3 | h3
    · exact hin j h3
    · rw [show j = i by omega]; exact ⟨by omega, by omega⟩
theorem picked (l : List S37) (hn : l.length ≤ 12) (t keep : Int) (p : List Int) (hp : p.length ≤ 12) (hr : ∀ x ∈ p, 0 ≤ x ∧ x < l.length)
    (hend : Ev (fun k => (cluster_Prune.f k (p.map fun x => rd_T37 l x) keep).bind fun bt => if bt.2 = 0 then timesynctop_TopMean.l1 k t bt.1 bt.1 (bt.1.length : Int) 0 else some (decide (keep < 1))) true) :
    ∀ d i, i + d = p.length → Ev (fun k => timesynctop_TopMean.l0 k l t keep ((p.take i).map fun x => rd_T37 l x) p p.length (i : Nat)) true := by
  intro d
  induction d with
  | zero =>
    intro i hd
    refine Ev.step (fun k => by rw [timesynctop_TopMean.l0]) (PM.Ev.neg (by omega) ?_)
    rw [List.take_of_length_le (by omega)]
    exact hend
  | succ d ih =>
    intro i hd
    have hlt : i < p.length := by omega
    have hx := hr p[i] (List.getElem_mem hlt)
    have e : rd p (i : Int) = p[i] := by simp [rd, List.getElem?_eq_getElem hlt]
    refine Ev.step (fun k => by rw [timesynctop_TopMean.l0]) (PM.Ev.pos (by omega) (PM.Ev.pos (by omega) (PM.Ev.pos (by omega) ?_)))
    rw [e]
    refine PM.Ev.neg (by omega) (PM.Ev.neg (by omega) (PM.Ev.pos (by omega) (PM.Ev.pos (by omega) (PM.Ev.pos (by rw [List.length_map, List.length_take]; omega) ?_))))
    rw [wrap_nat (by omega)]
    have := ih (i + 1) (by omega)
    rw [List.take_succ_eq_append_getElem hlt, List.map_append] at this
    exact this
theorem TopMean : ∀ (x0 : List (S37)) (a1 : Int) (a2 : Int), WFL37 x0 → WFi64 a1 → WFi64 a2 → ∃ k, timesynctop_TopMean.f k x0 a1 a2 = some true := by
  intro l t keep _ _ _
  refine Ev.rounds ?_
  have stop : Ev (fun k => timesynctop_TopMean.j0 k l t keep true) true := Ev.step (fun k => by rw [timesynctop_TopMean.j0]) (PM.Ev.pos rfl (Ev.now _))
  unfold timesynctop_TopMean.f
  refine PM.Ev.ite_ (fun _ => stop) (fun hlen => PM.Ev.ite_ (fun _ => stop) (fun h1 => ?_))
  by_cases h2 : t > 4503599627370496
  · rw [decide_eq_true h2]; exact stop
  · rw [decide_eq_false h2]
    refine Ev.step (fun k => by rw [timesynctop_TopMean.j0]) (PM.Ev.neg (by decide) (PM.Ev.bind' _ (impl_select l) ?_))
    have awake : Ev (fun k => (timesynctop_awake10.f k).bind fun t => some t) true := PM.Ev.bind' true awakeM (Ev.now _)
    rcases sel_cases l with ⟨h, e⟩ | ⟨h, e, _⟩ | ⟨p, lo, hi, e, hok⟩
    · rw [e]; exact PM.Ev.neg h awake
    · rw [e]; exact PM.Ev.neg (by decide) awake
    · rw [e]
      refine PM.Ev.pos rfl ?_
      obtain ⟨hn, _⟩ := chk_ok hok.chk0
      obtain ⟨a, ha, _, hle, _⟩ := hok.wit
      have hpl : p.length ≤ l.length := by rw [hok.pos]; exact idx_le l _
      have hkept : (p.map fun x => rd_T37 l x) = l.filter (pIn lo hi) := by rw [hok.pos]; exact idx_get l _
      have hchk : chk (p.map fun x => rd_T37 l x) = 0 := by rw [hkept]; exact filter_chk hok.chk0 _
      refine picked l hn t keep p (by omega) (fun x hx => ?_) ?_ p.length 0 (by omega)
      · rw [hok.pos] at hx
        obtain ⟨j, _, h3, rfl, _⟩ := (mem_idxFrom l _ x l.length 0).1 hx
        omega
      · rcases prune_ev (p.map fun x => rd_T37 l x) hchk (by rw [List.length_map]; omega) keep with ⟨hk, hev⟩ | ⟨r, hr, hr0, hev⟩
        · exact PM.Ev.bind' _ hev (PM.Ev.neg (by decide) (PM.Ev.const (by rw [decide_eq_true hk])))
        · exact PM.Ev.bind' _ hev (PM.Ev.pos rfl (last r hr hr0 t ⟨by omega, by omega⟩ r.length 0 (by omega) (fun j hj => by omega)))
end Go.Proofs.Ytlfilhplklifjaa.PureTopMean

/- What an argument reads as, in the printed words: a type's reading gives cells of its kind, and bounds on the numbers. -/
namespace Go.Proofs.Ytlfilhplklifjaa.HO
open Go.RowKit Go.Proofs.YtlfilhplklifjaaW.PrintWords Go.Deep

structure Opens {α : Type} (P : Program) (t : TypeId) (d : Kd α) (B : α → Prop) : Prop where
  out : ∀ {H : Type} (enc : TypeId × Value → H) (w : World) (base : Nat) (spare : Nat → Bool) (held : Bool) (fuel : Nat) (cs : List Value) (x : DataW H × List MemPlace),
    DataW.trod enc P w base spare held fuel t cs = some x → ∃ a : α, d.K w a cs ∧ B a

theorem opens_int {P : Program} {t : TypeId} {k : IntKind} (ht : P.underlying t = some (.int k)) : Opens P t (Kd.int k) (fun n => (Lit.int k n).wf = true) := by
  constructor
  intro H enc w base spare held fuel cs x h
  obtain ⟨n, rfl, _, hw⟩ := DataW.trod_int ht h
  exact ⟨n, rfl, hw⟩
theorem opens_slice {α : Type} [Inhabited α] {P : Program} {t e : TypeId} {d : Kd α} {B : α → Prop} (he : Opens P e d B) (ht : P.underlying t = some (.slice e)) (hs : P.cellsOf e = d.sz) :
    Opens P t (Kd.slice e d) (fun xs => xs.length ≤ 9223372036854775807 ∧ ∀ x ∈ xs, B x) := by
  constructor
  intro H enc w base spare held fuel cs x h
  rcases open_slice ht h with ⟨rfl, _⟩ | ⟨a, len, cap, m, n, D, Pl, rfl, _, hl, hm, hmm, _, hx⟩
  · exact ⟨[], ⟨none, 0, rfl, Nat.le_refl _, rfl, by simp, fun h => by simp at h⟩, by simp, by simp⟩
  · have hlm : len ≤ m := by rw [hmm]; split <;> omega
    obtain ⟨X, hX⟩ := choose_lt (α := α) (n := len) (p := fun i x => B x ∧ ∃ c, c.length = d.sz ∧ d.K w x c ∧ ∀ j u, c[j]? = some u → w.cell? (a.add (i * d.sz + j)) = some u) (fun i hi => by
      obtain ⟨cs', h1, h2⟩ := hx i (Nat.lt_of_lt_of_le hi hlm)
      obtain ⟨x, hK, hB⟩ := he.out enc w base spare held n cs' _ h2
      refine ⟨x, hB, cs', d.K_len hK, hK, fun j u hj => ?_⟩
      obtain ⟨_, h4, h5⟩ := World.cells?_some h1
      have hj' : j < cs'.length := (List.getElem?_eq_some_iff.1 hj).1
      have h6 := h5 j (by rw [h4] at hj'; exact hj')
      rw [Go.Deep.add_add, hs] at h6
      rw [h6, hj])
    refine ⟨(List.range len).map X, ⟨some a, cap, by simp, by simpa using hl, by simp, ?_, fun h0 => ⟨a, rfl, fun j p hp => ?_⟩⟩, ?_, ?_⟩
    · have : cap ≤ 9223372036854775807 := by simpa [maxLen] using hm
      simp only [List.length_map, List.length_range]; omega
    · have hj : j < len := by
        have := (List.getElem?_eq_some_iff.1 hp).1
        simpa using this
      have : X j = p := by simpa [hj] using hp
      subst this
      obtain ⟨_, c, h1, h2, h3⟩ := hX j hj
      exact ⟨c, h1, h2, h3⟩
    · have : cap ≤ 9223372036854775807 := by simpa [maxLen] using hm
      simp only [List.length_map, List.length_range]; omega
    · intro x hx
      obtain ⟨j, hj, rfl⟩ := List.mem_map.1 hx
      exact (hX j (List.mem_range.1 hj)).1

/-- The fields from cell 'off' on. -/
structure OpF {α : Type} (P : Program) (off : Nat) (fs : List Field) (d : Kd α) (B : α → Prop) : Prop where
  out : ∀ {H : Type} (enc : TypeId × Value → H) (w : World) (base : Nat) (spare : Nat → Bool) (held : Bool) (n : Nat) (cs : List Value), cs.length = off + d.sz →
    (∀ f ∈ fs, ∃ y, DataW.trod enc P w base spare held n f.type ((cs.drop f.offset).take (P.cellsOf f.type)) = some y) → ∃ a : α, d.K w a (cs.drop off) ∧ B a
theorem opF_one {α : Type} {P : Program} {off : Nat} {f : Field} {d : Kd α} {B : α → Prop} (h : Opens P f.type d B) (ho : f.offset = off) (hs : P.cellsOf f.type = d.sz) : OpF P off [f] d B := by
  constructor
  intro H enc w base spare held n cs hl hf
  obtain ⟨y, hy⟩ := hf f (by simp)
  rw [ho, hs, List.take_of_length_le (by rw [List.length_drop]; omega)] at hy
  exact h.out enc w base spare held n _ _ hy
theorem opF_cons {α β : Type} {P : Program} {off : Nat} {f : Field} {fs : List Field} {d : Kd α} {d' : Kd β} {B : α → Prop} {B' : β → Prop} (h : Opens P f.type d B) (ho : f.offset = off) (hs : P.cellsOf f.type = d.sz) (hr : OpF P (off + d.sz) fs d' B') :
    OpF P off (f :: fs) (Kd.pair d d') (fun p => B p.1 ∧ B' p.2) := by
  constructor
  intro H enc w base spare held n cs hl hf
  obtain ⟨y, hy⟩ := hf f (by simp)
  rw [ho, hs] at hy
  have hl' : cs.length = off + (d.sz + d'.sz) := hl
  obtain ⟨a, hK, hB⟩ := h.out enc w base spare held n _ _ hy
  obtain ⟨b, hK', hB'⟩ := hr.out enc w base spare held n cs (by omega) (fun g hg => hf g (by simp [hg]))
  refine ⟨(a, b), ⟨(cs.drop off).take d.sz, cs.drop (off + d.sz), ?_, hK, hK'⟩, hB, hB'⟩
  rw [← List.drop_drop]
  exact (List.take_append_drop _ _).symm
theorem opens_struct {α β : Type} {P : Program} {t : TypeId} {fs : Array Field} {d : Kd α} {B : α → Prop} (f : β → α) (g : α → β) (hfg : ∀ a, f (g a) = a) (h : OpF P 0 fs.toList d B) (ht : P.underlying t = some (.struct fs)) (hs : P.cellsOf t = d.sz) :
    Opens P t (Kd.iso d f) (fun x => B (f x)) := by
  constructor
  intro H enc w base spare held fuel cs x hx
  obtain ⟨xs, n, _, _, hl, hlen, hf⟩ := DataW.trod_struct ht hx
  obtain ⟨a, hK, hB⟩ := h.out enc w base spare held n cs (by omega) (fun q hq => by
    obtain ⟨i, hi⟩ := List.mem_iff_getElem?.1 hq
    have hi' : fs[i]? = some q := by simpa using hi
    have hlt : i < xs.length := by
      have := (Array.getElem?_eq_some_iff.1 hi').1
      omega
    exact ⟨xs[i], by rw [hf i q hi', List.getElem?_eq_getElem hlt]⟩)
  refine ⟨g a, ?_, by show B (f (g a)); rw [hfg]; exact hB⟩
  show d.K w (f (g a)) cs
  rw [hfg]
  exact hK
end Go.Proofs.Ytlfilhplklifjaa.HO

/- The row of TopMean: for every input the law returns true, and each argument reads as it read before: out of its pure statement (YtlfilhplklifjaaPureTopMean) and the printed walk. No condition. -/
namespace Go.Proofs.Ytlfilhplklifjaa.topMean
open Go.ChangeShapes Go.WideShapes Go.ChangeAt Go.RowKit Go.Proofs.Ytlfilhplklifjaa.X Go.Proofs.YtlfilhplklifjaaW.PrintWords
open Go.ChangeMaps (open_string shut_string)
set_option linter.unusedVariables false
theorem own : ownKnob Try.prog.godebug = none := by kernel_rfl
theorem laidOut : laidOutB Try.prog = true := by kernel_rfl
theorem opens3 : HO.Opens Try.prog 3 (Kd.int .i64) WFi64 := HO.opens_int Try.underlying3
theorem opens37 : HO.Opens Try.prog 37 k37 WF37 := HO.opens_struct (d := (Kd.pair (Kd.int .i64) (Kd.pair (Kd.int .i64) (Kd.pair (Kd.int .i64) (Kd.pair (Kd.int .i64) (Kd.int .i64)))))) (B := fun p => WFi64 p.1 ∧ WFi64 p.2.1 ∧ WFi64 p.2.2.1 ∧ WFi64 p.2.2.2.1 ∧ WFi64 p.2.2.2.2) (fun x : S37 => (x.f0, x.f1, x.f2, x.f3, x.f4)) (fun p => (⟨p.1, p.2.1, p.2.2.1, p.2.2.2.1, p.2.2.2.2⟩ : S37)) (fun _ => rfl) (HO.opF_cons (B := WFi64) (B' := (fun p : (Int) × (Int) × (Int) × (Int) => WFi64 p.1 ∧ WFi64 p.2.1 ∧ WFi64 p.2.2.1 ∧ WFi64 p.2.2.2)) opens3 rfl (by kernel_rfl) (HO.opF_cons (B := WFi64) (B' := (fun p : (Int) × (Int) × (Int) => WFi64 p.1 ∧ WFi64 p.2.1 ∧ WFi64 p.2.2)) opens3 rfl (by kernel_rfl) (HO.opF_cons (B := WFi64) (B' := (fun p : (Int) × (Int) => WFi64 p.1 ∧ WFi64 p.2)) opens3 rfl (by kernel_rfl) (HO.opF_cons (B := WFi64) (B' := WFi64) opens3 rfl (by kernel_rfl) (HO.opF_one opens3 rfl (by kernel_rfl)))))) Try.underlying37 (by kernel_rfl)
theorem opens22 : HO.Opens Try.prog 22 (Kd.slice 37 k37) WFL37 := haveI : Inhabited S37 := ⟨z37⟩; HO.opens_slice opens37 Try.underlying22 (by kernel_rfl)
set_option maxRecDepth 100000 in
theorem lifted (os : Os) (started : os.Started) (H : Type) (enc : TypeId × Value → H) :
    ReturnsInHanded {} Try.checked os 7 .any (Rows.topMeanSpec.pre6 enc Try.prog Try.f7 Rows.topMeanRow.domain false) (Rows.topMeanSpec.post enc Try.prog Try.f7 false true false false) := by
  refine returnsInHanded_of_change_sized (C := Try.checked) own started (by kernel_rfl) Try.func7
    (ChangeSpec.witness6 (enc := enc) (C := Try.checked) false ⟨#[], #[.slice none 0 0, .int .i64 0, .int .i64 0], []⟩ 8 (by kernel_rfl) (by kernel_rfl) (by kernel_rfl) (by kernel_rfl)) ?_
  intro W base args ds gs before hval0 hW hcnd hsz0 _
  have hval : ∀ (j : Nat) t v, Try.f7.params[j]? = some t → args[j]? = some v → Value.okWide Try.prog W .any base t v := hval0
  have hW' := hW
  obtain ⟨p, q, hA0, hV, rfl, hfz, hnd⟩ := hW
  have hA : DataW.TrodAll enc Try.prog W 0 (fun _ => true) true Try.f7.params.toList args.toList ds p := hA0
  rw [Try.params7] at hA hval
  obtain ⟨v0, vs0, d0, ds0, p0, q0, hargs, rfl, rfl, h0, r0⟩ := trodAll_cons hA
  obtain ⟨v1, vs1, d1, ds1, p1, q1, rfl, rfl, rfl, h1, r1⟩ := trodAll_cons r0
  obtain ⟨v2, vs2, d2, ds2, p2, q2, rfl, rfl, rfl, h2, r2⟩ := trodAll_cons r1
  obtain ⟨rfl, rfl, rfl⟩ := trodAll_nil r2
  obtain rfl : args = #[v0, v1, v2] := by cases args; simp_all
  obtain ⟨rfl, rfl⟩ := trodVars_none hV
  have k0 := h0
  have lt0 : ∀ x ∈ p0, x.block < W.heap.size := by obtain ⟨m, hm⟩ := k0; exact DataW.trod_lt m _ _ _ hm
  obtain ⟨fuel0, hf0⟩ := h0
  obtain ⟨x0, K0, B0⟩ := opens22.out enc W 0 _ true fuel0 _ _ hf0
  obtain ⟨a0, len0, cap0, rfl⟩ := okWide_slice Try.underlying22 (hval 0 22 v0 rfl rfl)
  obtain ⟨A0, c0, e0, hc0, hr0⟩ := K0
  simp only [Value.cells, List.cons.injEq, Value.slice.injEq, and_true] at e0
  obtain ⟨rfl, rfl, rfl⟩ := e0
  obtain ⟨a1, rfl, rfl, rfl, w1⟩ := open_int Try.underlying3 (hval 1 3 v1 rfl rfl) h1
  obtain ⟨a2, rfl, rfl, rfl, w2⟩ := open_int Try.underlying3 (hval 2 3 v2 rfl rfl) h2
  clear hA0 hval0 hsz0
  obtain ⟨k, hp⟩ := PureTopMean.TopMean x0 a1 a2 B0 w1 w2
  refine (timesynctop_TopMean.calls k _ _ x0 a1 a2 true W hr0 hc0 hp).mono fun e W' ⟨he, bel0⟩ => ?_
  have bel := bel0
  subst he
  exact ⟨_, rfl, _, _, _, [], _, [], hW', trodAll_mk1 (shut_bool Try.underlying4 _), (trodAll_cons_mk (Below.trod laidOut (by kernel_rfl) (of_decide_eq_true (by kernel_rfl)) k0 bel lt0) (trodAll_cons_mk (shut_int Try.underlying3 w1) (trodAll_cons_mk (shut_int Try.underlying3 w2) trodAll_mk0))), rfl, bel.frame _, fun h => by cases h⟩
theorem over : Rows.topMeanRow.holds Try.pinned (OpenSpec.ofChange Rows.topMeanSpec) :=
  OpenClaim.holds_of_wide 7 Try.f7 rfl rfl rfl rfl rfl rfl rfl ⟨rfl, rfl, rfl, rfl, rfl⟩ rfl rfl rfl rfl rfl (by kernel_rfl) Try.func7 (by kernel_rfl)
    (of_decide_eq_true (by kernel_rfl)) (by unfold Func.isWrapper; first | (rw [if_pos (by decide +kernel)]; kernel_rfl) | (rw [if_neg (by decide +kernel)]; exact ⟨rfl, rfl⟩))
    (fun os started H enc _ => lifted os started H enc)
#print axioms over
end Go.Proofs.Ytlfilhplklifjaa.topMean
namespace Go.Proofs.Ytlfilhplklifjaa
/-- The row of TopMean. -/
theorem topMean_holds : Rows.TopMeanSaid := topMean.over
end Go.Proofs.Ytlfilhplklifjaa
