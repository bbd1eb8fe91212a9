/- ScrewEnds: the walk. -/
import Derived.Test.YtcbiofokeadddaaOScrewTruW
import Derived.Test.YtcbiofokeadddaaOT3
set_option maxRecDepth 100000
set_option maxHeartbeats 4000000
set_option linter.unusedVariables false
set_option linter.unusedSimpArgs false
namespace Go.Oct.Screw
open Go.Oct
def endOf (b : Bool) (s : Span) : Int := bif b then s.hi else s.lo
theorem end_ok (nl b : Bool) (R : List (List Span)) (hR : R.length < 2 ^ 30) (hr : ∀ i, i < R.length → 0 < (nth R i).length ∧ (nth R i).length < 2 ^ 30) : ans prog O 43 [vl eSpans nl (fr0 R), .bool b] = some (vl eRow R.isEmpty (fr0 (R.map fun r => r.map (endOf b)))) := by
  refine fn_of' pl get43 (oo (by decide)) rfl rfl ?_
  simp +contextual (disch := omega) []
  refine lp_loop pl (fun k fr σ => ∃ i v, i + k = R.length ∧ fr = ⟨[(0, vl eSpans nl (fr0 R)), (1, .bool b), (5, v), (6, .int .i64 i)], []⟩ ∧ σ.lim = 0 ∧ RowsB 0 1 (AV.int .i64) σ v ((R.take i).map fun r => r.map (endOf b)))
    ⟨R.length, 0, _, by omega, rfl, rfl, RowsB.nil⟩ ?_
  rintro k _ σ ⟨i, v, hik, rfl, h1, h5⟩
  by_cases hil : i < R.length
  · have hri := hr i hil
    have hni := fr0_nth hil
    simp +contextual (disch := omega) [Und, hil]
    refine lp_loop pl (fun k2 fr σ2 => ∃ m w, m + k2 = (nth R i).length ∧ fr = ⟨[(0, vl eSpans nl (fr0 R)), (1, .bool b), (5, v), (6, .int .i64 i), (7, w), (8, .int .i64 m)], []⟩ ∧ Keep σ.next σ σ2 ∧ Buf σ.next 1 (AV.int .i64) σ2 w (((nth R i).take m).map (endOf b)))
      ⟨(nth R i).length, 0, _, by omega, rfl, Keep.refl _ _, Buf.nil⟩ ?_
    rintro k2 _ σ2 ⟨m, w, hmk, rfl, y1, y2⟩
    by_cases hml : m < (nth R i).length
    · have hsl : (((nth R i).take m).map (endOf b)).length = m := by rw [List.length_map, List.length_take]; omega
      have hst : ((nth R i).take (m + 1)).map (endOf b) = ((nth R i).take m).map (endOf b) ++ [endOf b (nth (nth R i) m)] := by rw [take_succ_nth hml]; simp
      have hfin : ∀ v' σ3, Buf σ.next 1 (AV.int .i64) σ3 v' (((nth R i).take m).map (endOf b) ++ [endOf b (nth (nth R i) m)]) → Keep σ.next σ2 σ3 → Buf σ.next 1 (AV.int .i64) σ3 v' (((nth R i).take (m + 1)).map (endOf b)) ∧ Keep σ.next σ σ3 := fun v' σ3 b1 b2 => ⟨by rw [hst]; exact b1, y1.trans b2⟩
      simp +contextual (disch := omega) [Und, hil, hni, hml]
      refine ⟨?_, ?_⟩
      · rintro rfl
        refine y2.push encI (by rw [y1.lim]; omega) y1.next (nth (nth R i) m).hi (by rw [hsl]; simp only [topBytes]; omega) rfl fun v' σ3 b1 b2 => ?_
        obtain ⟨c1, c2⟩ := hfin v' σ3 b1 b2.toKeep
        simp +contextual (disch := omega) []
        exact ⟨k2 - 1, by omega, m + 1, by omega, _, ⟨rfl, by omega⟩, c2, by rw [← List.map_take]; exact c1⟩
      · rintro rfl
        refine y2.push encI (by rw [y1.lim]; omega) y1.next (nth (nth R i) m).lo (by rw [hsl]; simp only [topBytes]; omega) rfl fun v' σ3 b1 b2 => ?_
        obtain ⟨c1, c2⟩ := hfin v' σ3 b1 b2.toKeep
        simp +contextual (disch := omega) []
        exact ⟨k2 - 1, by omega, m + 1, by omega, _, ⟨rfl, by omega⟩, c2, by rw [← List.map_take]; exact c1⟩
    · obtain rfl : m = (nth R i).length := by omega
      rw [List.take_length] at y2
      rcases y2 with ⟨_, h⟩ | ⟨o, rfl, o1, o2, o3⟩
      · have := congrArg List.length h; rw [List.length_map] at this; simp only [List.length_nil] at this; omega
      simp +contextual (disch := omega) [Und, hil, hni, hml]
      have hrl : ((R.take i).map fun r => r.map (endOf b)).length = i := by rw [List.length_map, List.length_take]; omega
      refine (h5.stay y1 (Nat.le_refl _)).push (by rw [y1.lim]; omega) (by omega) ((nth R i).map (endOf b)) (by omega) o2 (fun hc => by have := (h5.obj_lt _ hc).2; omega) (by simp) (.inl rfl) (by rw [hrl]; simp only [topBytes]; omega) fun v' σ3 b1 b2 => ?_
      simp +contextual (disch := omega) []
      have hst : (R.take (i + 1)).map (fun r => r.map (endOf b)) = (R.take i).map (fun r => r.map (endOf b)) ++ [(nth R i).map (endOf b)] := by rw [take_succ_nth hil]; simp
      refine ⟨k - 1, by omega, i + 1, by omega, _, ⟨rfl, by omega⟩, by rw [b2.lim, y1.lim]; exact h1, ?_⟩
      rw [← List.map_take, hst]; exact b1
  · obtain rfl : i = R.length := by omega
    rw [List.take_length] at h5
    have hf := h5.fz encI flatI 5
    simp +contextual (disch := omega) [Und]
    rw [show (List.map (fun r => List.map (endOf b) r) R).isEmpty = R.isEmpty by cases R <;> rfl] at hf
    exact hf
theorem spanRow_len (T : List Int) (lo hi : Nat → Int) (i n : Nat) : (spanRow T lo hi i n).length = n := by unfold spanRow; simp
theorem spanRows_len (T : List Int) (lo hi : Nat → Int) (n : Nat) : (spanRows T lo hi n).length = n := by unfold spanRows; simp
theorem spanRows_nth (T : List Int) (lo hi : Nat → Int) {n i : Nat} (h : i < n) : nth (spanRows T lo hi n) i = spanRow T lo hi i (tn T i + 1) := by
  rw [nth_eq (by rw [spanRows_len]; exact h)]
  unfold spanRows
  rw [List.getElem_map, List.getElem_range]
theorem spanRow_nth (T : List Int) (lo hi : Nat → Int) {i n k : Nat} (h : k < n) : nth (spanRow T lo hi i n) k = ⟨lo (9 * i + k), hi (9 * i + k)⟩ := by
  rw [nth_eq (by rw [spanRow_len]; exact h)]
  unfold spanRow
  rw [List.getElem_map, List.getElem_range]
/-- The ends of spans are a truth. -/
theorem ends_truth {T : List Int} {M : Int} {l : List Rd} {lo hi d : Nat → Int} {b : Bool} (ha : askE T M l = 0) (hd : ∀ i k, endOf b ⟨lo (9 * i + k), hi (9 * i + k)⟩ = d (9 * i + k)) (hf : Feas T M (cons l) d) :
    truthP T M l (fr0 ((spanRows T lo hi T.length).map fun r => r.map (endOf b))) := by
  obtain ⟨hs, hl24, hr⟩ := okay_ask ha
  have ho := okay_of hs hr
  have hrow : ∀ i, i < T.length → (nth (fr0 ((spanRows T lo hi T.length).map fun r => r.map (endOf b))) i).2 = (spanRow T lo hi i (tn T i + 1)).map (endOf b) := fun i hil => by
    rw [fr0_nth (by rw [List.length_map, spanRows_len]; exact hil)]
    show nth ((spanRows T lo hi T.length).map fun r => r.map (endOf b)) i = _
    rw [nth_eq (by rw [List.length_map, spanRows_len]; exact hil), List.getElem_map, ← nth_eq (by rw [spanRows_len]; exact hil), spanRows_nth _ _ _ hil]
  have hat : ∀ c, V T c → errs (fr0 ((spanRows T lo hi T.length).map fun r => r.map (endOf b))) c = d c := fun c hc => by
    have h1 := hc.1
    have h2 := hc.2
    unfold errs
    rw [hrow _ h1, nth_eq (by rw [List.length_map, spanRow_len]; omega), List.getElem_map, ← nth_eq (by rw [spanRow_len]; omega), spanRow_nth _ _ _ (by omega), hd]
    congr 1
    omega
  refine (truth_feas hs).2 ⟨⟨by simp [spanRows_len], fun i hi => by rw [hrow i hi, List.length_map, spanRow_len]⟩, fun i hi => ?_, fun c hc => ?_, fun k hk => ?_⟩
  · rw [hat _ (V_base hi)]; exact hf.base i hi
  · rw [hat _ hc]; exact hf.bnd c hc
  · obtain ⟨v1, v2⟩ := ho.con k hk
    rw [hat _ v1, hat _ v2]; exact hf.con k hk
theorem ScrewEnds_main (nT : Bool) (T : List Int) (M : Int) (nl : Bool) (l : List Rd) (nE : Bool) (E : Rows) (hT : T.length < 2 ^ 62) (hl : l.length < 2 ^ 62) (hn : nl = true → l = []) (hE : List.length E < 2 ^ 62) (hEr : ∀ i, i < List.length E → (nth E i).2.length < 2 ^ 62) :
    ans prog O 8 [eSet nT T M, vl eRd nl l, vl eRow nE E] = some (.bool true) := by
  obtain ⟨v, hv, hsp⟩ := Spans_ok nT nl T M l hT hn hl
  have htr := Truth_ok nT nl nE T M l E hT hl hE hEr
  refine fn_of' pl get8 (oo (by decide)) rfl rfl ?_
  cases hv with
  | bad h =>
    have hv : truthV T M l E = .tuple [.bool false, .int .i64 (askE T M l)] := by
      unfold truthV; rw [decide_eq_false]; exact fun h2 => h h2.1
    rw [hv] at htr
    simp +contextual (disch := omega) [hsp, htr, h, Und]
  | none h hno =>
    have hv : truthV T M l E = .tuple [.bool false, .int .i64 0] := by
      unfold truthV; rw [decide_eq_false, h]
      exact fun h2 => hno _ ((truth_feas (okay_ask h).1).1 h2.2).2
    rw [hv] at htr
    simp +contextual (disch := omega) [hsp, htr, h, Und]
  | some lo hi h hlo hhi =>
    obtain ⟨hs, hl24, hr⟩ := okay_ask h
    have hT4 : T.length ≤ 4 := (okay_of hs hr).len
    have htn : ∀ i, i < T.length → (tn T i : Int) = nth T i ∧ 1 ≤ tn T i ∧ tn T i ≤ 8 := fun i hi => by have := hs.2 i hi; unfold tn; omega
    have hRl : (spanRows T lo hi T.length).length < 2 ^ 30 := by rw [spanRows_len]; omega
    have hRr : ∀ i, i < (spanRows T lo hi T.length).length → 0 < (nth (spanRows T lo hi T.length) i).length ∧ (nth (spanRows T lo hi T.length) i).length < 2 ^ 30 := fun i hi => by
      rw [spanRows_len] at hi
      rw [spanRows_nth _ _ _ hi, spanRow_len]
      have := htn i hi; omega
    have hne : (spanRows T lo hi T.length).isEmpty = false := by
      have hT1 := hs.1.1.1
      cases hq : spanRows T lo hi T.length with
      | nil => have := congrArg List.length hq; rw [spanRows_len, List.length_nil] at this; omega
      | cons => rfl
    have e1 := end_ok false true _ hRl hRr
    have e2 := end_ok false false _ hRl hRr
    rw [hne] at e1 e2
    have hfr : ∀ b i, i < List.length (fr0 ((spanRows T lo hi T.length).map fun r => r.map (endOf b))) → (nth (fr0 ((spanRows T lo hi T.length).map fun r => r.map (endOf b))) i).2.length < 2 ^ 62 := fun b i hil => by
      rw [fr0_len, List.length_map, spanRows_len] at hil
      rw [fr0_nth (by rw [List.length_map, spanRows_len]; exact hil)]
      show (nth ((spanRows T lo hi T.length).map fun r : List Span => r.map (endOf b)) i).length < _
      rw [nth_eq (by rw [List.length_map, spanRows_len]; exact hil), List.getElem_map, ← nth_eq (by rw [spanRows_len]; exact hil), spanRows_nth _ _ _ hil, List.length_map, spanRow_len]
      have := htn i hil; omega
    have t1 := Truth_ok nT nl false T M l (fr0 ((spanRows T lo hi T.length).map fun r => r.map (endOf true))) hT hl (by simp [spanRows_len]; omega) (hfr true)
    have t2 := Truth_ok nT nl false T M l (fr0 ((spanRows T lo hi T.length).map fun r => r.map (endOf false))) hT hl (by simp [spanRows_len]; omega) (hfr false)
    have hv1 : truthV T M l (fr0 ((spanRows T lo hi T.length).map fun r => r.map (endOf true))) = .tuple [.bool true, .int .i64 0] := by
      unfold truthV; rw [h, decide_eq_true]
      exact ⟨rfl, ends_truth h (fun _ _ => rfl) hhi.1⟩
    have hv2 : truthV T M l (fr0 ((spanRows T lo hi T.length).map fun r => r.map (endOf false))) = .tuple [.bool true, .int .i64 0] := by
      unfold truthV; rw [h, decide_eq_true]
      exact ⟨rfl, ends_truth h (fun _ _ => rfl) hlo.1⟩
    rw [hv1] at t1
    rw [hv2] at t2
    have hv : truthV T M l E = .tuple [.bool (decide (truthP T M l E)), .int .i64 0] := by unfold truthV; rw [h]; simp
    rw [hv] at htr
    generalize hE1 : fr0 ((spanRows T lo hi T.length).map fun r => r.map (endOf true)) = E1 at *
    generalize hE2 : fr0 ((spanRows T lo hi T.length).map fun r => r.map (endOf false)) = E2 at *
    have hsl : List.length (fr0 (spanRows T lo hi T.length)) = T.length := by rw [fr0_len, spanRows_len]
    have hsn : ∀ i, i < T.length → nth (fr0 (spanRows T lo hi T.length)) i = (false, spanRow T lo hi i (tn T i + 1)) := fun i hi => by rw [fr0_nth (by rw [spanRows_len]; exact hi), spanRows_nth _ _ _ hi]
    generalize hSS : fr0 (spanRows T lo hi T.length) = SS at *
    simp +contextual (disch := omega) [hsp, htr, e1, e2, t1, t2, h, Und]
    refine lp_loop pl (fun k fr σ => ∃ i, i + k = (if truthP T M l E then List.length E else 0) ∧ fr = ⟨[(2, vl eRow nE E), (7, vl eSpans false SS), (9, .bool (decide (truthP T M l E))), (15, .int .i64 i)], []⟩) ⟨_, 0, Nat.zero_add _, rfl⟩ ?_
    rintro k _ σ ⟨i, hik, rfl⟩
    by_cases ht : truthP T M l E
    · rw [if_pos ht] at hik
      obtain ⟨⟨g1, g2⟩, g3⟩ := (truth_feas hs).1 ht
      by_cases hi2 : i < List.length E
      · have hTi : i < T.length := by omega
        have hli := g2 i hTi
        have hni := hsn i hTi
        have hti := htn i hTi
        simp +contextual (disch := omega) [ht, Und, hi2]
        refine lp_loop pl (fun k2 fr σ => ∃ m, m + k2 = (nth E i).2.length ∧ fr = ⟨[(2, vl eRow nE E), (7, vl eSpans false SS), (9, .bool true), (15, .int .i64 i), (16, .int .i64 m)], []⟩) ⟨_, 0, Nat.zero_add _, rfl⟩ ?_
        rintro k2 _ σ ⟨m, hmk, rfl⟩
        by_cases hm2 : m < (nth E i).2.length
        · have hV : V T (9 * i + m) := by
            unfold V
            rw [show (9 * i + m) / 9 = i by omega, show (9 * i + m) % 9 = m by omega]
            omega
          have b1 := hlo.2 _ g3 _ hV
          have b2 := hhi.2 _ g3 _ hV
          rw [errs_at (by omega)] at b1 b2
          have hsp2 := spanRow_nth T lo hi (i := i) (n := tn T i + 1) (k := m) (by omega)
          have hspl := spanRow_len T lo hi i (tn T i + 1)
          simp +contextual (disch := omega) [ht, Und, hi2, hm2, hni, hsl, hsp2, hspl]
          exact ⟨⟨⟨hTi, by omega⟩, b1, b2⟩, fun _ _ _ _ => ⟨k2 - 1, by omega, m + 1, by omega, by omega⟩⟩
        · simp +contextual (disch := omega) [ht, Und, hi2, hm2]
          exact ⟨k - 1, by omega, i + 1, by omega, by omega⟩
      · simp +contextual (disch := omega) [ht, Und, hi2]
    · simp +contextual (disch := omega) [ht, Und]
theorem inv_reads {x : AV} (h : CellIs (.sl true [.int .i64, .int .i64, .int .i64, .int .i64, .int .i64, .int .i64]) x) : ∃ nl xs, Slice eRd (fun _ => True) x nl xs := by
  refine h.inv_sl fun cs hc => ?_
  obtain ⟨c1, _, rfl, h1, hc⟩ := hc.uncons
  obtain ⟨c2, _, rfl, h2, hc⟩ := hc.uncons
  obtain ⟨c3, _, rfl, h3, hc⟩ := hc.uncons
  obtain ⟨c4, _, rfl, h4, hc⟩ := hc.uncons
  obtain ⟨c5, _, rfl, h5, hc⟩ := hc.uncons
  obtain ⟨c6, rfl, h6⟩ := hc.one
  obtain ⟨n1, rfl, _⟩ := h1.inv_int
  obtain ⟨n2, rfl, _⟩ := h2.inv_int
  obtain ⟨n3, rfl, _⟩ := h3.inv_int
  obtain ⟨n4, rfl, _⟩ := h4.inv_int
  obtain ⟨n5, rfl, _⟩ := h5.inv_int
  obtain ⟨n6, rfl, _⟩ := h6.inv_int
  exact ⟨⟨n1, n2, n3, n4, n5, n6⟩, rfl, trivial⟩
theorem rows_len {x : AV} {nE : Bool} {E : Rows} (h : Slice eRow Go.Oct.rowOK x nE E) : List.length E < 2 ^ 62 ∧ ∀ i, i < List.length E → (nth E i).2.length < 2 ^ 62 := by
  have := h.len
  refine ⟨by omega, fun i hi => ?_⟩
  have := (h.good (nth E i) (nth_mem hi)).2.1
  omega
theorem ScrewEnds_ok (nT : Bool) (T : List Int) (M : Int) (nl : Bool) (l : List Rd) (nE : Bool) (E : Rows) {x y z : AV} (h1 : Slice (AV.int .i64) i64 x nT T) (hM : i64 M) (h2 : Slice eRd (fun _ => True) y nl l) (h3 : Slice eRow Go.Oct.rowOK z nE E) :
    ans prog O 8 [eSet nT T M, vl eRd nl l, vl eRow nE E] = some (.bool true) := by
  have := h1.len
  have := h2.len
  exact ScrewEnds_main nT T M nl l nE E (by omega) (by omega) h2.nil (rows_len h3).1 (rows_len h3).2
end Go.Oct.Screw
