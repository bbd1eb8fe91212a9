/- Rank: the specification's. -/
import Derived.Test.YtpccnjgeddjfjaaOClockRnk
set_option maxRecDepth 100000
set_option maxHeartbeats 4000000
set_option linter.unusedVariables false
set_option linter.unusedSimpArgs false
namespace Go.Oct.Clock
open Go.Oct
def ints (o : List Nat) : List Int := o.map (fun i : Nat => (i : Int))
theorem ints_len (o : List Nat) : (ints o).length = o.length := by unfold ints; simp
theorem ints_nth {o : List Nat} {i : Nat} (h : i < o.length) : nth (ints o) i = ((nth o i : Nat) : Int) := nth_map _ h
theorem nums_nth {l : List Ent} {n i : Nat} (h : i < n) : nth (nums l n) i = numV (nth l i).weeks := by
  have h2 := nth_get? (xs := nums l n) (i := i) (by rw [nums_len]; exact h)
  unfold nums at h2 ⊢
  rw [List.getElem?_map, List.getElem?_range h] at h2
  simpa using h2.symm
/-- A slice that is not there yet, or in an object of its own. -/
def Own (σ : AH) (v : AV) (xs : List Int) : Prop := (v = .vsl true [] ∧ xs = []) ∨ (xs ≠ [] ∧ Whole 0 1 (AV.int .i64) σ v xs)
theorem RankR_ok (nl : Bool) (l : List Ent) (hf : fits l) : ans prog O 27 [vl eEnt nl l] = some (.tuple [vs (rankV l).1.isEmpty (rankV l).1, vs (rankV l).2.1.isEmpty (rankV l).2.1, .int .i64 (rankV l).2.2]) := by
  have hx := hf.1
  have ht := isTrial_ok nl l hf
  refine fn_of' pl get27 (oo (by decide)) rfl rfl ?_
  by_cases hb : okTri l
  · have hv : rankV l = (ints (ordR l l.length), nums l l.length, 0) := by unfold rankV; rw [if_pos hb]; rfl
    rw [hv]
    have hll := hb.1
    simp (disch := omega) [ht, hb, -Bool.exists_bool]
    refine lp_loop pl (fun k fr σ => ∃ (j : Nat) (v w : AV), j + k = l.length ∧ fr = ⟨[(0, vl eEnt nl l), (5, v), (6, w), (7, .int .i64 j)], []⟩ ∧ σ.lim = 0 ∧ Own σ v (ints (ordR l j)) ∧ Buf 0 1 (AV.int .i64) σ w (nums l j) ∧ ∀ i ∈ obj v, i ∉ obj w)
      ⟨l.length, 0, .vsl true [], .vsl true [], by omega, rfl, rfl, .inl ⟨rfl, rfl⟩, Buf.nil, by simp [obj]⟩ ?_
    rintro k _ σ ⟨j, v, w, hj, rfl, hl0, hv, hw, hvw⟩
    by_cases hjl : j < l.length
    · have hno := numberR_ok (nth l j).wn (nth l j).weeks (tri_weeks hb hjl)
      have nl' := nums_len l j
      simp (disch := omega) [Und, hjl, hl0, hno, -Bool.exists_bool]
      refine hw.push encI (by omega) (by omega) (numV (nth l j).weeks) (by rw [nl']; simp only [topBytes]; omega) rfl fun w' σ1 h1 h2 => ?_
      rw [← nums_succ] at h1
      have hlim := h2.lim
      have hl1 : σ1.lim = 0 := by omega
      have nl2 := nums_len l (j + 1)
      have ol := ordR_len l j
      rcases h1 with ⟨_, e0⟩ | ⟨iw, rfl, _, hg, hne⟩
      · rw [e0] at nl2; simp at nl2
      have hvw2 : ∀ i ∈ obj v, i ≠ iw := fun i hi e => by
        subst e
        rcases h2.fresh i (List.mem_singleton.2 rfl) with h3 | h3
        · exact hvw i hi h3
        · rcases hv with ⟨rfl, _⟩ | ⟨_, hv⟩
          · simp [obj] at hi
          · have := (hv.obj_lt i hi).2; omega
      have hv1 : Own σ1 v (ints (ordR l j)) := by
        rcases hv with h | ⟨h, h3⟩
        · exact .inl h
        · exact .inr ⟨h, h3.stay h2.only fun i hi hc => hvw i hi hc⟩
      rw [nl2]
      simp (disch := omega) [hl1, -Bool.exists_bool]
      refine lp_loop pl (fun k fr σ' => ∃ m : Nat, m + k = j ∧ fr = ⟨[(0, vl eEnt nl l), (5, v), (6, .slice (some (iw, 0)) (j + 1) (.op 1)), (7, .int .i64 j), (8, .int .i64 m)], []⟩ ∧ σ' = σ1 ∧ ∀ q, q < m → ltI l (nth (ordR l j) q) j)
        ⟨j, 0, by omega, rfl, rfl, fun q hq => by omega⟩ ?_
      rintro k2 _ s ⟨m, hm, rfl, hs, hlt⟩
      subst hs
      rcases hv1 with ⟨rfl, e0⟩ | ⟨hne2, hv1⟩
      · have e1 : ordR l j = [] := by unfold ints at e0; simpa using e0
        rw [e1] at ol
        simp at ol
        obtain rfl : j = 0 := by omega
        obtain rfl : m = 0 := by omega
        simp (disch := omega) [Und, hl1, -Bool.exists_bool]
        rw [nil_vl (AV.int .i64)]
        simp (disch := omega) [Und, hl1, -Bool.exists_bool]
        refine lit0_app (lo := s.next) (ys := ([] : List Int)) encI (Nat.le_refl _) (by simp) (by simp) (vl_src encI _ _) (by simp [topBytes]) fun v2 σ2 w1 w2 w3 => ?_
        have s2l := w2.lim
        have s2n : s.next + 1 ≤ σ2.next := w2.next
        simp (disch := omega) [Und, hl1, -Bool.exists_bool]
        have w1' : Whole s.next 1 (AV.int .i64) σ2 v2 ([] : List Int) := w1
        have sn : s.next + 1 ≤ σ2.next := s2n
        refine w1'.pushT encI (by rw [s2l]; exact Nat.le_trans (Nat.le_of_eq hl1) (Nat.zero_le _)) (by omega) (0 : Int) (by simp [topBytes]) rfl fun v3 σ3 g1 g2 => ?_
        have s3l : σ3.lim = 0 := by rw [g2.lim, s2l]; exact hl1
        have s3n : σ2.next ≤ σ3.next := g2.next
        have o2 : ∀ i ∈ obj v2, s.next ≤ i := fun i hi => by
          rcases w3 i hi with h5 | h5
          · omega
          · have h5 : s.next + 1 ≤ i := h5
            omega
        have o3 : ∀ i ∈ obj v3, s.next ≤ i := fun i hi => by
          rcases g2.fresh i hi with h5 | h5
          · exact o2 i h5
          · have h5 : σ2.next ≤ i := h5
            omega
        have old : ∀ i, i < s.next → σ3.get i = s.get i := fun i hi => by
          rw [g2.only.get i (by show i < σ2.next; omega) fun hc => by have := o2 i hc; omega]
          have h5 := w2.get i (by show i < s.next + 1; omega) (by simp)
          rw [h5, AH.get_push_old _ _ _ (by show i ≠ s.next; omega)]
        have hiw := AH.get_lt hg
        simp (disch := omega) [Und, s3l, -Bool.exists_bool]
        refine g1.appV encI (by omega) (by omega) (by simp [topBytes]) fun v5 σ5 p1 p2 => ?_
        have s5l : σ5.lim = 0 := by have := p2.lim; omega
        simp (disch := omega) [Und, s5l, -Bool.exists_bool]
        have hord : ints (ordR l (0 + 1)) = [] ++ [(0 : Int)] ++ [] := rfl
        refine ⟨k - 1, by omega, 0 + 1, by omega, v5, .slice (some (iw, 0)) (0 + 1) (.op 1), ⟨rfl, rfl, by omega⟩, .inr ⟨by rw [hord]; simp, ?_⟩, ?_, ?_⟩
        · rw [hord]; simpa using p1.lower (Nat.zero_le _)
        · refine .inr ⟨iw, by rw [nl2], Nat.zero_le _, ?_, hne⟩
          rw [p2.only.get iw (by omega) fun hc => by have := o3 iw hc; omega, old iw hiw]
          exact hg
        · intro q hq hq2
          obtain rfl : q = iw := by simpa [obj] using hq2
          rcases p2.fresh q hq with h7 | h7
          · have := o3 q h7; omega
          · omega
      · obtain ⟨iv, c, rfl, _, hgv, hc⟩ := id hv1
        have il := ints_len (ordR l j)
        rw [il, ol]
        by_cases hmj : m < j
        · have il2 := rowOf_length encI (ints (ordR l j))
          have nl3 := rowOf_length encI (nums l (j + 1))
          have c1 := row_int (q := .i64) (xs := ints (ordR l j)) (j := m) (by omega)
          rw [ints_nth (by omega)] at c1
          have hol : nth (ordR l j) m < j := ordR_lt (nth_mem (by omega))
          have c2 := row_int (q := .i64) (xs := nums l (j + 1)) (j := nth (ordR l j) m) (by omega)
          have c3 := row_int (q := .i64) (xs := nums l (j + 1)) (j := j) (by omega)
          rw [nums_nth (by omega)] at c2 c3
          have q1 : m + 1 ≤ j := by omega
          have q2 : ((nth (ordR l j) m : Nat) : Int) < (j : Int) + 1 := by omega
          have q3 : nth (ordR l j) m + 1 ≤ j + 1 := by omega
          have q4 : nth (ordR l j) m < l.length := by omega
          have q5 : (j : Int) < (j : Int) + 1 := by omega
          simp (disch := omega) [Und, hl1, hmj, hgv, hg, il, il2, ol, nl3, nl2, c1, c2, c3, q1, q2, q3, q4, q5, hjl, -Bool.exists_bool, -getElem?_pos]
          refine ⟨fun h3 => ⟨k2 - 1, by omega, m + 1, by omega, by omega, fun q hq => ?_⟩, fun h3 h4 => ?_⟩
          · by_cases e : q = m
            · rw [e]; exact h3
            · exact hlt q (by omega)
          have hstop : m < j → ¬ ltI l (nth (ordR l j) m) j := fun _ h5 => by
            rcases h5 with h5 | ⟨h5, h6⟩
            · have h5 : numV (nth l (nth (ordR l j) m)).weeks < numV (nth l j).weeks := h5
              omega
            · exact h4 h5 h6
          rw [il, ol] at hv1
          refine hv1.view.head encI flatI (by omega) (by rw [il, ol]; omega) fun v1 h3 h4 => ?_
          simp (disch := omega) [Und, hl1, -Bool.exists_bool]
          refine lit0_app (lo := s.next) (ys := (ints (ordR l j)).take m) encI (Nat.le_refl _) (by simp) (by simp) ((h3.grown _).src encI) (by rw [List.length_take, il, ol]; simp only [topBytes]; omega) fun v2 σ2 w1 w2 w3 => ?_
          have s2l := w2.lim
          have s2n : s.next + 1 ≤ σ2.next := w2.next
          simp (disch := omega) [Und, hl1, -Bool.exists_bool]
          have w1' : Whole s.next 1 (AV.int .i64) σ2 v2 ((ints (ordR l j)).take m) := w1
          have sn : s.next + 1 ≤ σ2.next := s2n
          have tl : ((ints (ordR l j)).take m).length = m := by rw [List.length_take, il, ol]; omega
          refine w1'.pushT encI (by rw [s2l]; exact Nat.le_trans (Nat.le_of_eq hl1) (Nat.zero_le _)) (by omega) (j : Int) (by rw [tl]; simp only [topBytes]; omega) rfl fun v3 σ3 g1 g2 => ?_
          have s3l : σ3.lim = 0 := by rw [g2.lim, s2l]; exact hl1
          have s3n : σ2.next ≤ σ3.next := g2.next
          have o2 : ∀ i ∈ obj v2, s.next ≤ i := fun i hi => by
            rcases w3 i hi with h5 | h5
            · omega
            · have h5 : s.next + 1 ≤ i := h5
              omega
          have o3 : ∀ i ∈ obj v3, s.next ≤ i := fun i hi => by
            rcases g2.fresh i hi with h5 | h5
            · exact o2 i h5
            · have h5 : σ2.next ≤ i := h5
              omega
          have old : ∀ i, i < s.next → σ3.get i = s.get i := fun i hi => by
            rw [g2.only.get i (by show i < σ2.next; omega) fun hc => by have := o2 i hc; omega]
            have h5 := w2.get i (by show i < s.next + 1; omega) (by simp)
            rw [h5, AH.get_push_old _ _ _ (by show i ≠ s.next; omega)]
          have hiv := AH.get_lt hgv
          have hiw := AH.get_lt hg
          have hv3 : Whole 0 1 (AV.int .i64) σ3 (.slice (some (iv, 0)) j c) (ints (ordR l j)) := ⟨iv, c, by rw [il, ol], Nat.zero_le _, by rw [old iv hiv]; exact hgv, hc⟩
          simp (disch := omega) [Und, s3l, -Bool.exists_bool]
          refine hv3.view.tail encI flatI (by omega) (by rw [il, ol]; omega) fun v4 h5 h6 => ?_
          simp (disch := omega) [Und, s3l, -Bool.exists_bool]
          have hs4 := h5.src encI
          refine g1.app encI (by omega) (by omega) hs4.1 hs4.2 (by simp only [List.length_append, List.length_drop, tl, il, ol, List.length_singleton, topBytes, Int.toNat_natCast]; omega) fun v5 σ5 p1 p2 => ?_
          have s5l : σ5.lim = 0 := by have := p2.lim; omega
          simp (disch := omega) [Und, s5l, -Bool.exists_bool]
          have htw := take_while (p := fun a => decide (ltI l a j)) (xs := ordR l j) (m := m) (by omega) (fun q hq => by simpa using hlt q hq) (fun h7 => by simpa using hstop (by omega))
          have hord : ints (ordR l (j + 1)) = (ints (ordR l j)).take m ++ [(j : Int)] ++ (ints (ordR l j)).drop m := by
            simp only [ordR, ins, htw.1, htw.2, ints, List.map_append, List.map_cons, List.map_take, List.map_drop, List.append_assoc, List.singleton_append]
          refine ⟨k - 1, by omega, j + 1, by omega, v5, .slice (some (iw, 0)) (j + 1) (.op 1), ⟨rfl, rfl, by omega⟩, .inr ⟨by rw [hord]; simp, ?_⟩, ?_, ?_⟩
          · rw [hord]; simpa using p1.lower (Nat.zero_le _)
          · refine .inr ⟨iw, by rw [nl2], Nat.zero_le _, ?_, hne⟩
            rw [p2.only.get iw (by omega) fun hc => by have := o3 iw hc; omega, old iw hiw]
            exact hg
          · intro q hq hq2
            obtain rfl : q = iw := by simpa [obj] using hq2
            rcases p2.fresh q hq with h7 | h7
            · have := o3 q h7; omega
            · omega
        · obtain rfl : m = j := by omega
          simp (disch := omega) [Und, hl1, -Bool.exists_bool]
          rw [il, ol] at hv1
          refine hv1.view.head encI flatI (by omega) (by rw [il, ol]; omega) fun v1 h3 h4 => ?_
          simp (disch := omega) [Und, hl1, -Bool.exists_bool]
          refine lit0_app (lo := s.next) (ys := (ints (ordR l m)).take m) encI (Nat.le_refl _) (by simp) (by simp) ((h3.grown _).src encI) (by rw [List.length_take, il, ol]; simp only [topBytes]; omega) fun v2 σ2 w1 w2 w3 => ?_
          have s2l := w2.lim
          have s2n : s.next + 1 ≤ σ2.next := w2.next
          simp (disch := omega) [Und, hl1, -Bool.exists_bool]
          have hstop : m < m → ¬ ltI l (nth (ordR l m) m) m := fun h => by omega
          have w1' : Whole s.next 1 (AV.int .i64) σ2 v2 ((ints (ordR l m)).take m) := w1
          have sn : s.next + 1 ≤ σ2.next := s2n
          have tl : ((ints (ordR l m)).take m).length = m := by rw [List.length_take, il, ol]; omega
          refine w1'.pushT encI (by rw [s2l]; exact Nat.le_trans (Nat.le_of_eq hl1) (Nat.zero_le _)) (by omega) (m : Int) (by rw [tl]; simp only [topBytes]; omega) rfl fun v3 σ3 g1 g2 => ?_
          have s3l : σ3.lim = 0 := by rw [g2.lim, s2l]; exact hl1
          have s3n : σ2.next ≤ σ3.next := g2.next
          have o2 : ∀ i ∈ obj v2, s.next ≤ i := fun i hi => by
            rcases w3 i hi with h5 | h5
            · omega
            · have h5 : s.next + 1 ≤ i := h5
              omega
          have o3 : ∀ i ∈ obj v3, s.next ≤ i := fun i hi => by
            rcases g2.fresh i hi with h5 | h5
            · exact o2 i h5
            · have h5 : σ2.next ≤ i := h5
              omega
          have old : ∀ i, i < s.next → σ3.get i = s.get i := fun i hi => by
            rw [g2.only.get i (by show i < σ2.next; omega) fun hc => by have := o2 i hc; omega]
            have h5 := w2.get i (by show i < s.next + 1; omega) (by simp)
            rw [h5, AH.get_push_old _ _ _ (by show i ≠ s.next; omega)]
          have hiv := AH.get_lt hgv
          have hiw := AH.get_lt hg
          have hv3 : Whole 0 1 (AV.int .i64) σ3 (.slice (some (iv, 0)) m c) (ints (ordR l m)) := ⟨iv, c, by rw [il, ol], Nat.zero_le _, by rw [old iv hiv]; exact hgv, hc⟩
          simp (disch := omega) [Und, s3l, -Bool.exists_bool]
          refine hv3.view.tail encI flatI (by omega) (by rw [il, ol]; omega) fun v4 h5 h6 => ?_
          simp (disch := omega) [Und, s3l, -Bool.exists_bool]
          have hs4 := h5.src encI
          refine g1.app encI (by omega) (by omega) hs4.1 hs4.2 (by simp only [List.length_append, List.length_drop, tl, il, ol, List.length_singleton, topBytes, Int.toNat_natCast]; omega) fun v5 σ5 p1 p2 => ?_
          have s5l : σ5.lim = 0 := by have := p2.lim; omega
          simp (disch := omega) [Und, s5l, -Bool.exists_bool]
          have htw := take_while (p := fun a => decide (ltI l a m)) (xs := ordR l m) (m := m) (by omega) (fun q hq => by simpa using hlt q hq) (fun h7 => by simpa using hstop (by omega))
          have hord : ints (ordR l (m + 1)) = (ints (ordR l m)).take m ++ [(m : Int)] ++ (ints (ordR l m)).drop m := by
            simp only [ordR, ins, htw.1, htw.2, ints, List.map_append, List.map_cons, List.map_take, List.map_drop, List.append_assoc, List.singleton_append]
          refine ⟨k - 1, by omega, m + 1, by omega, v5, .slice (some (iw, 0)) (m + 1) (.op 1), ⟨rfl, rfl, by omega⟩, .inr ⟨by rw [hord]; simp, ?_⟩, ?_, ?_⟩
          · rw [hord]; simpa using p1.lower (Nat.zero_le _)
          · refine .inr ⟨iw, by rw [nl2], Nat.zero_le _, ?_, hne⟩
            rw [p2.only.get iw (by omega) fun hc => by have := o3 iw hc; omega, old iw hiw]
            exact hg
          · intro q hq hq2
            obtain rfl : q = iw := by simpa [obj] using hq2
            rcases p2.fresh q hq with h7 | h7
            · have := o3 q h7; omega
            · omega
    · obtain rfl : j = l.length := by omega
      simp (disch := omega) [Und, hjl, hl0, -Bool.exists_bool]
      refine ⟨?_, hw.fzI 5⟩
      rcases hv with ⟨rfl, e0⟩ | ⟨h1, h2⟩
      · rw [e0]; rfl
      · rw [h2.fz encI flatI 5]
        cases hq : ints (ordR l l.length) with
        | nil => exact absurd hq h1
        | cons => rfl
  · have hv : rankV l = ([], [], 72) := by unfold rankV; rw [if_neg hb]
    rw [hv]
    simp (disch := omega) [ht, hb]
    rfl
end Go.Oct.Clock
