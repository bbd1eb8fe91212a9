/- Posts: the program's, the specification's. -/
import Derived.Test.YtpgjndgpackffaaDoorOShopPosW
set_option maxRecDepth 100000
set_option maxHeartbeats 2000000
set_option linter.unusedVariables false
set_option linter.unusedSimpArgs false
namespace Go.Oct.Shop
open Go.Oct
def bitAt (s k : Nat) : Bool := decide (s / 2 ^ k % 2 = 1)
theorem bits8 : ∀ i, i < 8 → ∀ s, s < 256 → bitAt s i = false → s + 2 ^ i < 256 ∧ ∀ j, j < 8 → bitAt (s + 2 ^ i) j = (decide (j = i) || bitAt s j) := by decide +kernel
theorem spec_bd {M : List Mn} {T : List Int} (hok : okTk M T) {d : Nat} {so : List Int} (hd : so.length + d = T.length) : 0 ≤ (specP M T d so).wages ∧ (specP M T d so).wages ≤ 80000 ∧ (specP M T d so).best.length ≤ 8 := by
  obtain ⟨_, b2, b3⟩ := spec_best M T d so hd
  have h8 := hok.1
  cases hf : (specP M T d so).found with
  | false =>
    obtain ⟨h1, h2⟩ := b3 hf
    rw [h1, h2]; simp
  | true =>
    obtain ⟨h1, h2⟩ := b2 hf
    have hl := comp_len h1
    have hn := comp_nth h1
    have hw := wage_bd hok (so := (specP M T d so).best) (fun q hq => by
      obtain ⟨n, n1, n2, _⟩ := hn q hq
      omega) (specP M T d so).best.length (Nat.le_refl _)
    rw [List.take_length] at hw
    omega
theorem specTo_bd {M : List Mn} {T : List Int} (hok : okTk M T) {d : Nat} {so : List Int} (hd : so.length + (d + 1) = T.length) : ∀ n, n ≤ M.length → 0 ≤ (specTo M T d so n).wages ∧ (specTo M T d so n).wages ≤ 90000
  | 0, _ => by simp [specTo]
  | n + 1, hn => by
    have h1 := specTo_bd hok hd n (by omega)
    rw [specTo_succ]
    split
    · have h2 := spec_bd hok (d := d) (so := so ++ [(n : Int)]) (by simp; omega)
      have h3 := (hok.2.1 n (by omega)).2
      unfold stepS
      split
      · show 0 ≤ _ + _ ∧ _ + _ ≤ (90000 : Int)
        omega
      · exact h1
    · exact h1
theorem postsR_ok {nM nT : Bool} {M : List Mn} {T : List Int} (hok : okTk M T) : ∀ (d : Nat) (so : List Int) (s : Nat), so.length + d = T.length → s < 256 → (∀ i, i < M.length → (bitAt s i = true ↔ (i : Int) ∈ so)) →
    ∃ v, (∃ nl, v = .tuple [vs nl (specP M T d so).best, .int .i64 (specP M T d so).wages, .bool (specP M T d so).found]) ∧ ans prog O 76 [vl eMn nM M, vs nT T, .int .i64 so.length, .int .i64 s] = some v
  | 0, so, s, hd, hs, hb => by
    have h8 := hok.1
    refine fn_ex pl _ get76 (oo (by decide)) rfl rfl ?_
    have e : (so.length : Int) = T.length := by omega
    simp (disch := omega) [e, -Bool.exists_bool]
    exact ⟨⟨true, rfl⟩, rfl, rfl⟩
  | d + 1, so, s, hd, hs, hb => by
    have h8 := hok.1
    refine fn_ex pl _ get76 (oo (by decide)) rfl rfl ?_
    have e : ¬ (so.length : Int) = T.length := by omega
    simp (disch := omega) [e, -Bool.exists_bool]
    refine lp_loop pl (fun k fr σ => ∃ (m : Nat) (v : AV), m + k = M.length ∧ fr = ⟨[(0, vl eMn nM M), (1, vs nT T), (2, .int .i64 so.length), (3, .int .i64 s), (11, v), (12, .int .i64 (specTo M T d so m).wages), (13, .bool (specTo M T d so m).found), (14, .int .i64 m)], []⟩ ∧ σ.lim = 0 ∧ SlO 0 σ v (specTo M T d so m).best)
      ⟨M.length, 0, .vsl true [], by omega, rfl, rfl, .inl ⟨rfl, rfl⟩⟩ ?_
    rintro k _ σ ⟨m, v, hm, rfl, hl0, hv⟩
    by_cases hml : m < M.length
    · have hmn := hok.2.1 m hml
      have htk := hok.2.2 so.length (by omega)
      have hbd := specTo_bd hok hd m (by omega)
      have hstep := specTo_succ M T d so m
      have hab : ablP M T so m = (hasS (nth M m) (nth T so.length) && !so.contains (m : Int)) := rfl
      have h1 := Bit_ok s m (by omega)
      have h2 := bitM_ok (nth M m) (nth T so.length) hmn htk
      have hsl : so.length < T.length := by omega
      have hbit := hb m hml
      unfold bitAt at hbit
      cases hin : bitAt s m with
      | true =>
        have hc : so.contains (m : Int) = true := by
          rw [List.contains_eq_mem]; exact decide_eq_true ((hb m hml).1 hin)
        have hin' := hin
        unfold bitAt at hin'
        rw [hin'] at h1
        rw [hab, hc] at hstep
        simp at hstep
        simp (disch := omega) [Und, hl0, hml, hsl, h1, h2, -Bool.exists_bool]
        exact ⟨k - 1, by omega, m + 1, by omega, v, ⟨rfl, by rw [hstep], by rw [hstep], by omega⟩, by rw [hstep]; exact hv⟩
      | false =>
        have hc : so.contains (m : Int) = false := by
          rw [List.contains_eq_mem]
          refine decide_eq_false fun h => ?_
          have := (hb m hml).2 h
          rw [hin] at this
          cases this
        have hin' := hin
        unfold bitAt at hin'
        rw [hin'] at h1
        cases hh : hasS (nth M m) (nth T so.length) with
        | false =>
          rw [hh] at h2
          rw [hab, hh] at hstep
          simp at hstep
          simp (disch := omega) [Und, hl0, hml, hsl, h1, h2, -Bool.exists_bool]
          exact ⟨k - 1, by omega, m + 1, by omega, v, ⟨rfl, by rw [hstep], by rw [hstep], by omega⟩, by rw [hstep]; exact hv⟩
        | true =>
          rw [hh] at h2
          rw [hab, hh, hc] at hstep
          simp at hstep
          obtain ⟨b1, b2⟩ := bits8 m (by omega) s hs hin
          obtain ⟨_, ⟨nl, rfl⟩, hrec⟩ := postsR_ok (nM := nM) (nT := nT) hok d (so ++ [(m : Int)]) (s + 2 ^ m) (by simp; omega) b1 (fun i hi => by
            rw [b2 i (by omega)]
            simp only [Bool.or_eq_true, decide_eq_true_eq, List.mem_append, List.mem_singleton]
            have := hb i hi
            constructor
            · rintro (h | h)
              · exact .inr (by omega)
              · exact .inl (this.1 h)
            · rintro (h | h)
              · exact .inr (this.2 h)
              · exact .inl (by omega))
          have hsh := abin_shl1 m (by omega)
          have hbs := spec_bd hok (d := d) (so := so ++ [(m : Int)]) (by simp; omega)
          have hp : (2 : Nat) ^ m ≤ 2 ^ 8 := Nat.pow_le_pow_right (by decide) (by omega)
          rw [List.length_append, List.length_singleton] at hrec
          have e1 : ((so.length + 1 : Nat) : Int) = (so.length : Int) + 1 := rfl
          have e2 : ((s + 2 ^ m : Nat) : Int) = (s : Int) + ((2 ^ m : Nat) : Int) := rfl
          rw [e1, e2] at hrec
          generalize specP M T d (so ++ [(m : Int)]) = r at *
          have hp0 : (0 : Int) ≤ ((2 ^ m : Nat) : Int) := Int.natCast_nonneg _
          have hwrap : w64 ((s : Int) + ((2 ^ m : Nat) : Int)) = (s : Int) + ((2 ^ m : Nat) : Int) := w64_id _ (by omega) (by omega)
          generalize hF : specTo M T d so m = F at *
          have hwg : 0 ≤ (nth M m).wg ∧ (nth M m).wg ≤ 10000 := hmn.2
          have hw2 : w64 (r.wages + (nth M m).wg) = r.wages + (nth M m).wg := w64_id _ (by omega) (by omega)
          have hlit : Whole 0 1 (AV.int .i64) (σ.push (.cells [.int .i64 (m : Int)])) (.slice (some (σ.next, 0)) 1 (.ex 1)) [(m : Int)] := ⟨σ.next, .ex 1, rfl, Nat.zero_le _, by rw [AH.get_push_new]; rfl, .inr rfl⟩
          by_cases hbet : r.found = true ∧ (F.found = false ∨ r.wages + (nth M m).wg < F.wages)
          · have hst : stepS M r F m = ⟨true, r.wages + (nth M m).wg, (m : Int) :: r.best⟩ := if_pos hbet
            rw [hst] at hstep
            have fin : ∀ (v' : AV) (σ' : AH), Whole 0 1 (AV.int .i64) σ' v' ([(m : Int)] ++ r.best) → σ'.lim = 0 → ∃ j, j < k ∧ ∃ m_1, m_1 + j = M.length ∧ ∃ x, (v' = x ∧ r.wages + (nth M m).wg = (specTo M T d so m_1).wages ∧ (specTo M T d so m_1).found = true ∧ (m : Int) + 1 = m_1) ∧ σ'.lim = 0 ∧ SlO 0 σ' x (specTo M T d so m_1).best := fun v' σ' hw hl => by
              refine ⟨k - 1, by omega, m + 1, by omega, v', ⟨rfl, by rw [hstep], by rw [hstep], by omega⟩, hl, ?_⟩
              rw [hstep]
              exact .inr hw
            cases hf : F.found with
            | false =>
              simp (disch := omega) [Und, hl0, hml, hsl, h1, h2, hsh, hwrap, hrec, hw2, hbet.1, hf, -Bool.exists_bool, -Int.natCast_pow]
              refine hlit.appV encI (Nat.le_of_eq hl0) (Nat.zero_le _) (by simp only [topBytes, List.length_singleton]; omega) fun v' σ' hw hg => ?_
              have hgl : σ'.lim = 0 := hg.lim.trans hl0
              simp (disch := omega) [-Bool.exists_bool]
              exact fin v' σ' hw hgl
            | true =>
              have hlt : r.wages + (nth M m).wg < F.wages := by
                rcases hbet.2 with h | h
                · rw [hf] at h; cases h
                · exact h
              simp (disch := omega) [Und, hl0, hml, hsl, h1, h2, hsh, hwrap, hrec, hw2, hbet.1, hf, hlt, -Bool.exists_bool, -Int.natCast_pow]
              refine hlit.appV encI (Nat.le_of_eq hl0) (Nat.zero_le _) (by simp only [topBytes, List.length_singleton]; omega) fun v' σ' hw hg => ?_
              have hgl : σ'.lim = 0 := hg.lim.trans hl0
              simp (disch := omega) [-Bool.exists_bool]
              exact fin v' σ' hw hgl
          · have hst : stepS M r F m = F := if_neg hbet
            rw [hst] at hstep
            cases hrf : r.found with
            | false =>
              simp (disch := omega) [Und, hl0, hml, hsl, h1, h2, hsh, hwrap, hrec, hw2, hrf, -Bool.exists_bool, -Int.natCast_pow]
              exact ⟨k - 1, by omega, m + 1, by omega, v, ⟨rfl, by rw [hstep], by rw [hstep], by omega⟩, by rw [hstep]; exact hv⟩
            | true =>
              have hf : F.found = true := by
                cases h : F.found with
                | true => rfl
                | false => exact absurd ⟨hrf, .inl h⟩ hbet
              have hlt : ¬ r.wages + (nth M m).wg < F.wages := fun h => hbet ⟨hrf, .inr h⟩
              simp (disch := omega) [Und, hl0, hml, hsl, h1, h2, hsh, hwrap, hrec, hw2, hrf, hf, hlt, -Bool.exists_bool, -Int.natCast_pow]
              exact ⟨k - 1, by omega, m + 1, by omega, v, ⟨rfl, by rw [hstep], by rw [hstep]; exact hf, by omega⟩, by rw [hstep]; exact hv⟩
    · obtain rfl : m = M.length := by omega
      simp (disch := omega) [Und, hl0, -Bool.exists_bool]
      obtain ⟨nl, hf⟩ := hv.fz 5
      exact ⟨⟨nl, hf⟩, rfl, rfl⟩
def postE (M : List Mn) (T : List Int) : Int := if okTk M T then (if (specP M T T.length []).found then 0 else 4) else 105
def postW (M : List Mn) (T : List Int) : Int := if okTk M T then (specP M T T.length []).wages else 0
def postL (M : List Mn) (T : List Int) : List Int := if okTk M T then (specP M T T.length []).best else []
theorem Posts_ok (nM nT : Bool) (M : List Mn) (T : List Int) (hM : M.length < 2 ^ 62) (hT : T.length < 2 ^ 62) :
    ∃ v, (∃ nl, v = .tuple [vs nl (postL M T), .int .i64 (postW M T), .int .i64 (postE M T)]) ∧ ans prog O 22 [vl eMn nM M, vs nT T] = some v := by
  have h1 := areTasks_ok nM nT M T hM hT
  refine fn_ex pl _ get22 (oo (by decide)) rfl rfl ?_
  unfold postE postW postL
  by_cases hok : okTk M T
  · obtain ⟨_, ⟨nl, rfl⟩, h2⟩ := posts_ok (nM := nM) (nT := nT) hok
    have hb := (spec_best M T T.length [] (by simp)).2.2
    rw [decide_eq_true hok] at h1
    rw [if_pos hok, if_pos hok, if_pos hok]
    generalize specP M T T.length [] = r at *
    cases hf : r.found with
    | true =>
      simp (disch := omega) [h1, h2, hf, -Bool.exists_bool]
      exact ⟨nl, rfl⟩
    | false =>
      obtain ⟨b1, b2⟩ := hb hf
      simp (disch := omega) [h1, h2, hf, b1, b2, -Bool.exists_bool]
      exact ⟨true, rfl⟩
  · rw [decide_eq_false hok] at h1
    rw [if_neg hok, if_neg hok, if_neg hok]
    simp (disch := omega) [h1, -Bool.exists_bool]
    exact ⟨true, rfl⟩
theorem PostsR_ok (nM nT : Bool) (M : List Mn) (T : List Int) (hM : M.length < 2 ^ 62) (hT : T.length < 2 ^ 62) :
    ∃ v, (∃ nl, v = .tuple [vs nl (postL M T), .int .i64 (postW M T), .int .i64 (postE M T)]) ∧ ans prog O 23 [vl eMn nM M, vs nT T] = some v := by
  have h1 := tasked_ok nM nT M T hM hT
  refine fn_ex pl _ get23 (oo (by decide)) rfl rfl ?_
  unfold postE postW postL
  by_cases hok : okTk M T
  · obtain ⟨_, ⟨nl, rfl⟩, h2⟩ := postsR_ok (nM := nM) (nT := nT) hok T.length [] 0 (by simp) (by omega) (fun i _ => by simp [bitAt])
    have hb := (spec_best M T T.length [] (by simp)).2.2
    rw [if_pos hok] at h1
    rw [if_pos hok, if_pos hok, if_pos hok]
    have h3 : ans prog O 76 [vl eMn nM M, vs nT T, .int .i64 0, .int .i64 0] = _ := h2
    generalize specP M T T.length [] = r at *
    cases hf : r.found with
    | true =>
      simp (disch := omega) [h1, h3, hf, -Bool.exists_bool]
      exact ⟨nl, rfl⟩
    | false =>
      obtain ⟨b1, b2⟩ := hb hf
      simp (disch := omega) [h1, h3, hf, b1, b2, -Bool.exists_bool]
      exact ⟨true, rfl⟩
  · rw [if_neg hok] at h1
    rw [if_neg hok, if_neg hok, if_neg hok]
    simp (disch := omega) [h1, -Bool.exists_bool]
    exact ⟨true, rfl⟩
end Go.Oct.Shop
