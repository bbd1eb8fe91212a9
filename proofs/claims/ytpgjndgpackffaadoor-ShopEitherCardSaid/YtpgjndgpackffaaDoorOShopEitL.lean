/- The law of the posts and of the tasks that lack. -/
import Derived.Test.YtpgjndgpackffaaDoorOShopEitW
set_option maxRecDepth 100000
set_option maxHeartbeats 1000000
set_option linter.unusedVariables false
set_option linter.unusedSimpArgs false
namespace Go.Oct.Shop
open Go.Oct
theorem place_at {xs : List Int} {k : Nat} (hk : k < xs.length) (h : ∀ j, j < k → nth xs j ≠ nth xs k) : place xs (nth xs k) = k := by
  have key : ∀ d m, m + d = k → pfrom xs (nth xs k) m = k := by
    intro d
    induction d with
    | zero =>
      intro m hm
      rw [pfrom_step (by omega), if_pos (by rw [show m = k by omega])]
      omega
    | succ d ih =>
      intro m hm
      rw [pfrom_step (by omega), if_neg (h m (by omega))]
      exact ih (m + 1) (by omega)
  exact key k 0 (by omega)
theorem ShopEither_ok (nM : Bool) (M : List Mn) (nT : Bool) (T : List Int) (nB : Bool) (B : List Int) (hM : M.length < 2 ^ 62) (hT : T.length < 2 ^ 62) (hB : B.length < 2 ^ 62) : ans prog O 12 [vl eMn nM M, vs nT T, vs nB B] = some (.bool true) := by
  obtain ⟨_, ⟨n1, rfl⟩, h1⟩ := Posts_ok nM nT M T hM hT
  have h3 := Lack_ok nM nT M T hM hT
  refine fn_of' pl get12 (oo (by decide)) rfl rfl ?_
  unfold postL postW postE at h1
  unfold lackL lackE at h3
  by_cases hok : okTk M T
  · have h8 := hok.1
    rw [if_pos hok, if_pos hok, if_pos hok] at h1
    rw [if_pos hok, if_pos hok] at h3
    have hei := either_ok M T
    obtain ⟨b1, b2, b3⟩ := spec_best M T T.length [] (by simp)
    have hbd := spec_bd hok (d := T.length) (so := []) (by simp)
    have hlb := lackF_len (M := M) (T := T) (2 ^ T.length)
    have hla : lackA M T = lackF M T (2 ^ T.length) := by unfold lackA; rfl
    rw [← hla] at hlb
    have hlo := lackA_ok (M := M) (T := T)
    have hlm := fun I => lackA_min (M := M) (T := T) (I := I)
    generalize specP M T T.length [] = r at *
    generalize lackA M T = A at *
    cases hf : r.found with
    | true =>
      rw [hf, if_pos rfl] at h1
      have hA : A = [] := hei.2 hf
      subst hA
      rw [if_pos rfl] at h3
      obtain ⟨c1, c2⟩ := b2 hf
      have cl := comp_len c1
      have cn := comp_nth c1
      simp only [List.length_nil, Nat.zero_add] at cl cn
      have hMT : 0 < M.length ∨ T.length = 0 := by
        by_cases h0 : T.length = 0
        · exact .inr h0
        · obtain ⟨n, n1, _⟩ := cn 0 (by omega)
          exact .inl (by omega)
      obtain ⟨_, ⟨w, b, rfl, hwb⟩, hh⟩ := hired_ok (nM := nM) (nT := nT) (nB := nB) hok hB hMT
      have hbw : b = true → r.wages ≤ w := fun hb => by
        obtain ⟨P, p1, p2⟩ := hwb hb
        rw [← p2]
        exact (b1 P p1).2
      have hI : ∀ i, i < r.best.length → ∃ n : Nat, n < M.length ∧ nth r.best i = n ∧ hasS (nth M n) (nth T i) = true ∧ place r.best (nth r.best i) = i := fun i hi => by
        obtain ⟨n, n1, n2, n3, _, n5⟩ := cn i hi
        exact ⟨n, n1, n2, n3, place_at hi fun j hj => by rw [n2]; exact n5 j hj⟩
      have hwt := wage_bd hok (so := r.best) (fun q hq => by obtain ⟨n, n1, n2, _⟩ := hI q hq; omega)
      have g1 : ¬ 8 < (M.length : Int) := by omega
      have g2 : ¬ 8 < (T.length : Int) := by omega
      by_cases hM0 : 0 < M.length
      rotate_left
      have hM0' : M = [] := List.length_eq_zero_iff.1 (by omega)
      have hT0 : T = [] := List.length_eq_zero_iff.1 (hMT.resolve_left hM0)
      subst hM0' hT0
      have hrb : r.best = [] := List.length_eq_zero_iff.1 (by simpa using cl)
      rw [hrb] at h1 c2
      have c3 : r.wages = 0 := c2
      rw [c3] at h1 hbw
      simp (disch := omega) [h1, h3, hh, -Bool.exists_bool]
      rotate_left
      have hM0' : M ≠ [] := fun h => by rw [h] at hM0; simp at hM0
      simp (disch := omega) [h1, h3, hh, g1, g2, hM0, hM0', -Bool.exists_bool]
      · refine lp_loop pl (fun k fr σ => ∃ i : Nat, i + k = r.best.length ∧ fr = ⟨[(0, vl eMn nM M), (1, vs nT T), (7, vs n1 r.best), (8, .int .i64 r.wages), (10, vs true []), (12, .int .i64 w), (13, .bool b), (14, .int .i64 (wage M (r.best.take i))), (15, .int .i64 i)], []⟩ ∧ σ.lim = 0) ⟨r.best.length, 0, by omega, by simp [wage], rfl⟩ ?_
        rintro k _ σ ⟨i, hi, rfl, hl0⟩
        by_cases hil : i < r.best.length
        · obtain ⟨n, q1, q2, q3, q4⟩ := hI i hil
          have htk := hok.2.2 i (by omega)
          have hmn := hok.2.1 n q1
          have hwg : 0 ≤ (nth M n).wg ∧ (nth M n).wg ≤ 10000 := hmn.2
          have hbit := bitM_ok (nth M n) (nth T i) hmn htk
          rw [q3] at hbit
          have hpl := Place_ok n1 r.best n (by omega)
          rw [q2] at q4
          rw [q4] at hpl
          have hw1 := hwt i (by omega)
          have hws : wage M (r.best.take (i + 1)) = wage M (r.best.take i) + (nth M n).wg := by rw [take_succ_nth hil, wage_app, q2, Int.toNat_natCast]
          have hiT : i < T.length := by omega
          simp (disch := omega) [Und, hl0, hil, hiT, q1, q2, hbit, hpl, -Bool.exists_bool]
          exact ⟨by omega, fun _ => ⟨k - 1, by omega, i + 1, by omega, hws.symm, by omega⟩⟩
        · obtain rfl : i = r.best.length := by omega
          rw [List.take_length, ← c2]
          cases b with
          | true =>
            have := hbw rfl
            simp (disch := omega) [Und, hl0, cl, this, -Bool.exists_bool]
          | false =>
            simp (disch := omega) [Und, hl0, cl, -Bool.exists_bool]
      · refine lp_loop pl (fun k fr σ => k = 0 ∧ fr = ⟨[(0, vl eMn nM []), (1, vs nT []), (7, vs n1 []), (8, .int .i64 0), (10, vs true []), (12, .int .i64 w), (13, .bool b), (14, .int .i64 0), (15, .int .i64 0)], []⟩ ∧ σ.lim = 0) ⟨0, rfl, rfl, rfl⟩ ?_
        rintro k _ σ ⟨rfl, rfl, hl0⟩
        cases b with
        | true =>
          have := hbw rfl
          simp (disch := omega) [Und, hl0, this, -Bool.exists_bool]
        | false =>
          simp (disch := omega) [Und, hl0, -Bool.exists_bool]
    | false =>
      rw [hf, if_neg (by simp)] at h1
      obtain ⟨d1, d2⟩ := b3 hf
      have hA : A ≠ [] := fun h => by rw [hei.1 h] at hf; cases hf
      rw [if_neg hA] at h3
      obtain ⟨a1, a2⟩ := hlo hA
      have hlk := lacks_ok (nM := nM) (nT := nT) (nI := A.isEmpty) hok a1 a2 (fun J hJ hl => by
        apply Classical.byContradiction
        intro hc
        have := (hlm J hJ (by omega)).2
        omega)
      have g1 : ¬ 8 < (M.length : Int) := by omega
      have g2 : ¬ 8 < (T.length : Int) := by omega
      have hri := asc_rises a1
      have hr := Rising_ok A.isEmpty A T.length (by omega) (by omega) (by omega)
      rw [decide_eq_true hri] at hr
      rw [d1, d2] at h1
      by_cases hMT : 0 < M.length ∨ T.length = 0
      · obtain ⟨_, ⟨w, b, rfl, hwb⟩, hh⟩ := hired_ok (nM := nM) (nT := nT) (nB := nB) hok hB hMT
        have hb : b = false := by
          cases b with
          | false => rfl
          | true =>
            obtain ⟨P, p1, _⟩ := hwb rfl
            rw [(b1 P p1).1] at hf; cases hf
        subst hb
        by_cases hM0 : 0 < M.length
        · simp (disch := omega) [h1, h3, hh, hr, hlk, hM0, g1, g2, -Bool.exists_bool]
          try omega
        · have hT0 := hMT.resolve_left hM0
          simp (disch := omega) [h1, h3, hh, hr, hlk, hM0, hT0, g1, g2, -Bool.exists_bool]
          try omega
      · have hM0 : ¬ 0 < M.length := fun h => hMT (.inl h)
        have hT0 : ¬ T.length = 0 := fun h => hMT (.inr h)
        simp (disch := omega) [h1, h3, hr, hlk, hM0, hT0, g1, g2, -Bool.exists_bool]
        try omega
  · rw [if_neg hok, if_neg hok, if_neg hok] at h1
    rw [if_neg hok, if_neg hok] at h3
    simp (disch := omega) [h1, h3, -Bool.exists_bool]
end Go.Oct.Shop
