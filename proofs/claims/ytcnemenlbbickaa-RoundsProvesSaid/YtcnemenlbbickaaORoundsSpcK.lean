/- The specification's Check. -/
import Derived.Test.YtcnemenlbbickaaORoundsSpcB
set_option maxRecDepth 100000
set_option maxHeartbeats 8000000
set_option linter.unusedVariables false
set_option linter.unusedSimpArgs false
namespace Go.Oct.Rounds
open Go.Oct
/-- A number with one bit more, as another one. -/
theorem or_add {m p : Nat} (h : ¬ m / 2 ^ p % 2 = 1) : m + 2 ^ p = m ||| 2 ^ p := by
  apply Nat.eq_of_testBit_eq
  intro k
  rw [Nat.testBit_or, Nat.testBit_two_pow]
  have hb : m.testBit p = false := by rw [Nat.testBit_eq_decide_div_mod_eq]; exact decide_eq_false h
  have hpos : 0 < 2 ^ p := Nat.pow_pos (by decide)
  rcases Nat.lt_trichotomy k p with e | e | e
  · rw [Nat.testBit_eq_decide_div_mod_eq, Nat.testBit_eq_decide_div_mod_eq, bit_add_lo m e]
    have : ¬ p = k := by omega
    simp [this]
  · subst e
    rw [Nat.testBit_eq_decide_div_mod_eq, Nat.add_div_right _ hpos, hb]
    simp; omega
  · have h1 : ¬ p = k := by omega
    have e1 : 2 ^ k = 2 ^ (p + 1) * 2 ^ (k - p - 1) := by rw [← Nat.pow_add]; congr 1; omega
    have e2 : 2 ^ (p + 1) = 2 ^ p * 2 := Nat.pow_succ 2 p
    have e3 : (m + 2 ^ p) / 2 ^ (p + 1) = m / 2 ^ (p + 1) := by
      rw [e2, ← Nat.div_div_eq_div_mul, ← Nat.div_div_eq_div_mul, Nat.add_div_right _ hpos]; omega
    rw [Nat.testBit_eq_decide_div_mod_eq, Nat.testBit_eq_decide_div_mod_eq, e1, ← Nat.div_div_eq_div_mul, e3, Nat.div_div_eq_div_mul]
    simp [h1]
theorem add_lt {m p : Nat} (hm : m < 2 ^ 8) (hp : p < 8) (h : ¬ m / 2 ^ p % 2 = 1) : m + 2 ^ p < 2 ^ 8 := by
  rw [or_add h]
  exact Nat.or_lt_two_pow hm (Nat.pow_lt_pow_right (by decide) hp)
theorem bit_add (m p k : Nat) (h : ¬ m / 2 ^ p % 2 = 1) : ((m + 2 ^ p) / 2 ^ k % 2 = 1 ↔ k = p ∨ m / 2 ^ k % 2 = 1) := by
  have bt : ∀ m k : Nat, (m / 2 ^ k % 2 = 1) ↔ m.testBit k = true := fun m k => by
    rw [Nat.testBit_eq_decide_div_mod_eq]; simp
  rw [bt, bt, or_add h, Nat.testBit_or, Nat.testBit_two_pow]
  by_cases e : p = k
  · subst e; simp
  · have e' : ¬ k = p := fun h => e h.symm
    simp [e, e']
/-- What is known of the first angles, looked at for one triangle. -/
structure ChI (N m : Nat) (A : List An) (t : Int) (i : Nat) (many : Nat) (s : Nat) : Prop where
  ok : ∀ j, j < i → okAn N m (nth A j)
  many : many = cntT (A.take i) t
  lt : s < 2 ^ 8
  bit : ∀ k : Nat, k < 8 → (s / 2 ^ k % 2 = 1 ↔ ∃ j, j < i ∧ (nth A j).t = t ∧ (nth A j).s = (k : Int))
  dup : ∀ j, j < i → ∀ l, l < j → ¬ ((nth A l).t = t ∧ (nth A j).t = t ∧ (nth A l).s = (nth A j).s)
/-- What one triangle must be. -/
def triOK (N m : Nat) (A : List An) (t : Int) : Prop := (∀ j, j < A.length → okAn N m (nth A j)) ∧ cntT A t = 3 ∧ ∀ j, j < A.length → ∀ l, l < j → ¬ ((nth A l).t = t ∧ (nth A j).t = t ∧ (nth A l).s = (nth A j).s)
theorem tri_okNet {N : Nat} {C : List Bool} {A : List An} (h1 : 1 ≤ (N : Int) ∧ (N : Int) ≤ 8) (h2 : 1 ≤ C.length ∧ C.length ≤ 8) (h3 : (A.length : Int) = 3 * N) (h : ∀ t, t < N → triOK N C.length A (t : Nat)) : okNet N C A := by
  have h0 := h 0 (by omega)
  refine ⟨h1, h2, h3, h0.1, fun i hi j hj hh => ?_, fun t ht => (h t (by simpa using ht)).2.1⟩
  have hi' := (h0.1 i hi).1
  have := (h (nth A i).t.toNat (by omega)).2.2 i hi j hj
  refine this ⟨by omega, by omega, hh.2⟩
theorem okNet_tri {N : Nat} {C : List Bool} {A : List An} (h : okNet N C A) {t : Nat} (ht : t < N) : triOK N C.length A (t : Nat) :=
  ⟨h.2.2.2.1, h.2.2.2.2.2 t (by simpa using ht), fun j hj l hl hh => h.2.2.2.2.1 j hj l hl ⟨by omega, hh.2.2⟩⟩
theorem sCheck_ok (T : Int) (nC : Bool) (C : List Bool) (nA : Bool) (A : List An) (hC : C.length < 2 ^ 62) (hA : A.length < 2 ^ 62) : ans prog O 40 [eNet T nC C nA A] = some (.int .i64 (if okNet T C A then 0 else 60)) := by
  refine fn_of' pl get40 (oo (by decide)) rfl rfl ?_
  have bad : ∀ (b : Bool), b = true → True := fun _ _ => trivial
  by_cases c1 : 1 ≤ T ∧ T ≤ 8
  · have hw : w64 (3 * T) = 3 * T := w64_id _ (by omega) (by omega)
    by_cases c23 : (1 ≤ (C.length : Int) ∧ (C.length : Int) ≤ 8) ∧ (A.length : Int) = 3 * T
    · obtain ⟨c2, c3⟩ := c23
      obtain ⟨N, rfl⟩ : ∃ N : Nat, T = N := ⟨T.toNat, by omega⟩
      simp (disch := omega) [eNet, Und, c1, c2, eq_true c3, hw, -Bool.exists_bool]
      refine lp_loop pl (fun q fr σ => ∃ (t : Nat) (ok : Bool), t + q = N ∧ fr = ⟨[(1, .ptr (some (0, 0))), (3, .bool ok), (4, .int .i64 t)], []⟩ ∧ σ.lim = 0 ∧ 1 ≤ σ.next ∧ σ.get 0 = some (.cells [.int .i64 N, vl AV.bool nC C, vl eAn nA A]) ∧
          ((ok = true ∧ ∀ u, u < t → triOK N C.length A (u : Nat)) ∨ (ok = false ∧ ¬ okNet N C A)))
        ⟨N, 0, true, by omega, rfl, rfl, by simp, by simp, .inl ⟨rfl, fun u hu => by omega⟩⟩ ?_
      rintro q _ σ ⟨t, ok, ht, rfl, s0, sn, sg, hst⟩
      have l0 := AH.get_lt sg
      rcases hst with ⟨rfl, htri⟩ | ⟨rfl, hno⟩
      · by_cases htN : t < N
        · have htN' : (t : Int) < N := by omega
          simp (disch := omega) [Und, s0, sg, l0, htN', -Bool.exists_bool]
          refine lp_loop pl (fun q fr σ => ∃ (i many s : Nat) (ok : Bool), i + q = A.length ∧ fr = ⟨[(1, .ptr (some (0, 0))), (3, .bool ok), (4, .int .i64 t), (5, .int .i64 many), (6, .int .i64 (s : Int)), (7, .int .i64 i)], []⟩ ∧ σ.lim = 0 ∧ 1 ≤ σ.next ∧ σ.get 0 = some (.cells [.int .i64 N, vl AV.bool nC C, vl eAn nA A]) ∧
              ((ok = true ∧ ChI N C.length A t i many s) ∨ (ok = false ∧ ¬ okNet N C A)))
            ⟨A.length, 0, 0, 0, true, by omega, rfl, s0, sn, sg, .inl ⟨rfl, ⟨fun j hj => by omega, rfl, by decide, fun k _ => by simp, fun j hj => by omega⟩⟩⟩ ?_
          rintro q2 _ σ2 ⟨i, many, s, ok, hi, rfl, u0, un, ug, hst2⟩
          have l0 := AH.get_lt ug
          have q0 : ¬ 0 = σ2.next := by omega
          rcases hst2 with ⟨rfl, hI⟩ | ⟨rfl, hno⟩
          · by_cases hiA : i < A.length
            · have hiA' : (i : Int) < A.length := by omega
              by_cases hok : okAn N C.length (nth A i)
              · obtain ⟨b1, b2, b3, b4, b5⟩ := id hok
                have d1 : 0 ≤ (nth A i).t ∧ (nth A i).t ≤ (N : Int) - 1 := by omega
                have d2 : 0 ≤ (nth A i).s ∧ (nth A i).s ≤ (C.length : Int) - 1 := by omega
                have d3 : 0 ≤ (nth A i).lo ∧ (nth A i).lo ≤ (nth A i).hi ∧ (nth A i).hi ≤ 648000 := ⟨b3, b4, b5⟩
                have hcnt := cntT_app (A.take i) (nth A i) t
                rw [← take_succ_nth hiA] at hcnt
                have hm24 : many ≤ 24 := by
                  rw [hI.many]
                  have h1 : cntT (A.take i) t ≤ (A.take i).length := List.length_filter_le _ _
                  rw [List.length_take] at h1; omega
                have hok' : ∀ j, j < i + 1 → okAn N C.length (nth A j) := fun j hj => by
                  by_cases e : j = i
                  · rw [e]; exact hok
                  · exact hI.ok j (by omega)
                by_cases e : (nth A i).t = t
                · rw [if_pos e] at hcnt
                  obtain ⟨p, hp⟩ : ∃ p : Nat, (nth A i).s = p := ⟨(nth A i).s.toNat, by omega⟩
                  have hb := Bit_ok s p (by omega)
                  have hsh := abin_shl1 p (by omega)
                  rw [← hp] at hb hsh
                  obtain ⟨pw, hpw⟩ : ∃ pw : Nat, pw = 2 ^ p := ⟨_, rfl⟩
                  have hpw8 : pw ≤ 2 ^ 7 := by rw [hpw]; exact Nat.pow_le_pow_right (by decide) (by omega)
                  rw [← hpw] at hsh
                  have hs8 := hI.lt
                  by_cases hbit : s / 2 ^ p % 2 = 1
                  · rw [decide_eq_true hbit] at hb
                    have hno : ¬ okNet N C A := fun h => by
                      obtain ⟨j, j1, j2, j3⟩ := (hI.bit p (by omega)).1 hbit
                      exact h.2.2.2.2.1 i hiA j j1 ⟨by omega, by omega⟩
                    simp (disch := omega) [Und, eqf1, eqf2, u0, ug, l0, q0, hiA', d1, d2, d3, eq_true e, hb, hsh, -Bool.exists_bool]
                    exact ⟨q2 - 1, by omega, i + 1, by omega, many + 1, s + pw, false, ⟨rfl, by omega, by omega, by omega⟩, .inr ⟨rfl, hno⟩⟩
                  · rw [decide_eq_false hbit] at hb
                    simp (disch := omega) [Und, eqf1, eqf2, u0, ug, l0, q0, hiA', d1, d2, d3, eq_true e, hb, hsh, -Bool.exists_bool]
                    refine ⟨q2 - 1, by omega, i + 1, by omega, many + 1, s + pw, true, ⟨rfl, by omega, by omega, by omega⟩, .inl ⟨rfl, hok', by rw [hI.many, hcnt], ?_, fun k hk => ?_, fun j hj l hl => ?_⟩⟩
                    · rw [hpw]; exact add_lt hs8 (by omega) hbit
                    · rw [hpw, bit_add _ p k hbit, hI.bit k hk]
                      constructor
                      · rintro (rfl | ⟨j, j1, j2⟩)
                        · exact ⟨i, by omega, e, hp⟩
                        · exact ⟨j, by omega, j2⟩
                      · rintro ⟨j, j1, j2, j3⟩
                        by_cases ej : j = i
                        · rw [ej, hp] at j3; left; omega
                        · exact .inr ⟨j, by omega, j2, j3⟩
                    · by_cases ej : j = i
                      · rw [ej]
                        exact fun h => hbit ((hI.bit p (by omega)).2 ⟨l, by omega, h.1, by rw [h.2.2, hp]⟩)
                      · exact hI.dup j (by omega) l hl
                · rw [if_neg e] at hcnt
                  simp (disch := omega) [Und, eqf1, eqf2, u0, ug, l0, q0, hiA', d1, d2, d3, e, -Bool.exists_bool]
                  refine ⟨q2 - 1, by omega, i + 1, by omega, many, s, true, ⟨rfl, rfl, rfl, by omega⟩, .inl ⟨rfl, hok', by rw [hI.many, hcnt]; rfl, hI.lt, fun k hk => ?_, fun j hj l hl => ?_⟩⟩
                  · rw [hI.bit k hk]
                    constructor
                    · rintro ⟨j, j1, j2⟩; exact ⟨j, by omega, j2⟩
                    · rintro ⟨j, j1, j2, j3⟩
                      by_cases ej : j = i
                      · rw [ej] at j2; exact absurd j2 e
                      · exact ⟨j, by omega, j2, j3⟩
                  · by_cases ej : j = i
                    · rw [ej]; exact fun h => e h.2.1
                    · exact hI.dup j (by omega) l hl
              · have hno : ¬ okNet N C A := fun h => hok (h.2.2.2.1 i hiA)
                by_cases d1 : 0 ≤ (nth A i).t ∧ (nth A i).t ≤ (N : Int) - 1
                · by_cases d2 : 0 ≤ (nth A i).s ∧ (nth A i).s ≤ (C.length : Int) - 1
                  · have d3 : ¬ (0 ≤ (nth A i).lo ∧ (nth A i).lo ≤ (nth A i).hi ∧ (nth A i).hi ≤ 648000) := fun h => hok ⟨by omega, by omega, h⟩
                    simp (disch := omega) [Und, eqf1, eqf2, u0, ug, l0, q0, hiA', d1, d2, eq_false d3, -Bool.exists_bool]
                    exact ⟨q2 - 1, by omega, i + 1, by omega, many, s, false, ⟨rfl, rfl, rfl, by omega⟩, .inr ⟨rfl, hno⟩⟩
                  · simp (disch := omega) [Und, eqf1, eqf2, u0, ug, l0, q0, hiA', d1, eq_false d2, -Bool.exists_bool]
                    exact ⟨q2 - 1, by omega, i + 1, by omega, many, s, false, ⟨rfl, rfl, rfl, by omega⟩, .inr ⟨rfl, hno⟩⟩
                · simp (disch := omega) [Und, eqf1, eqf2, u0, ug, l0, q0, hiA', eq_false d1, -Bool.exists_bool]
                  exact ⟨q2 - 1, by omega, i + 1, by omega, many, s, false, ⟨rfl, rfl, rfl, by omega⟩, .inr ⟨rfl, hno⟩⟩
            · obtain rfl : i = A.length := by omega
              have hmany := hI.many
              rw [List.take_length] at hmany
              by_cases e3 : many = 3
              · have e3' : (many : Int) = 3 := by omega
                simp (disch := omega) [Und, eqf1, eqf2, u0, ug, l0, eq_true e3', -Bool.exists_bool]
                refine ⟨q - 1, by omega, t + 1, by omega, true, ⟨rfl, by omega⟩, un, .inl ⟨rfl, fun u hu => ?_⟩⟩
                by_cases eu : u = t
                · rw [eu]; exact ⟨hI.ok, by omega, hI.dup⟩
                · exact htri u (by omega)
              · have e3' : ¬ (many : Int) = 3 := by omega
                simp (disch := omega) [Und, eqf1, eqf2, u0, ug, l0, e3', -Bool.exists_bool]
                exact ⟨q - 1, by omega, t + 1, by omega, false, ⟨rfl, by omega⟩, un, .inr ⟨rfl, fun h => by have := (okNet_tri h htN).2.1; omega⟩⟩
          · simp (disch := omega) [Und, eqf1, eqf2, u0, ug, l0, -Bool.exists_bool]
            exact ⟨q - 1, by omega, t + 1, by omega, false, ⟨rfl, by omega⟩, un, .inr ⟨rfl, hno⟩⟩
        · obtain rfl : t = N := by omega
          have hok : okNet t C A := tri_okNet c1 (by omega) c3 htri
          simp (disch := omega) [Und, s0, sg, l0, hok, -Bool.exists_bool]
      · simp (disch := omega) [Und, s0, sg, l0, hno, -Bool.exists_bool]
    · have hno : ¬ okNet T C A := fun h => c23 ⟨by have := h.2.1; omega, h.2.2.1⟩
      by_cases c2 : 1 ≤ (C.length : Int) ∧ (C.length : Int) ≤ 8
      · have c3 : ¬ (A.length : Int) = 3 * T := fun h => c23 ⟨c2, h⟩
        simp (disch := omega) [eNet, Und, c1, c2, eq_false c3, hw, -Bool.exists_bool]
        refine lp_loop pl (fun q fr σ => fr = ⟨[(1, .ptr (some (0, 0))), (3, .bool false), (4, .int .i64 0)], []⟩ ∧ σ.lim = 0) ⟨0, rfl, rfl⟩ ?_
        rintro q _ σ ⟨rfl, s0⟩
        simp (disch := omega) [Und, s0, hno, -Bool.exists_bool]
      · simp (disch := omega) [eNet, Und, c1, eq_false c2, hw, -Bool.exists_bool]
        refine lp_loop pl (fun q fr σ => fr = ⟨[(1, .ptr (some (0, 0))), (3, .bool false), (4, .int .i64 0)], []⟩ ∧ σ.lim = 0) ⟨0, rfl, rfl⟩ ?_
        rintro q _ σ ⟨rfl, s0⟩
        simp (disch := omega) [Und, s0, hno, -Bool.exists_bool]
  · have hno : ¬ okNet T C A := fun h => c1 h.1
    simp (disch := omega) [eNet, Und, eq_false c1, -Bool.exists_bool]
    refine lp_loop pl (fun q fr σ => fr = ⟨[(1, .ptr (some (0, 0))), (3, .bool false), (4, .int .i64 0)], []⟩ ∧ σ.lim = 0) ⟨0, rfl, rfl⟩ ?_
    rintro q _ σ ⟨rfl, s0⟩
    simp (disch := omega) [Und, s0, hno, -Bool.exists_bool]
end Go.Oct.Rounds
