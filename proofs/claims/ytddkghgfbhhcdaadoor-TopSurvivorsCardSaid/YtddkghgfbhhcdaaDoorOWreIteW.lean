/- Logs: all points of a sea, and all that a run leads to, one after the other. -/
import Derived.Test.YtddkghgfbhhcdaaDoorOWreSeaR
import Derived.Test.YtddkghgfbhhcdaaDoorOT4
set_option maxRecDepth 100000
set_option maxHeartbeats 4000000
set_option linter.unusedVariables false
set_option linter.unusedSimpArgs false
namespace Go.Oct.Wre.Fx
open Go.Oct
def RdAt (σ : AH) (v : AV) (n : Nat) (b : Bool) : Prop :=
  (∃ cs, v = .vptr cs 0 ∧ cs.length = 3600 ∧ cs[n]? = some (.bool b)) ∨ ∃ o cs, v = .ptr (some (o, 0)) ∧ σ.get o = some (.cells cs) ∧ cs.length = 3600 ∧ cs[n]? = some (.bool b)
theorem skips {f : Nat → Bool} {I : Nat → AH → Prop} (hskip : ∀ n σ, I n σ → n < 3600 → f n = false → I (n + 1) σ) {σ : AH} : ∀ {d a : Nat}, a + d ≤ 3600 → I a σ → (∀ n, a ≤ n → n < a + d → f n = false) → I (a + d) σ
  | 0, a, _, h, _ => h
  | d + 1, a, hd, h, hf => by
    have := skips hskip (d := d) (a := a + 1) (by omega) (hskip a σ h (by omega) (hf a (by omega) (by omega))) fun n h1 h2 => hf n (by omega) (by omega)
    rwa [show a + 1 + d = a + (d + 1) by omega] at this
theorem points_ok {l : Nat} {v : AV} {f : Nat → Bool} {lm : Nat} {I : Nat → AH → Prop} {J : AH → Prop}
    (hI : ∀ n σ, I n σ → n < 3600 → RdAt σ v n (f n))
    (hlm : ∀ n σ, I n σ → σ.lim = lm)
    (hskip : ∀ n σ, I n σ → n < 3600 → f n = false → I (n + 1) σ)
    (hstep : ∀ n σ, I n σ → n < 3600 → f n = true → Call prog O (.yield l) [.agg [.int .i64 ((n / 60 : Nat) : Int), .int .i64 ((n % 60 : Nat) : Int)]] σ (fun r σ' => (r = .bool true ∧ I (n + 1) σ') ∨ (r = .bool false ∧ J σ')))
    {σ : AH} (h0 : I 0 σ) {K : AV → AH → Prop} (hk : ∀ σ', I 3600 σ' → K (.tuple []) σ') (hj : ∀ σ', J σ' → K (.tuple []) σ') :
    Call prog O (.fn 81) [v, .func (.yield l) [] []] σ K := by
  refine @call_of' _ _ pl _ _ _ _ _ _ _ ⟨K⟩ get81 ((oo (by decide)).2 _) rfl ?_
  have hl := hlm 0 σ h0
  simp (disch := omega) [-Bool.exists_bool]
  refine lp_loop pl (fun k fr τ => ∃ e : Nat, e + k = 60 ∧ fr = ⟨[(0, v), (1, .func (.yield l) [] []), (6, .int .i64 e)], []⟩ ∧ I (60 * e) τ)
    ⟨60, 0, by omega, rfl, h0⟩ ?_
  rintro k _ τ ⟨e, he, rfl, hie⟩
  by_cases hel : e < 60
  · have hel' : (e : Int) < 60 := by omega
    have tl := hlm _ τ hie
    simp (disch := omega) [Und, hel', tl, -Bool.exists_bool]
    refine lp_loop pl (fun k fr τ => ∃ n : Nat, n + k = 60 ∧ fr = ⟨[(0, v), (1, .func (.yield l) [] []), (4, .int .i64 e), (6, .int .i64 e), (9, .int .i64 n)], []⟩ ∧ I (60 * e + n) τ)
      ⟨60, 0, by omega, rfl, hie⟩ ?_
    rintro k2 _ τ2 ⟨n, hn, rfl, hin⟩
    have tl2 := hlm _ τ2 hin
    by_cases hnl : n < 60
    · have hnl' : (n : Int) < 60 := by omega
      have hm : 60 * e + n < 3600 := by omega
      have hr := hI _ τ2 hin hm
      have nxt : ∀ σ', I (60 * e + n + 1) σ' → ∃ j, j < k2 ∧ ∃ n_1 : Nat, n_1 + j = 60 ∧ (n : Int) + 1 = n_1 ∧ I (60 * e + n_1) σ' := fun σ' h => ⟨k2 - 1, by omega, n + 1, by omega, by omega, h⟩
      have ix1 : e * 60 + n = 60 * e + n := by omega
      have ix2 : e * 60 + n < 3600 := by omega
      have ix3 : e * 60 + n + 1 ≤ 3600 := by omega
      have ix4 : e * 60 + 60 ≤ 3600 := by omega
      have hst := hstep _ τ2 hin hm
      have d1 : ((60 * e + n) / 60 : Nat) = e := by omega
      have d2 : ((60 * e + n) % 60 : Nat) = n := by omega
      rw [d1, d2] at hst
      rcases hr with ⟨cs, rfl, hc1, hc2⟩ | ⟨o, cs, rfl, hg, hc1, hc2⟩
      · rw [← ix1] at hc2
        cases hf : f (e * 60 + n)
        · rw [hf] at hc2
          rw [ix1] at hf
          simp (disch := omega) [Und, eqf1, eqf2, hel', hnl', tl2, hc1, hc2, ix2, ix3, ix4, -Bool.exists_bool, -getElem?_pos]
          exact nxt _ (hskip _ _ hin hm hf)
        · rw [hf] at hc2
          rw [ix1] at hf
          simp (disch := omega) [Und, eqf1, eqf2, hel', hnl', tl2, hc1, hc2, ix2, ix3, ix4, -Bool.exists_bool, -getElem?_pos]
          refine (hst hf).mono ?_
          rintro r σ' (⟨rfl, hi2⟩ | ⟨rfl, hjj⟩)
          · simp (disch := omega) [Und, -Bool.exists_bool]
            exact nxt _ hi2
          · simp (disch := omega) [Und, -Bool.exists_bool]
            exact hj _ hjj
      · rw [← ix1] at hc2
        have lo := AH.get_lt hg
        cases hf : f (e * 60 + n)
        · rw [hf] at hc2
          rw [ix1] at hf
          simp (disch := omega) [Und, eqf1, eqf2, hel', hnl', tl2, hg, lo, hc1, hc2, ix2, ix3, ix4, -Bool.exists_bool, -getElem?_pos]
          exact nxt _ (hskip _ _ hin hm hf)
        · rw [hf] at hc2
          rw [ix1] at hf
          simp (disch := omega) [Und, eqf1, eqf2, hel', hnl', tl2, hg, lo, hc1, hc2, ix2, ix3, ix4, -Bool.exists_bool, -getElem?_pos]
          refine (hst hf).mono ?_
          rintro r σ' (⟨rfl, hi2⟩ | ⟨rfl, hjj⟩)
          · simp (disch := omega) [Und, -Bool.exists_bool]
            exact nxt _ hi2
          · simp (disch := omega) [Und, -Bool.exists_bool]
            exact hj _ hjj
    · obtain rfl : n = 60 := by omega
      simp (disch := omega) [Und, tl2, -Bool.exists_bool]
      exact ⟨k - 1, by omega, e + 1, by omega, by omega, by rw [show 60 * (e + 1) = 60 * e + 60 by omega]; exact hin⟩
  · obtain rfl : e = 60 := by omega
    simp (disch := omega) [Und, -Bool.exists_bool]
    exact hk τ hie
end Go.Oct.Wre.Fx
