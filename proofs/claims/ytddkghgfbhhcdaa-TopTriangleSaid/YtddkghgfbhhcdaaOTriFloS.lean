/- Nets: the steps from a place, one after the other. -/
import Derived.Test.YtddkghgfbhhcdaaOTriFloN
set_option maxRecDepth 100000
set_option maxHeartbeats 4000000
set_option linter.unusedVariables false
set_option linter.unusedSimpArgs false
namespace Go.Oct.Tri
open Go.Oct
theorem under_self {σ : AH} {m : Nat} (h : σ.lim = m) : σ.under m = σ := by
  cases σ; simp at h; subst h; rfl
section
variable {T : Int} {nC : Bool} {C : List Bool} {aA : AV} {E : List Ed} {n i : Nat} {h L : List Int}
theorem steps1_ok (hE : okE E) {b1 b2 b3 l p lo lm : Nat} {b : Int} {I : Nat → AH → Prop} {J : AH → Prop}
    (hI : ∀ m σ, I m σ → NetR T nC C aA E n i h L σ ∧ σ.get b1 = some (.cells [.ptr (some (n, 0))]) ∧ σ.get b2 = some (.cells [.int .i64 b]) ∧ σ.get b3 = some (.cells [.int .i64 p]) ∧ lo ≤ σ.next ∧ b1 < lo ∧ b2 < lo ∧ b3 < lo ∧ σ.lim = lm ∧ lm ≤ lo)
    (hpush : ∀ m σ σ', I m σ → Only [] σ σ' → I m σ')
    (hskip : ∀ m σ, I m σ → m < E.length → (∀ q w, ¬ Stp E h b p q m w) → I (m + 1) σ)
    (hstep : ∀ m σ q w, I m σ → m < E.length → Stp E h b p q m w → Call prog O (.yield l) [.agg [.int .i64 m, .int .i64 q, .int .i64 w]] σ (fun r σ' => (r = .bool true ∧ I (m + 1) σ' ∧ Touch lo σ σ') ∨ (r = .bool false ∧ J σ')))
    {σ : AH} (h0 : I 0 σ) {K : AV → AH → Prop} (hk : ∀ σ', I E.length σ' → K (.tuple []) σ') (hj : ∀ σ', J σ' → K (.tuple []) σ') :
    Call prog O (.fn 149) [.func (.yield l) [] [], .ptr (some (b1, 0)), .ptr (some (b2, 0)), .ptr (some (b3, 0))] σ K := by
  refine @call_of' _ _ pl _ _ _ _ _ _ _ ⟨K⟩ get149 ((oo (by decide)).2 _) rfl ?_
  obtain ⟨hn, g1, g2, g3, hlo, l1, l2, l3, hlm, hml0⟩ := hI 0 σ h0
  have gn := hn.net
  simp (disch := omega) [g1, gn, netC_len, hn.ll, -Bool.exists_bool]
  refine lp_loop pl (fun k fr τ => ∃ m : Nat, m + k = E.length ∧ fr = ⟨[(0, .func (.yield l) [] []), (2, .ptr (some (b2, 0))), (3, .ptr (some (b3, 0))), (5, .func (.func 95) [] []), (6, .func (.func 94) [] []), (12, .slice (some (i, 0)) E.length (.op 5)), (13, .int .i64 E.length), (14, .int .i64 m)], []⟩ ∧ I m τ)
    ⟨E.length, 0, by omega, rfl, h0⟩ ?_
  rintro k _ τ ⟨m, hm, rfl, him⟩
  obtain ⟨hn, g1, g2, g3, hlo, l1, l2, l3, hlm, hml0⟩ := hI m τ him
  by_cases hml : m < E.length
  · have hhl := hn.bd.1
    have hm1 : lm ≤ τ.next := by omega
    have hm2 : lm ≤ τ.next + 1 := by omega
    have hlen := gRow_len E h hhl
    have hat := gRow_at E h m hhl hml
    have hbd := hn.bd.2 m hml
    obtain ⟨e1, e2, e3, e4, e5, e6⟩ := hE.2 m hml
    have ga := hn.ang
    have gl := AH.get_lt ga
    have hE24 := hE.1
    have k1 : ¬ b1 = τ.next := by omega
    have k2 : ¬ b2 = τ.next := by omega
    have k3 : ¬ b3 = τ.next := by omega
    have hmo := more_ok (nth E m).u (nth E m).v (nth h m) (nth E m).lo (nth E m).hi (by omega) (by omega) (by omega) (by omega)
    have hle := less_ok (nth E m).u (nth E m).v (nth h m) (nth E m).lo (nth E m).hi (by omega) (by omega) (by omega) (by omega)
    have hl5 : m * 5 + 5 ≤ E.length * 5 := by omega
    have honly : Only [] τ ((τ.push (AObj.cells [Oct.L.z 0, Oct.L.z 0, Oct.L.z 0, Oct.L.z 0, Oct.L.z 0])).set τ.next
      (AObj.cells [AV.int IntKind.i64 ↑(nth E m).u, AV.int IntKind.i64 ↑(nth E m).v, AV.int IntKind.i64 (nth h m), AV.int IntKind.i64 (nth E m).lo, AV.int IntKind.i64 (nth E m).hi])) :=
      ⟨rfl, Nat.le_succ _, fun j hj _ => by rw [AH.get_set_other _ _ _ _ (by omega), AH.get_push_old _ _ _ (by omega)]⟩
    have hi1 := hpush m τ _ him honly
    have nxt : ∀ σ', I (m + 1) σ' → ∃ j, j < k ∧ ∃ m_1 : Nat, m_1 + j = E.length ∧ (m : Int) + 1 = m_1 ∧ I m_1 σ' := fun σ' h => ⟨k - 1, by omega, m + 1, by omega, by omega, h⟩
    by_cases hb : (m : Int) = b
    · simp (disch := omega) [Und, hlm, hm1, hm2, ga, hml, hlen, hat, g2, g3, k2, k3, hl5, eq_true hb, -Bool.exists_bool]
      exact nxt _ (hskip m _ hi1 hml fun q w hs => hs.2.1 hb)
    · by_cases hu : (nth E m).u = p
      · have hv : ¬ ((nth E m).v : Int) = p := by omega
        have hu' : ((nth E m).u : Int) = p := by omega
        by_cases hp : nth h m < (nth E m).hi
        · simp (disch := omega) [Und, hlm, hm1, hm2, ga, hml, hlen, hat, g2, g3, k2, k3, hl5, hb, eq_true hu', hv, hmo, hp, -Bool.exists_bool]
          have hs : Stp E h b p (nth E m).v m ((nth E m).hi - nth h m) := ⟨hml, hb, by omega, .inl ⟨hu, rfl, rfl⟩⟩
          generalize hτ1 : AH.set (τ.push _) τ.next _ = τ1 at *
          have u0 : τ1.under lm = τ1 := under_self (by rw [← hτ1]; exact hlm)
          rw [u0]
          have y0 : τ1.get τ.next = some (.cells [AV.int IntKind.i64 ↑(nth E m).u, AV.int IntKind.i64 ↑(nth E m).v, AV.int IntKind.i64 (nth h m), AV.int IntKind.i64 (nth E m).lo, AV.int IntKind.i64 (nth E m).hi]) := by
            rw [← hτ1]; exact AH.get_set_same _ _ _ (Nat.lt_succ_self _)
          refine (hstep m τ1 _ _ hi1 hml hs).mono ?_
          rintro r σ' (⟨rfl, hi2, ht⟩ | ⟨rfl, hjj⟩)
          · obtain ⟨hn2, q1, q2, q3, qlo, _, _, _, z0, _⟩ := hI (m + 1) σ' hi2
            have y1 : σ'.get τ.next = _ := (ht.get τ.next hlo (AH.get_lt y0)).trans y0
            simp (disch := omega) [Und, z0, y1, q3, hv, -Bool.exists_bool]
            exact nxt _ hi2
          · simp (disch := omega) [Und, -Bool.exists_bool]
            exact hj _ hjj
        · have hp2 : (nth E m).hi ≤ nth h m := by omega
          simp (disch := omega) [Und, hlm, hm1, hm2, ga, hml, hlen, hat, g2, g3, k2, k3, hl5, hb, eq_true hu', hv, hmo, hp, hp2, -Bool.exists_bool]
          refine nxt _ (hskip m _ hi1 hml fun q w hs => ?_)
          obtain ⟨_, _, s3, s4⟩ := hs
          omega
      · have hu' : ¬ ((nth E m).u : Int) = p := by omega
        by_cases hv : (nth E m).v = p
        · have hv' : ((nth E m).v : Int) = p := by omega
          by_cases hp : (nth E m).lo < nth h m
          · simp (disch := omega) [Und, hlm, hm1, hm2, ga, hml, hlen, hat, g2, g3, k2, k3, hl5, hb, hu', eq_true hv', hle, hp, -Bool.exists_bool]
            have hs : Stp E h b p (nth E m).u m (nth h m - (nth E m).lo) := ⟨hml, hb, by omega, .inr ⟨hv, rfl, rfl⟩⟩
            generalize hτ1 : AH.set (τ.push _) τ.next _ = τ1 at *
            have u0 : τ1.under lm = τ1 := under_self (by rw [← hτ1]; exact hlm)
            rw [u0]
            refine (hstep m τ1 _ _ hi1 hml hs).mono ?_
            rintro r σ' (⟨rfl, hi2, ht⟩ | ⟨rfl, hjj⟩)
            · simp (disch := omega) [Und, -Bool.exists_bool]
              exact nxt _ hi2
            · simp (disch := omega) [Und, -Bool.exists_bool]
              exact hj _ hjj
          · have hp2 : nth h m ≤ (nth E m).lo := by omega
            simp (disch := omega) [Und, hlm, hm1, hm2, ga, hml, hlen, hat, g2, g3, k2, k3, hl5, hb, hu', eq_true hv', hle, hp, hp2, -Bool.exists_bool]
            refine nxt _ (hskip m _ hi1 hml fun q w hs => ?_)
            obtain ⟨_, _, s3, s4⟩ := hs
            omega
        · have hv' : ¬ ((nth E m).v : Int) = p := by omega
          simp (disch := omega) [Und, hlm, hm1, hm2, ga, hml, hlen, hat, g2, g3, k2, k3, hl5, hb, hu', hv', -Bool.exists_bool]
          refine nxt _ (hskip m _ hi1 hml fun q w hs => ?_)
          obtain ⟨_, _, s3, s4⟩ := hs
          omega
  · obtain rfl : m = E.length := by omega
    simp (disch := omega) [Und, -Bool.exists_bool]
    exact hk τ him
end
end Go.Oct.Tri
