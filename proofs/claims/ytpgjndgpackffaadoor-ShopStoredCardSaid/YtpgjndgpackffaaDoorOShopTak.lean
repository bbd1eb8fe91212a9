/- Whether a plan can begin on a day: what the statements' own function answers. -/
import Derived.Test.YtpgjndgpackffaaDoorOShopBeg2
set_option maxRecDepth 100000
set_option maxHeartbeats 8000000
set_option linter.unusedVariables false
set_option linter.unusedSimpArgs false
namespace Go.Oct.Shop
open Go.Oct
/-- How many lots have come by a day. -/
def nx (s : St) (u : Int) : Nat := cnt (fun i => decide ((nth s.L i).into ≤ u)) s.L.length
theorem nx_le (s : St) (u : Int) : nx s u ≤ s.L.length := cnt_le _ _
theorem nx_eq {s : St} {u : Int} {q : Nat} (hs : okSt s) (hq : q ≤ s.L.length) (h1 : ∀ i, i < q → (nth s.L i).into ≤ u) (h2 : q < s.L.length → u < (nth s.L q).into) : nx s u = q :=
  cnt_prefix hq (fun i hi => decide_eq_true (h1 i hi)) fun i hi hi2 => decide_eq_false fun hc => by
    have := (lot_mono hs (a := q) (b := i) hi hi2).2
    have := h2 (by omega)
    omega
theorem nx_ge {s : St} {u : Int} {k : Nat} (hs : okSt s) (hk : k ≤ s.L.length) : k ≤ nx s u ↔ (0 < k → dK s k ≤ u) := by
  have hex : ∃ q, q ≤ s.L.length ∧ (∀ i, i < q → (nth s.L i).into ≤ u) ∧ (q < s.L.length → u < (nth s.L q).into) := by
    have : ∀ n, n ≤ s.L.length → ∃ q, q ≤ n ∧ (∀ i, i < q → (nth s.L i).into ≤ u) ∧ (q < n → u < (nth s.L q).into) := by
      intro n
      induction n with
      | zero => intro _; exact ⟨0, by omega, fun i hi => by omega, fun h => by omega⟩
      | succ n ih =>
        intro hn
        obtain ⟨q, h1, h2, h3⟩ := ih (by omega)
        by_cases e : q < n
        · exact ⟨q, by omega, h2, fun _ => h3 e⟩
        · obtain rfl : q = n := by omega
          by_cases h : (nth s.L q).into ≤ u
          · refine ⟨q + 1, Nat.le_refl _, fun i hi => ?_, fun h => by omega⟩
            by_cases e2 : i = q
            · subst e2; exact h
            · exact h2 i (by omega)
          · exact ⟨q, by omega, h2, fun _ => by omega⟩
    exact this _ (Nat.le_refl _)
  obtain ⟨q, q1, q2, q3⟩ := hex
  rw [nx_eq hs q1 q2 q3]
  unfold dK
  constructor
  · intro h h0
    rw [if_neg (by omega)]
    exact q2 _ (by omega)
  · intro h
    apply Decidable.byContradiction
    intro hc
    have h4 := h (by omega)
    rw [if_neg (by omega)] at h4
    have := q3 (by omega)
    have := (lot_mono hs (a := q) (b := k - 1) (by omega) (by omega)).2
    omega
def tkTo (l : List Pc) (P : Plan) (s : St) (t : Int) (n : Nat) : Prop := ∀ d, d < n → ∀ m, m < 2 → wsum l m (flat P (d + 1)) ≤ cm m s (nx s (t + d))
theorem tkTo_succ {l : List Pc} {P : Plan} {s : St} {t : Int} {n : Nat} (h : tkTo l P s t n) (h0 : wsum l 0 (flat P (n + 1)) ≤ cm 0 s (nx s (t + n))) (h1 : wsum l 1 (flat P (n + 1)) ≤ cm 1 s (nx s (t + n))) : tkTo l P s t (n + 1) := fun d hd m hm => by
  by_cases e : d = n
  · subst e
    rcases two hm with rfl | rfl
    · exact h0
    · exact h1
  · exact h d (by omega) m hm
open Classical in
noncomputable instance (l : List Pc) (P : Plan) (s : St) (t : Int) (n : Nat) : Decidable (tkTo l P s t n) := propDecidable _
theorem taken_iff {l : List Pc} {P : Plan} {s : St} {t : Int} (hs : okSt s) : tkTo l P s t P.length ↔ ∀ d, d < P.length → ∀ m, m < 2 → kd l s P m (d + 1) ≤ s.L.length ∧ (0 < kd l s P m (d + 1) → dK s (kd l s P m (d + 1)) ≤ t + d) := by
  have key : ∀ d m, wsum l m (flat P (d + 1)) ≤ cm m s (nx s (t + d)) ↔ kd l s P m (d + 1) ≤ nx s (t + d) := fun d m => by
    have := kk_iff hs (m := m) (w := wsum l m (flat P (d + 1))) (nx_le s (t + d))
    unfold kd
    omega
  constructor
  · intro h d hd m hm
    have h1 := (key d m).1 (h d hd m hm)
    have h2 := nx_le s (t + d)
    exact ⟨by omega, (nx_ge hs (by omega)).1 h1⟩
  · intro h d hd m hm
    obtain ⟨h1, h2⟩ := h d hd m hm
    exact (key d m).2 ((nx_ge hs h1).2 h2)
theorem taken_at {l : List Pc} {P : Plan} {s : St} {t B : Int} (hs : okSt s) (hk : ∀ m d, m < 2 → d < P.length → kd l s P m (d + 1) ≤ s.L.length) (hB : Bmax l s P (fun m d => m < 2 ∧ d < P.length) B) (ht : 0 ≤ t) : tkTo l P s t P.length ↔ B ≤ t := by
  rw [taken_iff hs]
  constructor
  · intro h
    rcases hB.at_ with e | ⟨m, d, h1, h2, h3⟩
    · omega
    · have := (h d h1.2 m h1.1).2 h2
      omega
  · intro h d hd m hm
    refine ⟨hk m d hm hd, fun h0 => ?_⟩
    have := hB.ge m d ⟨hm, hd⟩ h0
    omega
theorem taken_never {l : List Pc} {P : Plan} {s : St} {t : Int} (hs : okSt s) {m d : Nat} (hm : m < 2) (hd : d < P.length) (hk : s.L.length < kd l s P m (d + 1)) : ¬ tkTo l P s t P.length := by
  rw [taken_iff hs]
  intro h
  have := (h d hd m hm).1
  omega
theorem taken_ok (nl nP nL : Bool) (l : List Pc) (men : Int) (P : Plan) (s : St) (t : Int) (ho : okOrd l) (hp : okPlan l men P) (hs : okSt s) (hP : P.length < 2 ^ 62) (hr : ∀ d, d < P.length → (row P d).length < 2 ^ 62) (ht : 0 ≤ t ∧ t ≤ 200000) :
    ans prog O 35 [vl ePc nl l, vl eRow nP P, .agg [.int .i64 s.b, .int .i64 s.v, vl ePc nL s.L], .int .i64 t] = some (.bool (decide (tkTo l P s t P.length))) := by
  have hl := ho.1
  have hs1 := hs.1
  refine fn_of' pl get35 (oo (by decide)) rfl rfl ?_
  simp (disch := omega) [-Bool.exists_bool]
  refine lp_loop pl (fun k fr σ => ∃ d q : Nat, d + k = P.length ∧ q ≤ s.L.length ∧ (∀ i, i < q → (nth s.L i).into ≤ t + d) ∧ tkTo l P s t d ∧ fr = ⟨[(0, vl ePc nl l), (1, vl eRow nP P), (3, .int .i64 t), (6, .ptr (some (0, 0))), (9, .int .i64 (cm 0 s q - wsum l 0 (flat P d))), (10, .int .i64 (cm 1 s q - wsum l 1 (flat P d))), (11, .int .i64 q), (12, .int .i64 d)], []⟩ ∧ σ.lim = 0 ∧ σ.get 0 = some (.cells [.int .i64 s.b, .int .i64 s.v, vl ePc nL s.L]))
    ⟨P.length, 0, 0, by omega, by omega, fun i hi => by omega, fun d hd => by omega, by simp [cm, fs, flat, wsum], rfl, by simp⟩ ?_
  rintro k _ σ ⟨d, q, hd, hq, hq2, htk, rfl, hl0, hg⟩
  have gl := AH.get_lt hg
  by_cases hdl : d < P.length
  · have hrd := hr d hdl
    have hrow : (nth P d).2 = row P d := rfl
    simp (disch := omega) [Und, hl0, hdl, -Bool.exists_bool]
    refine lp_loop pl (fun k fr σ => ∃ (q : Nat) (ev : Env), q + k = s.L.length ∧ (∀ i, i < q → (nth s.L i).into ≤ t + d) ∧ fr = ⟨(0, vl ePc nl l) :: (1, vl eRow nP P) :: (3, .int .i64 t) :: (6, .ptr (some (0, 0))) :: (9, .int .i64 (cm 0 s q - wsum l 0 (flat P d))) :: (10, .int .i64 (cm 1 s q - wsum l 1 (flat P d))) :: (11, .int .i64 q) :: (12, .int .i64 d) :: ev, []⟩ ∧ σ.lim = 0 ∧ σ.get 0 = some (.cells [.int .i64 s.b, .int .i64 s.v, vl ePc nL s.L]))
      ⟨s.L.length - q, q, _, by omega, hq2, rfl, hl0, hg⟩ ?_
    clear hg gl hl0 hq2 hq
    rintro k2 _ σ ⟨q, ev, hq, hq2, rfl, hl0, hg⟩
    have gl := AH.get_lt hg
    have c0 := cm_bd hs (m := 0) (b := q) (by omega)
    have c1 := cm_bd hs (m := 1) (b := q) (by omega)
    have hsd := hp.seen hdl (e := 0) (by omega)
    have hdn := hsd.len
    have v0 := wsum_bd ho (m := 0) fun x hx => hsd.rng hx
    have v1 := wsum_bd ho (m := 1) fun x hx => hsd.rng hx
    rw [items_zero] at hdn v0 v1
    by_cases hin : q < s.L.length ∧ (nth s.L q).into ≤ t + d
    · obtain ⟨hql, hday⟩ := hin
      have hlot := hs.2 q hql
      unfold okLot at hlot
      have n0 : cm 0 s (q + 1) = cm 0 s q + (nth s.L q).br := rfl
      have n1 : cm 1 s (q + 1) = cm 1 s q + (nth s.L q).iv := rfl
      simp (disch := omega) [Und, hl0, hql, hday, hg, gl, -Bool.exists_bool]
      refine ⟨k2 - 1, by omega, q + 1, by omega, fun i hi => ?_, by omega, by omega, by omega⟩
      by_cases e : i = q
      · subst e; exact hday
      · exact hq2 i (by omega)
    · have hnx := nx_eq hs (u := t + d) (q := q) (by omega) hq2 fun h => by omega
      by_cases hql : q < s.L.length
      rotate_left
      simp (disch := omega) [Und, hl0, hql, hg, gl, -Bool.exists_bool]
      rotate_left
      have hday : ¬ (nth s.L q).into ≤ t + d := fun h => hin ⟨hql, h⟩
      simp (disch := omega) [Und, hl0, hql, hday, hg, gl, -Bool.exists_bool]
      all_goals
        refine lp_loop pl (fun k fr σ => ∃ (e : Nat) (ev : Env), e + k = (row P d).length ∧ fr = ⟨(0, vl ePc nl l) :: (1, vl eRow nP P) :: (3, .int .i64 t) :: (6, .ptr (some (0, 0))) :: (9, .int .i64 (cm 0 s q - wsum l 0 (items P d e))) :: (10, .int .i64 (cm 1 s q - wsum l 1 (items P d e))) :: (11, .int .i64 q) :: (12, .int .i64 d) :: (13, .int .i64 e) :: ev, []⟩ ∧ σ.lim = 0 ∧ σ.get 0 = some (.cells [.int .i64 s.b, .int .i64 s.v, vl ePc nL s.L]))
          ⟨(row P d).length, 0, _, by omega, by rw [items_zero]; rfl, hl0, hg⟩ ?_
        clear hg gl hl0
        rintro k3 _ σ ⟨e2, ev2, he2, rfl, hl0, hg⟩
        have gl := AH.get_lt hg
        have hse := hp.seen hdl (e := e2) (by omega)
        have hil := hse.len
        have w0 := wsum_bd ho (m := 0) fun x hx => hse.rng hx
        have w1 := wsum_bd ho (m := 1) fun x hx => hse.rng hx
        by_cases hel : e2 < (row P d).length
        · have hx := ((hp.day d hdl).2 e2 hel).1
          have a0 := am_bd ho (m := 0) hx
          have a1 := am_bd ho (m := 1) hx
          have s0 : wsum l 0 (items P d (e2 + 1)) = wsum l 0 (items P d e2) + (nth l (nth (row P d) e2).toNat).br := by rw [items_succ hel, wsum_app, wsum_one]; rfl
          have s1 : wsum l 1 (items P d (e2 + 1)) = wsum l 1 (items P d e2) + (nth l (nth (row P d) e2).toNat).iv := by rw [items_succ hel, wsum_app, wsum_one]; rfl
          have b0 : am 0 (nth l (nth (row P d) e2).toNat) = (nth l (nth (row P d) e2).toNat).br := rfl
          have b1 : am 1 (nth l (nth (row P d) e2).toNat) = (nth l (nth (row P d) e2).toNat).iv := rfl
          have hx2 : nth (row P d) e2 < l.length := by omega
          simp (disch := omega) [Und, hl0, hdl, hrow, hel, hx.1, hx2, hg, eqF1, eqF2, -Bool.exists_bool]
          exact ⟨k3 - 1, by omega, e2 + 1, by omega, by omega, by omega, by omega⟩
        · obtain rfl : e2 = (row P d).length := by omega
          rw [items_all] at w0 w1 hil
          by_cases hok : wsum l 0 (flat P (d + 1)) ≤ cm 0 s q ∧ wsum l 1 (flat P (d + 1)) ≤ cm 1 s q
          · have hnew := tkTo_succ htk (by rw [hnx]; exact hok.1) (by rw [hnx]; exact hok.2)
            have z0 : ¬ cm 0 s q - wsum l 0 (flat P (d + 1)) < 0 := by omega
            have z1 : ¬ cm 1 s q - wsum l 1 (flat P (d + 1)) < 0 := by omega
            simp (disch := omega) [Und, hl0, hdl, hrow, items_all, z0, z1, -Bool.exists_bool]
            refine ⟨k - 1, by omega, d + 1, by omega, q, by omega, fun i hi => ?_, hnew, ⟨rfl, rfl, rfl, by omega⟩, hg⟩
            have := hq2 i hi
            omega
          · have hn : ¬ tkTo l P s t P.length := fun h => hok ⟨by have := h d hdl 0 (by omega); rw [hnx] at this; exact this, by have := h d hdl 1 (by omega); rw [hnx] at this; exact this⟩
            by_cases z0 : cm 0 s q - wsum l 0 (flat P (d + 1)) < 0
            · simp (disch := omega) [Und, hl0, hdl, hrow, items_all, z0, hn, -Bool.exists_bool]
            · have z1 : cm 1 s q - wsum l 1 (flat P (d + 1)) < 0 := by omega
              simp (disch := omega) [Und, hl0, hdl, hrow, items_all, z0, z1, hn, -Bool.exists_bool]
  · obtain rfl : d = P.length := by omega
    simp (disch := omega) [Und, hl0, htk, -Bool.exists_bool]
end Go.Oct.Shop
