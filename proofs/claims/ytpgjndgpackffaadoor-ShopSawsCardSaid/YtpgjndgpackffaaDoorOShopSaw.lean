/- Sawing: the most that can be used, plain; what the map keeps; take. -/
import Derived.Test.YtpgjndgpackffaaDoorOShopFit
import Derived.Test.YtpgjndgpackffaaDoorOT4
set_option maxRecDepth 100000
set_option maxHeartbeats 4000000
set_option linter.unusedVariables false
set_option linter.unusedSimpArgs false
namespace Go.Oct.Shop
open Go.Oct
/-- What a length takes: with a cut, if there is one before it. -/
def nd (cut : Int) (sn : Bool) (x : Int) : Int := x + if sn then cut else 0
/-- The most that can be used of a bar. -/
def best (cut : Int) : List Int → Int → Bool → Int
  | [], _, _ => 0
  | x :: xs, bar, sn => max (best cut xs bar sn) (if nd cut sn x ≤ bar then nd cut sn x + best cut xs (bar - nd cut sn x) true else 0)
theorem best_bd {cut : Int} (hc : 0 ≤ cut) : ∀ {xs : List Int} {bar : Int} {sn : Bool}, (∀ x ∈ xs, 1 ≤ x) → 0 ≤ best cut xs bar sn ∧ (0 ≤ bar → best cut xs bar sn ≤ bar)
  | [], bar, sn, _ => ⟨Int.le_refl _, fun h => h⟩
  | x :: xs, bar, sn, h => by
    have h1 := best_bd hc (xs := xs) (bar := bar) (sn := sn) fun y hy => h y (List.mem_cons_of_mem _ hy)
    have h2 := best_bd hc (xs := xs) (bar := bar - nd cut sn x) (sn := true) fun y hy => h y (List.mem_cons_of_mem _ hy)
    have h3 : 1 ≤ nd cut sn x := by
      have := h x (List.mem_cons_self ..)
      unfold nd; split <;> omega
    simp only [best]
    by_cases h4 : nd cut sn x ≤ bar
    · rw [if_pos h4]
      have := h2.2 (by omega)
      exact ⟨by omega, fun h => by have := h1.2 h; omega⟩
    · rw [if_neg h4]
      exact ⟨by omega, fun h => by have := h1.2 h; omega⟩
theorem best_drop {cut : Int} {L : List Int} {bar : Int} {sn : Bool} {i : Nat} (h : i < L.length) : best cut (L.drop i) bar sn = max (best cut (L.drop (i + 1)) bar sn) (if nd cut sn (nth L i) ≤ bar then nd cut sn (nth L i) + best cut (L.drop (i + 1)) (bar - nd cut sn (nth L i)) true else 0) := by
  rw [List.drop_eq_getElem_cons h, ← nth_eq h]; rfl
def keyS (nx : Nat) (bar : Int) (sn : Bool) : AV := .agg [.int .i64 nx, .int .i64 bar, .bool sn]
def okE (cut : Int) (L : List Int) (es : List (AV × AV × Nat)) : Prop := ∀ e ∈ es, ∃ (nx : Nat) (bar : Int) (sn : Bool), e.1 = keyS nx bar sn ∧ e.2.1 = .int .i64 (best cut (L.drop nx) bar sn)
theorem keyEq_S (a b : Nat) (p q : Int) (u v : Bool) : keyEq true [.int, .int, .bool] (keyS a p u) (keyS b q v) = some (decide (a = b ∧ p = q ∧ u = v)) := by
  simp only [keyEq, keyS, eqCells, if_true, Option.map_some]
  congr 1
  rw [Bool.eq_iff_iff]
  simp
  intros
  omega
theorem find_S {cut : Int} {L : List Int} {nx : Nat} {bar : Int} {sn : Bool} : ∀ (es : List (AV × AV × Nat)) (i : Nat), okE cut L es → ∃ r, findE true [.int, .int, .bool] (keyS nx bar sn) es i = some r ∧ (r = none ∨ ∃ j b, r = some (j, .int .i64 (best cut (L.drop nx) bar sn), b))
  | [], i, _ => ⟨none, rfl, .inl rfl⟩
  | (x, v, b) :: es, i, h => by
    obtain ⟨n', b', s', h1, h2⟩ := h _ (List.mem_cons_self ..)
    simp only at h1 h2
    subst h1 h2
    simp only [findE, keyEq_S]
    by_cases e : nx = n' ∧ bar = b' ∧ sn = s'
    · obtain ⟨rfl, rfl, rfl⟩ := e
      simp
    · rw [decide_eq_false e]
      exact find_S es (i + 1) fun y hy => h y (List.mem_cons_of_mem _ hy)
theorem set_S {cut : Int} {L : List Int} {nx : Nat} {bar : Int} {sn : Bool} : ∀ {es : List (AV × AV × Nat)} {j : Nat}, okE cut L es → okE cut L (setE (keyS nx bar sn) (.int .i64 (best cut (L.drop nx) bar sn)) es j)
  | [], j, h => h
  | (x, v, b) :: es, 0, h => fun e he => by
    rcases List.mem_cons.1 he with rfl | he
    · exact ⟨nx, bar, sn, rfl, rfl⟩
    · exact h e (List.mem_cons_of_mem _ he)
  | e0 :: es, j + 1, h => fun e he => by
    rcases List.mem_cons.1 he with e1 | he
    · exact h e (e1 ▸ List.mem_cons_self ..)
    · exact set_S (es := es) (j := j) (fun y hy => h y (List.mem_cons_of_mem _ hy)) e he
theorem look_S {cut : Int} {L : List Int} {nx : Nat} {bar : Int} {sn : Bool} {σ : AH} {m c : Nat} {es : List (AV × AV × Nat)} (hg : σ.get m = some (.map es c)) (h : okE cut L es) :
    ∃ f : Bool, ∃ w : Int, alookup true [.int, .int, .bool] (.int .i64 0) true (.map (some m)) (keyS nx bar sn) σ = some (.tuple [.int .i64 w, .bool f], σ) ∧ (f = true → w = best cut (L.drop nx) bar sn) := by
  obtain ⟨r, h1, h2⟩ := find_S (nx := nx) (bar := bar) (sn := sn) es 0 h
  have hk : keyEq true [.int, .int, .bool] (keyS nx bar sn) (keyS nx bar sn) = some true := by rw [keyEq_S]; simp
  rcases h2 with rfl | ⟨j, b, rfl⟩
  · refine ⟨false, 0, ?_, fun h => by cases h⟩
    simp only [alookup, hg, hk, h1, if_true]
  · refine ⟨true, _, ?_, fun _ => rfl⟩
    simp only [alookup, hg, hk, h1, if_true]
theorem upd_S {cut : Int} {L : List Int} {nx : Nat} {bar : Int} {sn : Bool} {σ : AH} {m c : Nat} {es : List (AV × AV × Nat)} (hl : σ.lim ≤ m) (hg : σ.get m = some (.map es c)) (h : okE cut L es) :
    ∃ es' c', amapUpd true [.int, .int, .bool] (.map (some m)) (keyS nx bar sn) (.int .i64 (best cut (L.drop nx) bar sn)) σ = some (.undef, σ.set m (.map es' c')) ∧ okE cut L es' := by
  obtain ⟨r, h1, h2⟩ := find_S (nx := nx) (bar := bar) (sn := sn) es 0 h
  have hk : keyEq true [.int, .int, .bool] (keyS nx bar sn) (keyS nx bar sn) = some true := by rw [keyEq_S]; simp
  rcases h2 with rfl | ⟨j, b, rfl⟩
  · refine ⟨es ++ [(keyS nx bar sn, .int .i64 (best cut (L.drop nx) bar sn), c)], c + 1, ?_, fun e he => ?_⟩
    · simp only [amapUpd, hg, hk, h1, hl, if_true]
    · rcases List.mem_append.1 he with he | he
      · exact h e he
      · obtain rfl := List.mem_singleton.1 he
        exact ⟨nx, bar, sn, rfl, rfl⟩
  · refine ⟨_, c, ?_, set_S (nx := nx) (bar := bar) (sn := sn) (j := j) h⟩
    simp only [amapUpd, hg, hk, h1, hl, if_true]
theorem take_ok {nl : Bool} {L : List Int} {cut : Int} {m a nx i : Nat} {bar : Int} {sn : Bool} {σ : AH} {K : AV → AH → Prop} (hl0 : σ.lim = 0) (hg : σ.get a = some (.cells [vs nl L, .int .i64 cut, .map (some m)])) (hi : i < L.length) (hL : L.length ≤ 16) (hx : ∀ x ∈ L, 1 ≤ x ∧ x ≤ 10000) (hc : 0 ≤ cut ∧ cut ≤ 1000) (hb : 0 ≤ bar ∧ bar ≤ 10000)
    (hK : ∀ σ', σ'.lim = 0 → σ.next ≤ σ'.next → (∀ k, k < σ.next → σ'.get k = σ.get k) → K (.tuple [.agg [.int .i64 ((i : Int) + 1), .int .i64 (bar - nd cut sn (nth L i)), .bool true], .int .i64 (nd cut sn (nth L i)), .bool (decide (nd cut sn (nth L i) ≤ bar))]) σ') :
    Call prog O (.fn 69) [.ptr (some (a, 0)), keyS nx bar sn, .int .i64 i] σ K := by
  have gl := AH.get_lt hg
  have hxi := hx _ (nth_mem hi)
  refine @call_of' _ _ pl _ _ _ _ _ _ _ ⟨K⟩ get69 ((oo (by decide)).2 _) rfl ?_
  unfold nd at hK
  cases sn with
  | true =>
    simp only [if_true] at hK
    simp (disch := omega) [keyS, hl0, hg, gl, hi, eqF1, eqF2, -Bool.exists_bool]
    exact ⟨by omega, hK _ (by simpa using hl0) (by simp; omega) fun k hk => by simp (disch := omega) [eqF1]⟩
  | false =>
    simp at hK
    simp (disch := omega) [keyS, hl0, hg, gl, hi, eqF1, eqF2, -Bool.exists_bool]
    exact ⟨by omega, hK _ (by simpa using hl0) (by simp; omega) fun k hk => by simp (disch := omega) [eqF1]⟩
end Go.Oct.Shop
