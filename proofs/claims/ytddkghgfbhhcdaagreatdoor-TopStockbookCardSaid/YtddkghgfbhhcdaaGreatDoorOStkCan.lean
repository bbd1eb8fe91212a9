/- The pieces that can be made, one after the other. -/
import Derived.Test.YtddkghgfbhhcdaaGreatDoorOStkSrt
import Derived.Test.YtddkghgfbhhcdaaGreatDoorOStkFit
import Derived.Test.YtddkghgfbhhcdaaGreatDoorOStkHu
set_option maxRecDepth 100000
set_option maxHeartbeats 4000000
set_option linter.unusedVariables false
set_option linter.unusedSimpArgs false
namespace Go.Oct.Stk.Sh
open Go.Oct
abbrev pcC (x : P5) : List AV := [.int .i64 x.p.into, .int .i64 x.p.br, .int .i64 x.p.iv, .int .i64 x.ix, .int .i64 x.lv]
/-- Does a piece wait for another one? -/
def wt (l : List Pc) (D : Nat → Bool) (i k : Nat) : Bool := decide ((nth l k).into = (i : Int)) && !D k
theorem can11_ok {l : List Pc} (ho : okOrd l) {D : Nat → Bool} {i k : Nat} (hi : i < l.length) (hk : k < l.length) {σ : AH} {K : AV → AH → Prop} (hK : K (.bool (wt l D i k)) (σ.push (.cells (pcC (p5At l k))))) :
    Call prog O (.fn 74) [eP5 (p5At l k), .vptr (pcC (p5At l i)) 0, .vptr (bc D) 0] σ K := by
  have hl := ho.1
  have hb := bc_get D (i := k) (by omega)
  refine @call_of' _ _ pl _ _ _ _ _ _ _ ⟨K⟩ get74 ((oo (by decide)).2 _) rfl ?_
  unfold wt at hK
  have hk12 : (k : Int) < 12 := by omega
  have hk11 : k ≤ 11 := by omega
  by_cases h : (nth l k).into = (i : Int)
  · rw [decide_eq_true h, Bool.true_and] at hK
    simp (disch := omega) [p5At, eP5, h, hb, hk12, hk11, -getElem?_pos]
    rw [show pcC (p5At l k) = [.int .i64 (i : Int), .int .i64 (nth l k).br, .int .i64 (nth l k).iv, .int .i64 k, .int .i64 (lev l k)] from by simp only [p5At, pcC, h]] at hK
    exact hK
  · rw [decide_eq_false h, Bool.false_and] at hK
    simp (disch := omega) [p5At, eP5, h]
    simpa [p5At] using hK
theorem bcIds (c : Nat → Option (List AV)) (k : Nat) (f : Nat → Bool) : (bc f).flatMap (idsV (k + 1) c) = [] := by
  unfold bc
  rw [List.flatMap_map]
  induction List.range 12 with
  | nil => rfl
  | cons x r ih => rw [List.flatMap_cons, ih]; rfl
theorem bcFz (c : Nat → Option (List AV)) (k : Nat) (f : Nat → Bool) : (bc f).map (fun x => (fzV (k + 1) c x).na) = bc f := by
  unfold bc
  rw [List.map_map]
  exact List.map_congr_left fun i _ => rfl
theorem snapFn {σ : AH} {x : P5} {D : Nat → Bool} {a b : Nat} (h1 : σ.cel a = some (pcC x)) (h2 : σ.cel b = some (bc D)) :
    Snap σ (.func (.func 74) [] [.ptr (some (a, 0)), .ptr (some (b, 0))]) [a, b] (.func (.func 74) [] [.vptr (pcC x) 0, .vptr (bc D) 0]) := by
  refine ⟨?_, fun T hT => ?_⟩
  · show [].flatMap _ ++ [AV.ptr (some (a, 0)), .ptr (some (b, 0))].flatMap (idsV 7 σ.cel) = _
    have e1 : idsV 7 σ.cel (.ptr (some (a, 0))) = [a] := by
      show (match σ.cel a with | some cs => a :: cs.flatMap (idsV 6 σ.cel) | none => []) = _
      rw [h1]; rfl
    have e2 : idsV 7 σ.cel (.ptr (some (b, 0))) = [b] := by
      show (match σ.cel b with | some cs => b :: cs.flatMap (idsV 6 σ.cel) | none => []) = _
      rw [h2]
      show b :: (bc D).flatMap (idsV 6 σ.cel) = _
      rw [bcIds]
    simp only [List.flatMap_cons, List.flatMap_nil, e1, e2]; rfl
  · have c1 : σ.celOf T a = some (pcC x) := by unfold AH.celOf; rw [if_pos (by simpa using hT a (by simp))]; exact h1
    have c2 : σ.celOf T b = some (bc D) := by unfold AH.celOf; rw [if_pos (by simpa using hT b (by simp))]; exact h2
    have e1 : fzV 7 (σ.celOf T) (.ptr (some (a, 0))) = .vptr (pcC x) 0 := by
      show (match σ.celOf T a with | some cs => AV.vptr (cs.map fun x => (fzV 6 (σ.celOf T) x).na) 0 | none => .undef) = _
      rw [c1]; rfl
    have e2 : fzV 7 (σ.celOf T) (.ptr (some (b, 0))) = .vptr (bc D) 0 := by
      show (match σ.celOf T b with | some cs => AV.vptr (cs.map fun x => (fzV 6 (σ.celOf T) x).na) 0 | none => .undef) = _
      rw [c2]
      show AV.vptr ((bc D).map fun x => (fzV 6 (σ.celOf T) x).na) 0 = _
      rw [bcFz]
    show AV.func (.func 74) [] [fzV 7 (σ.celOf T) (.ptr (some (a, 0))), fzV 7 (σ.celOf T) (.ptr (some (b, 0)))] = _
    rw [e1, e2]
theorem idx_ok {l : List Pc} (ho : okOrd l) {D : Nat → Bool} {i : Nat} (hi : i < l.length) {r : Int} (hr : (r = -1 ∧ ∀ k, k < l.length → wt l D i k = false) ∨ ∃ q : Nat, q < l.length ∧ r = q ∧ wt l D i q = true ∧ ∀ k, k < q → wt l D i k = false) :
    ans prog O 108 [vl eP5 false (pcsL l l.length), .func (.func 74) [] [.vptr (pcC (p5At l i)) 0, .vptr (bc D) 0]] = some (.int .i64 r) := by
  have hl := ho.1
  refine fn_of' pl get108 (oo (by decide)) rfl rfl ?_
  simp (disch := omega) [-Bool.exists_bool]
  refine lp_loop pl (fun k fr σ => ∃ j : Nat, j + k = l.length ∧ (∀ q, q < j → wt l D i q = false) ∧ fr = ⟨[(0, vl eP5 false (pcsL l l.length)), (1, .func (.func 74) [] [.vptr (pcC (p5At l i)) 0, .vptr (bc D) 0]), (7, .int .i64 l.length), (8, .int .i64 j)], []⟩)
    ⟨l.length, 0, by omega, fun q hq => by omega, rfl⟩ ?_
  rintro k _ σ ⟨j, hj, hall, rfl⟩
  by_cases hjl : j < l.length
  · have hpn := pcsL_nth (l := l) (n := l.length) (i := j) (by omega)
    simp (disch := omega) [Und, hjl, hpn, -Bool.exists_bool]
    refine can11_ok ho hi hjl ?_
    cases hw : wt l D i j with
    | true =>
      have : r = j := by
        rcases hr with ⟨_, h⟩ | ⟨q, q1, q2, q3, q4⟩
        · rw [h j hjl] at hw; cases hw
        · by_cases e : j < q
          · rw [q4 j e] at hw; cases hw
          · by_cases e2 : q < j
            · rw [hall q e2] at q3; cases q3
            · omega
      simp (disch := omega) [this, -Bool.exists_bool]
    | false =>
      simp (disch := omega) [-Bool.exists_bool]
      refine ⟨k - 1, by omega, j + 1, by omega, fun q hq => ?_, by omega⟩
      by_cases e : q = j
      · subst e; exact hw
      · exact hall q (by omega)
  · obtain rfl : j = l.length := by omega
    have : r = -1 := by
      rcases hr with ⟨h, _⟩ | ⟨q, q1, q2, q3, q4⟩
      · exact h
      · rw [hall q q1] at q3; cases q3
    simp (disch := omega) [Und, this, -Bool.exists_bool]
theorem wait_ok {l : List Pc} (ho : okOrd l) {D : Nat → Bool} {i : Nat} (hi : i < l.length) :
    ans prog O 73 [vl eP5 false (pcsL l l.length), .func (.func 74) [] [.vptr (pcC (p5At l i)) 0, .vptr (bc D) 0]] = some (.bool (decide (∃ k, k < l.length ∧ wt l D i k = true))) := by
  refine fn_of' pl get73 (oo (by decide)) rfl rfl ?_
  by_cases h : ∃ k, k < l.length ∧ wt l D i k = true
  · have hx : ∃ q, q < l.length ∧ wt l D i q = true ∧ ∀ k, k < q → wt l D i k = false := by
      obtain ⟨k, h1, h2⟩ := h
      induction k using Nat.strongRecOn with
      | ind k ih =>
        by_cases hy : ∃ q, q < k ∧ wt l D i q = true
        · obtain ⟨q, q1, q2⟩ := hy
          exact ih q q1 (by omega) q2
        · exact ⟨k, h1, h2, fun q hq => by
            cases e : wt l D i q
            · rfl
            · exact absurd ⟨q, hq, e⟩ hy⟩
    obtain ⟨q, q1, q2, q3⟩ := hx
    have hz := idx_ok ho hi (r := q) (.inr ⟨q, q1, rfl, q2, q3⟩)
    rw [decide_eq_true h]
    simp (disch := omega) [hz]
  · have hz := idx_ok ho hi (D := D) (r := -1) (.inl ⟨rfl, fun k hk => by
      cases e : wt l D i k
      · rfl
      · exact absurd ⟨k, hk, e⟩ h⟩)
    rw [decide_eq_false h]
    simp (disch := omega) [hz]
theorem can_ok {σ : AH} {ps : AV} {D : Nat → Bool} (hps : ps.dfd = true) {K : AV → AH → Prop} (hk : K (.func (.func 72) [] [.ptr (some (σ.next, 0)), .ptr (some (σ.next + 1, 0))]) ((σ.push (.cells ps.cells)).push (.cells (bc D)))) :
    Call prog O (.fn 44) [ps, .agg (bc D)] σ K := by
  refine @call_of' _ _ pl _ _ _ _ _ _ _ ⟨K⟩ get44 ((oo (by decide)).2 _) rfl ?_
  simp (disch := omega) [hps]
  exact hk
theorem can1_ok {l : List Pc} (ho : okOrd l) {D : Nat → Bool} {b L : Nat} {I : Nat → AH → Prop}
    (hI : ∀ j σ, I j σ → σ.lim = 0 ∧ σ.get b = some (.cells [vl eP5 false (pcsL l l.length)]) ∧ σ.get (b + 1) = some (.cells (bc D)))
    (hst : ∀ j σ τ, I j σ → τ.lim = σ.lim → σ.next ≤ τ.next → (∀ i, i < σ.next → τ.get i = σ.get i) → I j τ)
    (hyes : ∀ j σ, j < l.length → I j σ → av l D j = true → Call prog O (.yield L) [eP5 (p5At l j)] σ (fun r σ' => r = .bool true ∧ I (j + 1) σ'))
    (hno : ∀ j σ, j < l.length → I j σ → av l D j = false → I (j + 1) σ)
    {σ : AH} (h0 : I 0 σ) {K : AV → AH → Prop} (hk : ∀ σ', I l.length σ' → K (.tuple []) σ') : Call prog O (.fn 72) [.func (.yield L) [] [], .ptr (some (b, 0)), .ptr (some (b + 1, 0))] σ K := by
  have hl := ho.1
  refine @call_of' _ _ pl _ _ _ _ _ _ _ ⟨K⟩ get72 ((oo (by decide)).2 _) rfl ?_
  have hb := hI 0 σ h0
  simp (disch := omega) [hb]
  refine lp_loop pl (fun k fr σ => ∃ j : Nat, j + k = l.length ∧ fr = ⟨[(0, .func (.yield L) [] []), (1, .ptr (some (b, 0))), (2, .ptr (some (b + 1, 0))), (7, vl eP5 false (pcsL l l.length)), (8, .int .i64 l.length), (9, .int .i64 j)], []⟩ ∧ I j σ) ⟨l.length, 0, by omega, by simp, h0⟩ ?_
  rintro k _ σ ⟨j, hj, rfl, hi0⟩
  obtain ⟨l0, g1, g2⟩ := hI j σ hi0
  have gl1 := AH.get_lt g1
  have gl2 := AH.get_lt g2
  by_cases hjl : j < l.length
  · have hpn := pcsL_nth (l := l) (n := l.length) (i := j) (by omega)
    have hbj := bc_get D (i := j) (by omega)
    simp (disch := omega) [Und, l0, g1, g2, gl1, gl2, hjl, hpn, p5At, eqF1, eqF2, -Bool.exists_bool, -getElem?_pos]
    generalize hτ : AH.set _ σ.next _ = τ
    have τl : τ.lim = 0 := by rw [← hτ]; exact l0
    have τn : τ.next = σ.next + 1 := by rw [← hτ]; rfl
    have τg : ∀ i, i < σ.next → τ.get i = σ.get i := fun i h1 => by rw [← hτ]; simp (disch := omega) [eqF1]
    have τ5 : τ.get σ.next = some (.cells (pcC (p5At l j))) := by rw [← hτ]; simp [p5At]
    have τb := (τg (b + 1) (by omega)).trans g2
    have hw := wait_ok ho hjl (D := D)
    have hsn := snapFn (AH.cel_get τ5) (AH.cel_get τb)
    refine pc_scal (.cons (Snap.vl _ eP5 _ _) (.cons hsn .nil)) (fun h => by simp at h) (by simp) (oo (args := []) (by decide)).1 hw rfl ?_
    have hj' : I j τ := hst j σ τ hi0 (by rw [τl, l0]) (by omega) τg
    have hav : av l D j = (!D j && !decide (∃ k, k < l.length ∧ wt l D j k = true)) := by
      rw [Bool.eq_iff_iff, av_iff]
      simp only [Bool.and_eq_true, Bool.not_eq_true', decide_eq_false_iff_not]
      constructor
      · rintro ⟨_, h1, h2⟩
        refine ⟨h1, fun ⟨k, k1, k2⟩ => ?_⟩
        unfold wt at k2
        simp only [Bool.and_eq_true, decide_eq_true_eq, Bool.not_eq_true'] at k2
        rw [h2 k k1 k2.1] at k2
        exact absurd k2.2 (by simp)
      · rintro ⟨h1, h2⟩
        refine ⟨hjl, h1, fun k k1 k2 => ?_⟩
        cases e : D k
        · exact absurd ⟨k, k1, by unfold wt; rw [decide_eq_true k2, e]; rfl⟩ h2
        · rfl
    have hj12 : (j : Int) < 12 := by omega
    have hj11 : j ≤ 11 := by omega
    have hyj := hyes j τ hjl hj'
    have hnj := hno j τ hjl hj'
    generalize decide (∃ k, k < l.length ∧ wt l D j k = true) = w at hav hw ⊢
    have τl5 := AH.get_lt τ5
    have τlb := AH.get_lt τb
    cases hD : D j with
    | true =>
      rw [hD] at hav hbj
      simp (disch := omega) [Und, τ5, τb, τl5, τlb, hbj, hj12, hj11, pcC, p5At, -Bool.exists_bool, -getElem?_pos]
      exact ⟨k - 1, by omega, j + 1, by omega, by omega, hnj hav⟩
    | false =>
      rw [hD] at hav hbj
      cases w with
      | true =>
        simp (disch := omega) [Und, τ5, τb, τl5, τlb, hbj, hj12, hj11, pcC, p5At, -Bool.exists_bool, -getElem?_pos]
        exact ⟨k - 1, by omega, j + 1, by omega, by omega, hnj hav⟩
      | false =>
        simp (disch := omega) [Und, τ5, τb, τl5, τlb, hbj, hj12, hj11, pcC, p5At, -Bool.exists_bool, -getElem?_pos]
        refine (hyj hav).mono ?_
        rintro r σ' ⟨rfl, hi1⟩
        simp (disch := omega) [Und, -Bool.exists_bool]
        exact ⟨k - 1, by omega, j + 1, by omega, by omega, hi1⟩
  · obtain rfl : j = l.length := by omega
    simp (disch := omega) [Und, l0, -Bool.exists_bool]
    exact hk σ hi0
end Go.Oct.Stk.Sh
