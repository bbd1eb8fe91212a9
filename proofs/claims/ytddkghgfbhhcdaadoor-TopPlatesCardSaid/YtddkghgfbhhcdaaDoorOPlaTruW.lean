/- Truth: the walk. -/
import Derived.Test.YtddkghgfbhhcdaaDoorOPlaSpanW
set_option maxRecDepth 100000
set_option maxHeartbeats 4000000
set_option linter.unusedVariables false
set_option linter.unusedSimpArgs false
namespace Go.Oct.Pla
open Go.Oct
/-- Lists of errors. -/
abbrev Rows := List (Bool × List Int)
def errs (E : Rows) (c : Nat) : Int := nth (nth E (c / 9)).2 (c % 9)
def rowOK (M : Int) (n : Int) (r : List Int) : Prop := (r.length : Int) = n + 1 ∧ nth r 0 = 0 ∧ ∀ j, j < r.length → -M ≤ nth r j ∧ nth r j ≤ M
instance (M n : Int) (r : List Int) : Decidable (rowOK M n r) := by unfold rowOK; infer_instance
def shapeOK (T : List Int) (M : Int) (E : Rows) : Prop := E.length = T.length ∧ ∀ i, i < E.length → rowOK M (nth T i) (nth E i).2
instance (T : List Int) (M : Int) (E : Rows) : Decidable (shapeOK T M E) := by unfold shapeOK; infer_instance
def truthP (T : List Int) (M : Int) (l : List Rd) (E : Rows) : Prop := shapeOK T M E ∧ ∀ j, j < l.length → Agree (errs E) (nth l j)
instance (T : List Int) (M : Int) (l : List Rd) (E : Rows) : Decidable (truthP T M l E) := by unfold truthP; infer_instance
theorem errs_at {E : Rows} {a i : Nat} (h : i < 9) : errs E (9 * a + i) = nth (nth E a).2 i := by
  unfold errs
  rw [show (9 * a + i) / 9 = a by omega, show (9 * a + i) % 9 = i by omega]
theorem truth_feas {T : List Int} {M : Int} {l : List Rd} {E : Rows} (hs : okSet T M) : truthP T M l E ↔ (E.length = T.length ∧ ∀ i, i < T.length → (nth E i).2.length = tn T i + 1) ∧ Feas T M (cons l) (errs E) := by
  have htn : ∀ i, i < T.length → (tn T i : Int) = nth T i ∧ 1 ≤ tn T i ∧ tn T i ≤ 8 := fun i hi => by have := hs.2 i hi; unfold tn; omega
  constructor
  · rintro ⟨⟨h1, h2⟩, h3⟩
    refine ⟨⟨h1, fun i hi => by have := (h2 i (by omega)).1; have := htn i hi; omega⟩, fun i hi => ?_, fun c hc => ?_, ?_⟩
    · have := (h2 i (by omega)).2.1
      have e := errs_at (E := E) (a := i) (i := 0) (by omega)
      rw [Nat.add_zero] at e
      rw [e]; exact this
    · have h := h2 (c / 9) (by have := hc.1; omega)
      have := htn _ hc.1
      exact h.2.2 (c % 9) (by have := h.1; have := hc.2; omega)
    · refine con_agree.2 fun r hr => ?_
      obtain ⟨j, hj, rfl⟩ := mem_nth.1 hr
      exact h3 j hj
  · rintro ⟨⟨h1, h2⟩, h3⟩
    refine ⟨⟨h1, fun i hi => ⟨?_, ?_, fun j hj => ?_⟩⟩, fun j hj => ?_⟩
    · have := h2 i (by omega); have := htn i (by omega); omega
    · have := h3.base i (by omega)
      have e := errs_at (E := E) (a := i) (i := 0) (by omega)
      rw [Nat.add_zero] at e
      rw [← e]; exact this
    · have hl := h2 i (by omega)
      have := htn i (by omega)
      have h4 := h3.bnd (9 * i + j) (by
        unfold V
        rw [show (9 * i + j) / 9 = i by omega, show (9 * i + j) % 9 = j by omega]
        omega)
      rw [errs_at (by omega)] at h4
      exact h4
    · exact con_agree.1 h3.con _ (mem_nth.2 ⟨j, hj, rfl⟩)
theorem Truth1_ok (nT : Bool) (T : List Int) (M n : Int) (hM : 0 ≤ M ∧ M ≤ 100000) : ans prog O 43 [.int .i64 n, .vptr [vs nT T, .int .i64 M] 0] = some (.bool (!decide (-M ≤ n ∧ n ≤ M))) := by
  refine fn_of' pl get43 (oo (by decide)) rfl rfl ?_
  simp +contextual (disch := omega) []
theorem Truth2_ok (nE : Bool) (T : List Int) (M : Int) (E : Rows) (r : Rd) (hs : okSet T M) (hr : okRd T r) (hE : shapeOK T M E) : ans prog O 45 [eRd r, .vptr [vl eRow nE E] 0] = some (.bool (decide (Agree (errs E) r))) := by
  obtain ⟨⟨a1, a2⟩, ⟨b1, b2⟩, ⟨i1, i2⟩, ⟨j1, j2⟩, ⟨v1, v2⟩, w1, w2⟩ := hr
  obtain ⟨h1, h2⟩ := hE
  obtain ⟨A1, A2, A3⟩ := h2 r.a.toNat (by omega)
  obtain ⟨B1, B2, B3⟩ := h2 r.b.toNat (by omega)
  have tA := hs.2 r.a.toNat (by omega)
  have tB := hs.2 r.b.toNat (by omega)
  have vA := A3 r.i.toNat (by omega)
  have vB := B3 r.j.toNat (by omega)
  have hM := hs.1.2
  have eA : errs E (ndA r) = nth (nth E r.a.toNat).2 r.i.toNat := errs_at (by omega)
  have eB : errs E (ndB r) = nth (nth E r.b.toNat).2 r.j.toNat := errs_at (by omega)
  refine fn_of' pl get45 (oo (by decide)) rfl rfl ?_
  simp +contextual (disch := omega) [eRd, Agree, eA, eB]
  omega
theorem Truth3_ok (nE : Bool) (T : List Int) (M : Int) (E : Rows) (r : Rd) (hs : okSet T M) (hr : okRd T r) (hE : shapeOK T M E) : ans prog O 47 [eRd r, .vptr [.func (.func 45) [] [.vptr [vl eRow nE E] 0]] 0] = some (.bool (!decide (Agree (errs E) r))) := by
  have := Truth2_ok nE T M E r hs hr hE
  refine fn_of' pl get47 (oo (by decide)) rfl rfl ?_
  simp only [eRd] at this
  simp +contextual (disch := omega) [eRd, this]
def truthV (T : List Int) (M : Int) (l : List Rd) (E : Rows) : AV := .tuple [.bool (decide (askE T M l = 0 ∧ truthP T M l E)), .int .i64 (askE T M l)]
theorem Truth_ok (nT nl nE : Bool) (T : List Int) (M : Int) (l : List Rd) (E : Rows) (hT : T.length < 2 ^ 62) (hl : l.length < 2 ^ 62) (hE : List.length E < 2 ^ 62) (hEr : ∀ i, i < List.length E → (nth E i).2.length < 2 ^ 62) :
    ans prog O 19 [eSet nT T M, vl eRd nl l, vl eRow nE E] = some (truthV T M l E) := by
  by_cases ha : askE T M l = 0
  · obtain ⟨hs, hl24, hr⟩ := okay_ask ha
    have hM := hs.1.2
    have ho := okay_of hs hr
    by_cases hlen : List.length E = T.length
    · have hv : truthV T M l E = .tuple [.bool (decide (truthP T M l E)), .int .i64 0] := by unfold truthV; rw [ha]; simp
      rw [hv]
      refine fn_of' pl get19 (oo (by decide)) rfl rfl ?_
      simp +contextual (disch := omega) [ha, hlen]
      refine lp_loop pl (fun k fr σ => ∃ i, i + k = T.length ∧ fr = ⟨[(1, vl eRd nl l), (3, .ptr (some (0, 0))), (5, .ptr (some (1, 0))), (24, vl eRow nE E), (25, .int .i64 T.length), (26, .int .i64 i)], []⟩ ∧ σ.lim = 0 ∧ σ.next = 2 ∧ σ.get 0 = some (.cells [vs nT T, .int .i64 M]) ∧ σ.get 1 = some (.cells [vl eRow nE E]) ∧ ∀ j, j < i → rowOK M (nth T j) (nth E j).2)
        ⟨T.length, 0, by omega, rfl, rfl, rfl, by simp, by simp, fun j hj => by omega⟩ ?_
      rintro k _ σ ⟨i, hik, rfl, h1, h2, h3, h4, h5⟩
      by_cases hil : i < T.length
      · have hti := hs.2 i hil
        have hri := hEr i (by omega)
        have hc := ContainsFunc_ok (nth E i).1 (nth E i).2 hri 43 [] [.vptr [vs nT T, .int .i64 M] 0] (by decide) rfl rfl rfl rfl (fun n => !decide (-M ≤ n ∧ n ≤ M)) (fun j _ => Truth1_ok nT T M _ hM)
        by_cases hA : ((nth E i).2.length : Int) = nth T i + 1
        · by_cases hB : nth (nth E i).2 0 = 0
          · simp +contextual (disch := omega) [Und, hil, h1, h2, h3, h4, hlen, hA, hB]
            refine ⟨by omega, ?_⟩
            refine pc_scal (.cons (Snap.vl _ (AV.int .i64) _ _) (.cons (SnapK.func .nil (.cons (SnapK.ptr h3 (.cons (SnapK.vl _ _ (AV.int .i64) nT T) (.cons (SnapK.int _ _ _ _) .nil))) .nil)).snap .nil)) (fun h => by simp at h) (by simp) (oo (args := []) (by decide)).1 hc rfl ?_
            simp +contextual (disch := omega) [Und, hil, h1, h2, h3, h4, hlen, hA, hB]
            refine ⟨fun j hj hb ht => ?_, fun hj => ⟨k - 1, by omega, i + 1, by omega, by omega, fun j hj2 => ?_⟩⟩
            · have := (ht.1.2 i (by omega)).2.2 j hj
              omega
            · by_cases e : j = i
              · rw [e]; exact ⟨hA, hB, hj⟩
              · exact h5 j (by omega)
          · simp +contextual (disch := omega) [Und, hil, h1, h2, h3, h4, hlen, hA, hB]
            exact ⟨by omega, fun ht => hB (ht.1.2 i (by omega)).2.1⟩
        · simp +contextual (disch := omega) [Und, hil, h1, h2, h3, h4, hlen, hA]
          exact fun ht => hA (ht.1.2 i (by omega)).1
      · obtain rfl : i = T.length := by omega
        have hsh : shapeOK T M E := ⟨hlen, fun j hj => h5 j (by omega)⟩
        have hc := ContainsFuncR_ok nl l hl 47 [] [.vptr [.func (.func 45) [] [.vptr [vl eRow nE E] 0]] 0] (by decide) rfl rfl rfl rfl (fun r => !decide (Agree (errs E) r)) (fun j hj => Truth3_ok nE T M E _ hs (hr j hj) hsh)
        simp +contextual (disch := omega) [Und, h1, h2, h3, h4]
        refine pc_scal (.cons (Snap.vl _ eRd nl l) (.cons (SnapK.func .nil (.cons (SnapK.ptr (cs := [.func (.func 45) [] [.ptr (some (1, 0))]]) (by simp [h2]) (.cons (SnapK.func .nil (.cons (SnapK.ptr (cs := [vl eRow nE E]) (by simp [h2, h4]) (.cons (SnapK.vl _ _ eRow nE E) .nil)) .nil)) .nil)) .nil)).snap .nil)) (fun h => by simp at h) (by simp) (oo (args := []) (by decide)).1 hc rfl ?_
        simp +contextual (disch := omega) [Und]
        rw [Bool.eq_iff_iff, Bool.not_eq_true', decide_eq_false_iff_not, decide_eq_true_eq]
        constructor
        · rintro ⟨j, hj, h⟩ ht
          exact h (ht.2 j hj)
        · intro h
          refine Classical.byContradiction fun h2 => h ⟨hsh, fun j hj => ?_⟩
          exact Classical.byContradiction fun h3 => h2 ⟨j, hj, h3⟩
    · have hv : truthV T M l E = .tuple [.bool false, .int .i64 0] := by
        unfold truthV; rw [ha, decide_eq_false]
        exact fun h => hlen h.2.1.1
      rw [hv]
      refine fn_of' pl get19 (oo (by decide)) rfl rfl ?_
      have hlen2 : ¬ (List.length E : Int) = T.length := by omega
      simp +contextual (disch := omega) [ha, hlen2]
  · have hv : truthV T M l E = .tuple [.bool false, .int .i64 (askE T M l)] := by
      unfold truthV; rw [decide_eq_false]; exact fun h => ha h.1
    rw [hv]
    refine fn_of' pl get19 (oo (by decide)) rfl rfl ?_
    simp +contextual (disch := omega) [ha]
end Go.Oct.Pla
