/- What Ask does with a reading: it counts digits. -/
import Derived.Test.YtddkghgfbhhcdaaGreatDoorOLogResI
import Derived.Test.YtddkghgfbhhcdaaGreatDoorOLogPut
set_option maxRecDepth 100000
set_option maxHeartbeats 8000000
set_option linter.unusedVariables false
set_option linter.unusedSimpArgs false
namespace Go.Oct.Log
open Go.Oct
/-- How often a digit was seen. -/
def cntZ (Y : List (List Int)) (k d : Nat) : Nat := (Y.filter fun y => decide (nth y k = (d : Int))).length
def cntL (Y : List (List Int)) (k : Nat) : List Int := (List.range 10).map fun d => w64 (cntZ Y k d : Int)
theorem cntL_len (Y : List (List Int)) (k : Nat) : (cntL Y k).length = 10 := by simp [cntL]
theorem cntL_nth {Y : List (List Int)} {k d : Nat} (h : d < 10) : nth (cntL Y k) d = w64 (cntZ Y k d : Int) := by
  unfold cntL
  rw [nth_map _ (by simpa using h)]
  simp [nth, List.getD_eq_getElem?_getD, h]
theorem cntZ_snoc {Y : List (List Int)} {y : List Int} {k d : Nat} : cntZ (Y ++ [y]) k d = cntZ Y k d + if nth y k = (d : Int) then 1 else 0 := by
  unfold cntZ
  rw [List.filter_append, List.length_append]
  congr 1
  by_cases e : nth y k = (d : Int) <;> simp [e]
theorem cntL_snoc {Y : List (List Int)} {y : List Int} {k q : Nat} (hq : nth y k = (q : Int)) (hq10 : q < 10) : cntL (Y ++ [y]) k = (cntL Y k).set q (w64 (nth (cntL Y k) q + 1)) := by
  refine list_eq (by rw [List.length_set, cntL_len, cntL_len]) fun d hd => ?_
  rw [cntL_len] at hd
  rw [nth_set (by rw [cntL_len]; omega), cntL_nth hd, cntZ_snoc]
  by_cases e : d = q
  · subst e
    rw [if_pos rfl, if_pos hq, cntL_nth hd, w64_succ]
    rfl
  · rw [if_neg e, if_neg (by rw [hq]; omega), cntL_nth hd]
    rfl
theorem cntL_nil (k : Nat) : cntL [] k = List.replicate 10 0 := by
  refine list_eq (by rw [cntL_len]; rfl) fun d hd => ?_
  rw [cntL_len] at hd
  rw [cntL_nth hd]
  have : nth (List.replicate 10 (0 : Int)) d = 0 := by
    unfold nth
    rw [List.getD_eq_getElem?_getD, List.getElem?_replicate]
    split <;> rfl
  rw [this]
  rfl
/-- Arrays of counts. -/
def MA (L : List Pl) (P : Nat) (f : Nat → Nat) (cn : Nat → Option (List Int)) (es : List PE) (σ : AH) : Prop :=
  (∀ j k, j < L.length → k < L.length → (cn j).isSome = true → (cn k).isSome = true → f j = f k → j = k) ∧
    ∀ k, k < L.length → (cn k = none ∧ pget es (nth L k) = none) ∨ ∃ l, cn k = some l ∧ pget es (nth L k) = some (.ptr (some (f k, 0))) ∧ P + 7 ≤ f k ∧ σ.get (f k) = some (.cells (l.map (AV.int .i64))) ∧ l.length = 10
abbrev C10 (cs : List AV) : Prop := cs.length = 10
abbrev envA (P : Nat) : Env := [(2, .ptr (some (0, 0))), (3, .int .i64 0), (4, .int .i64 0), (5, .ptr (some (P, 0))), (6, .ptr (some (P + 2, 0))), (7, .ptr (some (P + 3, 0))), (27, .func (.func 52) [] [.ptr (some (P + 4, 0))])]
abbrev stA (P : Nat) : List Nat := [P + 1, P + 3, P + 6]
def cnY (Y : List (List Int)) (k : Nat) : Option (List Int) := if Y = [] then none else some (cntL Y k)
structure AI (P m : Nat) (R : Page) (lv : AV) (L : List Pl) (Y : List (List Int)) (σ : AH) : Prop where
  lim : σ.lim = 0
  nx : P + 7 ≤ σ.next
  num : σ.get (P + 3) = some (.cells [.int .i64 (w64 Y.length)])
  cell : σ.get (P + 2) = some (.cells [.map (some (P + 1))])
  page : σ.get P = some (.cells [vP R, lv, .map (some m)])
  lost : LV σ lv L
  low : ∀ o ∈ obj lv, o < P ∧ o ≠ m
  mp : ∃ es c f, σ.get (P + 1) = some (.map (es.map entP) c) ∧ MA L P f (cnY Y) es σ
  loop : σ.get (P + 6) = some (.loop 9 0 (envA P) .ready none (P + 5))
theorem MA.keep {L : List Pl} {P : Nat} {f : Nat → Nat} {cn : Nat → Option (List Int)} {es : List PE} {σ σ' : AH} (h : MA L P f cn es σ) (hO : ∀ z, P + 7 ≤ z → z < σ.next → σ'.get z = σ.get z) : MA L P f cn es σ' := by
  refine ⟨h.1, fun k hk => ?_⟩
  rcases h.2 k hk with h1 | ⟨l, h1, h2, h3, h4, h5⟩
  · exact .inl h1
  · exact .inr ⟨l, h1, h2, h3, (hO _ h3 (AH.get_lt h4)).trans h4, h5⟩
theorem AI.keep {P m : Nat} {R : Page} {lv : AV} {L : List Pl} (hm : 0 < m ∧ m < P) {Y : List (List Int)} {σ σ' : AH} (h : AI P m R lv L Y σ) (hO : Only [m] σ σ') : AI P m R lv L Y σ' := by
  have hn := hO.next
  have hx := h.nx
  have hg : ∀ z, z < σ.next → z ≠ m → σ'.get z = σ.get z := fun z h1 h2 => hO.get z h1 (by simp [h2])
  obtain ⟨es, c, f, m1, m2⟩ := h.mp
  exact ⟨hO.lim.trans h.lim, by omega, (hg _ (by omega) (by omega)).trans h.num, (hg _ (by omega) (by omega)).trans h.cell, (hg _ (by omega) (by omega)).trans h.page, h.lost.same fun o ho hon => hg o hon (h.low o ho).2, h.low,
    ⟨es, c, f, (hg _ (by omega) (by omega)).trans m1, m2.keep fun z z1 z2 => hg z z2 (by omega)⟩, (hg _ (by omega) (by omega)).trans h.loop⟩
/-- One more count. -/
theorem MA.add {L : List Pl} {P : Nat} {f : Nat → Nat} {cn cn' : Nat → Option (List Int)} {es : List PE} {σ : AH} (h : MA L P f cn es σ) {j q : Nat} (hj : j < L.length) {l : List Int} (hl : cn j = some l) {x : Int} (h2 : cn' j = some (l.set q x)) (h3 : ∀ k, k ≠ j → cn' k = cn k) : MA L P f cn' es (σ.set (f j) (.cells ((l.set q x).map (AV.int .i64)))) := by
  have hs : ∀ k, (cn' k).isSome = (cn k).isSome := fun k => by
    by_cases e : k = j
    · subst e; rw [h2, hl]; rfl
    · rw [h3 k e]
  refine ⟨fun a b ha hb h1 h2 e => h.1 a b ha hb (by rw [← hs]; exact h1) (by rw [← hs]; exact h2) e, fun k hk => ?_⟩
  by_cases e : k = j
  · subst e
    rcases h.2 k hk with ⟨h4, _⟩ | ⟨l', h4, h5, h6, h7, h8⟩
    · rw [hl] at h4; cases h4
    · rw [hl] at h4
      cases h4
      exact .inr ⟨_, h2, h5, h6, AH.get_set_same _ _ _ (AH.get_lt h7), by rw [List.length_set]; exact h8⟩
  · rw [h3 k e]
    rcases h.2 k hk with h4 | ⟨l', h4, h5, h6, h7, h8⟩
    · exact .inl h4
    · refine .inr ⟨l', h4, h5, h6, ?_, h8⟩
      rw [AH.get_set_other _ _ _ _ fun e2 => e (h.1 k j hk hj (by rw [h4]; rfl) (by rw [hl]; rfl) e2)]
      exact h7
def upF (f : Nat → Nat) (j o : Nat) : Nat → Nat := fun k => if k = j then o else f k
theorem upF_same (f : Nat → Nat) (j o : Nat) : upF f j o j = o := if_pos rfl
theorem upF_other {f : Nat → Nat} {j o k : Nat} (h : k ≠ j) : upF f j o k = f k := if_neg h
/-- A new array. -/
theorem MA.new {L : List Pl} (hL : ∀ j j', j < L.length → j' < L.length → nth L j = nth L j' → j = j') {P : Nat} {f : Nat → Nat} {cn cn' : Nat → Option (List Int)} {es es' : List PE} {σ σ' : AH} (h : MA L P f cn es σ) {j o : Nat} (hj : j < L.length) (hl : cn j = none) {l : List Int} (h2 : cn' j = some l) (h3 : ∀ k, k ≠ j → cn' k = cn k) (hl10 : l.length = 10)
    (ho : P + 7 ≤ o ∧ σ.next ≤ o) (hg : σ'.get o = some (.cells (l.map (AV.int .i64)))) (hO : ∀ z, P + 7 ≤ z → z < σ.next → σ'.get z = σ.get z) (hes : ∀ t, pget es' t = if nth L j = t then some (.ptr (some (o, 0))) else pget es t) : MA L P (upF f j o) cn' es' σ' := by
  have old : ∀ k, k < L.length → k ≠ j → (cn' k).isSome = true → f k < σ.next := fun k hk e hs => by
    rw [h3 k e] at hs
    rcases h.2 k hk with ⟨h4, _⟩ | ⟨l', h4, h5, h6, h7, h8⟩
    · rw [h4] at hs; cases hs
    · exact AH.get_lt h7
  refine ⟨fun a b ha hb h1 h2 e => ?_, fun k hk => ?_⟩
  · by_cases e1 : a = j
    · by_cases e2 : b = j
      · omega
      · have := old b hb e2 h2
        rw [e1, upF_same, upF_other e2] at e
        omega
    · by_cases e2 : b = j
      · have := old a ha e1 h1
        rw [e2, upF_same, upF_other e1] at e
        omega
      · rw [upF_other e1, upF_other e2] at e
        rw [h3 a e1] at h1
        rw [h3 b e2] at h2
        exact h.1 a b ha hb h1 h2 e
  · by_cases e : k = j
    · subst e
      exact .inr ⟨l, h2, by rw [hes, if_pos rfl, upF_same], by rw [upF_same]; exact ho.1, by rw [upF_same]; exact hg, hl10⟩
    · have hne : ¬ nth L j = nth L k := fun e2 => e (hL j k hj hk e2).symm
      rw [h3 k e, hes, if_neg hne, upF_other e]
      rcases h.2 k hk with h4 | ⟨l', h4, h5, h6, h7, h8⟩
      · exact .inl h4
      · exact .inr ⟨l', h4, h5, h6, (hO _ h6 (AH.get_lt h7)).trans h7, h8⟩
end Go.Oct.Log
