/- Posts, plain: the search, the specification's, the best ones. -/
import Derived.Test.YtpgjndgpackffaaDoorOShopB0
set_option maxRecDepth 100000
set_option maxHeartbeats 4000000
set_option linter.unusedVariables false
set_option linter.unusedSimpArgs false
namespace Go.Oct.Shop
open Go.Oct
structure Mn where
  sk : Int
  wg : Int
  deriving DecidableEq, Inhabited
def eMn (x : Mn) : AV := .agg [.int .i64 x.sk, .int .i64 x.wg]
theorem encMn : Enc eMn 2 := ⟨fun _ => rfl, fun _ => rfl, fun _ => rfl, by decide⟩
@[simp] theorem aidx_mn {nl : Bool} {xs : List Mn} (q : IntKind) (i : Int) : aidx 2 (vl eMn nl xs) (.int q i) = if 0 ≤ i ∧ i < (xs.length : Int) then some (.vptr [.int .i64 (nth xs i.toNat).sk, .int .i64 (nth xs i.toNat).wg] 0) else none :=
  aidx_vl (e := eMn) (fun _ => rfl) q i
/-- Has a journeyman a skill? -/
def hasS (x : Mn) (t : Int) : Bool := x.sk.toNat.testBit t.toNat
def ablP (M : List Mn) (T so : List Int) (m : Nat) : Bool := hasS (nth M m) (nth T so.length) && !so.contains (m : Int)
def wage (M : List Mn) (P : List Int) : Int := (P.map fun m => (nth M m.toNat).wg).sum
theorem wage_cons (M : List Mn) (m : Int) (P : List Int) : wage M (m :: P) = (nth M m.toNat).wg + wage M P := by simp [wage]
theorem wage_app (M : List Mn) (P : List Int) (m : Int) : wage M (P ++ [m]) = wage M P + (nth M m.toNat).wg := by simp [wage]
structure PSt where
  found : Bool
  wages : Int
  best : List Int
/-- The program's search. -/
def srch (M : List Mn) (T : List Int) : Nat → List Int → PSt → PSt
  | 0, so, st => if st.found = false ∨ wage M so < st.wages then ⟨true, wage M so, so⟩ else st
  | d + 1, so, st => (List.range M.length).foldl (fun st m => if ablP M T so m then srch M T d (so ++ [(m : Int)]) st else st) st
/-- The specification's. -/
def stepS (M : List Mn) (r : PSt) (st : PSt) (m : Nat) : PSt := if r.found = true ∧ (st.found = false ∨ r.wages + (nth M m).wg < st.wages) then ⟨true, r.wages + (nth M m).wg, (m : Int) :: r.best⟩ else st
def specP (M : List Mn) (T : List Int) : Nat → List Int → PSt
  | 0, so => ⟨true, 0, []⟩
  | d + 1, so => (List.range M.length).foldl (fun st m => if ablP M T so m then stepS M (specP M T d (so ++ [(m : Int)])) st m else st) ⟨false, 0, []⟩
def joinP (M : List Mn) (so : List Int) (st r : PSt) : PSt := if r.found = true ∧ (st.found = false ∨ wage M so + r.wages < st.wages) then ⟨true, wage M so + r.wages, so ++ r.best⟩ else st
def srchTo (M : List Mn) (T : List Int) (d : Nat) (so : List Int) (n : Nat) (st : PSt) : PSt := (List.range n).foldl (fun st m => if ablP M T so m then srch M T d (so ++ [(m : Int)]) st else st) st
def specTo (M : List Mn) (T : List Int) (d : Nat) (so : List Int) (n : Nat) : PSt := (List.range n).foldl (fun st m => if ablP M T so m then stepS M (specP M T d (so ++ [(m : Int)])) st m else st) ⟨false, 0, []⟩
theorem srchTo_succ (M : List Mn) (T : List Int) (d : Nat) (so : List Int) (n : Nat) (st : PSt) : srchTo M T d so (n + 1) st = if ablP M T so n then srch M T d (so ++ [(n : Int)]) (srchTo M T d so n st) else srchTo M T d so n st := by
  unfold srchTo
  rw [List.range_succ, List.foldl_append]
  rfl
theorem specTo_succ (M : List Mn) (T : List Int) (d : Nat) (so : List Int) (n : Nat) : specTo M T d so (n + 1) = if ablP M T so n then stepS M (specP M T d (so ++ [(n : Int)])) (specTo M T d so n) n else specTo M T d so n := by
  unfold specTo
  rw [List.range_succ, List.foldl_append]
  rfl
theorem join_step (M : List Mn) (so : List Int) (n : Nat) (st F r : PSt) : joinP M (so ++ [(n : Int)]) (joinP M so st F) r = joinP M so st (stepS M r F n) := by
  unfold joinP stepS
  have hw : wage M (so ++ [(n : Int)]) = wage M so + (nth M n).wg := by rw [wage_app, Int.toNat_natCast]
  have happ : so ++ [(n : Int)] ++ r.best = so ++ ((n : Int) :: r.best) := by simp
  rw [hw, happ]
  obtain ⟨rf, rw', rb⟩ := r
  obtain ⟨Ff, Fw, Fb⟩ := F
  obtain ⟨sf, sw, sb⟩ := st
  cases rf <;> cases Ff <;> cases sf <;> simp
  · have e : wage M so + (nth M n).wg + rw' = wage M so + (rw' + (nth M n).wg) := by omega
    rw [e]
  · have e : wage M so + (nth M n).wg + rw' = wage M so + (rw' + (nth M n).wg) := by omega
    rw [e]
  · have e : wage M so + (nth M n).wg + rw' = wage M so + (rw' + (nth M n).wg) := by omega
    rw [e]
    by_cases h : rw' + (nth M n).wg < Fw
    · rw [if_pos h, if_pos (by omega)]; simp
    · rw [if_neg h, if_neg (by omega)]; simp
  · have e : wage M so + (nth M n).wg + rw' = wage M so + (rw' + (nth M n).wg) := by omega
    rw [e]
    by_cases h : rw' + (nth M n).wg < Fw
    · by_cases h2 : wage M so + Fw < sw
      · have h3 : wage M so + (rw' + (nth M n).wg) < sw := by omega
        simp [h, h2, h3]
      · simp [h, h2]
    · by_cases h2 : wage M so + Fw < sw
      · simp [h, h2]
      · have h3 : ¬ wage M so + (rw' + (nth M n).wg) < sw := by omega
        simp [h, h2, h3]
theorem srch_spec (M : List Mn) (T : List Int) : ∀ (d : Nat) (so : List Int) (st : PSt), srch M T d so st = joinP M so st (specP M T d so)
  | 0, so, st => by simp [srch, specP, joinP]
  | d + 1, so, st => by
    have h : ∀ n, srchTo M T d so n st = joinP M so st (specTo M T d so n) := by
      intro n
      induction n with
      | zero => simp [srchTo, specTo, joinP]
      | succ n ih =>
        rw [srchTo_succ, specTo_succ, ih]
        split
        · rw [srch_spec M T d, join_step]
        · rfl
    exact h M.length
/-- A list that completes posts. -/
def comp (M : List Mn) (T : List Int) : List Int → List Int → Prop
  | so, [] => so.length = T.length
  | so, m :: P => (∃ n : Nat, n < M.length ∧ m = n ∧ so.length < T.length ∧ ablP M T so n = true) ∧ comp M T (so ++ [m]) P
theorem comp_len {M : List Mn} {T : List Int} : ∀ {so P : List Int}, comp M T so P → so.length + P.length = T.length
  | _, [], h => h
  | so, m :: P, h => by
    have := comp_len h.2
    simp at this ⊢
    omega
/-- What the specification's search finds is the best. -/
theorem spec_best (M : List Mn) (T : List Int) : ∀ (d : Nat) (so : List Int), so.length + d = T.length →
    (∀ P, comp M T so P → (specP M T d so).found = true ∧ (specP M T d so).wages ≤ wage M P) ∧
    ((specP M T d so).found = true → comp M T so (specP M T d so).best ∧ (specP M T d so).wages = wage M (specP M T d so).best) ∧
    ((specP M T d so).found = false → (specP M T d so).best = [] ∧ (specP M T d so).wages = 0)
  | 0, so, hd => by
    refine ⟨fun P hP => ?_, fun _ => ⟨hd, rfl⟩, fun h => by cases h⟩
    have := comp_len hP
    obtain rfl : P = [] := List.length_eq_zero_iff.1 (by omega)
    exact ⟨rfl, Int.le_refl _⟩
  | d + 1, so, hd => by
    have h : ∀ n, n ≤ M.length →
        (∀ m P, m < n → ablP M T so m = true → comp M T (so ++ [(m : Int)]) P → (specTo M T d so n).found = true ∧ (specTo M T d so n).wages ≤ wage M ((m : Int) :: P)) ∧
        ((specTo M T d so n).found = true → comp M T so (specTo M T d so n).best ∧ (specTo M T d so n).wages = wage M (specTo M T d so n).best) ∧
        ((specTo M T d so n).found = false → (specTo M T d so n).best = [] ∧ (specTo M T d so n).wages = 0) := by
      intro n
      induction n with
      | zero => intro _; exact ⟨fun m P hm => by omega, fun h => by simp [specTo] at h, fun _ => ⟨rfl, rfl⟩⟩
      | succ n ih =>
        intro hn
        obtain ⟨i1, i2, i3⟩ := ih (by omega)
        rw [specTo_succ]
        by_cases ha : ablP M T so n = true
        · rw [if_pos ha]
          obtain ⟨b1, b2, b3⟩ := spec_best M T d (so ++ [(n : Int)]) (by simp; omega)
          generalize specP M T d (so ++ [(n : Int)]) = r at *
          generalize specTo M T d so n = F at *
          by_cases hc : r.found = true ∧ (F.found = false ∨ r.wages + (nth M n).wg < F.wages)
          · have hs : stepS M r F n = ⟨true, r.wages + (nth M n).wg, (n : Int) :: r.best⟩ := if_pos hc
            rw [hs]
            obtain ⟨c1, c2⟩ := b2 hc.1
            refine ⟨fun m P hm hb hP => ⟨rfl, ?_⟩, fun _ => ⟨⟨⟨n, by omega, rfl, by omega, ha⟩, c1⟩, ?_⟩, fun h => by cases h⟩
            · show r.wages + (nth M n).wg ≤ _
              by_cases e : m = n
              · subst e
                have := (b1 P hP).2
                rw [wage_cons, Int.toNat_natCast]
                omega
              · have h5 := i1 m P (by omega) hb hP
                rcases hc.2 with h6 | h6
                · rw [h5.1] at h6; cases h6
                · omega
            · show r.wages + (nth M n).wg = wage M ((n : Int) :: r.best)
              rw [wage_cons, Int.toNat_natCast, c2]
              omega
          · have hs : stepS M r F n = F := if_neg hc
            rw [hs]
            refine ⟨fun m P hm hb hP => ?_, i2, i3⟩
            by_cases e : m = n
            · subst e
              obtain ⟨h5, h6⟩ := b1 P hP
              have hF : F.found = true := by
                cases hf : F.found with
                | true => rfl
                | false => exact absurd ⟨h5, .inl hf⟩ hc
              refine ⟨hF, ?_⟩
              rw [wage_cons, Int.toNat_natCast]
              have : ¬ r.wages + (nth M m).wg < F.wages := fun h => hc ⟨h5, .inr h⟩
              omega
            · exact i1 m P (by omega) hb hP
        · rw [if_neg ha]
          refine ⟨fun m P hm hb hP => ?_, i2, i3⟩
          by_cases e : m = n
          · subst e; exact absurd hb ha
          · exact i1 m P (by omega) hb hP
    obtain ⟨h1, h2, h3⟩ := h M.length (Nat.le_refl _)
    refine ⟨fun P hP => ?_, h2, h3⟩
    cases P with
    | nil => have : so.length = T.length := hP; omega
    | cons m P =>
      obtain ⟨⟨n, hn, rfl, _, ha⟩, hP'⟩ := hP
      exact h1 n P hn ha hP'
end Go.Oct.Shop
