/- RoundsProves: it answers true at all arguments. -/
import Derived.Test.YtcnemenlbbickaaORoundsSpcH
import Derived.Test.YtcnemenlbbickaaORoundsHol
set_option maxRecDepth 100000
set_option maxHeartbeats 8000000
set_option linter.unusedVariables false
set_option linter.unusedSimpArgs false
namespace Go.Oct.Rounds
open Go.Oct
theorem RoundsProves_law (T : Int) (nC nA : Bool) (C : List Bool) (A : List An) (nP nQ : Bool) (P Q : List Int) (small : Bool) (hC : C.length < 2 ^ 62) (hA : A.length < 2 ^ 62) (hP : P.length < 2 ^ 62) (hQ : Q.length < 2 ^ 62) :
    ans prog O 4 [eNet T nC C nA A, .agg [vs nP P, vs nQ Q, .bool small]] = some (.bool true) := by
  refine fn_of' pl get4 (oo (by decide)) rfl rfl ?_
  have e0 := Same_ok true true [] [] (by simp)
  obtain ⟨b, c, k1, k2⟩ : ∃ b c, ans prog O 20 [eNet T nC C nA A, .agg [vs nP P, vs nQ Q, .bool small]] = some (.tuple [.bool b, .int .i64 c]) ∧ ans prog O 21 [eNet T nC C nA A, .agg [vs nP P, vs nQ Q, .bool small]] = some (.tuple [.bool b, .int .i64 c]) := by
    rw [pHolds_ok T nC C nA A nP nQ P Q small hC hA hP hQ, sHolds_ok T nC C nA A nP nQ P Q small hC hA hP hQ]
    split
    · split
      · exact ⟨_, _, rfl, rfl⟩
      · exact ⟨_, _, rfl, rfl⟩
    · exact ⟨_, _, rfl, rfl⟩
  obtain ⟨v1, hv1, k3⟩ := Suspects_ok T nC C nA A hC hA
  obtain ⟨v2, hv2, k4⟩ := sSuspects_ok T nC C nA A hC hA
  obtain ⟨v3, hv3, k5⟩ := Proof_ok T nC C nA A hC hA
  by_cases hok : okNet T C A
  · obtain ⟨N, rfl⟩ : ∃ N : Nat, T = N := ⟨T.toNat, by have := hok.1; omega⟩
    have hN := hok.1
    have hC8 := hok.2.1
    have hA3 := hok.2.2.1
    cases hv1 with
    | bad h => exact absurd hok h
    | none f _ hf =>
      cases hv2 with
      | bad h => exact absurd hok h
      | ok nl _ hno => exact absurd hf (hno f)
      | none _ _ _ =>
        cases hv3 with
        | bad h => exact absurd hok h
        | ok a b P' Q' s' _ hp hh => exact absurd ⟨P', Q', s', hp, hh⟩ (not_proved hok hf)
        | none _ _ _ =>
          unfold eNet at k1 k2 k3 k4 k5
          simp (disch := omega) [eNet, e0, k1, k2, k3, k4, k5, Und, -Bool.exists_bool, -Check_ok]
    | ok nl _ hno =>
      cases hv2 with
      | bad h => exact absurd hok h
      | none f _ hf => exact absurd hf (hno f)
      | ok nl2 _ _ =>
        cases hv3 with
        | bad h => exact absurd hok h
        | none f _ hf => exact absurd hf (hno f)
        | ok a b' P' Q' s' _ hp hh =>
          have h1 : P'.length ≤ 8 := by
            have := sel_len (fun k => P'.contains (k : Int)) N
            rw [← rise_sel N P' hp.1] at this; omega
          have h2 : Q'.length ≤ 8 := by
            have := sel_len (fun k => Q'.contains (k : Int)) C.length
            rw [← rise_sel C.length Q' hp.2.1] at this; omega
          have h9 := sHolds_ok N nC C nA A a b' P' Q' s' hC hA (by omega) (by omega)
          rw [if_pos hok, if_pos hp, decide_eq_true hh] at h9
          have hsl : (susL N C A).length ≤ A.length := sel_len _ _
          have e1 := Same_ok nl nl2 (susL N C A) (susL N C A) (by omega)
          unfold eNet at k1 k2 k3 k4 k5 h9
          simp (disch := omega) [eNet, e1, k1, k2, k3, k4, k5, h9, Und, -Bool.exists_bool, -Check_ok]
  · cases hv1 with
    | none _ h _ => exact absurd h hok
    | ok _ h _ => exact absurd h hok
    | bad _ =>
      cases hv2 with
      | none _ h _ => exact absurd h hok
      | ok _ h _ => exact absurd h hok
      | bad _ =>
        cases hv3 with
        | none _ h _ => exact absurd h hok
        | ok _ _ _ _ _ h _ _ => exact absurd h hok
        | bad _ =>
          unfold eNet at k1 k2 k3 k4 k5
          simp (disch := omega) [eNet, e0, k1, k2, k3, k4, k5, Und, -Bool.exists_bool, -Check_ok]
theorem RoundsProves_ok (T : Int) (nC nA : Bool) (C : List Bool) (A : List An) (nP nQ : Bool) (P Q : List Int) (small : Bool) (hT : i64 T) {u v w x : AV} (hC : Slice AV.bool (fun _ => True) u nC C) (hA : Slice eAn anOK v nA A) (hP : Slice (AV.int .i64) i64 w nP P) (hQ : Slice (AV.int .i64) i64 x nQ Q) :
    ans prog O 4 [.agg [.int .i64 T, vl AV.bool nC C, vl eAn nA A], .agg [vs nP P, vs nQ Q, .bool small]] = some (.bool true) := by
  have h1 := hC.len
  have h2 := hA.len
  have h3 := hP.len
  have h4 := hQ.len
  exact RoundsProves_law T nC nA C A nP nQ P Q small (by omega) (by omega) (by omega) (by omega)
end Go.Oct.Rounds
