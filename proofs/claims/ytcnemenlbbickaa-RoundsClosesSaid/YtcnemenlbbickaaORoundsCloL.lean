/- RoundsCloses: it answers true at all arguments. -/
import Derived.Test.YtcnemenlbbickaaORoundsSpcL
import Derived.Test.YtcnemenlbbickaaORoundsClo
set_option maxRecDepth 100000
set_option maxHeartbeats 8000000
set_option linter.unusedVariables false
set_option linter.unusedSimpArgs false
namespace Go.Oct.Rounds
open Go.Oct
theorem pCloses_bad2 (T : Int) (nC : Bool) (C : List Bool) (nA : Bool) (A : List An) (nH : Bool) (H : List Int) (hC : C.length < 2 ^ 62) (hA : A.length < 2 ^ 62) (hok : ¬ okNet T C A) : ans prog O 37 [eNet T nC C nA A, vs nH H] = some (.tuple [.bool false, .int .i64 60]) := by
  have hck := Check_ok T nC C nA A hC hA
  unfold eNet at hck
  rw [if_neg hok] at hck
  refine fn_of' pl get37 (oo (by decide)) rfl rfl ?_
  simp (disch := omega) [eNet, hck, Und, -Bool.exists_bool, -Check_ok]
theorem RoundsCloses_law (T : Int) (nC nA : Bool) (C : List Bool) (A : List An) (nH : Bool) (H : List Int) (hC : C.length < 2 ^ 62) (hA : A.length < 2 ^ 62) (hH : H.length < 2 ^ 62) :
    ans prog O 10 [eNet T nC C nA A, vs nH H] = some (.bool true) := by
  refine fn_of' pl get10 (oo (by decide)) rfl rfl ?_
  have e0 := SameSpans_ok true true [] [] (by simp)
  have k1 := Check_ok T nC C nA A hC hA
  have k2 := sCheck_ok T nC C nA A hC hA
  obtain ⟨v1, hv1, k3⟩ := Spans_ok T nC C nA A hC hA
  obtain ⟨v2, hv2, k4⟩ := sSpans_ok T nC C nA A hC hA
  obtain ⟨v3, hv3, k5⟩ := Some_ok T nC C nA A hC hA
  by_cases hok : okNet T C A
  · obtain ⟨N, rfl⟩ : ∃ N : Nat, T = N := ⟨T.toNat, by have := hok.1; omega⟩
    have hN := hok.1
    have hA3 := hok.2.2.1
    obtain ⟨b, c, hp, hs⟩ : ∃ b c, ans prog O 37 [eNet N nC C nA A, vs nH H] = some (.tuple [.bool b, .int .i64 c]) ∧ ans prog O 38 [eNet N nC C nA A, vs nH H] = some (.tuple [.bool b, .int .i64 c]) := by
      have h1 := pCloses_ok N nC C nA A nH H hC hA hH
      have h2 := sCloses_ok N nC C nA A nH H hC hA hH
      rw [if_pos hok] at h1 h2
      rw [Int.toNat_natCast] at h2
      by_cases hl : H.length = A.length
      · rw [if_pos hl] at h1 h2; exact ⟨_, _, h1, h2⟩
      · rw [if_neg hl] at h1 h2; exact ⟨_, _, h1, h2⟩
    rw [if_pos hok] at k1 k2
    cases hv3 with
    | bad h => exact absurd hok h
    | none _ hpd =>
      cases hv1 with
      | bad h => exact absurd hok h
      | ok l _ hll hsp =>
        obtain ⟨⟨f, hf, _⟩, _, _⟩ := hsp 0 (by omega)
        exact absurd hpd (not_proved hok hf)
      | none _ _ =>
        cases hv2 with
        | bad h => exact absurd hok h
        | ok N' out e _ hI =>
          obtain rfl : N = N' := by omega
          exact absurd hpd hI.not_proved
        | none _ _ =>
          unfold eNet at k1 k2 k3 k4 k5 hp hs
          simp (disch := omega) [eNet, e0, k1, k2, k3, k4, k5, hp, hs, Und, -Bool.exists_bool, -Check_ok]
    | ok h _ hcl =>
      have hnp := not_proved hok hcl
      cases hv1 with
      | bad h => exact absurd hok h
      | none _ hpd => exact absurd hpd hnp
      | ok l _ hll hsp =>
        cases hv2 with
        | bad h => exact absurd hok h
        | none _ hpd => exact absurd hpd hnp
        | ok N' out e _ hI =>
          obtain rfl : N = N' := by omega
          obtain rfl := hI.done hok hll hsp
          have hlh := (inA_iff.2 hcl.1).1
          have h9 := sCloses_ok N nC C nA A false h hC hA (by omega)
          rw [if_pos hok, if_pos hlh, Int.toNat_natCast, decide_eq_true ((clD_iff hok).2 hcl)] at h9
          have ho : out.length < 2 ^ 62 := by omega
          unfold eNet at k1 k2 k3 k4 k5 hp hs h9
          simp (disch := omega) [eNet, k1, k2, k3, k4, k5, hp, hs, h9, ho, Und, -Bool.exists_bool, -Check_ok]
  · have h1 := pCloses_bad2 T nC C nA A nH H hC hA hok
    have h2 := sCloses_ok T nC C nA A nH H hC hA hH
    rw [if_neg hok] at h2 k1 k2
    cases hv3 with
    | none h _ => exact absurd h hok
    | ok _ h _ => exact absurd h hok
    | bad _ =>
      cases hv1 with
      | none h _ => exact absurd h hok
      | ok _ h _ _ => exact absurd h hok
      | bad _ =>
        cases hv2 with
        | none h _ => exact absurd h hok
        | ok _ _ _ h _ => exact absurd h hok
        | bad _ =>
          unfold eNet at k1 k2 k3 k4 k5 h1 h2
          simp (disch := omega) [eNet, e0, k1, k2, k3, k4, k5, h1, h2, Und, -Bool.exists_bool, -Check_ok]
theorem RoundsCloses_ok (T : Int) (nC nA : Bool) (C : List Bool) (A : List An) (nH : Bool) (H : List Int) (hT : i64 T) {u v w : AV} (hC : Slice AV.bool (fun _ => True) u nC C) (hA : Slice eAn anOK v nA A) (hH : Slice (AV.int .i64) i64 w nH H) :
    ans prog O 10 [.agg [.int .i64 T, vl AV.bool nC C, vl eAn nA A], vs nH H] = some (.bool true) := by
  have h1 := hC.len
  have h2 := hA.len
  have h3 := hH.len
  exact RoundsCloses_law T nC nA C A nH H (by omega) (by omega) (by omega)
end Go.Oct.Rounds
