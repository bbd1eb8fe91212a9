/- Nets: the goals of the two fillings. -/
import Derived.Test.YtddkghgfbhhcdaaOTriFloD
set_option maxRecDepth 100000
set_option maxHeartbeats 4000000
set_option linter.unusedVariables false
set_option linter.unusedSimpArgs false
namespace Go.Oct.Tri
open Go.Oct
/-- How much a place wants: closed stations what they lack, or the open place all. -/
def gL (ph : Bool) (L : List Int) (p : Nat) : Int := bif ph then (if p < 8 ∨ p = 16 then 0 else nth L p) else if p = 16 then 10368000 else 0
def gFn (ph : Bool) : Nat := bif ph then 101 else 104
def gYs (ph : Bool) (bx : Nat) : List AV := bif ph then [.ptr (some (bx, 0))] else []
def tFn (ph : Bool) : Nat := bif ph then 102 else 105
/-- What places lack when some have come. -/
def tL (ph : Bool) (L : List Int) (p : Nat) (w : Int) : List Int := bif ph then L.set p (nth L p - w) else L
section
variable {T : Int} {nC : Bool} {C : List Bool} {aA : AV} {E : List Ed} {n i : Nat} {L : List Int}
theorem goal_call {ph : Bool} {bx : Nat} {σ : AH} {p : Nat} {K : AV → AH → Prop} (hl : L.length = 17) (h1 : σ.get bx = some (.cells [.ptr (some (n, 0))])) (h2 : σ.get n = some (.cells (netC T nC C aA i E.length L))) (hp : p < 17) (hk : K (.int .i64 (gL ph L p)) σ) :
    Call prog O (.fn (gFn ph)) (.int .i64 p :: gYs ph bx) σ K := by
  cases ph with
  | false =>
    refine @call_of' _ _ pl _ _ _ _ _ _ _ ⟨K⟩ get104 ((oo (by decide)).2 _) rfl ?_
    unfold gL at hk
    by_cases h : p = 16
    · subst h
      simp (disch := omega) [gYs, Und, -Bool.exists_bool]
      exact hk
    · have h' : ¬ (p : Int) = 16 := by omega
      simp [h] at hk
      simp (disch := omega) [gYs, Und, h', -Bool.exists_bool]
      exact hk
  | true =>
    refine @call_of' _ _ pl _ _ _ _ _ _ _ ⟨K⟩ get101 ((oo (by decide)).2 _) rfl ?_
    unfold gL at hk
    have hnl := netC_len (T := T) (nC := nC) (C := C) (aA := aA) (i := i) (m := E.length) (L := L)
    have hnp := netC_L (T := T) (nC := nC) (C := C) (aA := aA) (i := i) (m := E.length) (L := L) (k := p) (by omega)
    by_cases h : p < 8
    · have h' : (p : Int) < 8 := by omega
      simp [h] at hk
      simp (disch := omega) [gYs, Und, h', -Bool.exists_bool]
      exact hk
    · have h' : ¬ (p : Int) < 8 := by omega
      by_cases h3 : p = 16
      · subst h3
        simp (disch := omega) [gYs, Und, -Bool.exists_bool]
        exact hk
      · have h4 : ¬ (p : Int) = 16 := by omega
        have h5 : 4 + p + 1 ≤ 4 + 17 := by omega
        have h6 : (p : Int) < 17 := by omega
        simp [h, h3] at hk
        simp (disch := omega) [gYs, Und, h', h4, h1, h2, hl, hnl, hnp, h5, h6, -Bool.exists_bool, -getElem?_pos]
        exact hk
theorem took_call {ph : Bool} {bx : Nat} {σ : AH} {p : Nat} {w : Int} {K : AV → AH → Prop} (hl : L.length = 17) (h0 : σ.lim = 0) (h1 : σ.get bx = some (.cells [.ptr (some (n, 0))])) (h2 : σ.get n = some (.cells (netC T nC C aA i E.length L))) (hp : p < 17) (hb : -9223372036854775808 ≤ nth L p - w ∧ nth L p - w ≤ 9223372036854775807)
    (hk : ∀ σ', σ'.get n = some (.cells (netC T nC C aA i E.length (tL ph L p w))) → Only [n] σ σ' → K (.tuple []) σ') :
    Call prog O (.fn (tFn ph)) (.int .i64 p :: .int .i64 w :: gYs ph bx) σ K := by
  cases ph with
  | false =>
    refine @call_of' _ _ pl _ _ _ _ _ _ _ ⟨K⟩ get105 ((oo (by decide)).2 _) rfl ?_
    simp (disch := omega) [gYs, Und, -Bool.exists_bool]
    exact hk σ h2 (Only.refl _ _)
  | true =>
    refine @call_of' _ _ pl _ _ _ _ _ _ _ ⟨K⟩ get102 ((oo (by decide)).2 _) rfl ?_
    have hnl := netC_len (T := T) (nC := nC) (C := C) (aA := aA) (i := i) (m := E.length) (L := L)
    have hnp := netC_L (T := T) (nC := nC) (C := C) (aA := aA) (i := i) (m := E.length) (L := L) (k := p) (by omega)
    have hns := fun y => netC_set (T := T) (nC := nC) (C := C) (aA := aA) (i := i) (m := E.length) (L := L) (k := p) y
    have h5 : 4 + p + 1 ≤ 4 + 17 := by omega
    have h6 : (p : Int) < 17 := by omega
    have h7 := AH.get_lt h2
    simp (disch := omega) [gYs, Und, h0, h1, h2, h7, hl, hnl, hnp, hns, h5, h6, -Bool.exists_bool, -getElem?_pos]
    exact hk _ (AH.get_set_same _ _ _ h7) ⟨rfl, Nat.le_refl _, fun k _ hs => AH.get_set_other _ _ _ _ (by simpa using hs)⟩
/-- What filling remembers. -/
def PF (T : Int) (nC : Bool) (C : List Bool) (aA : AV) (E : List Ed) (n i : Nat) (L : List Int) (ph : Bool) (bx b4 go : Nat) (o : Option Nat) (σ : AH) : Prop :=
  σ.lim = 0 ∧ σ.get bx = some (.cells [.ptr (some (n, 0))]) ∧ σ.get n = some (.cells (netC T nC C aA i E.length L)) ∧ σ.get b4 = some (.cells [.func (.func (gFn ph)) [] (gYs ph bx)]) ∧ match o with
    | none => ∃ x, σ.get go = some (.cells [.int .i64 x])
    | some p => σ.get go = some (.cells [.int .i64 p])
theorem fill_goal {ph : Bool} {bx b4 go B : Nat} (hl : L.length = 17) (h1 : go < B) (h2 : go ≠ n) (h3 : go ≠ i) (h4 : n < B) (h5 : n ≠ i) (h6 : bx < B) (h7 : bx ≠ i) (h8 : b4 < B) (h9 : b4 ≠ i) (h10 : go ≠ bx) (h11 : go ≠ b4) :
    Goal 133 [.ptr (some (b4, 0)), .ptr (some (go, 0))] (gL ph L) (PF T nC C aA E n i L ph bx b4 go) B n i go := by
  refine ⟨by decide, h2, h1, h3, fun o σ σ' hP hli hnx hg => ?_, fun σ p K hP hB hp hg hk => ?_, fun σ p K hP hB hp hg hk => ?_⟩
  · obtain ⟨p0, p1, p2, p3, p4⟩ := hP
    refine ⟨hli.trans p0, (hg _ h6 h7).trans p1, (hg _ h4 h5).trans p2, (hg _ h8 h9).trans p3, ?_⟩
    cases o with
    | none => obtain ⟨x, p4⟩ := p4; exact ⟨x, (hg _ h1 h3).trans p4⟩
    | some p => exact (hg _ h1 h3).trans p4
  · obtain ⟨p0, p1, p2, p3, p4⟩ := hP
    refine @call_of' _ _ pl _ _ _ _ _ _ _ ⟨K⟩ get133 ((oo (by decide)).2 _) rfl ?_
    have hpl : pl.contains (gFn ph) = true := by cases ph <;> decide
    simp at hpl
    simp (disch := omega) [Und, p3, hpl, -Bool.exists_bool]
    refine goal_call (T := T) (nC := nC) (C := C) (aA := aA) (E := E) (i := i) hl p1 p2 hp ?_
    have hg' : ¬ 0 < gL ph L p := by omega
    simp (disch := omega) [Und, hg', -Bool.exists_bool]
    exact hk σ (Only.refl _ _)
  · obtain ⟨p0, p1, p2, p3, x, p4⟩ := hP
    refine @call_of' _ _ pl _ _ _ _ _ _ _ ⟨K⟩ get133 ((oo (by decide)).2 _) rfl ?_
    have hpl : pl.contains (gFn ph) = true := by cases ph <;> decide
    simp at hpl
    simp (disch := omega) [Und, p3, hpl, -Bool.exists_bool]
    refine goal_call (T := T) (nC := nC) (C := C) (aA := aA) (E := E) (i := i) hl p1 p2 hp ?_
    have p5 := AH.get_lt p4
    simp (disch := omega) [Und, hg, p0, p4, p5, -Bool.exists_bool]
    refine hk _ ⟨rfl, Nat.le_refl _, fun k _ hs => AH.get_set_other _ _ _ _ (by simpa using hs)⟩ ⟨p0, ?_, ?_, ?_, ?_⟩
    · rw [AH.get_set_other _ _ _ _ (by omega)]; exact p1
    · rw [AH.get_set_other _ _ _ _ (by omega)]; exact p2
    · rw [AH.get_set_other _ _ _ _ (by omega)]; exact p3
    · exact AH.get_set_same _ _ _ p5
end
end Go.Oct.Tri
