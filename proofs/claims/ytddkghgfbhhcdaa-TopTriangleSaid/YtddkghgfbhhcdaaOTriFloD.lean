/- Nets: seconds are sent, and places are filled, walked. -/
import Derived.Test.YtddkghgfbhhcdaaOTriFloB
set_option maxRecDepth 100000
set_option maxHeartbeats 4000000
set_option linter.unusedVariables false
set_option linter.unusedSimpArgs false
namespace Go.Oct.Tri
open Go.Oct
theorem cells_rC (R : List Bool) (F : List Int) : (AV.agg (rC R F)).cells = rC R F := rfl
section
variable {T : Int} {nC : Bool} {C : List Bool} {aA : AV} {E : List Ed} {n i : Nat} {L : List Int}
def bF : List Bool := List.replicate 17 false
theorem bF_len : bF.length = 17 := by simp [bF]
theorem bF_no (p : Nat) : nth bF p = false := by
  unfold nth bF
  rw [List.getD_eq_getElem?_getD, List.getElem?_replicate]
  split <;> rfl
theorem send_call (hE : okE E) {gf : Nat} {gys : List AV} {g : Nat → Int} {P : Option Nat → AH → Prop} {go : Nat} {σ : AH} (hg : Goal gf gys g P σ.next n i go) {b : Int} {R : List Bool} {F : List Int} (hR : R.length = 17) (hFl : F.length = 17) (hF : ∀ q, q < 17 → 0 ≤ nth F q ∧ nth F q ≤ 17) {h : List Int}
    (hn : NetI T nC C aA E n i h L σ) (hP : P none σ) {p : Nat} {most : Int} (hp : p < 17) (hm1 : 0 < most) (hm2 : most ≤ 1000000000) {K : AV → AH → Prop}
    (hk0 : ∀ σ' (D : List Bool), NetI T nC C aA E n i h L σ' → P none σ' → nth D p = true → Dead E h b F g D → Only [] σ σ' → K (.int .i64 0) σ')
    (hk1 : ∀ σ' h' ps w, NetI T nC C aA E n i h' L σ' → P (some ps) σ' → Sent E b F g h h' p ps w → w ≤ most → Only [i, go] σ σ' → K (.int .i64 w) σ') :
    Call prog O (.fn 96) [.ptr (some (n, 0)), .int .i64 p, .int .i64 most, .int .i64 b, .agg (rC R F), .func (.func gf) [] gys] σ K := by
  refine @call_of' _ _ pl _ _ _ _ _ _ _ ⟨K⟩ get96 ((oo (by decide)).2 _) rfl ?_
  have hl0 := hn.lim
  have ln := AH.get_lt hn.net
  have li := AH.get_lt hn.ang
  simp (disch := omega) [eqf1, eqf2, hl0, cells_rC, -Bool.exists_bool]
  generalize hσ1 : AH.set _ (σ.next + 1 + 1 + 1 + 1 + 1) _ = σ1
  have a0 : σ1.lim = 0 := by rw [← hσ1]; exact hl0
  have an : σ1.next = σ.next + 6 := by rw [← hσ1]; rfl
  have ag : ∀ k, k < σ.next → σ1.get k = σ.get k := fun k hk => by rw [← hσ1]; simp (disch := omega) [eqf1, eqf2]
  have haj : AJ T nC C aA E n i L gf gys b R F σ.next bF h σ1 := by
    refine ⟨hn.stay (a0.trans hl0.symm) (ag n ln) (ag i li), by omega, ln, li, ?_, ?_, ?_, ?_, ?_, ?_, bF_len, hR, hFl⟩
    all_goals
      rw [← hσ1]
      simp (disch := omega) [eqf1, eqf2]
    rfl
  refine along_call hE hg hF 18 p most bF σ1 _ hp (by have := hF p hp; omega) hm1 hm2 haj (hg.keep none _ _ hP (a0.trans hl0.symm) (by omega) fun k hk _ => ag k hk) (fun x _ hx => by rw [bF_no] at hx; cases hx) (fun σ' D' hA => ?_) (fun σ' D' h' ps w hA => ?_)
  · obtain ⟨n1, n2, n3, n4, n5, n6, nold⟩ := hA
    simp (disch := omega) [-Bool.exists_bool]
    have := n1.next
    exact hk0 σ' D' n1.net n2 n5 n3 ⟨n6.lim.trans (a0.trans hl0.symm), by omega, fun k hk _ => (nold k hk).trans (ag k hk)⟩
  · obtain ⟨n1, n2, n3, n4, n6, nold⟩ := hA
    simp (disch := omega) [-Bool.exists_bool]
    have := n1.next
    exact hk1 σ' h' ps w n1.net n2 n3 n4 ⟨n6.lim.trans (a0.trans hl0.symm), by omega, fun k hk hs => (nold k hk (by simp at hs; omega) (by simp at hs; omega)).trans (ag k hk)⟩
end
end Go.Oct.Tri
