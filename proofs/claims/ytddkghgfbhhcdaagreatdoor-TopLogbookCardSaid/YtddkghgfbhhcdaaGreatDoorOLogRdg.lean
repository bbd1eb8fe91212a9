/- The iterator over all readings. -/
import Derived.Test.YtddkghgfbhhcdaaGreatDoorOLogFil2
set_option maxRecDepth 100000
set_option maxHeartbeats 8000000
set_option linter.unusedVariables false
set_option linter.unusedSimpArgs false
namespace Go.Oct.Log
open Go.Oct
def ReadK (C : List AV → Prop) (S : List Nat) (w : Nat) (R : Page) (L : List Pl) (m : Nat) (I : List (List Int) → AH → Prop) (σ σ' : AH) : Prop :=
  OnlyC C (m :: S) σ σ' ∧ ∃ Y, I Y σ' ∧ (∀ y ∈ Y, okY L.length y) ∧ Y.Nodup ∧ ∀ T, T ∈ Y ↔ Truth w R L T
theorem read_call {C : List AV → Prop} (hC : ∀ cs, C cs → cs.length = 10) {w : Nat} {R : Page} (h : okP w R) {L : List Pl} (hL : okL w R L) (hdp : Dep w R L) {S : List Nat} {pb m ln lo : Nat} {lv : AV} {I : List (List Int) → AH → Prop} (hI : Eats C S L.length lo m ln I)
    {σ : AH} {D : Pl → Int} (h0 : σ.lim = 0) (gp : σ.get pb = some (.cells [vP R, lv, .map (some m)])) (hlv : LV σ lv L) (hlt : ∀ o ∈ obj lv, o ∉ m :: S) (hm : MapD σ m D) (hD : D09 D) (hpS : pb ∉ m :: S) (hmS : m ∉ S) (hlo : lo ≤ σ.next) (hY : I [] σ) {K : AV → AH → Prop} (hK : ∀ v σ', ReadK C S w R L m I σ σ' → K v σ') :
    Call prog O (.fn 52) [.func (.yield ln) [] [], .ptr (some (pb, 0))] σ K := by
  have l1 := AH.get_lt gp
  have hone := hlv.one
  have hln := hlv.len
  refine @call_of' _ _ pl _ _ _ _ _ _ _ ⟨K⟩ get52 ((oo (by decide)).2 _) rfl ?_
  have x1 : ¬ pb = σ.next := by omega
  have x2 : ¬ pb = σ.next + 1 := by omega
  have x3 : pb < σ.next + 1 + 1 := by omega
  have x4 : ¬ σ.next = σ.next + 1 := by omega
  simp (disch := omega) [Und, gp, l1, h0, x1, x2, x3, x4, -Bool.exists_bool]
  generalize hυ0 : AH.set (AH.push (AH.push σ _) _) (σ.next + 1) _ = υ
  have hυ : Only [] σ υ := by rw [← hυ0]; exact ((Only.push [] σ _).pushN _).setN (by omega) _
  have υn : υ.next = σ.next + 2 := by rw [← hυ0]; rfl
  have υy : υ.get σ.next = some (.cells [.func (.yield ln) [] []]) := by rw [← hυ0]; simp (disch := omega) [x4]
  have υf : υ.get (σ.next + 1) = some (.cells [.func (.func 53) [] [.ptr (some (pb, 0)), .ptr (some (σ.next, 0)), .ptr (some (σ.next + 1, 0))]]) := by rw [← hυ0]; simp (disch := omega)
  clear hυ0
  have υl := hυ.lim
  have hLυ : LV υ lv L := hlv.same fun o _ hon => hυ.get o hon (by simp)
  have hmυ : MapD υ m D := hm.same (hυ.get m hm.lt (by simp))
  refine agreesF_call h hD hmυ hLυ hL.len (fun i hi hno => hdp.none i D hi fun ⟨j, hj, e⟩ => hno j hj e) (by omega) fun ω hω => ?_
  have hOω := hυ.trans hω
  have ωn := hω.next
  have ωl := hω.lim
  have ωf := (hω.get (σ.next + 1) (by omega) (by simp)).trans υf
  have k1 : σ.next + 1 < ω.next := by omega
  simp (disch := omega) [Und, ωf, k1, -Bool.exists_bool]
  have hm2 : m < σ.next := hm.lt
  have low : ∀ s ∈ m :: S, s < σ.next := fun s hs => by
    rcases List.mem_cons.1 hs with e | e
    · omega
    · have := hI.low s e; omega
  have hA : Apart S pb σ.next (σ.next + 1) m lv := ⟨hpS, fun e => by have := low _ e; omega, fun e => by have := low _ e; omega, hlt, hmS⟩
  have hF : FS R L pb σ.next (σ.next + 1) m ln lv ω := ⟨(hOω.get pb l1 (by simp)).trans gp, (hω.get _ (by omega) (by simp)).trans υy, ωf, hLυ.same fun o _ hon => hω.get o hon (by simp)⟩
  have hcall := fill_call hC h hL hdp hA hI L.length [] ω [] D (by simp) ⟨rfl, fun j hj => by simp at hj⟩ (by omega) hF (hmυ.same (hω.get m (by omega) (by simp))) hD (fun j hj => by simp at hj) (by omega) (hI.keep _ _ _ hY (hOω.mono (by simp))) ⟨fun i hi ⟨j, hj, e⟩ hall => absurd (hall j hj e) (by simp), fun j hj => by simp at hj⟩
  refine hcall.mono fun v ζ hζ => ?_
  obtain ⟨e, z1, z2, Y, z3, z4, z5, z6⟩ := hζ
  simp (disch := omega) [Und, -Bool.exists_bool]
  exact hK _ ζ ⟨OnlyC.trans (.of (hOω.mono (by simp))) z1, Y, by simpa using z3, fun y hy => (z4 y hy).1, z5, fun T => ⟨fun hTY => (z4 T hTY).2.2, fun hTT => z6 T hTT (by simp)⟩⟩
end Go.Oct.Log
