/- The last lost byte of a row; whether all rows that have no lost byte agree, or all columns. -/
import Derived.Test.YtddkghgfbhhcdaaGreatDoorOLogEnt
import Derived.Test.YtddkghgfbhhcdaaGreatDoorOLogMapI
import Derived.Test.YtddkghgfbhhcdaaGreatDoorOT4
set_option maxRecDepth 100000
set_option maxHeartbeats 4000000
set_option linter.unusedVariables false
set_option linter.unusedSimpArgs false
namespace Go.Oct.Log
open Go.Oct
theorem _root_.Go.Oct.Only.setN {S : List Nat} {υ ω : AH} (h : Only S υ ω) {i : Nat} (hi : υ.next ≤ i) (o : AObj) : Only S υ (ω.set i o) := ⟨h.lim, h.next, fun k hk hs => by rw [AH.get_set_other _ _ _ _ (by omega)]; exact h.get k hk hs⟩
theorem _root_.Go.Oct.Only.pushN {S : List Nat} {υ ω : AH} (h : Only S υ ω) (o : AObj) : Only S υ (ω.push o) := h.trans (Only.push S ω o)
theorem _root_.Go.Oct.Only.setI {S : List Nat} {υ ω : AH} (h : Only S υ ω) {i : Nat} (hi : i ∈ S) (o : AObj) : Only S υ (ω.set i o) := h.trans (Only.set hi o)
/-- The lost places. -/
def LV (σ : AH) (lv : AV) (L : List Pl) : Prop := (lv = .vsl true [] ∧ L = []) ∨ ∃ o, lv = .slice (some (o, 0)) L.length (.op 3) ∧ σ.get o = some (.cells (rowOf eP L)) ∧ L ≠ []
theorem LV.same {σ σ' : AH} {lv : AV} {L : List Pl} (h : LV σ lv L) (hO : ∀ o ∈ obj lv, o < σ.next → σ'.get o = σ.get o) : LV σ' lv L := by
  rcases h with h | ⟨o, rfl, h2, h3⟩
  · exact .inl h
  · exact .inr ⟨o, rfl, (hO o (by simp [obj]) (AH.get_lt h2)).trans h2, h3⟩
theorem LV.one {σ : AH} {lv : AV} {L : List Pl} (h : LV σ lv L) : lv.one = true := by
  rcases h with ⟨rfl, _⟩ | ⟨o, rfl, _⟩ <;> rfl
theorem LV.len {σ : AH} {lv : AV} {L : List Pl} (h : LV σ lv L) : alen lv = some (.int .i64 L.length) := by
  rcases h with ⟨rfl, rfl⟩ | ⟨o, rfl, _⟩ <;> rfl
theorem LV.at {σ : AH} {lv : AV} {L : List Pl} (h : LV σ lv L) {j : Nat} (hj : j < L.length) : ∃ o, lv = .slice (some (o, 0)) L.length (.op 3) ∧ σ.get o = some (.cells (rowOf eP L)) ∧ o < σ.next := by
  rcases h with ⟨rfl, rfl⟩ | ⟨o, rfl, h2, _⟩
  · simp at hj
  · exact ⟨o, rfl, h2, AH.get_lt h2⟩
/-- The last lost place of a row among the first ones. -/
def endp (L : List Pl) (i : Int) : Nat → Pl
  | 0 => ⟨0, 0, 0⟩
  | j + 1 => if (nth L j).row = i then nth L j else endp L i j
theorem end_call {R : Page} {lv : AV} {m : Nat} {σ : AH} {L : List Pl} (hL : LV σ lv L) {i : Int} (hN : L.length ≤ 5) {K : AV → AH → Prop} (hl : σ.lim ≤ σ.next) (hK : ∀ σ', Only [] σ σ' → K (eP (endp L i L.length)) σ') :
    Call prog O (.fn 55) [pgA R lv m, .int .i64 i] σ K := by
  have h1 := hL.one
  have hln := hL.len
  refine @call_of' _ _ pl _ _ _ _ _ _ _ ⟨K⟩ get55 ((oo (by decide)).2 _) rfl ?_
  have w1 : σ.lim ≤ σ.next + 1 := by omega
  have w2 : σ.lim ≤ σ.next + 1 + 1 := by omega
  have w3 : ¬ σ.next = σ.next + 1 := by omega
  have w4 : ¬ σ.next = σ.next + 1 + 1 := by omega
  simp (disch := omega) [h1, hln, w1, w2, w3, w4, -Bool.exists_bool]
  generalize hυ : AH.push (AH.push (AH.push σ _) _) _ = υ
  have hO : Only [] σ υ := by rw [← hυ]; exact ((Only.push [] σ _).trans (Only.push [] _ _)).trans (Only.push [] _ _)
  have ul := hO.lim
  have un : υ.next = σ.next + 3 := by rw [← hυ]; rfl
  have ua : υ.get (σ.next + 1) = some (.cells [.int .i64 0, .int .i64 0, .int .i64 0]) := by rw [← hυ]; simp (disch := omega)
  have ub : υ.get (σ.next + 2) = some (.cells [.int .i64 0, .int .i64 0, .int .i64 0]) := by rw [← hυ]; simp (disch := omega)
  clear hυ
  refine lp_loop pl (fun r fr ω => ∃ (j : Nat), j + r = L.length ∧ fr = ⟨[(1, .int .i64 i), (4, .ptr (some (σ.next + 1, 0))), (5, .ptr (some (σ.next + 2, 0))), (9, lv), (10, .int .i64 L.length), (11, .int .i64 j)], []⟩ ∧ Only [σ.next + 2] υ ω ∧
      ω.get (σ.next + 2) = some (.cells [.int .i64 (endp L i j).row, .int .i64 (endp L i j).col, .int .i64 (endp L i j).at_])) ⟨L.length, 0, by omega, rfl, Only.refl _ υ, ub⟩ ?_
  rintro r _ ω ⟨j, hj, rfl, hω, ωb⟩
  have ωn := hω.next
  have ωl := hω.lim
  have ωa := (hω.get (σ.next + 1) (by omega) (by simp)).trans ua
  have x0 : σ.next + 1 < ω.next := by omega
  have x1 : σ.next + 2 < ω.next := by omega
  have x2 : ¬ σ.next + 2 = ω.next := by omega
  have x3 : ¬ σ.next + 1 = ω.next := by omega
  have x4 : ¬ ω.next = σ.next + 2 := by omega
  have x5 : ¬ σ.next + 1 = σ.next + 2 := by omega
  have x6 : ω.lim ≤ ω.next := by omega
  have x7 : ω.lim ≤ σ.next + 2 := by omega
  have x8 : ω.lim ≤ σ.next + 1 := by omega
  by_cases hjl : j < L.length
  · obtain ⟨o, rfl, ho, hon⟩ := (hL.same (σ' := ω) fun o _ hon => (hω.get o (by omega) (by simp; omega)).trans (hO.get o hon (by simp))).at hjl
    have x9 : ¬ o = ω.next := by omega
    have r1 := row_at encP (xs := L) (j := j) hjl
    have hr := rowOf_length encP L
    have q1 : j * 3 + 3 ≤ L.length * 3 := by omega
    have q2 : (j : Int) < L.length := by omega
    simp (disch := omega) [Und, hjl, ho, hon, ωb, x0, x1, x2, x3, x4, x5, x6, x7, x8, x9, r1, hr, q1, q2, eP, -Bool.exists_bool]
    have x10 : σ.next + 2 < ω.next + 1 := by omega
    refine ⟨fun he => ⟨r - 1, by omega, j + 1, by omega, by omega, ((hω.pushN _).setN (by omega) _).setI (by simp) _, ?_⟩, fun he => ⟨r - 1, by omega, j + 1, by omega, by omega, (hω.pushN _).setN (by omega) _, ?_⟩⟩
    · simp [endp, he, x10]
    · simp [endp, he, ωb]
  · obtain rfl : j = L.length := by omega
    simp (disch := omega) [Und, ωa, ωb, x0, x1, x2, x3, x4, x5, x6, x7, x8, -Bool.exists_bool]
    exact hK _ (Only.setN ⟨by omega, by omega, fun k hk hs => (hω.get k (by omega) (by simp; omega)).trans (hO.get k hk hs)⟩ (by omega) _)
theorem agreesT_call {w : Nat} {R : Page} (h : okP w R) {lv : AV} {m : Nat} {D : Pl → Int} (hD : D09 D) {σ : AH} (hm : MapD σ m D) {K : AV → AH → Prop}
    (hl : σ.lim ≤ σ.next) (h1 : lv.one = true) (hK : ∀ b σ', Only [] σ σ' → ((∀ k, k < w → colAg D R k) ↔ b = true) → K (.bool b) σ') :
    Call prog O (.fn 54) [pgA R lv m, .bool true] σ K := by
  have hc := h.cols
  refine @call_of' _ _ pl _ _ _ _ _ _ _ ⟨K⟩ get54 ((oo (by decide)).2 _) rfl ?_
  simp (disch := omega) [h1, wide_ok h, -Bool.exists_bool]
  generalize hυ : σ.push (AObj.cells [vP R, lv, AV.map (some m)]) = υ
  have hO : Only [] σ υ := by rw [← hυ]; exact Only.push [] σ _
  have un : υ.next = σ.next + 1 := by rw [← hυ]; rfl
  have ua : υ.get σ.next = some (.cells [vP R, lv, AV.map (some m)]) := by rw [← hυ]; simp
  clear hυ
  refine lp_loop pl (fun r fr ω => ∃ j : Nat, j + r = w ∧ fr = ⟨[(2, .ptr (some (σ.next, 0))), (13, .int .i64 w), (14, .int .i64 j)], []⟩ ∧ Only [] υ ω ∧ ∀ q, q < j → colAg D R q) ⟨w, 0, by omega, rfl, Only.refl [] υ, fun q hq => absurd hq (by omega)⟩ ?_
  rintro r _ ω ⟨j, hj, rfl, hω, hcs⟩
  have ωn := hω.next
  have ωl := hω.lim
  have ωa := (hω.get σ.next (by omega) (by simp)).trans ua
  have x0 : σ.next < ω.next := by omega
  have hOl := hO.lim
  have hmω : MapD ω m D := hm.same (((hO.trans (hω.mono (by simp))).get m hm.lt (by simp)))
  by_cases hjl : j < w
  · simp (disch := omega) [Und, hjl, ωa, x0, -Bool.exists_bool]
    refine colAgrees_call h hD hmω (k := j) (by omega) (by omega) h1 fun τ hτ => ?_
    by_cases hc : colAg D R j
    · simp (disch := omega) [Und, hc, -Bool.exists_bool]
      refine ⟨r - 1, by omega, j + 1, by omega, by omega, hω.trans hτ, fun q hq => ?_⟩
      by_cases e : q = j
      · rw [e]; exact hc
      · exact hcs q (by omega)
    · simp (disch := omega) [Und, hc, -Bool.exists_bool]
      exact hK false τ ((hO.trans hω).trans hτ) ⟨fun h => absurd (h j hjl) hc, fun h => by cases h⟩
  · obtain rfl : j = w := by omega
    simp (disch := omega) [Und, -Bool.exists_bool]
    exact hK true ω (hO.trans hω) ⟨fun _ => rfl, fun _ => hcs⟩
theorem lookZ_I {σ : AH} {m c : Nat} {es : List ME} (t : Int) (z : AV) (hg : σ.get m = some (.map (es.map ent) c)) :
    alookup false [.int] z false (.map (some m)) (.int .i64 t) σ = some ((mget es t).getD z, σ) := by
  have hk : keyEq false [.int] (.int .i64 t) (.int .i64 t) = some true := by rw [keyEq_I]; simp
  rcases find_I t es 0 with ⟨h1, h2⟩ | ⟨j, b, l, h1, h2, _⟩
  · simp only [alookup, hg, hk, h1, h2]; rfl
  · simp only [alookup, hg, hk, h1, h2]; rfl
theorem updZ_I {σ : AH} {m c : Nat} {es : List ME} (t : Int) (l : AV) (hl : σ.lim ≤ m) (hg : σ.get m = some (.map (es.map ent) c)) :
    ∃ es' c', amapUpd false [.int] (.map (some m)) (.int .i64 t) l σ = some (.undef, σ.set m (.map (es'.map ent) c')) ∧ ∀ t', mget es' t' = if t = t' then some l else mget es t' := by
  have hk : keyEq false [.int] (.int .i64 t) (.int .i64 t) = some true := by rw [keyEq_I]; simp
  rcases find_I t es 0 with ⟨h1, h2⟩ | ⟨j, b, l1, h1, h2, h3⟩
  · exact ⟨es ++ [(t, l, c)], c + 1, by simp [amapUpd, hl, hg, hk, h1, ent], fun t' => mget_app t l c es h2 t'⟩
  · obtain ⟨es', h4, h5⟩ := h3 l
    exact ⟨es', c, by simp [amapUpd, hl, hg, hk, h1, h4], h5⟩
theorem agreesF_call {w : Nat} {R : Page} (h : okP w R) {lv : AV} {m : Nat} {D : Pl → Int} (hD : D09 D) {σ : AH} (hm : MapD σ m D) {L : List Pl} (hL : LV σ lv L) (hN : L.length ≤ 5) (hrow : ∀ i : Nat, i < R.length → (∀ j, j < L.length → (nth L j).row ≠ i) → rowAg D R w i) {K : AV → AH → Prop}
    (hl : σ.lim ≤ σ.next) (hK : ∀ σ', Only [] σ σ' → K (.bool true) σ') :
    Call prog O (.fn 54) [pgA R lv m, .bool false] σ K := by
  have hc := h.rows
  have h1 := hL.one
  have hln := hL.len
  refine @call_of' _ _ pl _ _ _ _ _ _ _ ⟨K⟩ get54 ((oo (by decide)).2 _) rfl ?_
  have w3 : ¬ σ.next = σ.next + 1 := by omega
  simp (disch := omega) [h1, hln, w3, -Bool.exists_bool]
  generalize hυ : (σ.push (AObj.cells [vP R, lv, AV.map (some m)])).push _ = υ
  have hO : Only [] σ υ := by rw [← hυ]; exact (Only.push [] σ _).trans (Only.push [] _ _)
  have ul := hO.lim
  have un : υ.next = σ.next + 2 := by rw [← hυ]; rfl
  have ua : υ.get σ.next = some (.cells [vP R, lv, AV.map (some m)]) := by rw [← hυ]; simp (disch := omega) [w3]
  have ub : υ.get (σ.next + 1) = some (.map [] 0) := by rw [← hυ]; simp (disch := omega)
  clear hυ
  refine lp_loop pl (fun r fr ω => ∃ (j : Nat) (es : List ME) (c : Nat), j + r = L.length ∧ fr = ⟨[(2, .ptr (some (σ.next, 0))), (6, .map (some (σ.next + 1))), (24, lv), (25, .int .i64 L.length), (26, .int .i64 j)], []⟩ ∧ Only [σ.next + 1] υ ω ∧
      ω.get (σ.next + 1) = some (.map (es.map ent) c) ∧ (∀ t b, mget es t = some b → b = .bool true) ∧ ∀ q, q < j → mget es (nth L q).row ≠ none) ⟨L.length, 0, [], 0, by omega, rfl, Only.refl _ υ, ub, fun t b hb => (by cases hb), fun q hq => absurd hq (by omega)⟩ ?_
  rintro r _ ω ⟨j, es, c, hj, rfl, hω, ωb, hes, hes2⟩
  have ωn := hω.next
  have ωl := hω.lim
  have ωa := (hω.get σ.next (by omega) (by simp)).trans ua
  have x0 : σ.next < ω.next := by omega
  have x1 : σ.next + 1 < ω.next := by omega
  have x2 : ¬ σ.next + 1 = ω.next := by omega
  have x4 : ¬ ω.next = σ.next + 1 := by omega
  have x6 : ω.lim ≤ ω.next := by omega
  have x7 : ω.lim ≤ σ.next + 1 := by omega
  have x8 : σ.next + 1 < ω.next + 1 := by omega
  by_cases hjl : j < L.length
  · obtain ⟨o, rfl, ho, hon⟩ := (hL.same (σ' := ω) fun o _ hon => (hω.get o (by omega) (by simp; omega)).trans (hO.get o hon (by simp))).at hjl
    have x9 : ¬ o = ω.next := by omega
    have r1 := row_at encP (xs := L) (j := j) hjl
    have hr := rowOf_length encP L
    have q1 : j * 3 + 3 ≤ L.length * 3 := by omega
    have q2 : (j : Int) < L.length := by omega
    simp (disch := omega) [Und, hjl, ho, hon, x0, x1, x2, x4, x6, x7, x9, r1, hr, q1, q2, eP, ahop_mapUpd, -Bool.exists_bool]
    generalize hτ : AH.set (AH.push ω _) ω.next _ = τ
    have hτO : Only [] ω τ := by rw [← hτ]; exact (Only.push [] ω _).setN (by omega) _
    clear hτ
    have τn := hτO.next
    have τl := hτO.lim
    obtain ⟨es', c', e1, e2⟩ := updZ_I (σ := τ) (m := σ.next + 1) (c := c) (es := es) (nth L j).row (.bool true) (by omega) ((hτO.get _ x1 (by simp)).trans ωb)
    rw [e1]
    simp (disch := omega) [Und, -Bool.exists_bool]
    have τx : σ.next + 1 < τ.next := by omega
    refine ⟨r - 1, by omega, j + 1, by omega, by omega, (hω.trans (hτO.mono (by simp))).setI (by simp) _, es', ⟨τx, rfl⟩, fun t b hb => ?_, fun q hq => ?_⟩
    · rw [e2] at hb
      split at hb
      · cases hb; rfl
      · exact hes t b hb
    · rw [e2]
      split
      · simp
      · rename_i hne
        have : q ≠ j := fun e => hne (by rw [e])
        exact hes2 q (by omega)
  · obtain rfl : j = L.length := by omega
    simp (disch := omega) [Und, ωa, x0, -Bool.exists_bool]
    have hOω : Only [] σ ω := ⟨by omega, by omega, fun k hk hs => (hω.get k (by omega) (by simp; omega)).trans (hO.get k hk hs)⟩
    refine lp_loop pl (fun r fr τ => ∃ j : Nat, j + r = R.length ∧ fr = ⟨[(2, .ptr (some (σ.next, 0))), (6, .map (some (σ.next + 1))), (36, .int .i64 R.length), (37, .int .i64 j)], []⟩ ∧ Only [] ω τ) ⟨R.length, 0, by omega, rfl, Only.refl [] ω⟩ ?_
    rintro r _ τ ⟨j, hj, rfl, hτ⟩
    have τn := hτ.next
    have τl := hτ.lim
    have τa := (hτ.get σ.next (by omega) (by simp)).trans ωa
    have τb := (hτ.get (σ.next + 1) (by omega) (by simp)).trans ωb
    have y0 : σ.next < τ.next := by omega
    have hmτ : MapD τ m D := hm.same (((hOω.trans hτ).get m hm.lt (by simp)))
    by_cases hjl : j < R.length
    · cases hg : mget es j with
      | none =>
        have hr := hrow j hjl fun q hq e => hes2 q hq (by rw [e]; exact hg)
        simp (disch := omega) [Und, hjl, τa, y0, ahop_lookup, lookZ_I (es := es) (c := c) (j : Int) (.bool false) τb, hg, -Bool.exists_bool]
        refine rowAgrees_call h hD hmτ hjl (by omega) h1 fun κ hκ => ?_
        simp (disch := omega) [Und, hr, -Bool.exists_bool]
        exact ⟨r - 1, by omega, j + 1, by omega, by omega, hτ.trans hκ⟩
      | some b =>
        obtain rfl := hes _ _ hg
        simp (disch := omega) [Und, hjl, τa, y0, ahop_lookup, lookZ_I (es := es) (c := c) (j : Int) (.bool false) τb, hg, -Bool.exists_bool]
        exact ⟨r - 1, by omega, j + 1, by omega, by omega, hτ⟩
    · obtain rfl : j = R.length := by omega
      simp (disch := omega) [Und, -Bool.exists_bool]
      exact hK τ (hOω.trans hτ)
end Go.Oct.Log
