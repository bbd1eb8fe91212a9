/- Numbers of entries, with the digits that are tried; what agrees. -/
import Derived.Test.YtddkghgfbhhcdaaGreatDoorOLogPag
set_option maxRecDepth 100000
set_option maxHeartbeats 4000000
set_option linter.unusedVariables false
set_option linter.unusedSimpArgs false
namespace Go.Oct.Log
open Go.Oct
/-- A text with digits for its lost bytes. -/
def sub (f : Nat → Int) (l : List Int) : List Int := l.mapIdx fun j c => if c = 63 then 48 + f j else c
theorem sub_len (f : Nat → Int) (l : List Int) : (sub f l).length = l.length := by unfold sub; simp
theorem sub_nth {f : Nat → Int} {l : List Int} {j : Nat} (h : j < l.length) : nth (sub f l) j = if nth l j = 63 then 48 + f j else nth l j := by
  unfold sub nth
  simp [List.getD_eq_getElem?_getD, h]
def D09 (D : Pl → Int) : Prop := ∀ p, 0 ≤ D p ∧ D p ≤ 9
theorem sub_digs {f : Nat → Int} {l : List Int} (hl : ∀ x ∈ l, x = 63 ∨ (48 ≤ x ∧ x ≤ 57)) (hf : ∀ j, 0 ≤ f j ∧ f j ≤ 9) : digs (sub f l) := fun x hx => by
  obtain ⟨j, hj, rfl⟩ := mem_nth.1 hx
  rw [sub_len] at hj
  rw [sub_nth hj]
  have := hf j
  have := hl _ (nth_mem hj)
  split <;> omega
theorem val_bd : ∀ {l : List Int}, digs l → l.length ≤ 5 → 0 ≤ val l ∧ val l ≤ 99999 := by
  intro l h hl
  match l, h, hl with
  | [], _, _ => simp [val]
  | [a], h, _ => have := h a (by simp); simp [val]; omega
  | [a, b], h, _ => have := h a (by simp); have := h b (by simp); simp [val]; omega
  | [a, b, c], h, _ => have := h a (by simp); have := h b (by simp); have := h c (by simp); simp [val]; omega
  | [a, b, c, d], h, _ => have := h a (by simp); have := h b (by simp); have := h c (by simp); have := h d (by simp); simp [val]; omega
  | [a, b, c, d, e], h, _ => have := h a (by simp); have := h b (by simp); have := h c (by simp); have := h d (by simp); have := h e (by simp); simp [val]; omega
  | _ :: _ :: _ :: _ :: _ :: _ :: _, _, hl => simp at hl
theorem digs.take {l : List Int} (h : digs l) (j : Nat) : digs (l.take j) := fun x hx => h x (List.mem_of_mem_take hx)
theorem val_take {l : List Int} {j : Nat} (h : j < l.length) : val (l.take (j + 1)) = 10 * val (l.take j) + (nth l j - 48) := by rw [take_succ_nth h, val_app]
/-- The number of an entry. -/
def entv (D : Pl → Int) (R : Page) (i k : Nat) : Int := val (sub (fun j => D ⟨i, k, j⟩) (nth (nth R i) k))
theorem entv_bd {w : Nat} {R : Page} (h : okP w R) {D : Pl → Int} (hD : D09 D) {i k : Nat} (hi : i < R.length) (hk : k < w) : 0 ≤ entv D R i k ∧ entv D R i k ≤ 99999 := by
  have he := h.ent i k hi hk
  exact val_bd (sub_digs he.byt fun j => hD _) (by rw [sub_len]; exact he.len.2)
abbrev pgA (R : Page) (lv : AV) (m : Nat) : AV := .agg [vP R, lv, .map (some m)]
theorem entry_call {w : Nat} {R : Page} (h : okP w R) {lv : AV} {m : Nat} {D : Pl → Int} (hD : D09 D) {σ : AH} (hm : MapD σ m D) {i k : Nat} (hi : i < R.length) (hk : k < w) {K : AV → AH → Prop}
    (hl : σ.lim ≤ σ.next) (h1 : lv.one = true) (hK : ∀ σ', Only [] σ σ' → K (.int .i64 (entv D R i k)) σ') :
    Call prog O (.fn 80) [pgA R lv m, .int .i64 i, .int .i64 k] σ K := by
  have he := h.ent i k hi hk
  have hw := h.wide i hi
  have hb := he.bys
  have hsd := sub_digs (f := fun j => D ⟨i, k, j⟩) he.byt fun j => hD _
  have hln := he.len
  refine @call_of' _ _ pl _ _ _ _ _ _ _ ⟨K⟩ get80 ((oo (by decide)).2 _) rfl ?_
  have c1 : (i : Int) < R.length := by omega
  have c2 : (k : Int) < ((nth R i).length : Int) := by omega
  generalize hL : nth (nth R i) k = L at *
  simp (disch := omega) [h1, c1, c2, hL, eT, hb, -Bool.exists_bool]
  generalize hυ : (σ.push (AObj.cells [vP R, lv, AV.map (some m)])).push (AObj.cells (List.map (AV.int IntKind.u8) L)) = υ
  have hO : Only [] σ υ := by rw [← hυ]; exact (Only.push [] σ _).trans (Only.push [] _ _)
  have ul := hO.lim
  have un : υ.next = σ.next + 2 := by rw [← hυ]; rfl
  have ua : υ.get σ.next = some (.cells [vP R, lv, AV.map (some m)]) := by rw [← hυ]; simp (disch := omega)
  have ub : υ.get (σ.next + 1) = some (.cells (List.map (AV.int IntKind.u8) L)) := by rw [← hυ]; simp (disch := omega)
  have hmυ : MapD υ m D := hm.same (hO.get m hm.lt (by simp))
  have hlook : ∀ j : Int, alookup true [.int, .int, .int] (.int .i64 0) false (.map (some m)) (.agg [.int .i64 i, .int .i64 k, .int .i64 j]) υ = some (.int .i64 (D ⟨i, k, j⟩), υ) := fun j => hmυ.look ⟨i, k, j⟩
  clear hυ
  refine lp_count pl L.length (fun j => [(1, .int .i64 i), (2, .int .i64 k), (3, .ptr (some (σ.next, 0))), (7, .int .i64 (val ((sub (fun j => D ⟨i, k, j⟩) L).take j))), (19, .slice (some (σ.next + 1, 0)) L.length (.op 1)), (20, .int .i64 L.length), (21, .int .i64 j)]) (fun _ => υ) (fun _ => True) (by simp [val]) ?_
  intro j hj _
  have x0 : σ.next < υ.next := by omega
  have x1 : σ.next + 1 < υ.next := by omega
  by_cases hjl : j < L.length
  · have hjl' : (j : Int) < L.length := by omega
    have hch := he.at hjl
    have hcell : (List.map (AV.int IntKind.u8) L)[j]? = some (.int .u8 (nth L j)) := by simp [hjl, nth, List.getD_eq_getElem?_getD]
    have ht := val_bd (hsd.take j) (by simp; omega)
    have hs := val_take (l := sub (fun j => D ⟨i, k, j⟩) L) (j := j) (by rw [sub_len]; exact hjl)
    rw [sub_nth hjl] at hs
    have hd := hD ⟨i, k, j⟩
    by_cases h63 : nth L j = 63
    · simp only [h63, if_true] at hs hcell
      simp (disch := omega) [Und, hjl, hjl', ua, ub, x0, x1, hcell, ahop_lookup, hlook, hs, -Bool.exists_bool]
      exact ⟨by omega, by omega⟩
    · simp only [h63, if_false] at hs
      simp (disch := omega) [Und, hjl, hjl', ua, ub, x0, x1, hcell, h63, hs, -Bool.exists_bool]
      omega
  · obtain rfl : j = L.length := by omega
    simp (disch := omega) [Und, -Bool.exists_bool]
    rw [List.take_of_length_le (by rw [sub_len]; exact Nat.le_refl _)]
    have := hK υ hO
    unfold entv at this
    rw [hL] at this
    exact this
/-- Sums of a row, and of a column. -/
def rsum (D : Pl → Int) (R : Page) (i : Nat) : Nat → Int
  | 0 => 0
  | j + 1 => rsum D R i j + entv D R i j
def csum (D : Pl → Int) (R : Page) (k : Nat) : Nat → Int
  | 0 => 0
  | j + 1 => csum D R k j + entv D R j k
theorem rsum_bd {w : Nat} {R : Page} (h : okP w R) {D : Pl → Int} (hD : D09 D) {i : Nat} (hi : i < R.length) : ∀ j, j ≤ w → 0 ≤ rsum D R i j ∧ rsum D R i j ≤ 99999 * j
  | 0, _ => by simp [rsum]
  | j + 1, hj => by
    have := rsum_bd h hD hi j (by omega)
    have := entv_bd h hD hi (k := j) (by omega)
    simp only [rsum]
    omega
theorem csum_bd {w : Nat} {R : Page} (h : okP w R) {D : Pl → Int} (hD : D09 D) {k : Nat} (hk : k < w) : ∀ j, j ≤ R.length → 0 ≤ csum D R k j ∧ csum D R k j ≤ 99999 * j
  | 0, _ => by simp [csum]
  | j + 1, hj => by
    have := csum_bd h hD hk j (by omega)
    have := entv_bd h hD (i := j) (by omega) hk
    simp only [csum]
    omega
def rowAg (D : Pl → Int) (R : Page) (w i : Nat) : Prop := rsum D R i (w - 1) = entv D R i (w - 1)
def colAg (D : Pl → Int) (R : Page) (k : Nat) : Prop := csum D R k (R.length - 1) = entv D R (R.length - 1) k
instance (D R w i) : Decidable (rowAg D R w i) := by unfold rowAg; infer_instance
instance (D R k) : Decidable (colAg D R k) := by unfold colAg; infer_instance
theorem wide_ok {w : Nat} {R : Page} (h : okP w R) : ans prog O 78 [vP R] = some (.int .i64 w) := by
  have h1 := h.rows
  have h2 := h.wide 0 (by omega)
  refine fn_of' pl get78 (oo (by decide)) rfl rfl ?_
  simp (disch := omega) [h2, -Bool.exists_bool]
  omega
theorem rowAgrees_call {w : Nat} {R : Page} (h : okP w R) {lv : AV} {m : Nat} {D : Pl → Int} (hD : D09 D) {σ : AH} (hm : MapD σ m D) {i : Nat} (hi : i < R.length) {K : AV → AH → Prop}
    (hl : σ.lim ≤ σ.next) (h1 : lv.one = true) (hK : ∀ σ', Only [] σ σ' → K (.bool (decide (rowAg D R w i))) σ') :
    Call prog O (.fn 56) [pgA R lv m, .int .i64 i] σ K := by
  have hc := h.cols
  refine @call_of' _ _ pl _ _ _ _ _ _ _ ⟨K⟩ get56 ((oo (by decide)).2 _) rfl ?_
  simp (disch := omega) [h1, wide_ok h, -Bool.exists_bool]
  generalize hυ : σ.push (AObj.cells [vP R, lv, AV.map (some m)]) = υ
  have hO : Only [] σ υ := by rw [← hυ]; exact Only.push [] σ _
  have un : υ.next = σ.next + 1 := by rw [← hυ]; rfl
  have ua : υ.get σ.next = some (.cells [vP R, lv, AV.map (some m)]) := by rw [← hυ]; simp
  clear hυ
  obtain ⟨v, rfl⟩ : ∃ v, w = v + 1 := ⟨w - 1, by omega⟩
  refine lp_loop pl (fun r fr ω => ∃ j : Nat, j + r = v ∧ fr = ⟨[(1, .int .i64 i), (2, .ptr (some (σ.next, 0))), (5, .int .i64 (rsum D R i j)), (6, .int .i64 v), (12, .int .i64 v), (13, .int .i64 j)], []⟩ ∧ Only [] υ ω) ⟨v, 0, by omega, by simp [rsum], Only.refl [] υ⟩ ?_
  rintro r _ ω ⟨j, hj, rfl, hω⟩
  have ωn := hω.next
  have ωl := hω.lim
  have ωa := (hω.get σ.next (by omega) (by simp)).trans ua
  have x0 : σ.next < ω.next := by omega
  have hOl := hO.lim
  have hmω : MapD ω m D := hm.same (((hO.trans (hω.mono (by simp))).get m hm.lt (by simp)))
  have hb := rsum_bd h hD hi j (by omega)
  by_cases hjl : j < v
  · simp (disch := omega) [Und, hjl, ωa, x0, -Bool.exists_bool]
    refine entry_call h hD hmω hi (k := j) (by omega) (by omega) h1 fun τ hτ => ?_
    have he := entv_bd h hD hi (k := j) (by omega)
    simp (disch := omega) [Und, -Bool.exists_bool]
    exact ⟨r - 1, by omega, j + 1, by omega, by simp [rsum], hω.trans hτ⟩
  · obtain rfl : j = v := by omega
    simp (disch := omega) [Und, ωa, x0, -Bool.exists_bool]
    refine entry_call h hD hmω hi (k := j) (by omega) (by omega) h1 fun τ hτ => ?_
    have he := entv_bd h hD hi (k := j) (by omega)
    simp (disch := omega) [Und, -Bool.exists_bool]
    exact hK τ ((hO.trans hω).trans hτ)
theorem colAgrees_call {w : Nat} {R : Page} (h : okP w R) {lv : AV} {m : Nat} {D : Pl → Int} (hD : D09 D) {σ : AH} (hm : MapD σ m D) {k : Nat} (hk : k < w) {K : AV → AH → Prop}
    (hl : σ.lim ≤ σ.next) (h1 : lv.one = true) (hK : ∀ σ', Only [] σ σ' → K (.bool (decide (colAg D R k))) σ') :
    Call prog O (.fn 79) [pgA R lv m, .int .i64 k] σ K := by
  have hc := h.rows
  refine @call_of' _ _ pl _ _ _ _ _ _ _ ⟨K⟩ get79 ((oo (by decide)).2 _) rfl ?_
  simp (disch := omega) [h1, -Bool.exists_bool]
  generalize hυ : σ.push (AObj.cells [vP R, lv, AV.map (some m)]) = υ
  have hO : Only [] σ υ := by rw [← hυ]; exact Only.push [] σ _
  have un : υ.next = σ.next + 1 := by rw [← hυ]; rfl
  have ua : υ.get σ.next = some (.cells [vP R, lv, AV.map (some m)]) := by rw [← hυ]; simp
  clear hυ
  obtain ⟨v, hv⟩ : ∃ v, R.length = v + 1 := ⟨R.length - 1, by omega⟩
  simp (disch := omega) [hv, -Bool.exists_bool]
  refine lp_loop pl (fun r fr ω => ∃ j : Nat, j + r = v ∧ fr = ⟨[(1, .int .i64 k), (2, .ptr (some (σ.next, 0))), (5, .int .i64 (csum D R k j)), (6, .int .i64 v), (12, .int .i64 v), (13, .int .i64 j)], []⟩ ∧ Only [] υ ω) ⟨v, 0, by omega, by simp [csum], Only.refl [] υ⟩ ?_
  rintro r _ ω ⟨j, hj, rfl, hω⟩
  have ωn := hω.next
  have ωl := hω.lim
  have ωa := (hω.get σ.next (by omega) (by simp)).trans ua
  have x0 : σ.next < ω.next := by omega
  have hOl := hO.lim
  have hmω : MapD ω m D := hm.same (((hO.trans (hω.mono (by simp))).get m hm.lt (by simp)))
  have hb := csum_bd h hD hk j (by omega)
  by_cases hjl : j < v
  · simp (disch := omega) [Und, hjl, ωa, x0, -Bool.exists_bool]
    refine entry_call h hD hmω (i := j) (by omega) hk (by omega) h1 fun τ hτ => ?_
    have he := entv_bd h hD (i := j) (by omega) hk
    simp (disch := omega) [Und, -Bool.exists_bool]
    exact ⟨r - 1, by omega, j + 1, by omega, by simp [csum], hω.trans hτ⟩
  · obtain rfl : j = v := by omega
    simp (disch := omega) [Und, ωa, x0, -Bool.exists_bool]
    refine entry_call h hD hmω (i := j) (by omega) hk (by omega) h1 fun τ hτ => ?_
    have he := entv_bd h hD (i := j) (by omega) hk
    simp (disch := omega) [Und, -Bool.exists_bool]
    have := hK τ ((hO.trans hω).trans hτ)
    unfold colAg at this
    simpa [hv] using this
end Go.Oct.Log
