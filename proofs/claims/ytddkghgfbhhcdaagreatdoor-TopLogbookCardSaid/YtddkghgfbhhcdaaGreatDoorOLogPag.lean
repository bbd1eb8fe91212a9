/- Pages: rows of texts; maps with places as keys. -/
import Derived.Test.YtddkghgfbhhcdaaGreatDoorOLogDig
import Derived.Test.YtddkghgfbhhcdaaGreatDoorOT4
set_option maxRecDepth 100000
set_option maxHeartbeats 4000000
set_option linter.unusedVariables false
set_option linter.unusedSimpArgs false
namespace Go.Oct.Log
open Go.Oct
/-- A page: rows of texts, each its bytes. -/
abbrev Page := List (List (List Int))
def vP (R : Page) : AV := vl (eRv eT) false (R.map fun r => (false, r))
@[simp] theorem aidx_vP (R : Page) (q : IntKind) (i : Int) : aidx 1 (vP R) (.int q i) = if 0 ≤ i ∧ i < (R.length : Int) then some (.vptr [vl eT false (nth R i.toNat)] 0) else none := by
  unfold vP
  rw [aidx_vl (e := eRv eT) (fun _ => rfl) q i, List.length_map]
  by_cases h : 0 ≤ i ∧ i < (R.length : Int)
  · rw [if_pos h, if_pos h, nth_map _ (by omega)]; rfl
  · rw [if_neg h, if_neg h]
@[simp] theorem alen_vP (R : Page) : alen (vP R) = some (.int .i64 R.length) := by unfold vP; rw [alen_vl, List.length_map]
theorem encT : Enc eT 1 := ⟨fun _ => rfl, fun _ => rfl, fun _ => rfl, by decide⟩
@[simp] theorem aidx_eT {nl : Bool} {xs : List (List Int)} (q : IntKind) (i : Int) : aidx 1 (vl eT nl xs) (.int q i) = if 0 ≤ i ∧ i < (xs.length : Int) then some (.vptr [eT (nth xs i.toNat)] 0) else none :=
  aidx_vl (e := eT) (fun _ => rfl) q i
theorem flatT : flatE eT := fun x c hc k f => by
  obtain rfl := List.mem_singleton.1 hc
  exact ⟨rfl, rfl⟩
@[simp] theorem closed_vP (R : Page) (k : Nat) : closed (k + 1) (vP R) = true := rfl
@[simp] theorem isDef_vP (R : Page) : isDef (vP R) = True := rfl
@[simp] theorem closed_eT (l : List Int) (k : Nat) : closed (k + 1) (eT l) = true := rfl
@[simp] theorem isDef_eT (l : List Int) : isDef (eT l) = True := rfl
@[simp] theorem one_eT (l : List Int) : (eT l).one = true := rfl
@[simp] theorem dfd_eT (l : List Int) : (eT l).dfd = true := rfl
@[simp] theorem cells_eT (l : List Int) : (eT l).cells = [eT l] := rfl
@[simp] theorem dfd_vP (R : Page) : (vP R).dfd = true := rfl
@[simp] theorem cells_vP (R : Page) : (vP R).cells = [vP R] := rfl
@[simp] theorem one_vP (R : Page) : (vP R).one = true := rfl
/-- Places of lost bytes. -/
structure Pl where
  row : Int
  col : Int
  at_ : Int
deriving DecidableEq, Inhabited
def eP (p : Pl) : AV := .agg [.int .i64 p.row, .int .i64 p.col, .int .i64 p.at_]
theorem encP : Enc eP 3 := ⟨fun _ => rfl, fun _ => rfl, fun _ => rfl, by decide⟩
theorem Pl.ext' {p q : Pl} (h1 : p.row = q.row) (h2 : p.col = q.col) (h3 : p.at_ = q.at_) : p = q := by
  cases p; cases q; simp only at h1 h2 h3; rw [h1, h2, h3]
theorem Pl.eq_iff (p q : Pl) : p = q ↔ p.row = q.row ∧ p.col = q.col ∧ p.at_ = q.at_ := ⟨fun h => by rw [h]; exact ⟨rfl, rfl, rfl⟩, fun h => Pl.ext' h.1 h.2.1 h.2.2⟩
/-- An entry: a key, a value, a stamp. -/
abbrev PE := Pl × AV × Nat
def entP (e : PE) : AV × AV × Nat := (eP e.1, e.2.1, e.2.2)
def pget : List PE → Pl → Option AV
  | [], _ => none
  | e :: es, t => if e.1 = t then some e.2.1 else pget es t
theorem keyEq_P (a b : Pl) : keyEq true [.int, .int, .int] (eP a) (eP b) = some (decide (a = b)) := by
  simp only [keyEq, eP, eqCells]
  simp only [if_true, Option.map_some, Bool.and_true]
  congr 1
  rw [Bool.eq_iff_iff]
  simp [Pl.eq_iff]
theorem find_P (t : Pl) : ∀ (es : List PE) (i : Nat), (findE true [.int, .int, .int] (eP t) (es.map entP) i = some none ∧ pget es t = none) ∨
    ∃ j b l, findE true [.int, .int, .int] (eP t) (es.map entP) i = some (some (i + j, l, b)) ∧ pget es t = some l ∧
      ∀ l', ∃ es', setE (eP t) l' (es.map entP) j = es'.map entP ∧ ∀ t', pget es' t' = if t = t' then some l' else pget es t'
  | [], i => .inl ⟨rfl, rfl⟩
  | (k, l, b) :: es, i => by
    simp only [List.map_cons, entP, findE, keyEq_P, pget]
    by_cases e : k = t
    · subst e
      refine .inr ⟨0, b, l, by simp, by simp, fun l' => ⟨(k, l', b) :: es, rfl, fun t' => ?_⟩⟩
      simp only [pget]
      by_cases e3 : k = t' <;> simp [e3]
    · have e' : ¬ t = k := fun h => e h.symm
      rcases find_P t es (i + 1) with ⟨h1, h2⟩ | ⟨j, b', l1, h1, h2, h3⟩
      · refine .inl ⟨by simpa [e, e', entP] using h1, by simp [e, h2]⟩
      · refine .inr ⟨j + 1, b', l1, by simp [e, e', h1]; omega, by simp [e, h2], fun l' => ?_⟩
        obtain ⟨es', h4, h5⟩ := h3 l'
        refine ⟨(k, l, b) :: es', by simp [setE, entP, h4], fun t' => ?_⟩
        simp only [pget, h5]
        by_cases e2 : k = t'
        · subst e2; simp [e']
        · simp [e2]
theorem pget_app (t : Pl) (l : AV) (c : Nat) : ∀ (es : List PE), pget es t = none → ∀ t', pget (es ++ [(t, l, c)]) t' = if t = t' then some l else pget es t'
  | [], _, t' => by simp [pget]
  | (k, l1, b) :: es, h, t' => by
    have e : ¬ k = t := fun e => by simp [pget, e] at h
    have h2 : pget es t = none := by simpa [pget, e] using h
    simp only [List.cons_append, pget, pget_app t l c es h2]
    by_cases e2 : k = t'
    · subst e2
      have e' : ¬ t = k := fun h => e h.symm
      simp [e']
    · simp [e2]
theorem lookP {σ : AH} {m c : Nat} {es : List PE} (t : Pl) (z : AV) (hg : σ.get m = some (.map (es.map entP) c)) :
    alookup true [.int, .int, .int] z false (.map (some m)) (eP t) σ = some ((pget es t).getD z, σ) := by
  have hk : keyEq true [.int, .int, .int] (eP t) (eP t) = some true := by rw [keyEq_P]; simp
  rcases find_P t es 0 with ⟨h1, h2⟩ | ⟨j, b, l, h1, h2, _⟩
  · simp only [alookup, hg, hk, h1, h2]; rfl
  · simp only [alookup, hg, hk, h1, h2]; rfl
theorem lookP2 {σ : AH} {m c : Nat} {es : List PE} (t : Pl) (z : AV) (hg : σ.get m = some (.map (es.map entP) c)) :
    alookup true [.int, .int, .int] z true (.map (some m)) (eP t) σ = some (.tuple [(pget es t).getD z, .bool (pget es t).isSome], σ) := by
  have hk : keyEq true [.int, .int, .int] (eP t) (eP t) = some true := by rw [keyEq_P]; simp
  rcases find_P t es 0 with ⟨h1, h2⟩ | ⟨j, b, l, h1, h2, _⟩
  · simp only [alookup, hg, hk, h1, h2]; rfl
  · simp only [alookup, hg, hk, h1, h2]; rfl
theorem updP {σ : AH} {m c : Nat} {es : List PE} (t : Pl) (l : AV) (hl : σ.lim ≤ m) (hg : σ.get m = some (.map (es.map entP) c)) :
    ∃ es' c', amapUpd true [.int, .int, .int] (.map (some m)) (eP t) l σ = some (.undef, σ.set m (.map (es'.map entP) c')) ∧ ∀ t', pget es' t' = if t = t' then some l else pget es t' := by
  have hk : keyEq true [.int, .int, .int] (eP t) (eP t) = some true := by rw [keyEq_P]; simp
  rcases find_P t es 0 with ⟨h1, h2⟩ | ⟨j, b, l1, h1, h2, h3⟩
  · refine ⟨es ++ [(t, l, c)], c + 1, ?_, fun t' => pget_app t l c es h2 t'⟩
    simp [amapUpd, hl, hg, hk, h1, entP]
  · obtain ⟨es', h4, h5⟩ := h3 l
    refine ⟨es', c, ?_, h5⟩
    simp [amapUpd, hl, hg, hk, h1, h4]
/-- A map of digits. -/
def MapD (σ : AH) (m : Nat) (D : Pl → Int) : Prop := ∃ es c, σ.get m = some (.map (es.map entP) c) ∧ ∀ p, (pget es p).getD (.int .i64 0) = .int .i64 (D p)
theorem MapD.same {σ σ' : AH} {m : Nat} {D : Pl → Int} (h : MapD σ m D) (e : σ'.get m = σ.get m) : MapD σ' m D := by
  obtain ⟨es, c, h1, h2⟩ := h
  exact ⟨es, c, e.trans h1, h2⟩
theorem MapD.lt {σ : AH} {m : Nat} {D : Pl → Int} (h : MapD σ m D) : m < σ.next := by
  obtain ⟨es, c, h1, h2⟩ := h
  exact AH.get_lt h1
theorem MapD.look {σ : AH} {m : Nat} {D : Pl → Int} (h : MapD σ m D) (t : Pl) : alookup true [.int, .int, .int] (.int .i64 0) false (.map (some m)) (eP t) σ = some (.int .i64 (D t), σ) := by
  obtain ⟨es, c, h1, h2⟩ := h
  rw [lookP t _ h1, h2]
/-- Entries of a page. -/
structure okE (l : List Int) : Prop where
  len : 1 ≤ l.length ∧ l.length ≤ 5
  byt : ∀ x ∈ l, x = 63 ∨ (48 ≤ x ∧ x ≤ 57)
  lead : 1 < l.length → nth l 0 ≠ 48
theorem okE.bys {l : List Int} (h : okE l) : bys (strA l) = l := bys_strA fun x hx => by have := h.byt x hx; omega
theorem okE.at {l : List Int} (h : okE l) {j : Nat} (hj : j < l.length) : nth l j = 63 ∨ (48 ≤ nth l j ∧ nth l j ≤ 57) := h.byt _ (nth_mem hj)
structure okP (w : Nat) (R : Page) : Prop where
  rows : 2 ≤ R.length ∧ R.length ≤ 5
  cols : 2 ≤ w ∧ w ≤ 5
  wide : ∀ i, i < R.length → (nth R i).length = w
  ent : ∀ i k, i < R.length → k < w → okE (nth (nth R i) k)
end Go.Oct.Log
