/- What is restored: sure digits are put in. -/
import Derived.Test.YtddkghgfbhhcdaaGreatDoorOLogWet
set_option maxRecDepth 100000
set_option maxHeartbeats 4000000
set_option linter.unusedVariables false
set_option linter.unusedSimpArgs false
namespace Go.Oct.Log
open Go.Oct
/-- A text with bytes put in. -/
def put (f : Nat → Option Int) (l : List Int) : List Int := l.mapIdx fun j c => (f j).getD c
theorem put_len (f : Nat → Option Int) (l : List Int) : (put f l).length = l.length := by unfold put; simp
theorem put_nth {f : Nat → Option Int} {l : List Int} {j : Nat} (h : j < l.length) : nth (put f l) j = (f j).getD (nth l j) := by
  unfold put nth
  simp [List.getD_eq_getElem?_getD, h]
def putR (g : Pl → Option Int) (i : Nat) (row : List (List Int)) : List (List Int) := row.mapIdx fun k l => put (fun j => g ⟨i, k, j⟩) l
theorem putR_len (g : Pl → Option Int) (i : Nat) (row : List (List Int)) : (putR g i row).length = row.length := by unfold putR; simp
theorem putR_nth {g : Pl → Option Int} {i : Nat} {row : List (List Int)} {k : Nat} (h : k < row.length) : nth (putR g i row) k = put (fun j => g ⟨i, k, j⟩) (nth row k) := by
  unfold putR nth
  simp [List.getD_eq_getElem?_getD, h]
def putP (g : Pl → Option Int) (R : Page) : Page := R.mapIdx fun i row => putR g i row
theorem putP_len (g : Pl → Option Int) (R : Page) : (putP g R).length = R.length := by unfold putP; simp
theorem putP_nth {g : Pl → Option Int} {R : Page} {i : Nat} (h : i < R.length) : nth (putP g R) i = putR g i (nth R i) := by
  unfold putP nth
  simp [List.getD_eq_getElem?_getD, h]
/-- What Restore answers. -/
def ResV (w : Nat) (D : Pl → Int) (R : Page) (v : AV) : Prop := ∃ (n : Nat) (g : Pl → Option Int), (∃ Y : List (List Int), n = Y.length ∧ Y.Nodup ∧ ∀ T, T ∈ Y ↔ Truth w R (lost R) T) ∧ v = .tuple [vP (putP g R), .int .i64 n, .int .i64 0] ∧ 1 ≤ n ∧ n ≤ 100000 ∧ (∀ p x, g p = some x → p ∈ lost R ∧ x = 48 + D p) ∧ (n = 1 → ∀ p ∈ lost R, g p = some (48 + D p))
theorem put_byte {w : Nat} {R R0 : Page} (hf : Full w R0) (h : Wet w R R0) {g : Pl → Option Int} (hg : ∀ p x, g p = some x → p ∈ lost R ∧ x = 48 + was R0 p) {i k a : Nat} (hi : i < R0.length) (hk : k < w) (ha : a < (nth (nth R0 i) k).length) :
    (nth (nth (nth (putP g R) i) k) a = 63 ∧ g ⟨i, k, a⟩ = none ∧ (⟨i, k, a⟩ : Pl) ∈ lost R) ∨ nth (nth (nth (putP g R) i) k) a = nth (nth (nth R0 i) k) a := by
  have hl := h.len i k hi hk
  rw [putP_nth (by rw [h.rows]; exact hi), putR_nth (by rw [h.wide i hi]; exact hk), put_nth (by omega)]
  cases e : g ⟨i, k, a⟩ with
  | none =>
    rw [Option.getD_none]
    rcases h.byt i k a hi hk ha with h2 | h2
    · exact .inl ⟨h2, rfl, (mem_lostP _).2 ⟨i, k, a, by rw [h.rows]; exact hi, by rw [h.wide i hi]; exact hk, by omega, h2, rfl⟩⟩
    · exact .inr h2
  | some x =>
    obtain ⟨h1, h2⟩ := hg _ _ e
    rw [Option.getD_some, h2]
    unfold was
    simp only [Int.toNat_natCast]
    exact .inr (by omega)
theorem put_back {w : Nat} {R R0 : Page} (hf : Full w R0) (h : Wet w R R0) {g : Pl → Option Int} (hg : ∀ p x, g p = some x → p ∈ lost R ∧ x = 48 + was R0 p) (h1 : ∀ p ∈ lost R, g p = some (48 + was R0 p)) : putP g R = R0 := by
  refine list_eq (by rw [putP_len, h.rows]) fun i hi => ?_
  rw [putP_len, h.rows] at hi
  have hw := h.wide i hi
  rw [putP_nth (by rw [h.rows]; exact hi)]
  refine list_eq (by rw [putR_len, hw, hf.wide i hi]) fun k hk => ?_
  rw [putR_len, hw] at hk
  have hl := h.len i k hi hk
  rw [putR_nth (by omega)]
  refine list_eq (by rw [put_len, hl]) fun a ha => ?_
  rw [put_len] at ha
  rcases put_byte hf h hg hi hk (a := a) (by omega) with ⟨_, e, hm⟩ | e
  · rw [h1 _ hm] at e; cases e
  · rw [putP_nth (by rw [h.rows]; exact hi), putR_nth (by omega)] at e
    exact e
/-- What is seen of a byte that is sure. -/
theorem seen_one {N : Nat} {Y : List (List Int)} {B : List Bool} (hB : B.length = N * 10 ∧ ∀ k d : Nat, k < N → d < 10 → (nth B (k * 10 + d) = true ↔ ∃ y ∈ Y, nth y k = d)) {T : List Int} (hT : T ∈ Y) {k q t : Nat} (hk : k < N) (hq : q < 10) (ht : nth T k = t) (ht9 : t < 10)
    (he : ∀ d, d < 10 → nth B (k * 10 + d) = decide (d = q)) : t = q := by
  have h1 := (hB.2 k t hk ht9).2 ⟨T, hT, ht⟩
  rw [he t ht9] at h1
  exact of_decide_eq_true h1
theorem ent_congr {R : Page} {D D' : Pl → Int} {i k : Nat} (h : ∀ a : Nat, a < (nth (nth R i) k).length → nth (nth (nth R i) k) a = 63 → D ⟨i, k, a⟩ = D' ⟨i, k, a⟩) : entv D R i k = entv D' R i k := by
  unfold entv
  congr 1
  refine list_eq (by rw [sub_len, sub_len]) fun a ha => ?_
  rw [sub_len] at ha
  rw [sub_nth ha, sub_nth ha]
  split
  · next e => rw [h a ha e]
  · rfl
/-- What depends on what. -/
theorem dep_lost {w : Nat} {R R0 : Page} (hf : Full w R0) (h : Wet w R R0) : Dep w R (lost R) := by
  have hp := h.okP hf
  have key : ∀ (D D' : Pl → Int) (i k : Nat), i < R.length → k < w → (∀ j, j < (lost R).length → (nth (lost R) j).row = i → D (nth (lost R) j) = D' (nth (lost R) j)) → entv D R i k = entv D' R i k := fun D D' i k hi hk hD => by
    refine ent_congr fun a ha e => ?_
    obtain ⟨j, hj, e2⟩ := mem_nth.1 ((mem_lostP (R := R) (p := ⟨i, k, a⟩) R.length).2 ⟨i, k, a, hi, by rw [hp.wide i hi]; exact hk, ha, e, rfl⟩)
    have := hD j hj (by rw [show nth (lost R) j = ⟨i, k, a⟩ from e2])
    rw [show nth (lost R) j = ⟨i, k, a⟩ from e2] at this
    exact this
  refine ⟨fun i D D' hi hD hr => ?_, fun k D D' hk hD hr => ?_, fun i D hi hno => ?_⟩
  · have hc := hp.cols
    have hs : ∀ c, c ≤ w → rsum D R i c = rsum D' R i c := by
      intro c
      induction c with
      | zero => intro _; rfl
      | succ c ih => intro hcw; rw [rsum, rsum, ih (by omega), key D D' i c hi (by omega) hD]
    unfold rowAg at hr ⊢
    rw [← hs _ (by omega), ← key D D' i (w - 1) hi (by omega) hD]
    exact hr
  · have hc := hp.rows
    have hs : ∀ c, c ≤ R.length → csum D R k c = csum D' R k c := by
      intro c
      induction c with
      | zero => intro _; rfl
      | succ c ih => intro hcw; rw [csum, csum, ih (by omega), key D D' c k (by omega) hk fun j hj _ => hD j hj]
    unfold colAg at hr ⊢
    rw [← hs _ (by omega), ← key D D' (R.length - 1) k (by omega) hk fun j hj _ => hD j hj]
    exact hr
  · exact (truth_ok hf h).row D i hi fun j hj e => absurd ⟨j, hj, e⟩ hno
theorem same_len {Y Z : List (List Int)} {P : List Int → Prop} (hY : Y.Nodup) (hZ : Z.Nodup) (h1 : ∀ T, T ∈ Y ↔ P T) (h2 : ∀ T, T ∈ Z ↔ P T) : Y.length = Z.length :=
  (((List.perm_ext_iff_of_nodup hY hZ).2 fun a => (h1 a).trans (h2 a).symm)).length_eq
end Go.Oct.Log
