/- The stock book, plain: with just as much brass as all pieces take a plan can begin at once, with less never. -/
import Derived.Test.YtddkghgfbhhcdaaGreatDoorOStkBeg2
import Derived.Test.YtddkghgfbhhcdaaGreatDoorOStkPlnY
set_option maxRecDepth 100000
set_option maxHeartbeats 4000000
set_option linter.unusedVariables false
set_option linter.unusedSimpArgs false
namespace Go.Oct.Stk
open Go.Oct
/-- Four pieces of brass. -/
def pcs (b : Nat → Nat) : List Sh.Pc := [⟨-1, b 0, 0⟩, ⟨-1, b 1, 0⟩, ⟨-1, b 2, 0⟩, ⟨-1, b 3, 0⟩]
theorem pcs_nth {b : Nat → Nat} {i : Nat} (h : i < 4) : nth (pcs b) i = ⟨-1, b i, 0⟩ := by
  have : i = 0 ∨ i = 1 ∨ i = 2 ∨ i = 3 := by omega
  rcases this with rfl | rfl | rfl | rfl <;> rfl
theorem pcs_ok {b : Nat → Nat} (h : ∀ i, b i ≤ 10000) : Sh.okOrd (pcs b) := by
  refine ⟨by show 1 ≤ ((4 : Nat) : Int) ∧ ((4 : Nat) : Int) ≤ 12; omega, fun i hi => ?_⟩
  have hi : i < 4 := hi
  unfold Sh.okPc
  rw [pcs_nth hi]
  have := h i
  exact ⟨.inl rfl, by show 0 ≤ ((b i : Nat) : Int) ∧ ((b i : Nat) : Int) ≤ 10000; omega, by show (0 : Int) ≤ 0; omega, by show (0 : Int) ≤ 10000; omega⟩
theorem perm_of {xs : List Int} (hn : xs.Nodup) (h : ∀ i, i < 4 → ((i : Nat) : Int) ∈ xs) (h2 : ∀ x ∈ xs, 0 ≤ x ∧ x < 4) : xs.Perm [0, 1, 2, 3] := by
  rw [List.perm_ext_iff_of_nodup hn (by decide)]
  intro a
  constructor
  · intro ha
    have := h2 a ha
    have : a = 0 ∨ a = 1 ∨ a = 2 ∨ a = 3 := by omega
    rcases this with rfl | rfl | rfl | rfl <;> decide
  · intro ha
    simp only [List.mem_cons, List.not_mem_nil, or_false] at ha
    rcases ha with rfl | rfl | rfl | rfl
    · exact h 0 (by omega)
    · exact h 1 (by omega)
    · exact h 2 (by omega)
    · exact h 3 (by omega)
theorem wsum_perm {l : List Sh.Pc} {m : Nat} {xs ys : List Int} (h : xs.Perm ys) : Sh.wsum l m xs = Sh.wsum l m ys := by
  induction h with
  | nil => rfl
  | cons x _ ih => show Sh.wsum l m ([x] ++ _) = Sh.wsum l m ([x] ++ _); rw [Sh.wsum_app, Sh.wsum_app, ih]
  | swap x y r => show Sh.wsum l m ([y] ++ ([x] ++ r)) = Sh.wsum l m ([x] ++ ([y] ++ r)); simp only [Sh.wsum_app]; omega
  | trans _ _ h1 h2 => rw [h1, h2]
theorem flat_all {b : Nat → Nat} {men : Int} {P : Sh.Plan} (hp : Sh.okPlan (pcs b) men P) : (Sh.flat P P.length).Perm [0, 1, 2, 3] := by
  refine perm_of hp.nd (fun i hi => hp.all i hi) fun x hx => ?_
  obtain ⟨d, hd, hr⟩ := Sh.flat_in.1 hx
  have := Sh.rises_in (hp.day d hd).2 (by rw [List.take_length]; exact hr) (Nat.le_refl _)
  have h4 : ((pcs b).length : Int) = 4 := rfl
  omega
theorem wsum_all {b : Nat → Nat} {men : Int} {P : Sh.Plan} (hp : Sh.okPlan (pcs b) men P) (m : Nat) : Sh.wsum (pcs b) m (Sh.flat P P.length) = if m = 0 then ((b 0 + b 1 + b 2 + b 3 : Nat) : Int) else 0 := by
  rw [wsum_perm (flat_all hp)]
  show Sh.am m (nth (pcs b) 0) + (Sh.am m (nth (pcs b) 1) + (Sh.am m (nth (pcs b) 2) + (Sh.am m (nth (pcs b) 3) + 0))) = _
  rw [pcs_nth (by omega), pcs_nth (by omega), pcs_nth (by omega), pcs_nth (by omega)]
  unfold Sh.am
  split <;> simp <;> omega
theorem wsum_le {b : Nat → Nat} {men : Int} {P : Sh.Plan} (hb : ∀ i, b i ≤ 10000) (hp : Sh.okPlan (pcs b) men P) (m : Nat) {d : Nat} (hd : d ≤ P.length) : Sh.wsum (pcs b) m (Sh.flat P d) ≤ Sh.wsum (pcs b) m (Sh.flat P P.length) := by
  obtain ⟨r, hr⟩ := Sh.flat_pre P hd
  rw [hr, Sh.wsum_app]
  have := (Sh.wsum_bd (pcs_ok hb) (m := m) (xs := r) fun x hx => ?_).1
  · omega
  · have hx2 : x ∈ Sh.flat P P.length := by rw [hr]; exact List.mem_append_right _ hx
    have := (flat_all hp).mem_iff.1 hx2
    have h4 : ((pcs b).length : Int) = 4 := rfl
    simp only [List.mem_cons, List.not_mem_nil, or_false] at this
    omega
def sto (n : Int) : Sh.St := ⟨n, 0, []⟩
theorem sto_ok {n : Int} (h : 0 ≤ n) (h2 : n ≤ 100000) : Sh.okSt (sto n) := ⟨⟨⟨⟨h, h2⟩, by show (0 : Int) ≤ 0; omega, by show (0 : Int) ≤ 100000; omega⟩, by show ((0 : Nat) : Int) ≤ 12; omega⟩, fun i hi => by cases hi⟩
theorem begin_now {b : Nat → Nat} {men : Int} {P : Sh.Plan} (hb : ∀ i, b i ≤ 10000) (hm : 1 ≤ men ∧ men ≤ 12) (hp : Sh.okPlan (pcs b) men P) {B e : Int} (hv : Sh.BegV (pcs b) men P (sto ((b 0 + b 1 + b 2 + b 3 : Nat) : Int)) B e) : B = 0 ∧ e = 0 := by
  have h0 := hb 0
  have h1 := hb 1
  have h2 := hb 2
  have h3 := hb 3
  have hs := sto_ok (n := ((b 0 + b 1 + b 2 + b 3 : Nat) : Int)) (by omega) (by omega)
  have hz : ∀ m d, m < 2 → d < P.length → Sh.kd (pcs b) (sto ((b 0 + b 1 + b 2 + b 3 : Nat) : Int)) P m (d + 1) = 0 := fun m d hm hd => by
    have hk := Sh.kk_iff hs (m := m) (w := Sh.wsum (pcs b) m (Sh.flat P (d + 1))) (k := 0) (Nat.zero_le _)
    have hw := wsum_le hb hp m (d := d + 1) (by omega)
    rw [wsum_all hp] at hw
    have hc : Sh.cm m (sto ((b 0 + b 1 + b 2 + b 3 : Nat) : Int)) 0 = if m = 0 then ((b 0 + b 1 + b 2 + b 3 : Nat) : Int) else 0 := rfl
    rw [hc] at hk
    have : ¬ 0 < Sh.kk m (sto ((b 0 + b 1 + b 2 + b 3 : Nat) : Int)) (Sh.wsum (pcs b) m (Sh.flat P (d + 1))) := fun h => by
      have := hk.2 h
      omega
    unfold Sh.kd
    omega
  have ho := pcs_ok hb
  exact hv.good (by unfold Sh.askV; rw [if_pos ho, if_pos hm]) hp hs (fun m d h1 h2 => by rw [hz m d h1 h2]; omega) (B := 0) ⟨Int.le_refl _, by omega, fun m d h1 h2 => by rw [hz m d h1.1 h1.2] at h2; omega, .inl rfl⟩
theorem begin_not {b : Nat → Nat} {men : Int} {P : Sh.Plan} (hb : ∀ i, b i ≤ 10000) (hm : 1 ≤ men ∧ men ≤ 12) (hp : Sh.okPlan (pcs b) men P) (hpos : 1 ≤ b 0 + b 1 + b 2 + b 3) {B e : Int} (hv : Sh.BegV (pcs b) men P (sto (((b 0 + b 1 + b 2 + b 3 : Nat) : Int) - 1)) B e) : B = 0 ∧ e = 4 := by
  have h0 := hb 0
  have h1 := hb 1
  have h2 := hb 2
  have h3 := hb 3
  have hs := sto_ok (n := ((b 0 + b 1 + b 2 + b 3 : Nat) : Int) - 1) (by omega) (by omega)
  have ho := pcs_ok hb
  have hne : 1 ≤ P.length := List.length_pos_iff.2 hp.ne
  refine hv.bad (by unfold Sh.askV; rw [if_pos ho, if_pos hm]) hp hs (m := 0) (d := P.length - 1) (by omega) (by omega) ?_
  rw [show P.length - 1 + 1 = P.length by omega]
  show 0 < Sh.kk 0 _ _
  refine (Sh.kk_iff hs (m := 0) (k := 0) (Nat.zero_le _)).1 ?_
  rw [wsum_all hp]
  show ((b 0 + b 1 + b 2 + b 3 : Nat) : Int) - 1 < _
  rw [if_pos rfl]
  omega
end Go.Oct.Stk
