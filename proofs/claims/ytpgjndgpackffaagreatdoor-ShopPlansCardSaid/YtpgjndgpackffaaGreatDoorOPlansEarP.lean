/- No plan has fewer days than a bound, plain. -/
import Derived.Test.YtpgjndgpackffaaGreatDoorOPlansPlnY
import Derived.Test.YtpgjndgpackffaaGreatDoorOPlansEno
set_option maxRecDepth 100000
set_option maxHeartbeats 4000000
set_option linter.unusedVariables false
set_option linter.unusedSimpArgs false
namespace Go.Oct.Plans
open Go.Oct
theorem flat_sub (P : Plan) {a b : Nat} (h : a ≤ b) {x : Int} (hx : x ∈ flat P a) : x ∈ flat P b := by
  obtain ⟨r, hr⟩ := flat_pre P h
  rw [hr]; exact List.mem_append_left _ hx
theorem okPlan.after {l : List Pc} {men : Int} {P : Plan} (h : okPlan l men P) {d d' : Nat} (hd : d < P.length) (hd' : d' ≤ P.length) {x : Int} (hx : x ∈ row P d) (hx' : x ∈ flat P d') : d < d' := by
  apply Nat.lt_of_not_le
  intro hc
  obtain ⟨r, hr⟩ := flat_pre P (d := d + 1) (n := P.length) hd
  have hn := h.nd
  rw [hr] at hn
  have h1 := (List.nodup_append.1 hn).1
  simp only [flat] at h1
  exact (List.nodup_append.1 h1).2.2 x (flat_sub P hc hx') x hx rfl
theorem okPlan.late {l : List Pc} {men : Int} {P : Plan} (ho : okOrd l) (h : okPlan l men P) : ∀ (k i : Nat), i + k + 1 = l.length → ∀ d, d < P.length → (i : Int) ∈ row P d → d + lev l i ≤ P.length := by
  intro k
  induction k using Nat.strongRecOn with
  | ind k ih =>
    intro i hi d hd hx
    by_cases he : (nth l i).into = -1
    · have := lev_end ho (by omega) he
      omega
    · have h1 := lev_into ho (show i < l.length by omega) he
      have h2 := (ho.2 i (by omega)).1
      have h3 : (i : Int) + 1 ≤ (nth l i).into ∧ (nth l i).into ≤ (l.length : Int) - 1 := h2.resolve_left he
      obtain ⟨y, hy⟩ : ∃ y : Nat, (nth l i).into = y := ⟨(nth l i).into.toNat, by omega⟩
      rw [hy, Int.toNat_natCast] at h1
      obtain ⟨d', q1, q2⟩ := flat_in.1 (h.all y (by omega))
      have q3 := h.pre d' q1 y q2 i (by omega) hy
      have q4 := h.after hd (by omega) hx q3
      have := ih (l.length - y - 1) (by omega) y (by omega) d' q1 q2
      omega
theorem flat_len {l : List Pc} {men : Int} {P : Plan} (h : okPlan l men P) : ∀ d, d ≤ P.length → ((flat P d).length : Int) ≤ men * d
  | 0, _ => by simp [flat]
  | d + 1, hd => by
    have h1 := flat_len h d (by omega)
    have h2 := (h.day d (by omega)).1
    simp only [flat, List.length_append]
    have e : men * ((d + 1 : Nat) : Int) = men * d + men := by rw [Int.natCast_succ, Int.mul_add, Int.mul_one]
    omega
theorem okPlan.least {l : List Pc} {men : Int} {P : Plan} (ho : okOrd l) (hm : 1 ≤ men) (h : okPlan l men P) {j : Nat} (hj : j < height l) : bnd l men j ≤ P.length := by
  have key : (above l j : Int) ≤ men * ((P.length - j : Nat) : Int) := by
    have h1 := flat_len h (P.length - j) (by omega)
    have h2 : above l j ≤ (flat P (P.length - j)).length := by
      have e : above l j = ((List.range l.length).filter fun i => decide ((j : Int) < (lev l i : Int))).length := by
        unfold above
        generalize l.length = n
        induction n with
        | zero => rfl
        | succ n ih =>
          rw [List.range_succ, List.filter_append, List.length_append, ← ih]
          simp only [cnt]
          by_cases hc : j < lev l n
          · simp [hc]
          · first
            | (simp [hc]; done)
            | (simp [hc]; omega)
      rw [e]
      have := nodupLe (xs := ((List.range l.length).filter fun i => decide ((j : Int) < (lev l i : Int))).map (fun i : Nat => (i : Int))) (ys := flat P (P.length - j)) (nd_map (List.nodup_range.filter _) fun a _ b _ e => by omega) fun x hx => by
        obtain ⟨i, h3, rfl⟩ := List.mem_map.1 hx
        obtain ⟨h4, h5⟩ := List.mem_filter.1 h3
        have h4 := List.mem_range.1 h4
        have h5 : (j : Int) < (lev l i : Int) := by simpa using h5
        obtain ⟨d, q1, q2⟩ := flat_in.1 (h.all i h4)
        have := h.late ho (l.length - i - 1) i (by omega) d q1 q2
        exact flat_in.2 ⟨d, by omega, q2⟩
      rwa [List.length_map] at this
    omega
  obtain ⟨i, h3, h4⟩ := maxTo_at (lev l) (n := l.length) (show 0 < maxTo (lev l) l.length from by unfold height at hj; omega)
  have hjP : j ≤ P.length := by
    obtain ⟨d, q1, q2⟩ := flat_in.1 (h.all i h3)
    have := h.late ho (l.length - i - 1) i (by omega) d q1 q2
    unfold height at hj
    omega
  unfold bnd
  have : ((above l j : Int) + men - 1) / men < ((P.length - j : Nat) : Int) + 1 := by
    apply Int.ediv_lt_of_lt_mul (by omega)
    rw [Int.add_mul, Int.mul_comm ((P.length - j : Nat) : Int) men]
    omega
  omega
theorem lstTo_spec {l : List Pc} {men : Int} (ho : okOrd l) (hm : 1 ≤ men) : ∀ n, n ≤ height l → (∀ j : Nat, j < n → bnd l men j ≤ (lstTo l men n).1) ∧ (0 < n → ∃ j : Nat, j < n ∧ (lstTo l men n).2 = j ∧ (lstTo l men n).1 = bnd l men j ∧ ∀ i : Nat, i < j → bnd l men i < bnd l men j)
  | 0, _ => ⟨fun j h => by omega, fun h => by omega⟩
  | n + 1, hn => by
    obtain ⟨h1, h2⟩ := lstTo_spec ho hm n (by omega)
    simp only [lstTo]
    by_cases h : (lstTo l men n).1 < bnd l men n
    · rw [if_pos h]
      refine ⟨fun j hj => ?_, fun _ => ⟨n, by omega, rfl, rfl, fun i hi => by have := h1 i hi; omega⟩⟩
      by_cases e : j = n
      · subst e; exact Int.le_refl _
      · have := h1 j (by omega); simp only; omega
    · rw [if_neg h]
      refine ⟨fun j hj => ?_, fun _ => ?_⟩
      · by_cases e : j = n
        · subst e; omega
        · exact h1 j (by omega)
      · by_cases e : n = 0
        · subst e
          exfalso
          have h3 := above_pos ho (j := 0) (by omega)
          have h4 : bnd l men ((0 : Nat) : Int) = ((0 : Nat) : Int) + ((above l ((0 : Nat) : Int) : Int) + men - 1) / men := rfl
          have h5 : 1 ≤ ((above l ((0 : Nat) : Int) : Int) + men - 1) / men := (Int.le_ediv_iff_mul_le (by omega)).2 (by omega)
          simp only [lstTo] at h
          omega
        · obtain ⟨j, q1, q2, q3, q4⟩ := h2 (by omega)
          exact ⟨j, by omega, q2, q3, q4⟩
theorem lst_spec {l : List Pc} {men : Int} (ho : okOrd l) (hm : 1 ≤ men) : ∃ j : Nat, j < height l ∧ (lst l men).2 = j ∧ (lst l men).1 = bnd l men j ∧ (∀ i : Nat, i < j → bnd l men i < bnd l men j) ∧ ∀ i : Nat, i < height l → bnd l men i ≤ bnd l men j := by
  obtain ⟨h1, h2⟩ := lstTo_spec ho hm (height l) (Nat.le_refl _)
  obtain ⟨j, q1, q2, q3, q4⟩ := h2 (by have := height_bd ho; omega)
  exact ⟨j, q1, q2, q3, q4, fun i hi => by have := h1 i hi; omega⟩
theorem plan_len {l : List Pc} {men : Int} {Q : Plan} (ho : okOrd l) (hm : 1 ≤ men) (h : okPlan l men Q) (hb : ∃ j : Nat, j < height l ∧ (Q.length : Int) ≤ bnd l men j) : (Q.length : Int) = (lst l men).1 := by
  obtain ⟨j, q1, q2, q3, q4, q5⟩ := lst_spec ho hm
  obtain ⟨i, i1, i2⟩ := hb
  have := q5 i i1
  have := h.least ho hm q1
  omega
theorem above_zero {l : List Pc} {j : Nat} (h : height l ≤ j) : above l j = 0 := by
  apply Nat.eq_zero_of_not_pos
  intro hc
  obtain ⟨i, h1, h2⟩ := cnt_pos.1 hc
  have h3 : (j : Int) < (lev l i : Int) := by simpa using h2
  have := maxTo_ge (lev l) h1
  unfold height at h
  omega
end Go.Oct.Plans
