/- Men: how many journeymen some days take. -/
import Derived.Test.YtpgjndgpackffaaGreatDoorOPlansOrd
import Derived.Test.YtpgjndgpackffaaGreatDoorOT3
set_option maxRecDepth 100000
set_option maxHeartbeats 4000000
set_option linter.unusedVariables false
set_option linter.unusedSimpArgs false
namespace Go.Oct.Plans
open Go.Oct
theorem lst_ge {l : List Pc} {men : Int} : ∀ {n j : Nat}, j < n → bnd l men j ≤ (lstTo l men n).1
  | 0, _, h => by omega
  | n + 1, j, h => by
    simp only [lstTo]
    by_cases e : j = n
    · subst e
      split
      · exact Int.le_refl _
      · omega
    · have := lst_ge (l := l) (men := men) (n := n) (j := j) (by omega)
      split
      · simp; omega
      · exact this
theorem lst_at {l : List Pc} {men : Int} : ∀ {n : Nat}, 0 < (lstTo l men n).1 → ∃ j : Nat, j < n ∧ (lstTo l men n).2 = j ∧ (lstTo l men n).1 = bnd l men j ∧ ∀ i : Nat, i < j → bnd l men i < bnd l men j
  | 0, h => by simp [lstTo] at h
  | n + 1, h => by
    simp only [lstTo] at h ⊢
    by_cases e : (lstTo l men n).1 < bnd l men n
    · rw [if_pos e]
      refine ⟨n, by omega, rfl, rfl, fun i hi => ?_⟩
      have := lst_ge (l := l) (men := men) hi
      omega
    · rw [if_neg e] at h ⊢
      obtain ⟨j, h1, h2⟩ := lst_at h
      exact ⟨j, by omega, h2⟩
theorem above_pos {l : List Pc} (h : okOrd l) {j : Nat} (hj : j < height l) : 1 ≤ above l j := by
  obtain ⟨i, h1, h2⟩ := maxTo_at (lev l) (n := l.length) (by unfold height at hj; omega)
  have : 0 < above l j := cnt_pos.2 ⟨i, h1, by
    have : maxTo (lev l) l.length = height l := rfl
    exact decide_eq_true (by omega)⟩
  omega
theorem lst_pos {l : List Pc} (h : okOrd l) {men : Int} (hm : 1 ≤ men) : 1 ≤ (lst l men).1 := by
  have hh := height_bd h
  have h1 := lst_ge (l := l) (men := men) (n := height l) (j := 0) (by omega)
  have h2 := above_pos h (j := 0) (by omega)
  have h3 : (1 : Int) ≤ ((above l ((0 : Nat) : Int) : Int) + men - 1) / men := (Int.le_ediv_iff_mul_le (by omega)).2 (by omega)
  unfold bnd at h1
  unfold lst
  omega
/-- So many journeymen suffice, and the level proves that no fewer do. -/
structure MenAt (l : List Pc) (days m j : Int) : Prop where
  lo : 1 ≤ m
  hi : m ≤ 12
  suf : (lst l m).1 ≤ days
  few : ∀ q, 1 ≤ q → q < m → days < (lst l q).1
  one : m = 1 → j = 0
  lv : m ≠ 1 → 0 ≤ j ∧ j < height l ∧ days < bnd l (m - 1) j ∧ ∀ i, 0 ≤ i → i < j → bnd l (m - 1) i ≤ days
theorem suf12 {l : List Pc} (h : okOrd l) {days : Int} (hd : (height l : Int) ≤ days) : (lst l 12).1 ≤ days := by
  have hp := lst_pos h (men := 12) (by omega)
  obtain ⟨j, h1, h2, h3, _⟩ := lst_at (l := l) (men := 12) (n := height l) (by unfold lst at hp; omega)
  have h4 := above_le l j
  have h5 := h.1
  have h6 : ((above l j : Int) + 12 - 1) / 12 ≤ 1 := by
    apply Int.le_of_lt_add_one
    apply (Int.ediv_lt_iff_lt_mul (by omega)).2
    omega
  unfold bnd at h3
  unfold lst
  omega
theorem least_nat {P : Nat → Prop} : ∀ n, P n → ∃ m, m ≤ n ∧ P m ∧ ∀ i, i < m → ¬ P i := by
  intro n
  induction n using Nat.strongRecOn with
  | ind n ih =>
    intro hn
    by_cases hx : ∃ i, i < n ∧ P i
    · obtain ⟨i, h1, h2⟩ := hx
      obtain ⟨m, h3, h4, h5⟩ := ih i h1 h2
      exact ⟨m, by omega, h4, h5⟩
    · exact ⟨n, Nat.le_refl _, hn, fun i hi hp => hx ⟨i, hi, hp⟩⟩
theorem men_ex {l : List Pc} (h : okOrd l) {days : Int} (hd : (height l : Int) ≤ days) : ∃ m j : Int, MenAt l days m j := by
  obtain ⟨m, h1, h2, h3⟩ := least_nat (P := fun m : Nat => (lst l ((m : Int) + 1)).1 ≤ days) 11 (by exact suf12 h hd)
  have hfew : ∀ q : Int, 1 ≤ q → q < (m : Int) + 1 → days < (lst l q).1 := fun q h4 h5 => by
    have := h3 (q - 1).toNat (by omega)
    rw [show (((q - 1).toNat : Nat) : Int) + 1 = q by omega] at this
    omega
  by_cases hm : m = 0
  · subst hm
    exact ⟨1, 0, by omega, by omega, h2, fun q h4 h5 => by omega, fun _ => rfl, fun h => absurd rfl h⟩
  · have hb := hfew m (by omega) (by omega)
    have hp := lst_pos h (men := m) (by omega)
    obtain ⟨j, j1, j2, j3, _⟩ := lst_at (l := l) (men := m) (n := height l) (by unfold lst at hp; omega)
    obtain ⟨i, i1, i2, i3⟩ := least_nat (P := fun i : Nat => days < bnd l m i) j (by
      show days < bnd l m j
      rw [← j3]; exact hb)
    refine ⟨(m : Int) + 1, i, by omega, by omega, h2, hfew, fun h => by omega, fun _ => ⟨by omega, by omega, ?_, fun q h4 h5 => ?_⟩⟩
    · rw [show (m : Int) + 1 - 1 = m by omega]; exact i2
    · have := i3 q.toNat (by omega)
      rw [show ((q.toNat : Nat) : Int) = q by omega] at this
      rw [show (m : Int) + 1 - 1 = m by omega]; omega
/-- What Men tells. -/
inductive MenV (l : List Pc) (days : Int) : Int → Int → Int → Prop
  | bad (h : ¬ okOrd l) : MenV l days 0 0 100
  | days (h : okOrd l) (hd : ¬ (1 ≤ days ∧ days ≤ 12)) : MenV l days 0 0 101
  | none (h : okOrd l) (hd : 1 ≤ days ∧ days ≤ 12) (hh : days < height l) : MenV l days 0 0 4
  | some (h : okOrd l) (hd : 1 ≤ days ∧ days ≤ 12) (hh : (height l : Int) ≤ days) (m j : Int) (hm : MenAt l days m j) : MenV l days m j 0
theorem menV_ex (l : List Pc) (days : Int) : ∃ m j e, MenV l days m j e := by
  by_cases h : okOrd l
  · by_cases hd : 1 ≤ days ∧ days ≤ 12
    · by_cases hh : days < height l
      · exact ⟨_, _, _, .none h hd hh⟩
      · obtain ⟨m, j, hm⟩ := men_ex h (days := days) (by omega)
        exact ⟨_, _, _, .some h hd (by omega) m j hm⟩
    · exact ⟨_, _, _, .days h hd⟩
  · exact ⟨_, _, _, .bad h⟩
theorem Men_ok (nl : Bool) (l : List Pc) (days : Int) (hx : l.length < 2 ^ 62) {m j e : Int} (hv : MenV l days m j e) : ans prog O 32 [vl ePc nl l, .int .i64 days] = some (.tuple [.int .i64 m, .int .i64 j, .int .i64 e]) := by
  refine fn_of' pl get32 (oo (by decide)) rfl rfl ?_
  rcases hv with h | ⟨h, hd⟩ | ⟨h, hd, hh⟩ | ⟨h, hd, hh, _, _, hm⟩
  · simp (disch := omega) [h]
  · simp (disch := omega) [h, hd]
    try omega
  · simp (disch := omega) [h, hd, pieces_ok, hh]
  · have hb := height_bd h
    have h1 := hm.lo
    have h2 := hm.hi
    have hh' : ¬ days < height l := by omega
    simp (disch := omega) [h, hd, pieces_ok, hh', -Bool.exists_bool]
    refine lp_loop pl (fun k fr σ => ∃ q : Int, 1 ≤ q ∧ q + k = m ∧ fr = ⟨[(1, .int .i64 days), (4, .int .i64 q), (5, .int .i64 0), (8, vl eP5 false (pcsL l l.length))], []⟩ ∧ σ.lim = 0)
      ⟨(m - 1).toNat, 1, by omega, by omega, rfl, rfl⟩ ?_
    rintro k _ σ ⟨q, hq1, hq, rfl, hl0⟩
    by_cases hqm : q = m
    · subst hqm
      have hs := hm.suf
      simp (disch := omega) [Und, h, hs, -Bool.exists_bool]
      refine ⟨fun e => ?_, fun e => ?_⟩
      · have := hm.one e
        subst this
        subst e
        simp
      · obtain ⟨j0, j1, j2, j3⟩ := hm.lv e
        refine lp_loop pl (fun k fr σ => ∃ (i : Int) (ev : Env), 0 ≤ i ∧ i + k = j ∧ fr = ⟨(1, .int .i64 days) :: (4, .int .i64 q) :: (5, .int .i64 i) :: (8, vl eP5 false (pcsL l l.length)) :: ev, []⟩ ∧ σ.lim = 0)
          ⟨j.toNat, 0, _, by omega, by omega, rfl, hl0⟩ ?_
        rintro k _ σ ⟨i, ev, hi0, hi, rfl, hl0⟩
        by_cases hij : i = j
        · subst hij
          have hg : ¬ bnd l (q - 1) i ≤ days := by omega
          simp (disch := omega) [Und, h, hg, -Bool.exists_bool]
        · have hg := j3 i hi0 (by omega)
          simp (disch := omega) [Und, h, hg, -Bool.exists_bool]
          exact ⟨k - 1, by omega, i + 1, by omega, by omega, rfl, hl0⟩
    · have hs := hm.few q hq1 (by omega)
      have hg : ¬ (lst l q).1 ≤ days := by omega
      simp (disch := omega) [Und, h, hg, -Bool.exists_bool]
      exact ⟨k - 1, by omega, q + 1, by omega, by omega, rfl, hl0⟩
def pcOK (x : Pc) : Prop := i64 x.into ∧ i64 x.br ∧ i64 x.iv
theorem inv_pcs {x : AV} (h : CellIs (.sl true [.int .i64, .int .i64, .int .i64]) x) : ∃ nl xs, Slice ePc pcOK x nl xs := by
  refine h.inv_sl fun cs hc => ?_
  obtain ⟨c, _, rfl, h, hc⟩ := hc.uncons
  obtain ⟨d, _, rfl, h', hc⟩ := hc.uncons
  obtain ⟨e, rfl, h''⟩ := hc.one
  obtain ⟨n, rfl, hn⟩ := h.inv_int
  obtain ⟨m, rfl, hm⟩ := h'.inv_int
  obtain ⟨k, rfl, hk⟩ := h''.inv_int
  exact ⟨⟨n, m, k⟩, rfl, hn, hm, hk⟩
end Go.Oct.Plans
