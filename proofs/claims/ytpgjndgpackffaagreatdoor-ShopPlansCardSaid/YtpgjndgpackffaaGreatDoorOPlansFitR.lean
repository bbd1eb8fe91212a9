/- Whether a plan is one: the specification's answer. -/
import Derived.Test.YtpgjndgpackffaaGreatDoorOPlansFit
set_option maxRecDepth 100000
set_option maxHeartbeats 8000000
set_option linter.unusedVariables false
set_option linter.unusedSimpArgs false
namespace Go.Oct.Plans
open Go.Oct
/-- The day on which a piece is made, as far as was looked; -1: none. -/
def dayTo (P : Plan) : Nat → Int → Int
  | 0, _ => -1
  | d + 1, i => if i ∈ row P d then d else dayTo P d i
def dayAt (P : Plan) (d e : Nat) (i : Int) : Int := if i ∈ (row P d).take e then d else dayTo P d i
theorem dayTo_bd (P : Plan) (i : Int) : ∀ n, -1 ≤ dayTo P n i ∧ dayTo P n i < n
  | 0 => by simp [dayTo]
  | n + 1 => by
    have := dayTo_bd P i n
    simp only [dayTo]; split <;> omega
theorem dayTo_in {P : Plan} {i : Int} : ∀ {n : Nat}, 0 ≤ dayTo P n i ↔ i ∈ flat P n
  | 0 => by simp [dayTo, flat]
  | n + 1 => by
    simp only [dayTo, flat, List.mem_append]
    by_cases h : i ∈ row P n
    · rw [if_pos h]; exact ⟨fun _ => .inr h, fun _ => by omega⟩
    · rw [if_neg h, dayTo_in (n := n)]; exact ⟨.inl, fun h2 => h2.resolve_right h⟩
theorem dayTo_row {P : Plan} {i : Int} : ∀ {n : Nat}, 0 ≤ dayTo P n i → i ∈ row P (dayTo P n i).toNat
  | 0, h => by simp [dayTo] at h
  | n + 1, h => by
    simp only [dayTo] at h ⊢
    by_cases h2 : i ∈ row P n
    · rw [if_pos h2]; simpa using h2
    · rw [if_neg h2] at h ⊢; exact dayTo_row h
theorem dayTo_eq {P : Plan} {i : Int} {d : Nat} (hi : i ∈ row P d) : ∀ {n : Nat}, d < n → (flat P n).Nodup → dayTo P n i = d
  | 0, h, _ => by omega
  | n + 1, h, hn => by
    simp only [dayTo]
    simp only [flat] at hn
    have hn' := List.nodup_append.1 hn
    by_cases e : d = n
    · subst e; rw [if_pos hi]
    · have h2 : i ∉ row P n := fun hc => hn'.2.2 i (flat_in.2 ⟨d, by omega, hi⟩) i hc rfl
      rw [if_neg h2]
      exact dayTo_eq hi (by omega) hn'.1
theorem dayAt_in {P : Plan} {d e : Nat} {i : Int} : 0 ≤ dayAt P d e i ↔ i ∈ items P d e := by
  unfold dayAt items
  rw [List.mem_append]
  by_cases h : i ∈ (row P d).take e
  · rw [if_pos h]; exact ⟨fun _ => .inr h, fun _ => by omega⟩
  · rw [if_neg h, dayTo_in]; exact ⟨.inl, fun h2 => h2.resolve_right h⟩
theorem dayAt_zero (P : Plan) (d : Nat) : dayAt P d 0 = dayTo P d := by funext i; simp [dayAt]
theorem dayAt_all (P : Plan) (d : Nat) : dayAt P d (row P d).length = dayTo P (d + 1) := by funext i; simp [dayAt, dayTo]
theorem dayAt_succ {P : Plan} {d e : Nat} (h : e < (row P d).length) (i : Int) : dayAt P d (e + 1) i = if i = nth (row P d) e then (d : Int) else dayAt P d e i := by
  unfold dayAt
  rw [take_succ_nth h]
  simp only [List.mem_append, List.mem_singleton]
  by_cases h1 : i ∈ (row P d).take e
  · simp [h1]
  · by_cases h2 : i = nth (row P d) e
    · simp [h2]
    · simp [h1, h2]
theorem plan_days {l : List Pc} {men : Int} {P : Plan} (ho : okOrd l) (hne : P ≠ []) (hla : row P (P.length - 1) ≠ []) (hd : ∀ d, d < P.length → okDay l men P d) (hn : (flat P P.length).Nodup) :
    okPlan l men P ↔ ∀ i, i < l.length → 0 ≤ dayTo P P.length i ∧ ((nth l i).into ≠ -1 → dayTo P P.length i < dayTo P P.length (nth l i).into) := by
  constructor
  · intro h i hi
    have h1 := dayTo_in.2 (h.all i hi)
    refine ⟨h1, fun he => ?_⟩
    obtain ⟨i1, i2, i3⟩ := into_lt ho hi he
    have h2 := h.all _ i2
    rw [i3] at h2
    obtain ⟨d, d1, d2⟩ := flat_in.1 h2
    rw [dayTo_eq d2 d1 hn]
    obtain ⟨q, q1, q2⟩ := flat_in.1 (h.pre d d1 _ d2 i hi rfl)
    rw [dayTo_eq q2 (by omega) hn]
    omega
  · intro h
    refine ⟨hne, hla, hd, hn, fun i hi => dayTo_in.1 (h i hi).1, fun d hdl x hx k hk he => ?_⟩
    have hx0 := flat_rng hd (flat_in.2 ⟨d, hdl, hx⟩)
    have h1 := h k hk
    have h2 := h1.2 (by omega)
    rw [he, dayTo_eq hx hdl hn] at h2
    have h3 := dayTo_row h1.1
    exact flat_in.2 ⟨(dayTo P P.length k).toNat, by omega, h3⟩
def dl (f : Nat → Int) (n : Nat) : List Int := (List.range n).map f
@[simp] theorem dl_len (f : Nat → Int) (n : Nat) : (dl f n).length = n := by simp [dl]
theorem dl_nth {f : Nat → Int} {n i : Nat} (h : i < n) : nth (dl f n) i = f i := by
  rw [nth_eq (by simpa using h)]; simp [dl]
theorem dl_get {f : Nat → Int} {n i : Nat} (h : i < n) : ((dl f n).map (AV.int .i64))[i]? = some (.int .i64 (f i)) := by
  rw [imap_get (by simpa using h), dl_nth h]
theorem dl_set {f g : Nat → Int} {n i : Nat} {v : Int} (h : i < n) (hg : ∀ j, j < n → g j = if j = i then v else f j) : ((dl f n).map (AV.int .i64)).set i (.int .i64 v) = (dl g n).map (AV.int .i64) := by
  rw [← List.map_set]
  congr 1
  apply ext_nth
  · simp
  · intro j hj
    have hj' : j < n := by simpa using hj
    rw [nth_set (by simpa using h), dl_nth hj', dl_nth hj', hg j hj']
theorem dl_zero (n : Nat) : zcells [AV.int .i64 0] n = (dl (fun _ => 0) n).map (AV.int .i64) := by
  have h1 : zcells [AV.int .i64 0] n = rowI (List.replicate n 0) := zcells_row (AV.int .i64) (x := 0) rfl n
  rw [h1, rowI_eq]
  congr 1
  apply List.ext_getElem
  · simp
  · intro i h1 h2; simp [dl]
theorem fitsR_ok (nl nP : Bool) (l : List Pc) (men : Int) (P : Plan) (ho : okOrd l) (hP : P.length < 2 ^ 62) (hr : ∀ d, d < P.length → (row P d).length < 2 ^ 62) :
    ans prog O 22 [vl ePc nl l, .int .i64 men, vl eRow nP P] = some (.bool (decide (okPlan l men P))) := by
  have hl := ho.1
  refine fn_of' pl get22 (oo (by decide)) rfl rfl ?_
  by_cases h0 : P.length = 0
  · have hn : ¬ okPlan l men P := fun h => h.ne (List.eq_nil_of_length_eq_zero h0)
    simp (disch := omega) [h0, hn, -Bool.exists_bool]
  · have q1 : (P.length : Int) - 1 < P.length := by omega
    have q2 : ((P.length : Int) - 1).toNat = P.length - 1 := by omega
    have q3 : 0 ≤ (P.length : Int) - 1 := by omega
    have hne : P ≠ [] := fun e => h0 (by rw [e]; rfl)
    have hlr : (nth P (P.length - 1)).2 = row P (P.length - 1) := rfl
    by_cases hla : (row P (P.length - 1)).length = 0
    · have hn : ¬ okPlan l men P := fun h => h.last (List.eq_nil_of_length_eq_zero hla)
      simp (disch := omega) [h0, q1, q2, q3, hlr, hla, hn, -Bool.exists_bool]
      try omega
    · have hla' : row P (P.length - 1) ≠ [] := fun e => hla (by rw [e]; rfl)
      simp (disch := omega) [h0, q1, q2, q3, hlr, hla, -Bool.exists_bool]
      refine ⟨by omega, ⟨by simp only [topBytes]; omega, by simp only [topBytes]; omega⟩, ?_⟩
      refine lp_loop pl (fun k fr σ => ∃ i : Nat, i + k = l.length ∧ fr = ⟨[(0, vl ePc nl l), (1, .int .i64 men), (2, vl eRow nP P), (7, .slice (some (0, 0)) l.length (.ex l.length)), (8, .int .i64 i)], []⟩ ∧ σ.lim = 0 ∧ σ.get 0 = some (.cells ((dl (fun j => if j < i then -1 else 0) l.length).map (AV.int .i64))))
        ⟨l.length, 0, by omega, rfl, rfl, by rw [dl_zero]; simp⟩ ?_
      rintro k _ σ ⟨i, hi, rfl, hl0, hg⟩
      have gl := AH.get_lt hg
      by_cases hil : i < l.length
      · have hs := dl_set (f := fun j => if j < i then -1 else 0) (g := fun j => if j < i + 1 then -1 else 0) (v := -1) hil (fun j hj => by
          by_cases e1 : j = i
          · rw [if_pos e1, if_pos (by omega)]
          · rw [if_neg e1]
            by_cases e2 : j < i
            · rw [if_pos e2, if_pos (by omega)]
            · rw [if_neg e2, if_neg (by omega)])
        simp (disch := omega) [Und, hl0, hil, hg, gl, -List.map_set, -Bool.exists_bool]
        exact ⟨by omega, k - 1, by omega, i + 1, by omega, by omega, hs⟩
      · obtain rfl : i = l.length := by omega
        simp (disch := omega) [Und, hl0, -Bool.exists_bool]
        have hg0 : σ.get 0 = some (.cells ((dl (fun j => dayTo P 0 (j : Int)) l.length).map (AV.int .i64))) := by
          rw [hg]
          congr 3
          apply ext_nth
          · simp
          · intro j hj
            have hj' : j < l.length := by simpa using hj
            rw [dl_nth hj', dl_nth hj', if_pos hj']; rfl
        refine lp_loop pl (fun k fr σ => ∃ d : Nat, d + k = P.length ∧ (∀ q, q < d → okDay l men P q) ∧ (flat P d).Nodup ∧ fr = ⟨[(0, vl ePc nl l), (1, .int .i64 men), (2, vl eRow nP P), (7, .slice (some (0, 0)) l.length (.ex l.length)), (9, .int .i64 d)], []⟩ ∧ σ.lim = 0 ∧ σ.get 0 = some (.cells ((dl (fun j => dayTo P d (j : Int)) l.length).map (AV.int .i64))))
          ⟨P.length, 0, by omega, fun q hq => by omega, by simp [flat], rfl, hl0, hg0⟩ ?_
        clear hg hg0 gl hl0
        rintro k _ σ ⟨d, hd, hdays, hnd, rfl, hl0, hg⟩
        have gl := AH.get_lt hg
        by_cases hdl : d < P.length
        · have hrd := hr d hdl
          have hrow : (nth P d).2 = row P d := rfl
          have hri := Rising_ok (nth P d).1 (row P d) l.length hrd (by omega) (by omega)
          by_cases hm : ((row P d).length : Int) ≤ men
          · have hm' : ¬ men < ((row P d).length : Int) := by omega
            by_cases hri2 : Rises (row P d) l.length (row P d).length
            · simp (disch := omega) [Und, hl0, hdl, hrow, hm', hri, hri2, -Bool.exists_bool]
              refine lp_loop pl (fun k fr σ => ∃ e : Nat, e + k = (row P d).length ∧ (items P d e).Nodup ∧ fr = ⟨[(0, vl ePc nl l), (1, .int .i64 men), (2, vl eRow nP P), (7, .slice (some (0, 0)) l.length (.ex l.length)), (9, .int .i64 d), (10, .int .i64 e)], []⟩ ∧ σ.lim = 0 ∧ σ.get 0 = some (.cells ((dl (fun j => dayAt P d e (j : Int)) l.length).map (AV.int .i64))))
                ⟨(row P d).length, 0, by omega, by rw [items_zero]; exact hnd, rfl, hl0, by rw [dayAt_zero]; exact hg⟩ ?_
              clear hg gl hl0
              rintro k2 _ τ ⟨e, he, hnde, rfl, tl0, tg⟩
              have tl := AH.get_lt tg
              by_cases hel : e < (row P d).length
              · have hx := (hri2 e hel).1
                have hxg := dl_get (f := fun j => dayAt P d e (j : Int)) (n := l.length) (i := (nth (row P d) e).toNat) (by omega)
                simp only [show (((nth (row P d) e).toNat : Nat) : Int) = nth (row P d) e by omega] at hxg
                have x1 : nth (row P d) e < l.length := by omega
                by_cases hdup : nth (row P d) e ∈ items P d e
                · have hn : ¬ okPlan l men P := fun h => by
                    have := h.items_nd (d := d) (e := e + 1) hdl
                    rw [items_succ hel] at this
                    exact (List.nodup_append.1 this).2.2 _ hdup _ (List.mem_singleton.2 rfl) rfl
                  have hge := dayAt_in.2 hdup
                  simp (disch := omega) [Und, tl0, hdl, hrow, hel, tg, tl, x1, hxg, hge, hn, -Bool.exists_bool, -getElem?_pos, -List.getElem?_map]
                  all_goals omega
                · have hge : ¬ 0 ≤ dayAt P d e (nth (row P d) e) := fun h => hdup (dayAt_in.1 h)
                  have hst := dl_set (f := fun j => dayAt P d e (j : Int)) (g := fun j => dayAt P d (e + 1) (j : Int)) (n := l.length) (i := (nth (row P d) e).toNat) (v := d) (by omega) (fun j hj => by
                    rw [dayAt_succ hel]
                    by_cases e1 : j = (nth (row P d) e).toNat
                    · rw [if_pos e1, if_pos (by omega)]
                    · rw [if_neg e1, if_neg (by omega)])
                  simp (disch := omega) [Und, tl0, hdl, hrow, hel, tg, tl, x1, hxg, hge, -List.map_set, -Bool.exists_bool, -getElem?_pos, -List.getElem?_map]
                  refine ⟨by omega, by omega, by omega, by omega, k2 - 1, by omega, e + 1, by omega, ?_, by omega, hst⟩
                  rw [items_succ hel]
                  refine List.nodup_append.2 ⟨hnde, by simp, fun a ha b hb => ?_⟩
                  obtain rfl := List.mem_singleton.1 hb
                  intro e1; exact hdup (e1 ▸ ha)
              · obtain rfl : e = (row P d).length := by omega
                simp (disch := omega) [Und, tl0, hdl, hrow, -Bool.exists_bool]
                refine ⟨k - 1, by omega, d + 1, by omega, fun q hq => ?_, by rw [← items_all]; exact hnde, by omega, by rw [← dayAt_all]; exact tg⟩
                by_cases e1 : q = d
                · subst e1; exact ⟨hm, hri2⟩
                · exact hdays q (by omega)
            · have hn : ¬ okPlan l men P := fun h => hri2 (h.day d hdl).2
              simp (disch := omega) [Und, hl0, hdl, hrow, hm', hri, hri2, hn, -Bool.exists_bool]
          · have hm' : men < ((row P d).length : Int) := by omega
            have hn : ¬ okPlan l men P := fun h => hm (h.day d hdl).1
            simp (disch := omega) [Und, hl0, hdl, hrow, hm', hn, -Bool.exists_bool]
        · obtain rfl : d = P.length := by omega
          have hpd := plan_days ho hne hla' hdays hnd
          simp (disch := omega) [Und, hl0, -Bool.exists_bool]
          refine lp_loop pl (fun k fr σ => ∃ i : Nat, i + k = l.length ∧ (∀ j, j < i → 0 ≤ dayTo P P.length j ∧ ((nth l j).into ≠ -1 → dayTo P P.length j < dayTo P P.length (nth l j).into)) ∧ fr = ⟨[(0, vl ePc nl l), (7, .slice (some (0, 0)) l.length (.ex l.length)), (11, .int .i64 i)], []⟩ ∧ σ.lim = 0 ∧ σ.get 0 = some (.cells ((dl (fun j => dayTo P P.length (j : Int)) l.length).map (AV.int .i64))))
            ⟨l.length, 0, by omega, fun j hj => by omega, rfl, hl0, hg⟩ ?_
          clear hg gl hl0
          rintro k _ σ ⟨i, hi, hall, rfl, hl0, hg⟩
          have gl := AH.get_lt hg
          by_cases hil : i < l.length
          · have g1 := dl_get (f := fun j => dayTo P P.length (j : Int)) hil
            by_cases hc : 0 ≤ dayTo P P.length i ∧ ((nth l i).into ≠ -1 → dayTo P P.length i < dayTo P P.length (nth l i).into)
            · have c1 : ¬ dayTo P P.length i < 0 := by omega
              have hnew : ∀ j : Nat, j < i + 1 → 0 ≤ dayTo P P.length j ∧ (¬ (nth l j).into = -1 → dayTo P P.length j < dayTo P P.length (nth l j).into) := fun j hj => by
                by_cases e1 : j = i
                · subst e1; exact hc
                · exact hall j (by omega)
              by_cases he : (nth l i).into = -1
              · simp (disch := omega) [Und, hl0, hil, hg, gl, g1, c1, he, -Bool.exists_bool, -getElem?_pos, -List.getElem?_map]
                exact ⟨by omega, k - 1, by omega, i + 1, by omega, hnew, by omega⟩
              · obtain ⟨i1, i2, i3⟩ := into_lt ho hil he
                have g2 := dl_get (f := fun j => dayTo P P.length (j : Int)) i2
                simp only [i3] at g2
                have c2 : ¬ dayTo P P.length (nth l i).into ≤ dayTo P P.length i := by have := hc.2 he; omega
                have i4 : 0 ≤ (nth l i).into := by omega
                have i5 : (nth l i).into < l.length := by omega
                simp (disch := omega) [Und, hl0, hil, hg, gl, g1, g2, c1, c2, he, i4, i5, -Bool.exists_bool, -getElem?_pos, -List.getElem?_map]
                exact ⟨by omega, by omega, k - 1, by omega, i + 1, by omega, hnew, by omega⟩
            · have hn : ¬ okPlan l men P := fun h => hc (hpd.1 h i hil)
              by_cases c1 : dayTo P P.length i < 0
              · simp (disch := omega) [Und, hl0, hil, hg, gl, g1, c1, hn, -Bool.exists_bool, -getElem?_pos, -List.getElem?_map]
                all_goals omega
              · have he : (nth l i).into ≠ -1 := fun he => hc ⟨by omega, fun h => absurd he h⟩
                obtain ⟨i1, i2, i3⟩ := into_lt ho hil he
                have g2 := dl_get (f := fun j => dayTo P P.length (j : Int)) i2
                simp only [i3] at g2
                have c2 : dayTo P P.length (nth l i).into ≤ dayTo P P.length i := by
                  apply Decidable.byContradiction
                  intro h3
                  exact hc ⟨by omega, fun _ => by omega⟩
                have i4 : 0 ≤ (nth l i).into := by omega
                have i5 : (nth l i).into < l.length := by omega
                simp (disch := omega) [Und, hl0, hil, hg, gl, g1, g2, c1, c2, he, i4, i5, hn, -Bool.exists_bool, -getElem?_pos, -List.getElem?_map]
                all_goals omega
          · obtain rfl : i = l.length := by omega
            have hok : okPlan l men P := hpd.2 hall
            simp (disch := omega) [Und, hl0, hok, -Bool.exists_bool]
end Go.Oct.Plans
