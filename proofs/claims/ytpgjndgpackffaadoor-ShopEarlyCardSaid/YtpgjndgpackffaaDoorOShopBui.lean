/- Whether a plan is one: what the statements' own function answers. -/
import Derived.Test.YtpgjndgpackffaaDoorOShopFit
import Derived.Test.YtpgjndgpackffaaDoorOT4
set_option maxRecDepth 100000
set_option maxHeartbeats 8000000
set_option linter.unusedVariables false
set_option linter.unusedSimpArgs false
namespace Go.Oct.Shop
open Go.Oct
def bl (f : Nat → Bool) (n : Nat) : List Bool := (List.range n).map f
@[simp] theorem bl_len (f : Nat → Bool) (n : Nat) : (bl f n).length = n := by simp [bl]
theorem rowB_eq (xs : List Bool) : rowOf AV.bool xs = xs.map AV.bool := by
  induction xs with
  | nil => rfl
  | cons x r ih => simp only [rowOf, List.flatMap_cons, List.map_cons] at ih ⊢; rw [ih]; rfl
theorem bl_get {f : Nat → Bool} {n i : Nat} (h : i < n) : ((bl f n).map AV.bool)[i]? = some (.bool (f i)) := by
  unfold bl; rw [List.getElem?_map, List.getElem?_map, List.getElem?_range h]; rfl
theorem bl_set {f g : Nat → Bool} {n i : Nat} (h : i < n) (hg : ∀ j, j < n → g j = (f j || j == i)) : ((bl f n).map AV.bool).set i (.bool true) = (bl g n).map AV.bool := by
  rw [← List.map_set]
  congr 1
  unfold bl
  apply List.ext_getElem
  · simp
  · intro j h1 h2
    simp only [List.length_set, List.length_map, List.length_range] at h1
    rw [List.getElem_set]
    simp only [List.getElem_map, List.getElem_range, hg j h1]
    by_cases e : i = j
    · subst e; simp
    · have : (j == i) = false := by simpa using fun h => e h.symm
      rw [if_neg e, this, Bool.or_false]
theorem bl_zero (n : Nat) : zcells [AV.bool false] n = (bl (has []) n).map AV.bool := by
  have h1 : zcells [AV.bool false] n = rowOf AV.bool (List.replicate n false) := zcells_row AV.bool (x := false) rfl n
  rw [h1, rowB_eq]
  congr 1
  apply List.ext_getElem
  · simp
  · intro i h1 h2; simp [bl, has]
theorem encB : Enc AV.bool 1 := ⟨fun _ => rfl, fun _ => rfl, fun _ => rfl, by decide⟩
theorem bl_src {σ : AH} {f : Nat → Bool} {n : Nat} (hg : σ.get 0 = some (.cells ((bl f n).map AV.bool))) : lenOf (.slice (some (0, 0)) n (.ex n)) = some (bl f n).length ∧ srcOf σ 1 (bl f n).length (.slice (some (0, 0)) n (.ex n)) = some (rowOf AV.bool (bl f n)) := by
  refine ⟨by simp [lenOf], ?_⟩
  have hr : σ.row 0 = some ((bl f n).map AV.bool) := by simp [hg]
  simp only [srcOf, cellsAt, hr, bl_len, rowB_eq]
  rw [if_pos (by simp), List.drop_zero, List.take_of_length_le (by simp)]
theorem built_ok (nl nP : Bool) (l : List Pc) (men : Int) (P : Plan) (ho : okOrd l) (hP : P.length < 2 ^ 62) (hr : ∀ d, d < P.length → (row P d).length < 2 ^ 62) :
    ans prog O 31 [vl ePc nl l, .int .i64 men, vl eRow nP P] = some (.bool (decide (okPlan l men P))) := by
  have hl := ho.1
  refine fn_of' pl get31 (oo (by decide)) rfl rfl ?_
  simp (disch := omega) [-Bool.exists_bool]
  refine ⟨by simp only [topBytes]; omega, ?_⟩
  refine lp_loop pl (fun k fr σ => ∃ d : Nat, d + k = P.length ∧ Seen l men P d 0 ∧ (d = P.length → 0 < d → row P (d - 1) ≠ []) ∧ fr = ⟨[(0, vl ePc nl l), (1, .int .i64 men), (2, vl eRow nP P), (7, .slice (some (0, 0)) l.length (.ex l.length)), (8, .int .i64 (flat P d).length), (9, .int .i64 d)], []⟩ ∧ σ.lim = 0 ∧ σ.get 0 = some (.cells ((bl (has (flat P d)) l.length).map AV.bool)))
    ⟨P.length, 0, by omega, seen_zero l men P, fun _ h => absurd h (by omega), rfl, rfl, by rw [bl_zero]; simp [flat]⟩ ?_
  rintro k _ σ ⟨d, hd, hs, hla, rfl, hl0, hg⟩
  have gl := AH.get_lt hg
  have hlen := hs.len
  rw [items_zero] at hlen
  by_cases hdl : d < P.length
  · have hrd := hr d hdl
    have hrow : (nth P d).2 = row P d := rfl
    have hri := Rising_ok (nth P d).1 (row P d) l.length hrd (by omega) (by omega)
    simp (disch := omega) [Und, hl0, hdl, -Bool.exists_bool]
    refine lit0_app (lo := 1) encB (by omega) (by simp) (by simp) (bl_src (f := has (flat P d)) (by simp (disch := omega) [eqF1, hg])) (by simp only [topBytes, bl_len]; omega) fun v' σ1 hW hO hj => ?_
    obtain ⟨b, c, rfl, hb1, hb2, _⟩ := hW
    rw [rowB_eq] at hb2
    rw [bl_len]
    have e1 : σ1.lim = 0 := by have := hO.lim; simpa [hl0] using this
    have e0 : σ1.get 0 = some (.cells ((bl (has (flat P d)) l.length).map AV.bool)) := by rw [hO.get 0 (by simp) (by simp)]; simp (disch := omega) [eqF1, hg]
    clear hO hj hg gl hl0
    by_cases hm : ((row P d).length : Int) ≤ men
    · by_cases hri2 : Rises (row P d) l.length (row P d).length
      · have hm2 : ¬ men < ((row P d).length : Int) := by omega
        by_cases hbad : (d : Int) = (P.length : Int) - 1 ∧ row P d = []
        · obtain ⟨hd1, hz⟩ := hbad
          have hn : ¬ okPlan l men P := fun h => h.last (by rw [show P.length - 1 = d by omega]; exact hz)
          have t1 := eq_true hd1
          have t2 := eq_true hz
          simp (disch := omega) [Und, e1, hdl, hrow, hm2, hri, hri2, t1, t2, hn, -Bool.exists_bool]
        · have hnl : d + 1 = P.length → 0 < d + 1 → row P (d + 1 - 1) ≠ [] := fun h _ hz => hbad ⟨by omega, hz⟩
          by_cases hd1 : (d : Int) = (P.length : Int) - 1
          rotate_left
          simp (disch := omega) [Und, e1, hdl, hrow, hm2, hri, hri2, hd1, -Bool.exists_bool]
          rotate_left
          have hz : ¬ row P d = [] := fun hz => hbad ⟨hd1, hz⟩
          have t1 := eq_true hd1
          simp (disch := omega) [Und, e1, hdl, hrow, hm2, hri, hri2, t1, hz, -Bool.exists_bool]
          all_goals
            refine lp_loop pl (fun k fr τ => ∃ (e : Nat) (ev : Env), e + k = (row P d).length ∧ Seen l men P d e ∧ fr = ⟨(0, vl ePc nl l) :: (1, .int .i64 men) :: (2, vl eRow nP P) :: (7, .slice (some (0, 0)) l.length (.ex l.length)) :: (8, .int .i64 (items P d e).length) :: (9, .int .i64 d) :: (10, .slice (some (b, 0)) l.length c) :: (11, .int .i64 e) :: ev, []⟩ ∧
                τ.lim = 0 ∧ τ.get 0 = some (.cells ((bl (has (items P d e)) l.length).map AV.bool)) ∧ τ.get b = some (.cells ((bl (has (flat P d)) l.length).map AV.bool)))
              ⟨(row P d).length, 0, _, by omega, hs, by rw [items_zero]; rfl, e1, by rw [items_zero]; exact e0, hb2⟩ ?_
            clear e0 hb2 e1
            rintro k2 _ τ ⟨e, ev, he, hse, rfl, tl0, t0, tb⟩
            have bl' := AH.get_lt tb
            have t0l := AH.get_lt t0
            have hil := hse.len
            by_cases hel : e < (row P d).length
            · have hx := (hri2 e hel).1
              have x0 : 0 ≤ nth (row P d) e := by omega
              have x1 : nth (row P d) e < l.length := by omega
              have xb := bl_get (f := has (items P d e)) (n := l.length) (i := (nth (row P d) e).toNat) (by omega)
              have hhas : has (items P d e) (nth (row P d) e).toNat = decide (nth (row P d) e ∈ items P d e) := by
                unfold has; rw [show (((nth (row P d) e).toNat : Nat) : Int) = nth (row P d) e by omega]
              rw [hhas] at xb
              simp (disch := omega) [Und, tl0, hdl, hrow, hel, -Bool.exists_bool]
              refine lp_loop pl (fun k fr ρ => ∃ (q : Nat) (ev : Env), q + k = l.length ∧ (∀ i, i < q → (nth l i).into = nth (row P d) e → (i : Int) ∈ flat P d) ∧ fr = ⟨(0, vl ePc nl l) :: (1, .int .i64 men) :: (2, vl eRow nP P) :: (7, .slice (some (0, 0)) l.length (.ex l.length)) :: (8, .int .i64 (items P d e).length) :: (9, .int .i64 d) :: (10, .slice (some (b, 0)) l.length c) :: (11, .int .i64 e) :: (12, .int .i64 (nth (row P d) e)) :: (13, .int .i64 q) :: ev, []⟩ ∧
                  ρ.lim = 0 ∧ ρ.get 0 = some (.cells ((bl (has (items P d e)) l.length).map AV.bool)) ∧ ρ.get b = some (.cells ((bl (has (flat P d)) l.length).map AV.bool)))
                ⟨l.length, 0, _, by omega, fun i hi => by omega, rfl, tl0, t0, tb⟩ ?_
              clear t0 tb tl0 t0l bl'
              rintro k3 _ ρ ⟨q, ev3, hq, hpre, rfl, rl0, r0, rb⟩
              have r0l := AH.get_lt r0
              have rbl := AH.get_lt rb
              by_cases hql : q < l.length
              · by_cases hi : (nth l q).into = nth (row P d) e
                · have yb := bl_get (f := has (flat P d)) (n := l.length) (i := q) hql
                  by_cases hmq : (q : Int) ∈ flat P d
                  · have hh : has (flat P d) q = true := decide_eq_true hmq
                    rw [hh] at yb
                    simp (disch := omega) [Und, rl0, hql, r0, r0l, rb, rbl, hi, yb, eqF1, eqF2, -Bool.exists_bool, -getElem?_pos, -List.getElem?_map]
                    exact ⟨by omega, k3 - 1, by omega, q + 1, by omega, fun i hi1 hi2 => by
                      by_cases e1 : i = q
                      · subst e1; exact hmq
                      · exact hpre i (by omega) hi2, by omega⟩
                  · have hh : has (flat P d) q = false := decide_eq_false hmq
                    rw [hh] at yb
                    have hn : ¬ okPlan l men P := fun h => hmq (h.pre d hdl _ (nth_mem hel) q hql hi)
                    simp (disch := omega) [Und, rl0, hql, r0, r0l, rb, rbl, hi, yb, hn, eqF1, eqF2, -Bool.exists_bool, -getElem?_pos, -List.getElem?_map]
                    try omega
                · simp (disch := omega) [Und, rl0, hql, r0, r0l, rb, rbl, hi, eqF1, eqF2, -Bool.exists_bool, -getElem?_pos]
                  exact ⟨k3 - 1, by omega, q + 1, by omega, fun i hi1 hi2 => by
                    by_cases e1 : i = q
                    · subst e1; exact absurd hi2 hi
                    · exact hpre i (by omega) hi2, by omega⟩
              · obtain rfl : q = l.length := by omega
                by_cases hdup : nth (row P d) e ∈ items P d e
                · have hn : ¬ okPlan l men P := fun h => by
                    have := h.items_nd (d := d) (e := e + 1) hdl
                    rw [items_succ hel] at this
                    exact (List.nodup_append.1 this).2.2 _ hdup _ (List.mem_singleton.2 rfl) rfl
                  simp (disch := omega) [Und, rl0, r0, r0l, rb, rbl, x0, x1, xb, hdup, hn, eqF1, eqF2, -Bool.exists_bool, -getElem?_pos, -List.getElem?_map]
                  all_goals omega
                · have hsn := hse.next hel hx (fun h0 => (hri2 e hel).2 h0) hdup hpre
                  have hst := bl_set (f := has (items P d e)) (g := has (items P d (e + 1))) (n := l.length) (i := (nth (row P d) e).toNat) (by omega) (fun j hj => by rw [items_succ hel, ← has_set x0])
                  have hlen2 : ((items P d (e + 1)).length : Int) = (items P d e).length + 1 := by rw [items_succ hel, List.length_append]; simp
                  simp (disch := omega) [Und, rl0, r0, r0l, rb, rbl, x0, x1, xb, hdup, eqF1, eqF2, -Bool.exists_bool, -getElem?_pos, -List.getElem?_map, -List.map_set]
                  exact ⟨by omega, k2 - 1, by omega, e + 1, by omega, hsn, ⟨by omega, by omega⟩, hst⟩
            · obtain rfl : e = (row P d).length := by omega
              have hnx := hse.day hm
              simp (disch := omega) [Und, tl0, hdl, hrow, -Bool.exists_bool]
              refine ⟨k - 1, by omega, d + 1, by omega, hnx, hnl, ⟨by rw [items_all], by omega⟩, ?_⟩
              rw [← items_all]; exact t0
      · have hn : ¬ okPlan l men P := fun h => hri2 (h.day d hdl).2
        simp (disch := omega) [Und, e1, hdl, hrow, hm, hri, hri2, hn, -Bool.exists_bool]
    · have hm' : men < ((row P d).length : Int) := by omega
      have hn : ¬ okPlan l men P := fun h => hm (h.day d hdl).1
      simp (disch := omega) [Und, e1, hdl, hrow, hm', hn, -Bool.exists_bool]
  · obtain rfl : d = P.length := by omega
    have hf := hs.fin (by omega)
    by_cases hc : (flat P P.length).length = l.length
    · have hne : P.length ≠ 0 := fun e => by rw [e] at hc; simp [flat] at hc; omega
      have hok : okPlan l men P := hf.2 ⟨hc, hla rfl (by omega)⟩
      simp (disch := omega) [Und, hl0, hc, hok, -Bool.exists_bool]
    · have hn : ¬ okPlan l men P := fun h => hc (hf.1 h).1
      have hc' : ¬ ((flat P P.length).length : Int) = l.length := by omega
      simp (disch := omega) [Und, hl0, hc, hc', hn, -Bool.exists_bool]
end Go.Oct.Shop
