/- Whether a plan is one: the program's answer. -/
import Derived.Test.YtddkghgfbhhcdaaGreatDoorOStkPln
set_option maxRecDepth 100000
set_option maxHeartbeats 8000000
set_option linter.unusedVariables false
set_option linter.unusedSimpArgs false
namespace Go.Oct.Stk.Sh
open Go.Oct
/-- Twelve truth values. -/
def bc (f : Nat → Bool) : List AV := (List.range 12).map fun i => .bool (f i)
@[simp] theorem bc_len (f : Nat → Bool) : (bc f).length = 12 := by simp [bc]
@[simp] theorem bc_all (f : Nat → Bool) : (bc f).all AV.one = true := by
  unfold bc; rw [List.all_map, List.all_eq_true]; intro x _; rfl
@[simp] theorem bc_take (f : Nat → Bool) : (bc f).take 12 = bc f := List.take_of_length_le (by simp)
theorem bc_get (f : Nat → Bool) {i : Nat} (h : i < 12) : (bc f)[i]? = some (.bool (f i)) := by
  unfold bc; rw [List.getElem?_map, List.getElem?_range h]; rfl
theorem bc_set (f : Nat → Bool) {i : Nat} (h : i < 12) : (bc f).set i (.bool true) = bc (fun j => f j || j == i) := by
  unfold bc
  apply List.ext_getElem
  · simp
  · intro j h1 h2
    simp only [List.length_set, List.length_map, List.length_range] at h1
    rw [List.getElem_set]
    simp only [List.getElem_map, List.getElem_range]
    by_cases e : i = j
    · subst e; simp
    · have : (j == i) = false := by simpa using fun h => e h.symm
      rw [if_neg e, this, Bool.or_false]
theorem bc_congr {f g : Nat → Bool} (h : ∀ i, i < 12 → f i = g i) : bc f = bc g := by
  unfold bc
  exact List.map_congr_left fun i hi => by rw [h i (List.mem_range.1 hi)]
@[simp] theorem putCells_bc (f g : Nat → Bool) : putCells (bc f) 0 (bc g) = bc g := by
  have := putCells_mid (bc g) [] (bc f) [] (by simp)
  simpa using this
def has (xs : List Int) (i : Nat) : Bool := decide ((i : Int) ∈ xs)
theorem has_set {xs : List Int} {x : Int} (h0 : 0 ≤ x) : (fun j => has xs j || j == x.toNat) = has (xs ++ [x]) := by
  funext j
  unfold has
  rw [Bool.eq_iff_iff]
  simp only [Bool.or_eq_true, decide_eq_true_eq, beq_iff_eq, List.mem_append, List.mem_singleton]
  constructor
  · rintro (h | h)
    · exact .inl h
    · exact .inr (by omega)
  · rintro (h | h)
    · exact .inl h
    · exact .inr (by omega)
@[simp] theorem putCells_z (g : Nat → Bool) : putCells [AV.bool false, .bool false, .bool false, .bool false, .bool false, .bool false, .bool false, .bool false, .bool false, .bool false, .bool false, .bool false] 0 (bc g) = bc g := putCells_bc (fun _ => false) g
def lastV (P : Plan) (d e : Nat) : Int := if e = 0 then -1 else nth (row P d) (e - 1)
theorem lastV_succ (P : Plan) (d e : Nat) : lastV P d (e + 1) = nth (row P d) e := by unfold lastV; rw [if_neg (by omega), Nat.add_sub_cancel]
theorem fits_ok (nl nP : Bool) (l : List Pc) (men : Int) (P : Plan) (ho : okOrd l) (hP : P.length < 2 ^ 62) (hr : ∀ d, d < P.length → (row P d).length < 2 ^ 62) :
    ans prog O 49 [vl ePc nl l, .int .i64 men, vl eRow nP P] = some (.bool (decide (okPlan l men P))) := by
  have hl := ho.1
  refine fn_of' pl get49 (oo (by decide)) rfl rfl ?_
  simp (disch := omega) [-Bool.exists_bool]
  refine lp_loop pl (fun k fr σ => ∃ d : Nat, d + k = P.length ∧ Seen l men P d 0 ∧ fr = ⟨[(0, vl ePc nl l), (1, .int .i64 men), (2, vl eRow nP P), (7, .ptr (some (0, 0))), (8, .int .i64 (flat P d).length), (17, vl eRow nP P), (18, .int .i64 P.length), (19, .int .i64 d)], []⟩ ∧ σ.lim = 0 ∧ σ.get 0 = some (.cells (bc (has (flat P d)))))
    ⟨P.length, 0, by omega, seen_zero l men P, rfl, rfl, rfl⟩ ?_
  rintro k _ σ ⟨d, hd, hs, rfl, hl0, hg⟩
  have gl := AH.get_lt hg
  have hlen := hs.len
  rw [items_zero] at hlen
  by_cases hdl : d < P.length
  · have hrd := hr d hdl
    by_cases hm : ((row P d).length : Int) ≤ men
    · have hm' : ¬ men < ((nth P d).2.length : Int) := by unfold row at hm; omega
      simp (disch := omega) [Und, hl0, hdl, hg, gl, hm', eqF1, eqF2, -Bool.exists_bool]
      have hrow : (nth P d).2 = row P d := rfl
      rw [hrow]
      have hb0 : σ.next ≠ 0 := by omega
      refine lp_loop pl (fun k fr τ => ∃ e : Nat, e + k = (row P d).length ∧ Seen l men P d e ∧ fr = ⟨[(0, vl ePc nl l), (1, .int .i64 men), (2, vl eRow nP P), (7, .ptr (some (0, 0))), (8, .int .i64 (items P d e).length), (11, .ptr (some (σ.next, 0))), (12, .int .i64 (lastV P d e)), (17, vl eRow nP P), (18, .int .i64 P.length), (19, .int .i64 d),
          (28, vl (AV.int .i64) (nth P d).1 (row P d)), (29, .int .i64 (row P d).length), (30, .int .i64 e)], []⟩ ∧ τ.lim = 0 ∧ τ.get 0 = some (.cells (bc (has (items P d e)))) ∧ τ.get σ.next = some (.cells (bc (has (flat P d)))))
        ⟨(row P d).length, 0, by omega, hs, by rw [items_zero]; rfl, hl0, by rw [items_zero]; simp (disch := omega) [eqF1, hg], by simp⟩ ?_
      generalize hb : σ.next = b at *
      rintro k2 _ τ ⟨e, he, hse, rfl, tl0, t0, tb⟩
      have bl := AH.get_lt tb
      have t0l := AH.get_lt t0
      by_cases hel : e < (row P d).length
      · have hlast : -1 ≤ lastV P d e ∧ lastV P d e ≤ (l.length : Int) - 1 := by
          unfold lastV
          by_cases h0 : e = 0
          · rw [if_pos h0]; omega
          · rw [if_neg h0]
            have := (hse.rise (e - 1) (by omega)).1
            omega
        by_cases hw : lastV P d e + 1 ≤ nth (row P d) e ∧ nth (row P d) e ≤ (l.length : Int) - 1
        · have x0 : 0 ≤ nth (row P d) e := by omega
          have x12 : nth (row P d) e < 12 := by omega
          have xb := bc_get (has (items P d e)) (i := (nth (row P d) e).toNat) (by omega)
          have hhas : has (items P d e) (nth (row P d) e).toNat = decide (nth (row P d) e ∈ items P d e) := by
            unfold has; rw [show (((nth (row P d) e).toNat : Nat) : Int) = nth (row P d) e by omega]
          rw [hhas] at xb
          by_cases hdup : nth (row P d) e ∈ items P d e
          · have hn : ¬ okPlan l men P := fun h => by
              have := h.items_nd (d := d) (e := e + 1) hdl
              rw [items_succ hel] at this
              exact (List.nodup_append.1 this).2.2 _ hdup _ (List.mem_singleton.2 rfl) rfl
            simp (disch := omega) [Und, tl0, hel, t0, t0l, hw, x0, x12, xb, hdup, hn, eqF1, eqF2, -Bool.exists_bool, -getElem?_pos]
            all_goals omega
          · simp (disch := omega) [Und, tl0, hel, t0, t0l, hw, x0, x12, xb, hdup, eqF1, eqF2, -Bool.exists_bool, -getElem?_pos]
            refine ⟨by omega, ?_⟩
            refine lp_loop pl (fun k fr ρ => ∃ q : Nat, q + k = l.length ∧ (∀ i, i < q → (nth l i).into = nth (row P d) e → (i : Int) ∈ flat P d) ∧ fr = ⟨[(0, vl ePc nl l), (1, .int .i64 men), (2, vl eRow nP P), (7, .ptr (some (0, 0))), (8, .int .i64 (items P d e).length), (11, .ptr (some (b, 0))), (14, .int .i64 (nth (row P d) e)), (17, vl eRow nP P), (18, .int .i64 P.length), (19, .int .i64 d),
                (28, vl (AV.int .i64) (nth P d).1 (row P d)), (29, .int .i64 (row P d).length), (30, .int .i64 e), (47, vl ePc nl l), (48, .int .i64 l.length), (49, .int .i64 q)], []⟩ ∧ ρ.lim = 0 ∧ ρ.get 0 = some (.cells (bc (has (items P d e)))) ∧ ρ.get b = some (.cells (bc (has (flat P d)))))
              ⟨l.length, 0, by omega, fun i hi => by omega, rfl, tl0, t0, tb⟩ ?_
            rintro k3 _ ρ ⟨q, hq, hpre, rfl, rl0, r0, rb⟩
            have r0l := AH.get_lt r0
            have rbl := AH.get_lt rb
            by_cases hql : q < l.length
            · by_cases hi : (nth l q).into = nth (row P d) e
              · have yb := bc_get (has (flat P d)) (i := q) (by omega)
                by_cases hmq : (q : Int) ∈ flat P d
                · have hh : has (flat P d) q = true := decide_eq_true hmq
                  rw [hh] at yb
                  simp (disch := omega) [Und, rl0, hql, r0, r0l, rb, rbl, hi, yb, eqF1, eqF2, -Bool.exists_bool, -getElem?_pos]
                  exact ⟨by omega, by omega, k3 - 1, by omega, q + 1, by omega, fun i hi1 hi2 => by
                    by_cases e1 : i = q
                    · subst e1; exact hmq
                    · exact hpre i (by omega) hi2, by omega⟩
                · have hh : has (flat P d) q = false := decide_eq_false hmq
                  rw [hh] at yb
                  have hn : ¬ okPlan l men P := fun h => hmq (h.pre d hdl _ (nth_mem hel) q hql hi)
                  simp (disch := omega) [Und, rl0, hql, r0, r0l, rb, rbl, hi, yb, hn, eqF1, eqF2, -Bool.exists_bool, -getElem?_pos]
                  omega
              · simp (disch := omega) [Und, rl0, hql, r0, r0l, rb, rbl, hi, eqF1, eqF2, -Bool.exists_bool, -getElem?_pos]
                exact ⟨k3 - 1, by omega, q + 1, by omega, fun i hi1 hi2 => by
                  by_cases e1 : i = q
                  · subst e1; exact absurd hi2 hi
                  · exact hpre i (by omega) hi2, by omega⟩
            · obtain rfl : q = l.length := by omega
              simp (disch := omega) [Und, rl0, r0, r0l, rb, rbl, x0, x12, eqF1, eqF2, -Bool.exists_bool, -getElem?_pos]
              have hsn := hse.next hel (by omega) (fun h0 => by
                have := hw.1
                unfold lastV at this
                rw [if_neg (by omega)] at this
                omega) hdup hpre
              have hil := hse.len
              refine ⟨by omega, k2 - 1, by omega, e + 1, by omega, hsn, ⟨?_, (lastV_succ P d e).symm, by omega⟩, ?_⟩
              · rw [items_succ hel, List.length_append, w64_id _ (by omega) (by omega)]; simp
              · rw [bc_set _ (by omega), has_set x0, items_succ hel]
        · have hn : ¬ okPlan l men P := fun h => by
            have := (h.day d hdl).2
            have h1 := this e hel
            apply hw
            unfold lastV
            by_cases h0 : e = 0
            · rw [if_pos h0]; omega
            · rw [if_neg h0]; have := h1.2 (by omega); omega
          simp (disch := omega) [Und, tl0, hel, t0, hw, hn, eqF1, eqF2, -Bool.exists_bool, -getElem?_pos]
      · obtain rfl : e = (row P d).length := by omega
        have hnx := hse.day hm
        simp (disch := omega) [Und, tl0, -Bool.exists_bool]
        refine ⟨k - 1, by omega, d + 1, by omega, hnx, ⟨by rw [items_all], by omega⟩, ?_⟩
        rw [← items_all]; exact t0
    · have hm' : men < ((nth P d).2.length : Int) := by unfold row at hm; omega
      have hn : ¬ okPlan l men P := fun h => hm (h.day d hdl).1
      simp (disch := omega) [Und, hl0, hdl, hg, gl, hm', hn, eqF1, eqF2, -Bool.exists_bool]
  · obtain rfl : d = P.length := by omega
    have hf := hs.fin (by omega)
    by_cases hc : (flat P P.length).length = l.length
    · have hne : P.length ≠ 0 := fun e => by rw [e] at hc; simp [flat] at hc; omega
      have q1 : (P.length : Int) - 1 < P.length := by omega
      have q2 : ((P.length : Int) - 1).toNat = P.length - 1 := by omega
      have q3 : 0 ≤ (P.length : Int) - 1 := by omega
      simp (disch := omega) [Und, hl0, hc, q1, q2, q3, -Bool.exists_bool]
      have hlr : (nth P (P.length - 1)).2 = row P (P.length - 1) := rfl
      rw [hlr]
      refine ⟨by omega, ?_⟩
      rw [hf]
      exact ⟨fun h => ⟨hc, fun e => by rw [e] at h; simp at h⟩, fun h => by
        cases hq : row P (P.length - 1) with
        | nil => exact absurd hq h.2
        | cons a r => simp⟩
    · have hn : ¬ okPlan l men P := fun h => hc (hf.1 h).1
      have hc' : ¬ ((flat P P.length).length : Int) = l.length := by omega
      simp (disch := omega) [Und, hl0, hc, hc', hn, -Bool.exists_bool]
end Go.Oct.Stk.Sh
