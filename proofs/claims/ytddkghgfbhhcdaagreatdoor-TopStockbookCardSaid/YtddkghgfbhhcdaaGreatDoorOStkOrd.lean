/- Orders: what Check, Levels and Least of the program and of the specification answer. -/
import Derived.Test.YtddkghgfbhhcdaaGreatDoorOStkLev
import Derived.Test.YtddkghgfbhhcdaaGreatDoorOT4
set_option maxRecDepth 100000
set_option maxHeartbeats 4000000
set_option linter.unusedVariables false
set_option linter.unusedSimpArgs false
namespace Go.Oct.Stk.Sh
open Go.Oct
@[simp] theorem within_ok (n l h : Int) : ans prog O 39 [.int .i64 n, .int .i64 l, .int .i64 h] = some (.bool (decide (l ≤ n ∧ n ≤ h))) := by
  refine fn_of' pl get39 (oo (by decide)) rfl rfl ?_
  simp +contextual (disch := omega) []
theorem not_ord {l : List Pc} {n : Nat} (hn : n < l.length) (h : ¬ okPc l n) : ¬ okOrd l := fun ho => h (ho.2 n hn)
@[simp] theorem Check_ok (nl : Bool) (l : List Pc) (hx : l.length < 2 ^ 62) : ans prog O 15 [vl ePc nl l] = some (.int .i64 (if okOrd l then 0 else 100)) := by
  by_cases hl : 1 ≤ (l.length : Int) ∧ (l.length : Int) ≤ 12
  · refine fn_of' pl get15 (oo (by decide)) rfl rfl ?_
    simp (disch := omega) [hl, -Bool.exists_bool]
    refine lp_loop pl (fun k fr σ => ∃ j : Nat, j + k = l.length ∧ fr = ⟨[(0, vl ePc nl l), (9, vl ePc nl l), (10, .int .i64 l.length), (11, .int .i64 j)], []⟩ ∧ σ.lim = 0 ∧ ordTo l j)
      ⟨l.length, 0, by omega, rfl, rfl, ⟨hl, fun i hi => by omega⟩⟩ ?_
    rintro k _ σ ⟨j, hj, rfl, hl0, ht⟩
    by_cases hjl : j < l.length
    · by_cases hp : okPc l j
      · have hp' := hp
        unfold okPc at hp'
        have hs := ordTo_succ.2 ⟨ht, hp⟩
        simp (disch := omega) [Und, hl0, hjl, -Bool.exists_bool]
        exact ⟨fun hc => by exfalso; omega, fun _ _ _ _ _ => ⟨k - 1, by omega, j + 1, by omega, by omega, hs⟩⟩
      · have hn := not_ord hjl hp
        unfold okPc at hp
        simp (disch := omega) [Und, hl0, hjl, hn, -Bool.exists_bool]
        intro a1 a2 a3 a4 a5
        exfalso
        omega
    · obtain rfl : j = l.length := by omega
      simp (disch := omega) [Und, hl0, ht, -Bool.exists_bool]
  · have h0 : ¬ okOrd l := fun h => hl h.1
    refine fn_of' pl get15 (oo (by decide)) rfl rfl ?_
    simp (disch := omega) [hl, h0, -Bool.exists_bool]
/-- The error of an order and journeymen. -/
def askV (l : List Pc) (men : Int) : Int := if okOrd l then if 1 ≤ men ∧ men ≤ 12 then 0 else 101 else 100
@[simp] theorem asked_ok (nl : Bool) (l : List Pc) (men : Int) (hx : l.length < 2 ^ 62) : ans prog O 42 [vl ePc nl l, .int .i64 men] = some (.int .i64 (askV l men)) := by
  refine fn_of' pl get42 (oo (by decide)) rfl rfl ?_
  unfold askV
  by_cases h : okOrd l
  · by_cases hm : 1 ≤ men ∧ men ≤ 12
    · simp (disch := omega) [h, hm]
    · simp (disch := omega) [h, hm]
      try omega
  · simp (disch := omega) [h]
/-! ### Levels -/
theorem level_call {l : List Pc} (h : okOrd l) {nl : Bool} {a b : Nat} : ∀ (d i : Nat), i < l.length → l.length ≤ i + d → ∀ {σ : AH}, σ.get a = some (.cells [vl ePc nl l]) → σ.get b = some (.cells [.func (.func 71) [] [.ptr (some (a, 0)), .ptr (some (b, 0))]]) →
    Call prog O (.fn 71) [.int .i64 i, .ptr (some (a, 0)), .ptr (some (b, 0))] σ (fun v s => v = .int .i64 (lev l i) ∧ s = σ)
  | 0, i, hi, hd, σ, _, _ => by omega
  | d + 1, i, hi, hd, σ, ha, hb => by
    have hl := h.1
    have hlv := lev_in h hi
    have hp := h.2 i hi
    have al := AH.get_lt ha
    have bl := AH.get_lt hb
    refine @call_of' _ _ pl _ _ _ _ _ _ _ ⟨_⟩ get71 ((oo (by decide)).2 _) rfl ?_
    by_cases he : (nth l i).into = -1
    · have e1 := lev_end h hi he
      simp (disch := omega) [ha, hb, hi, he, e1]
    · have e1 := lev_into h hi he
      obtain ⟨h1, h2, h3⟩ := into_lt h hi he
      have ih := fun {σ} => level_call h (nl := nl) (a := a) (b := b) d (nth l i).into.toNat h2 (by omega) (σ := σ)
      rw [h3] at ih
      simp (disch := omega) [ha, hb, hi, he, al, bl]
      refine (ih ?_ ?_).mono ?_
      · simp (disch := omega) [ha]
      · simp (disch := omega) [hb]
      rintro _ _ ⟨rfl, rfl⟩
      simp (disch := omega) [e1]
structure P5 where
  p : Pc
  ix : Int
  lv : Int
  deriving DecidableEq, Inhabited
def eP5 (x : P5) : AV := .agg [.int .i64 x.p.into, .int .i64 x.p.br, .int .i64 x.p.iv, .int .i64 x.ix, .int .i64 x.lv]
theorem encP5 : Enc eP5 5 := ⟨fun _ => rfl, fun _ => rfl, fun _ => rfl, by decide⟩
@[simp] theorem aidx_p5 {nl : Bool} {xs : List P5} (q : IntKind) (i : Int) : aidx 5 (vl eP5 nl xs) (.int q i) = if 0 ≤ i ∧ i < (xs.length : Int) then some (.vptr [.int .i64 (nth xs i.toNat).p.into, .int .i64 (nth xs i.toNat).p.br, .int .i64 (nth xs i.toNat).p.iv, .int .i64 (nth xs i.toNat).ix, .int .i64 (nth xs i.toNat).lv] 0) else none :=
  aidx_vl (e := eP5) (fun _ => rfl) q i
def p5At (l : List Pc) (i : Nat) : P5 := ⟨nth l i, i, lev l i⟩
def pcsL (l : List Pc) (n : Nat) : List P5 := (List.range n).map (p5At l)
theorem pcsL_succ (l : List Pc) (n : Nat) : pcsL l (n + 1) = pcsL l n ++ [p5At l n] := by unfold pcsL; rw [List.range_succ, List.map_append]; rfl
@[simp] theorem pcsL_len (l : List Pc) (n : Nat) : (pcsL l n).length = n := by unfold pcsL; simp
theorem pcsL_nth {l : List Pc} {n i : Nat} (h : i < n) : nth (pcsL l n) i = p5At l i := by
  rw [nth_eq (by simpa using h)]
  simp [pcsL]
theorem pieces_ok (nl : Bool) (l : List Pc) (h : okOrd l) : ans prog O 43 [vl ePc nl l] = some (vl eP5 false (pcsL l l.length)) := by
  have hl := h.1
  refine fn_of' pl get43 (oo (by decide)) rfl rfl ?_
  simp (disch := omega) [-Bool.exists_bool]
  refine lp_loop pl (fun k fr σ => ∃ (j : Nat) (v : AV), j + k = l.length ∧ fr = ⟨[(3, .ptr (some (1, 0))), (4, v), (8, vl ePc nl l), (9, .int .i64 l.length), (10, .int .i64 j)], []⟩ ∧ σ.lim = 0 ∧ 2 ≤ σ.next ∧ σ.get 0 = some (.cells [vl ePc nl l]) ∧
    σ.get 1 = some (.cells [.func (.func 71) [] [.ptr (some (0, 0)), .ptr (some (1, 0))]]) ∧ Buf 2 5 eP5 σ v (pcsL l j))
    ⟨l.length, 0, .vsl true [], by omega, rfl, by simp, by simp, by simp, by simp, Buf.nil⟩ ?_
  rintro k _ σ ⟨j, v, hj, rfl, hl0, hn, h0, h1, hbuf⟩
  have hu := under_zero hl0
  by_cases hjl : j < l.length
  · simp (disch := omega) [Und, hl0, hjl, h0, h1, hn, hu, eqF1, eqF2, -Bool.exists_bool]
    refine (level_call h (nl := nl) (a := 0) (b := 1) l.length j hjl (by omega) ?_ ?_).mono ?_
    · simp (disch := omega) [h0, eqF1, eqF2]
    · simp (disch := omega) [h1, eqF1, eqF2]
    rintro _ _ ⟨rfl, rfl⟩
    simp (disch := omega) [Und, hl0, hjl, h0, h1, hn, hu, eqF1, eqF2, -Bool.exists_bool]
    generalize hτ : AH.under _ 0 = τ
    have τl : τ.lim = 0 := by rw [← hτ]; rfl
    have τn : τ.next = σ.next + 1 := by rw [← hτ]; rfl
    have τg : ∀ i, i < σ.next → τ.get i = σ.get i := fun i h1 => by rw [← hτ, AH.under_get, AH.get_set_other _ _ _ _ (by omega), AH.get_push_old _ _ _ (by omega)]
    rw [← τn]
    refine (hbuf.keep (σ' := τ) fun i _ h2 => τg i h2).push encP5 (by omega) (by omega) (p5At l j) (by rw [pcsL_len]; simp only [topBytes]; omega) rfl fun v' σ1 h3 h4 => ?_
    rw [← pcsL_succ] at h3
    have hlim := h4.lim
    have hnx := h4.next
    simp (disch := omega) [-Bool.exists_bool]
    refine ⟨k - 1, by omega, j + 1, by omega, v', ⟨rfl, by omega⟩, by omega, by omega, ?_, ?_, h3⟩
    · rw [h4.get 0 (by omega), τg 0 (by omega)]; exact h0
    · rw [h4.get 1 (by omega), τg 1 (by omega)]; exact h1
  · obtain rfl : j = l.length := by omega
    simp (disch := omega) [Und, hl0, -Bool.exists_bool]
    rw [hbuf.fz encP5 6 (fun x _ => by simp [eP5])]
    have e : (pcsL l l.length).isEmpty = false := by
      cases hq : pcsL l l.length with
      | nil => have := pcsL_len l l.length; rw [hq] at this; simp at this; omega
      | cons => rfl
    rw [e]
/-! ### Heights, bounds, the fewest days -/
@[simp] theorem height_ok (nl : Bool) (l : List Pc) (h : okOrd l) : ans prog O 98 [vl eP5 nl (pcsL l l.length)] = some (.int .i64 (height l)) := by
  have hl := h.1
  refine fn_of' pl get98 (oo (by decide)) rfl rfl ?_
  simp (disch := omega) [-Bool.exists_bool]
  refine lp_loop pl (fun k fr σ => ∃ j : Nat, j + k = l.length ∧ fr = ⟨[(3, .int .i64 (maxTo (lev l) j)), (6, vl eP5 nl (pcsL l l.length)), (7, .int .i64 l.length), (8, .int .i64 j)], []⟩ ∧ σ.lim = 0)
    ⟨l.length, 0, by omega, rfl, rfl⟩ ?_
  rintro k _ σ ⟨j, hj, rfl, hl0⟩
  by_cases hjl : j < l.length
  · have e := pcsL_nth (l := l) hjl
    simp (disch := omega) [Und, hl0, hjl, e, p5At, -Bool.exists_bool]
    exact ⟨k - 1, by omega, j + 1, by omega, ⟨by simp only [maxTo]; omega, by omega⟩⟩
  · obtain rfl : j = l.length := by omega
    simp (disch := omega) [Und, hl0, height, -Bool.exists_bool]
theorem tdiv_ediv {a b : Int} (h : 0 ≤ a) : a.tdiv b = a / b := Int.tdiv_eq_ediv_of_nonneg h
@[simp] theorem bound_ok (nl : Bool) (l : List Pc) (men j : Int) (h : okOrd l) (hm : 1 ≤ men) (hm2 : men ≤ 100) (hj : 0 ≤ j) (hj2 : j ≤ 100) : ans prog O 99 [vl eP5 nl (pcsL l l.length), .int .i64 men, .int .i64 j] = some (.int .i64 (bnd l men j)) := by
  have hl := h.1
  refine fn_of' pl get99 (oo (by decide)) rfl rfl ?_
  simp (disch := omega) [-Bool.exists_bool]
  refine lp_loop pl (fun k fr σ => ∃ i : Nat, i + k = l.length ∧ fr = ⟨[(1, .int .i64 men), (2, .int .i64 j), (7, .int .i64 (cnt (fun i => decide (j < (lev l i : Int))) i)), (10, vl eP5 nl (pcsL l l.length)), (11, .int .i64 l.length), (12, .int .i64 i)], []⟩ ∧ σ.lim = 0)
    ⟨l.length, 0, by omega, rfl, rfl⟩ ?_
  rintro k _ σ ⟨i, hi, rfl, hl0⟩
  have hc := cnt_le (fun i => decide (j < (lev l i : Int))) i
  by_cases hil : i < l.length
  · have e := pcsL_nth (l := l) hil
    simp (disch := omega) [Und, hl0, hil, e, p5At, -Bool.exists_bool]
    refine ⟨fun h1 => ⟨k - 1, by omega, i + 1, by omega, ⟨?_, by omega⟩⟩, fun h1 => ⟨k - 1, by omega, i + 1, by omega, ⟨?_, by omega⟩⟩⟩
    · simp only [cnt, decide_eq_true h1, if_true]; omega
    · have h2 : ¬ j < (lev l i : Int) := by omega
      simp only [cnt, decide_eq_false h2]; simp
  · obtain rfl : i = l.length := by omega
    have hb := bnd_bd h hm hj
    have hd := tdiv_ediv (a := (above l j : Int) + men - 1) (b := men) (by omega)
    have hab : cnt (fun i => decide (j < (lev l i : Int))) l.length = above l j := rfl
    have hbe : bnd l men j = j + ((above l j : Int) + men - 1) / men := rfl
    have hq : ((above l j : Int) + men - 1) / men = bnd l men j - j := by omega
    have hq2 : ¬ men = 0 := by omega
    have e1 : w64 (j + (bnd l men j - j)) = bnd l men j := by rw [w64_id _ (by omega) (by omega)]; omega
    simp (disch := omega) [Und, hl0, hab, hd, hq, hq2, e1, -Bool.exists_bool]
    omega
@[simp] theorem least_ok (nl : Bool) (l : List Pc) (men : Int) (h : okOrd l) (hm : 1 ≤ men) (hm2 : men ≤ 100) : ans prog O 68 [vl eP5 nl (pcsL l l.length), .int .i64 men] = some (.tuple [.int .i64 (lst l men).1, .int .i64 (lst l men).2]) := by
  have hl := h.1
  have hh := height_bd h
  refine fn_of' pl get68 (oo (by decide)) rfl rfl ?_
  simp (disch := omega) [h, -Bool.exists_bool]
  refine lp_loop pl (fun k fr σ => ∃ j : Nat, j + k = height l ∧ fr = ⟨[(0, vl eP5 nl (pcsL l l.length)), (1, .int .i64 men), (4, .int .i64 (lstTo l men j).1), (5, .int .i64 (lstTo l men j).2), (9, .int .i64 (height l)), (10, .int .i64 j)], []⟩ ∧ σ.lim = 0)
    ⟨height l, 0, by omega, rfl, rfl⟩ ?_
  rintro k _ σ ⟨j, hj, rfl, hl0⟩
  by_cases hjl : j < height l
  · simp (disch := omega) [Und, hl0, hjl, h, -Bool.exists_bool]
    refine ⟨fun h1 => ⟨k - 1, by omega, j + 1, by omega, ⟨?_, ?_, by omega⟩⟩, fun h1 => ⟨k - 1, by omega, j + 1, by omega, ⟨?_, ?_, by omega⟩⟩⟩
    · simp only [lstTo]; rw [if_pos h1]
    · simp only [lstTo]; rw [if_pos h1]
    · simp only [lstTo]; rw [if_neg (by omega)]
    · simp only [lstTo]; rw [if_neg (by omega)]
  · obtain rfl : j = height l := by omega
    simp (disch := omega) [Und, hl0, lst, -Bool.exists_bool]
/-! ### The specification's -/
end Go.Oct.Stk.Sh
