/- Orders: what Check, Levels and Least of the program and of the specification answer. -/
import Derived.Test.YtpgjndgpackffaaGreatDoorOPlansLev
import Derived.Test.YtpgjndgpackffaaGreatDoorOT4
set_option maxRecDepth 100000
set_option maxHeartbeats 4000000
set_option linter.unusedVariables false
set_option linter.unusedSimpArgs false
namespace Go.Oct.Plans
open Go.Oct
@[simp] theorem within_ok (n l h : Int) : ans prog O 17 [.int .i64 n, .int .i64 l, .int .i64 h] = some (.bool (decide (l ≤ n ∧ n ≤ h))) := by
  refine fn_of' pl get17 (oo (by decide)) rfl rfl ?_
  simp +contextual (disch := omega) []
theorem not_ord {l : List Pc} {n : Nat} (hn : n < l.length) (h : ¬ okPc l n) : ¬ okOrd l := fun ho => h (ho.2 n hn)
@[simp] theorem Check_ok (nl : Bool) (l : List Pc) (hx : l.length < 2 ^ 62) : ans prog O 7 [vl ePc nl l] = some (.int .i64 (if okOrd l then 0 else 100)) := by
  by_cases hl : 1 ≤ (l.length : Int) ∧ (l.length : Int) ≤ 12
  · refine fn_of' pl get7 (oo (by decide)) rfl rfl ?_
    simp (disch := omega) [hl, -Bool.exists_bool]
    refine lp_loop pl (fun k fr σ => ∃ j : Nat, j + k = l.length ∧ fr = ⟨[(0, vl ePc nl l), (9, vl ePc nl l), (10, .int .i64 l.length), (11, .int .i64 j)], []⟩ ∧ σ.lim = 0 ∧ ordTo l j)
      ⟨l.length, 0, by omega, rfl, rfl, ⟨hl, fun i hi => by omega⟩⟩ ?_
    rintro k _ σ ⟨j, hj, rfl, hl0, ht⟩
    by_cases hjl : j < l.length
    · by_cases hp : okPc l j
      · have hp' := hp
        unfold okPc at hp'
        have hs := ordTo_succ.2 ⟨ht, hp⟩
        simp (disch := omega) [Und, hl0, hjl, -Bool.exists_bool]
        exact ⟨fun hc => by exfalso; omega, fun _ _ _ _ _ => ⟨k - 1, by omega, j + 1, by omega, by omega, hs⟩⟩
      · have hn := not_ord hjl hp
        unfold okPc at hp
        simp (disch := omega) [Und, hl0, hjl, hn, -Bool.exists_bool]
        intro a1 a2 a3 a4 a5
        exfalso
        omega
    · obtain rfl : j = l.length := by omega
      simp (disch := omega) [Und, hl0, ht, -Bool.exists_bool]
  · have h0 : ¬ okOrd l := fun h => hl h.1
    refine fn_of' pl get7 (oo (by decide)) rfl rfl ?_
    simp (disch := omega) [hl, h0, -Bool.exists_bool]
@[simp] theorem CheckR_ok (nl : Bool) (l : List Pc) (hx : l.length < 2 ^ 62) : ans prog O 8 [vl ePc nl l] = some (.int .i64 (if okOrd l then 0 else 100)) := by
  refine fn_of' pl get8 (oo (by decide)) rfl rfl ?_
  simp (disch := omega) [-Bool.exists_bool]
  refine lp_loop pl (fun k fr σ => ∃ j : Nat, j + k = l.length ∧ fr = ⟨[(0, vl ePc nl l), (3, .bool (decide (ordTo l j))), (4, .int .i64 j)], []⟩ ∧ σ.lim = 0)
    ⟨l.length, 0, by omega, by simp [ordTo], rfl⟩ ?_
  rintro k _ σ ⟨j, hj, rfl, hl0⟩
  by_cases ht : ordTo l j
  · by_cases hjl : j < l.length
    · simp (disch := omega) [Und, hl0, hjl, ht, -Bool.exists_bool]
      refine ⟨k - 1, by omega, j + 1, by omega, ?_, by omega⟩
      rw [Bool.eq_iff_iff]
      simp only [Bool.and_eq_true, Bool.or_eq_true, decide_eq_true_eq, ordTo_succ, okPc]
      constructor
      · rintro ⟨⟨h1, h2⟩, h3⟩; exact ⟨ht, h1, h2, h3⟩
      · rintro ⟨_, h1, h2, h3⟩; exact ⟨⟨h1, h2⟩, h3⟩
    · obtain rfl : j = l.length := by omega
      simp (disch := omega) [Und, hl0, ht, -Bool.exists_bool]
  · have hn : ¬ okOrd l := fun h => ht ⟨h.1, fun i hi => h.2 i (by omega)⟩
    simp (disch := omega) [Und, hl0, ht, hn, -Bool.exists_bool]
/-- The error of an order and journeymen. -/
def askV (l : List Pc) (men : Int) : Int := if okOrd l then if 1 ≤ men ∧ men ≤ 12 then 0 else 101 else 100
@[simp] theorem asked_ok (nl : Bool) (l : List Pc) (men : Int) (hx : l.length < 2 ^ 62) : ans prog O 19 [vl ePc nl l, .int .i64 men] = some (.int .i64 (askV l men)) := by
  refine fn_of' pl get19 (oo (by decide)) rfl rfl ?_
  unfold askV
  by_cases h : okOrd l
  · by_cases hm : 1 ≤ men ∧ men ≤ 12
    · simp (disch := omega) [h, hm]
    · simp (disch := omega) [h, hm]
      try omega
  · simp (disch := omega) [h]
@[simp] theorem askedR_ok (nl : Bool) (l : List Pc) (men : Int) (hx : l.length < 2 ^ 62) : ans prog O 21 [vl ePc nl l, .int .i64 men] = some (.int .i64 (askV l men)) := by
  refine fn_of' pl get21 (oo (by decide)) rfl rfl ?_
  unfold askV
  by_cases h : okOrd l
  · by_cases hm : 1 ≤ men ∧ men ≤ 12
    · simp (disch := omega) [h, hm]
    · simp (disch := omega) [h, hm]
      try omega
  · simp (disch := omega) [h]
/-! ### Levels -/
theorem level_call {l : List Pc} (h : okOrd l) {nl : Bool} {a b : Nat} : ∀ (d i : Nat), i < l.length → l.length ≤ i + d → ∀ {σ : AH}, σ.get a = some (.cells [vl ePc nl l]) → σ.get b = some (.cells [.func (.func 39) [] [.ptr (some (a, 0)), .ptr (some (b, 0))]]) →
    Call prog O (.fn 39) [.int .i64 i, .ptr (some (a, 0)), .ptr (some (b, 0))] σ (fun v s => v = .int .i64 (lev l i) ∧ s = σ)
  | 0, i, hi, hd, σ, _, _ => by omega
  | d + 1, i, hi, hd, σ, ha, hb => by
    have hl := h.1
    have hlv := lev_in h hi
    have hp := h.2 i hi
    have al := AH.get_lt ha
    have bl := AH.get_lt hb
    refine @call_of' _ _ pl _ _ _ _ _ _ _ ⟨_⟩ get39 ((oo (by decide)).2 _) rfl ?_
    by_cases he : (nth l i).into = -1
    · have e1 := lev_end h hi he
      simp (disch := omega) [ha, hb, hi, he, e1]
    · have e1 := lev_into h hi he
      obtain ⟨h1, h2, h3⟩ := into_lt h hi he
      have ih := fun {σ} => level_call h (nl := nl) (a := a) (b := b) d (nth l i).into.toNat h2 (by omega) (σ := σ)
      rw [h3] at ih
      simp (disch := omega) [ha, hb, hi, he, al, bl]
      refine (ih ?_ ?_).mono ?_
      · simp (disch := omega) [ha]
      · simp (disch := omega) [hb]
      rintro _ _ ⟨rfl, rfl⟩
      simp (disch := omega) [e1]
structure P5 where
  p : Pc
  ix : Int
  lv : Int
  deriving DecidableEq, Inhabited
def eP5 (x : P5) : AV := .agg [.int .i64 x.p.into, .int .i64 x.p.br, .int .i64 x.p.iv, .int .i64 x.ix, .int .i64 x.lv]
theorem encP5 : Enc eP5 5 := ⟨fun _ => rfl, fun _ => rfl, fun _ => rfl, by decide⟩
@[simp] theorem aidx_p5 {nl : Bool} {xs : List P5} (q : IntKind) (i : Int) : aidx 5 (vl eP5 nl xs) (.int q i) = if 0 ≤ i ∧ i < (xs.length : Int) then some (.vptr [.int .i64 (nth xs i.toNat).p.into, .int .i64 (nth xs i.toNat).p.br, .int .i64 (nth xs i.toNat).p.iv, .int .i64 (nth xs i.toNat).ix, .int .i64 (nth xs i.toNat).lv] 0) else none :=
  aidx_vl (e := eP5) (fun _ => rfl) q i
def p5At (l : List Pc) (i : Nat) : P5 := ⟨nth l i, i, lev l i⟩
def pcsL (l : List Pc) (n : Nat) : List P5 := (List.range n).map (p5At l)
theorem pcsL_succ (l : List Pc) (n : Nat) : pcsL l (n + 1) = pcsL l n ++ [p5At l n] := by unfold pcsL; rw [List.range_succ, List.map_append]; rfl
@[simp] theorem pcsL_len (l : List Pc) (n : Nat) : (pcsL l n).length = n := by unfold pcsL; simp
theorem pcsL_nth {l : List Pc} {n i : Nat} (h : i < n) : nth (pcsL l n) i = p5At l i := by
  rw [nth_eq (by simpa using h)]
  simp [pcsL]
theorem pieces_ok (nl : Bool) (l : List Pc) (h : okOrd l) : ans prog O 15 [vl ePc nl l] = some (vl eP5 false (pcsL l l.length)) := by
  have hl := h.1
  refine fn_of' pl get15 (oo (by decide)) rfl rfl ?_
  simp (disch := omega) [-Bool.exists_bool]
  refine lp_loop pl (fun k fr σ => ∃ (j : Nat) (v : AV), j + k = l.length ∧ fr = ⟨[(3, .ptr (some (1, 0))), (4, v), (8, vl ePc nl l), (9, .int .i64 l.length), (10, .int .i64 j)], []⟩ ∧ σ.lim = 0 ∧ 2 ≤ σ.next ∧ σ.get 0 = some (.cells [vl ePc nl l]) ∧
    σ.get 1 = some (.cells [.func (.func 39) [] [.ptr (some (0, 0)), .ptr (some (1, 0))]]) ∧ Buf 2 5 eP5 σ v (pcsL l j))
    ⟨l.length, 0, .vsl true [], by omega, rfl, by simp, by simp, by simp, by simp, Buf.nil⟩ ?_
  rintro k _ σ ⟨j, v, hj, rfl, hl0, hn, h0, h1, hbuf⟩
  have hu := under_zero hl0
  by_cases hjl : j < l.length
  · simp (disch := omega) [Und, hl0, hjl, h0, h1, hn, hu, eqF1, eqF2, -Bool.exists_bool]
    refine (level_call h (nl := nl) (a := 0) (b := 1) l.length j hjl (by omega) ?_ ?_).mono ?_
    · simp (disch := omega) [h0, eqF1, eqF2]
    · simp (disch := omega) [h1, eqF1, eqF2]
    rintro _ _ ⟨rfl, rfl⟩
    simp (disch := omega) [Und, hl0, hjl, h0, h1, hn, hu, eqF1, eqF2, -Bool.exists_bool]
    generalize hτ : AH.under _ 0 = τ
    have τl : τ.lim = 0 := by rw [← hτ]; rfl
    have τn : τ.next = σ.next + 1 := by rw [← hτ]; rfl
    have τg : ∀ i, i < σ.next → τ.get i = σ.get i := fun i h1 => by rw [← hτ, AH.under_get, AH.get_set_other _ _ _ _ (by omega), AH.get_push_old _ _ _ (by omega)]
    rw [← τn]
    refine (hbuf.keep (σ' := τ) fun i _ h2 => τg i h2).push encP5 (by omega) (by omega) (p5At l j) (by rw [pcsL_len]; simp only [topBytes]; omega) rfl fun v' σ1 h3 h4 => ?_
    rw [← pcsL_succ] at h3
    have hlim := h4.lim
    have hnx := h4.next
    simp (disch := omega) [-Bool.exists_bool]
    refine ⟨k - 1, by omega, j + 1, by omega, v', ⟨rfl, by omega⟩, by omega, by omega, ?_, ?_, h3⟩
    · rw [h4.get 0 (by omega), τg 0 (by omega)]; exact h0
    · rw [h4.get 1 (by omega), τg 1 (by omega)]; exact h1
  · obtain rfl : j = l.length := by omega
    simp (disch := omega) [Und, hl0, -Bool.exists_bool]
    rw [hbuf.fz encP5 6 (fun x _ => by simp [eP5])]
    have e : (pcsL l l.length).isEmpty = false := by
      cases hq : pcsL l l.length with
      | nil => have := pcsL_len l l.length; rw [hq] at this; simp at this; omega
      | cons => rfl
    rw [e]
/-! ### Heights, bounds, the fewest days -/
@[simp] theorem height_ok (nl : Bool) (l : List Pc) (h : okOrd l) : ans prog O 41 [vl eP5 nl (pcsL l l.length)] = some (.int .i64 (height l)) := by
  have hl := h.1
  refine fn_of' pl get41 (oo (by decide)) rfl rfl ?_
  simp (disch := omega) [-Bool.exists_bool]
  refine lp_loop pl (fun k fr σ => ∃ j : Nat, j + k = l.length ∧ fr = ⟨[(3, .int .i64 (maxTo (lev l) j)), (6, vl eP5 nl (pcsL l l.length)), (7, .int .i64 l.length), (8, .int .i64 j)], []⟩ ∧ σ.lim = 0)
    ⟨l.length, 0, by omega, rfl, rfl⟩ ?_
  rintro k _ σ ⟨j, hj, rfl, hl0⟩
  by_cases hjl : j < l.length
  · have e := pcsL_nth (l := l) hjl
    simp (disch := omega) [Und, hl0, hjl, e, p5At, -Bool.exists_bool]
    exact ⟨k - 1, by omega, j + 1, by omega, ⟨by simp only [maxTo]; omega, by omega⟩⟩
  · obtain rfl : j = l.length := by omega
    simp (disch := omega) [Und, hl0, height, -Bool.exists_bool]
theorem tdiv_ediv {a b : Int} (h : 0 ≤ a) : a.tdiv b = a / b := Int.tdiv_eq_ediv_of_nonneg h
@[simp] theorem bound_ok (nl : Bool) (l : List Pc) (men j : Int) (h : okOrd l) (hm : 1 ≤ men) (hm2 : men ≤ 100) (hj : 0 ≤ j) (hj2 : j ≤ 100) : ans prog O 42 [vl eP5 nl (pcsL l l.length), .int .i64 men, .int .i64 j] = some (.int .i64 (bnd l men j)) := by
  have hl := h.1
  refine fn_of' pl get42 (oo (by decide)) rfl rfl ?_
  simp (disch := omega) [-Bool.exists_bool]
  refine lp_loop pl (fun k fr σ => ∃ i : Nat, i + k = l.length ∧ fr = ⟨[(1, .int .i64 men), (2, .int .i64 j), (7, .int .i64 (cnt (fun i => decide (j < (lev l i : Int))) i)), (10, vl eP5 nl (pcsL l l.length)), (11, .int .i64 l.length), (12, .int .i64 i)], []⟩ ∧ σ.lim = 0)
    ⟨l.length, 0, by omega, rfl, rfl⟩ ?_
  rintro k _ σ ⟨i, hi, rfl, hl0⟩
  have hc := cnt_le (fun i => decide (j < (lev l i : Int))) i
  by_cases hil : i < l.length
  · have e := pcsL_nth (l := l) hil
    simp (disch := omega) [Und, hl0, hil, e, p5At, -Bool.exists_bool]
    refine ⟨fun h1 => ⟨k - 1, by omega, i + 1, by omega, ⟨?_, by omega⟩⟩, fun h1 => ⟨k - 1, by omega, i + 1, by omega, ⟨?_, by omega⟩⟩⟩
    · simp only [cnt, decide_eq_true h1, if_true]; omega
    · have h2 : ¬ j < (lev l i : Int) := by omega
      simp only [cnt, decide_eq_false h2]; simp
  · obtain rfl : i = l.length := by omega
    have hb := bnd_bd h hm hj
    have hd := tdiv_ediv (a := (above l j : Int) + men - 1) (b := men) (by omega)
    have hab : cnt (fun i => decide (j < (lev l i : Int))) l.length = above l j := rfl
    have hbe : bnd l men j = j + ((above l j : Int) + men - 1) / men := rfl
    have hq : ((above l j : Int) + men - 1) / men = bnd l men j - j := by omega
    have hq2 : ¬ men = 0 := by omega
    have e1 : w64 (j + (bnd l men j - j)) = bnd l men j := by rw [w64_id _ (by omega) (by omega)]; omega
    simp (disch := omega) [Und, hl0, hab, hd, hq, hq2, e1, -Bool.exists_bool]
    omega
@[simp] theorem least_ok (nl : Bool) (l : List Pc) (men : Int) (h : okOrd l) (hm : 1 ≤ men) (hm2 : men ≤ 100) : ans prog O 23 [vl eP5 nl (pcsL l l.length), .int .i64 men] = some (.tuple [.int .i64 (lst l men).1, .int .i64 (lst l men).2]) := by
  have hl := h.1
  have hh := height_bd h
  refine fn_of' pl get23 (oo (by decide)) rfl rfl ?_
  simp (disch := omega) [h, -Bool.exists_bool]
  refine lp_loop pl (fun k fr σ => ∃ j : Nat, j + k = height l ∧ fr = ⟨[(0, vl eP5 nl (pcsL l l.length)), (1, .int .i64 men), (4, .int .i64 (lstTo l men j).1), (5, .int .i64 (lstTo l men j).2), (9, .int .i64 (height l)), (10, .int .i64 j)], []⟩ ∧ σ.lim = 0)
    ⟨height l, 0, by omega, rfl, rfl⟩ ?_
  rintro k _ σ ⟨j, hj, rfl, hl0⟩
  by_cases hjl : j < height l
  · simp (disch := omega) [Und, hl0, hjl, h, -Bool.exists_bool]
    refine ⟨fun h1 => ⟨k - 1, by omega, j + 1, by omega, ⟨?_, ?_, by omega⟩⟩, fun h1 => ⟨k - 1, by omega, j + 1, by omega, ⟨?_, ?_, by omega⟩⟩⟩
    · simp only [lstTo]; rw [if_pos h1]
    · simp only [lstTo]; rw [if_pos h1]
    · simp only [lstTo]; rw [if_neg (by omega)]
    · simp only [lstTo]; rw [if_neg (by omega)]
  · obtain rfl : j = height l := by omega
    simp (disch := omega) [Und, hl0, lst, -Bool.exists_bool]
/-! ### The specification's -/
def levI (l : List Pc) : List Int := (List.range l.length).map fun i => (lev l i : Int)
@[simp] theorem levI_len (l : List Pc) : (levI l).length = l.length := by unfold levI; simp
theorem levI_nth {l : List Pc} {i : Nat} (h : i < l.length) : nth (levI l) i = (lev l i : Int) := by
  rw [nth_eq (by simpa using h)]
  simp [levI]
/-- Levels from m on; ahead of it nothing yet. -/
def levD (l : List Pc) (m : Nat) : List Int := (List.range l.length).map fun i => if m ≤ i then (lev l i : Int) else 0
@[simp] theorem levD_len (l : List Pc) (m : Nat) : (levD l m).length = l.length := by unfold levD; simp
theorem levD_nth {l : List Pc} {m i : Nat} (h : i < l.length) : nth (levD l m) i = if m ≤ i then (lev l i : Int) else 0 := by
  rw [nth_eq (by simpa using h)]
  simp [levD]
theorem levD_set {l : List Pc} {m : Nat} (h : m < l.length) : (levD l (m + 1)).set m (lev l m : Int) = levD l m := by
  apply ext_nth
  · simp
  · intro i hi
    have hi' : i < l.length := by simpa using hi
    rw [nth_set (by simpa using h), levD_nth hi', levD_nth hi']
    by_cases e : i = m
    · subst e; rw [if_pos rfl, if_pos (Nat.le_refl _)]
    · rw [if_neg e]
      by_cases h2 : m ≤ i
      · rw [if_pos h2, if_pos (by omega)]
      · rw [if_neg h2, if_neg (by omega)]
theorem levD_end (l : List Pc) : levD l l.length = List.replicate l.length 0 := by
  apply ext_nth
  · simp
  · intro i hi
    have hi' : i < l.length := by simpa using hi
    rw [levD_nth hi', if_neg (by omega), nth_eq (by simpa using hi')]
    simp
theorem levD_all (l : List Pc) : levD l 0 = levI l := by unfold levD levI; simp
theorem imap_get {xs : List Int} {i : Nat} (h : i < xs.length) : (xs.map (AV.int .i64))[i]? = some (.int .i64 (nth xs i)) := by
  rw [List.getElem?_map, nth_get? h]; rfl
@[simp] theorem levels_ok (nl : Bool) (l : List Pc) (h : okOrd l) : ans prog O 16 [vl ePc nl l] = some (vs false (levI l)) := by
  have hl := h.1
  refine fn_of' pl get16 (oo (by decide)) rfl rfl ?_
  simp (disch := omega) [-Bool.exists_bool]
  refine ⟨by simp only [topBytes]; omega, ?_⟩
  have hz : zcells [AV.int .i64 0] l.length = (levD l l.length).map (AV.int .i64) := by rw [levD_end, ← rowI_eq]; exact zcells_row (AV.int .i64) (x := 0) rfl l.length
  refine lp_loop pl (fun k fr σ => ∃ (m : Nat), m = k ∧ m ≤ l.length ∧ fr = ⟨[(0, vl ePc nl l), (3, .slice (some (0, 0)) l.length (.ex l.length)), (4, .int .i64 ((m : Int) - 1))], []⟩ ∧ σ.lim = 0 ∧ σ.get 0 = some (.cells ((levD l m).map (AV.int .i64))))
    ⟨l.length, l.length, rfl, Nat.le_refl _, rfl, rfl, by rw [← hz]; simp⟩ ?_
  rintro k _ σ ⟨m, rfl, hm, rfl, hl0, hg⟩
  have gl := AH.get_lt hg
  have ll := levD_len l m
  by_cases h0 : m = 0
  · subst h0
    simp (disch := omega) [Und, hl0, -Bool.exists_bool]
    have hf := fz_row (c := σ.cel) (o := 0) (xs := levI l) (by rw [rowI_eq, ← levD_all]; simp [hg]) 6
    rw [levI_len] at hf
    exact hf
  · obtain ⟨q, rfl⟩ : ∃ q, m = q + 1 := ⟨m - 1, by omega⟩
    have e0 : ((q + 1 : Nat) : Int) - 1 = (q : Int) := by omega
    rw [e0]
    have hq : q < l.length := by omega
    have hlv := lev_in h hq
    have hs : ((levD l (q + 1)).map (AV.int .i64)).set q (.int .i64 (lev l q)) = (levD l q).map (AV.int .i64) := by rw [← levD_set hq, List.map_set]
    by_cases he : (nth l q).into = -1
    · have e1 := lev_end h hq he
      rw [e1] at hs
      simp (disch := omega) [Und, hl0, hq, he, hg, gl, ll, -List.map_set, -Bool.exists_bool]
      refine ⟨by omega, q, by omega, by omega, rfl, ?_⟩
      simpa using hs
    · obtain ⟨i1, i2, i3⟩ := into_lt h hq he
      have e1 := lev_into h hq he
      have e2 := levD_nth (l := l) (m := q + 1) i2
      rw [if_pos (by omega)] at e2
      have e3 := imap_get (xs := (levD l (q + 1)).set q 1) (i := (nth l q).into.toNat) (by simpa using i2)
      rw [nth_set (by simpa using hq), if_neg (by omega), e2, List.map_set] at e3
      have p0 : 0 ≤ (nth l q).into := by omega
      have p1 : (nth l q).into < l.length := by omega
      have hlv2 := lev_in h i2
      have e4 : (lev l q : Int) = (lev l (nth l q).into.toNat : Int) + 1 := by omega
      rw [e4] at hs
      simp (disch := omega) [Und, hl0, hq, he, hg, gl, ll, p0, p1, e3, -List.map_set, -Bool.exists_bool, -getElem?_pos]
      exact ⟨by omega, by omega, by omega, q, by omega, by omega, rfl, hs⟩
@[simp] theorem heightR_ok (nl : Bool) (l : List Pc) (h : okOrd l) : ans prog O 43 [vl ePc nl l] = some (.int .i64 (height l)) := by
  have hl := h.1
  refine fn_of' pl get43 (oo (by decide)) rfl rfl ?_
  simp (disch := omega) [h, -Bool.exists_bool]
  refine lp_loop pl (fun k fr σ => ∃ j : Nat, j + k = l.length ∧ fr = ⟨[(3, vs false (levI l)), (4, .int .i64 (maxTo (lev l) j)), (5, .int .i64 j)], []⟩ ∧ σ.lim = 0)
    ⟨l.length, 0, by omega, rfl, rfl⟩ ?_
  rintro k _ σ ⟨j, hj, rfl, hl0⟩
  have ll := levI_len l
  by_cases hjl : j < l.length
  · have e := levI_nth (l := l) hjl
    simp (disch := omega) [Und, hl0, hjl, e, ll, -Bool.exists_bool]
    exact ⟨k - 1, by omega, j + 1, by omega, ⟨by simp only [maxTo]; omega, by omega⟩⟩
  · obtain rfl : j = l.length := by omega
    simp (disch := omega) [Und, hl0, ll, height, -Bool.exists_bool]
theorem up_eq {a b : Int} (hb : 0 < b) : (a + b - 1) / b = -((-a - -a % b) / b) := by
  have h1 := Int.mul_ediv_add_emod (-a) b
  have h2 := Int.emod_nonneg (-a) (show b ≠ 0 by omega)
  have h3 := Int.emod_lt_of_pos (-a) hb
  have e1 : -a - -a % b = b * (-a / b) := by omega
  rw [e1, Int.mul_ediv_cancel_left _ (by omega)]
  generalize hq : -a / b = q at *
  have e2 : a = b * (-q) - -a % b := by rw [Int.mul_neg]; omega
  generalize -a % b = r at *
  rw [show a + b - 1 = (b - 1 - r) + b * (-q) by omega, Int.add_mul_ediv_left _ _ (by omega), Int.ediv_eq_zero_of_lt (by omega) (by omega)]
  omega
@[simp] theorem Down_ok (a b : Int) (hb : 0 < b) (hb2 : b ≤ 1000000) (h1 : -1000000000 ≤ a) (h2 : a ≤ 1000000000) : ans prog O 90 [.int .i64 a, .int .i64 b] = some (.int .i64 ((a - a % b) / b)) := by
  have h3 := Int.emod_nonneg a (show b ≠ 0 by omega)
  have h4 := Int.emod_lt_of_pos a hb
  have h5 := Int.mul_ediv_add_emod a b
  have e1 : a - a % b = b * (a / b) := by omega
  have e2 : (a - a % b).tdiv b = (a - a % b) / b := by rw [e1, Int.mul_tdiv_cancel_left _ (by omega), Int.mul_ediv_cancel_left _ (by omega)]
  have e3 : -2000000000 ≤ (a - a % b) / b ∧ (a - a % b) / b ≤ 2000000000 := by
    rw [e1, Int.mul_ediv_cancel_left _ (by omega)]
    constructor
    · apply (Int.le_ediv_iff_mul_le hb).2
      have : -2000000000 * b ≤ -2000000000 * 1 := Int.mul_le_mul_of_nonpos_left (by omega) (by omega)
      omega
    · apply Int.le_of_lt_add_one
      apply (Int.ediv_lt_iff_lt_mul hb).2
      have : 2000000001 * 1 ≤ 2000000001 * b := Int.mul_le_mul_of_nonneg_left (by omega) (by omega)
      omega
  have e4 : ¬ b = 0 := by omega
  refine fn_of' pl get90 (oo (by decide)) rfl rfl ?_
  simp (disch := omega) [e2, e4]
@[simp] theorem Up_ok (a b : Int) (hb : 0 < b) (hb2 : b ≤ 1000000) (h1 : -1000000 ≤ a) (h2 : a ≤ 1000000) : ans prog O 59 [.int .i64 a, .int .i64 b] = some (.int .i64 ((a + b - 1) / b)) := by
  have hb3 : -1000001 ≤ (a + b - 1) / b ∧ (a + b - 1) / b ≤ 2000001 := by
    constructor
    · apply (Int.le_ediv_iff_mul_le hb).2
      have : -1000001 * b ≤ -1000001 * 1 := Int.mul_le_mul_of_nonpos_left (by omega) (by omega)
      omega
    · apply Int.le_of_lt_add_one
      apply (Int.ediv_lt_iff_lt_mul hb).2
      have : 2000002 * 1 ≤ 2000002 * b := Int.mul_le_mul_of_nonneg_left (by omega) (by omega)
      omega
  have e := up_eq (a := a) hb
  have e2 : w64 (-((-a - -a % b) / b)) = (a + b - 1) / b := by rw [← e]; exact w64_id _ (by omega) (by omega)
  refine fn_of' pl get59 (oo (by decide)) rfl rfl ?_
  simp (disch := omega) [e2]
  exact e.symm
@[simp] theorem boundR_ok (nl : Bool) (l : List Pc) (men j : Int) (h : okOrd l) (hm : 1 ≤ men) (hm2 : men ≤ 100) (hj : 0 ≤ j) (hj2 : j ≤ 100) : ans prog O 44 [vl ePc nl l, .int .i64 men, .int .i64 j] = some (.int .i64 (bnd l men j)) := by
  have hl := h.1
  refine fn_of' pl get44 (oo (by decide)) rfl rfl ?_
  simp (disch := omega) [h, -Bool.exists_bool]
  refine lp_loop pl (fun k fr σ => ∃ i : Nat, i + k = l.length ∧ fr = ⟨[(1, .int .i64 men), (2, .int .i64 j), (7, vs false (levI l)), (8, .int .i64 (cnt (fun i => decide (j < (lev l i : Int))) i)), (9, .int .i64 i)], []⟩ ∧ σ.lim = 0)
    ⟨l.length, 0, by omega, rfl, rfl⟩ ?_
  rintro k _ σ ⟨i, hi, rfl, hl0⟩
  have ll := levI_len l
  have hc := cnt_le (fun i => decide (j < (lev l i : Int))) i
  by_cases hil : i < l.length
  · have e := levI_nth (l := l) hil
    simp (disch := omega) [Und, hl0, hil, e, ll, -Bool.exists_bool]
    refine ⟨fun h1 => ⟨k - 1, by omega, i + 1, by omega, ⟨?_, by omega⟩⟩, fun h1 => ⟨k - 1, by omega, i + 1, by omega, ⟨?_, by omega⟩⟩⟩
    · simp only [cnt, decide_eq_true h1, if_true]; omega
    · have h2 : ¬ j < (lev l i : Int) := by omega
      simp only [cnt, decide_eq_false h2]; simp
  · obtain rfl : i = l.length := by omega
    have hb := bnd_bd h hm hj
    have hab : cnt (fun i => decide (j < (lev l i : Int))) l.length = above l j := rfl
    have hbe : bnd l men j = j + ((above l j : Int) + men - 1) / men := rfl
    have hq : ((above l j : Int) + men - 1) / men = bnd l men j - j := by omega
    simp (disch := omega) [Und, hl0, ll, hab, hq, -Bool.exists_bool]
    omega
@[simp] theorem leastR_ok (nl : Bool) (l : List Pc) (men : Int) (h : okOrd l) (hm : 1 ≤ men) (hm2 : men ≤ 100) : ans prog O 24 [vl ePc nl l, .int .i64 men] = some (.tuple [.int .i64 (lst l men).1, .int .i64 (lst l men).2]) := by
  have hl := h.1
  have hh := height_bd h
  refine fn_of' pl get24 (oo (by decide)) rfl rfl ?_
  simp (disch := omega) [h, -Bool.exists_bool]
  refine lp_loop pl (fun k fr σ => ∃ j : Nat, j + k = height l ∧ fr = ⟨[(0, vl ePc nl l), (1, .int .i64 men), (6, .int .i64 (lstTo l men j).1), (7, .int .i64 (lstTo l men j).2), (8, .int .i64 j)], []⟩ ∧ σ.lim = 0)
    ⟨height l, 0, by omega, rfl, rfl⟩ ?_
  rintro k _ σ ⟨j, hj, rfl, hl0⟩
  by_cases hjl : j < height l
  · simp (disch := omega) [Und, hl0, hjl, h, -Bool.exists_bool]
    refine ⟨fun h1 => ⟨k - 1, by omega, j + 1, by omega, ⟨?_, ?_, by omega⟩⟩, fun h1 => ⟨k - 1, by omega, j + 1, by omega, ⟨?_, ?_, by omega⟩⟩⟩
    · simp only [lstTo]; rw [if_pos h1]
    · simp only [lstTo]; rw [if_pos h1]
    · simp only [lstTo]; rw [if_neg (by omega)]
    · simp only [lstTo]; rw [if_neg (by omega)]
  · obtain rfl : j = height l := by omega
    simp (disch := omega) [Und, hl0, h, lst, -Bool.exists_bool]
end Go.Oct.Plans
