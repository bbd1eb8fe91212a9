/- Pages that are opened: what is checked, and which bytes are lost. -/
import Derived.Test.YtddkghgfbhhcdaaGreatDoorOLogAgr
set_option maxRecDepth 100000
set_option maxHeartbeats 8000000
set_option linter.unusedVariables false
set_option linter.unusedSimpArgs false
namespace Go.Oct.Log
open Go.Oct
def lostE (i k : Int) (l : List Int) : Nat → List Pl
  | 0 => []
  | j + 1 => lostE i k l j ++ if nth l j = 63 then [⟨i, k, j⟩] else []
def lostR (i : Int) (row : List (List Int)) : Nat → List Pl
  | 0 => []
  | k + 1 => lostR i row k ++ lostE i k (nth row k) (nth row k).length
def lostP (R : Page) : Nat → List Pl
  | 0 => []
  | i + 1 => lostP R i ++ lostR i (nth R i) (nth R i).length
def lost (R : Page) : List Pl := lostP R R.length
theorem lostE_len (i k : Int) (l : List Int) : ∀ j, j ≤ l.length → (lostE i k l j).length = (l.take j).count 63
  | 0, _ => by simp [lostE]
  | j + 1, h => by
    rw [lostE, List.length_append, lostE_len i k l j (by omega), take_succ_nth (by omega), List.count_append]
    by_cases e : nth l j = 63 <;> simp [e]
theorem lostE_full (i k : Int) (l : List Int) : (lostE i k l l.length).length = l.count 63 := by rw [lostE_len i k l _ (Nat.le_refl _), List.take_length]
@[simp] theorem within_ok (a b c : Int) : ans prog O 126 [.int .i64 a, .int .i64 b, .int .i64 c] = some (.bool (decide (b ≤ a ∧ a ≤ c))) := by
  refine fn_of' pl get126 (oo (by decide)) rfl rfl ?_
  simp +contextual (disch := omega) []
theorem isEntry_ok {l : List Int} (h : okE l) : ans prog O 127 [eT l] = some (.bool true) := by
  have hb := h.bys
  have hl := h.len
  refine fn_of' pl get127 (oo (by decide)) rfl rfl ?_
  have h0 : 1 < l.length → ¬ nth l 0 = 48 := h.lead
  have hcell : ∀ j, j < l.length → (List.map (AV.int IntKind.u8) l)[j]? = some (.int .u8 (nth l j)) := fun j hj => by simp [hj, nth, List.getD_eq_getElem?_getD]
  by_cases h1 : 1 < l.length
  all_goals
    have h2 : (1 : Int) ≤ l.length := by omega
    have h3 : (l.length : Int) ≤ 5 := by omega
    have h4 : ((1 : Int) < l.length) = (1 < l.length) := by simp; omega
    have h5 : 0 < l.length := by omega
    simp (disch := omega) [Und, eT, hb, h2, h3, h4, h5, h1, h0, -Bool.exists_bool]
    refine lp_count pl l.length (fun j => [(20, .slice (some (0, 0)) l.length (.op 1)), (21, .int .i64 l.length), (22, .int .i64 j)]) (fun _ => (⟨0, 0, .leaf⟩ : AH).push (.cells (l.map (AV.int .u8)))) (fun _ => True) (by simp) ?_
    intro j hj _
    by_cases hjl : j < l.length
    · have hc := h.at hjl
      by_cases h63 : nth l j = 63
      · simp (disch := omega) [Und, hcell j hjl, h63, -Bool.exists_bool]
        omega
      · simp (disch := omega) [Und, hcell j hjl, h63, -Bool.exists_bool]
        omega
    · obtain rfl : j = l.length := by omega
      simp (disch := omega) [Und, -Bool.exists_bool]
theorem Count_ok (l : List Int) {s : ByteArray} (hs : bys s = [63]) (hb : bys (strA l) = l) : ans prog O 128 [eT l, .str s] = some (.int .i64 (l.count 63 : Nat)) := by
  refine fn_of' pl get128 (oo (by decide)) rfl rfl ?_
  have : cnt (strA l) 63 = l.count 63 := by unfold cnt; rw [hb]
  simp (disch := omega) [Und, eT, hs, this, -Bool.exists_bool]
theorem lostR_len (i : Int) (row : List (List Int)) : ∀ k j, k ≤ j → (lostR i row k).length ≤ (lostR i row j).length := fun k j h => by
  induction j with
  | zero => obtain rfl : k = 0 := by omega
            exact Nat.le_refl _
  | succ j ih =>
    by_cases e : k = j + 1
    · rw [e]; exact Nat.le_refl _
    · have := ih (by omega)
      rw [lostR, List.length_append]; omega
theorem lostP_len (R : Page) : ∀ k j, k ≤ j → (lostP R k).length ≤ (lostP R j).length := fun k j h => by
  induction j with
  | zero => obtain rfl : k = 0 := by omega
            exact Nat.le_refl _
  | succ j ih =>
    by_cases e : k = j + 1
    · rw [e]; exact Nat.le_refl _
    · have := ih (by omega)
      rw [lostP, List.length_append]; omega
theorem bysQ : bys { data := #[63] } = [63] := rfl
theorem valid_ok {w : Nat} {R : Page} (h : okP w R) (hN : (lost R).length ≤ 5) : ans prog O 77 [vP R] = some (.bool true) := by
  have hr := h.rows
  have hc := h.cols
  refine fn_of' pl get77 (oo (by decide)) rfl rfl ?_
  have h2 : (2 : Int) ≤ R.length := by omega
  have h3 : (R.length : Int) ≤ 5 := by omega
  have h4 : (2 : Int) ≤ w := by omega
  have h5 : (w : Int) ≤ 5 := by omega
  simp (disch := omega) [Und, h2, h3, -Bool.exists_bool]
  refine lp_loop pl (fun r fr ω => ∃ i : Nat, i + r = R.length ∧ fr = ⟨[(0, vP R), (3, .int .i64 (lostP R i).length), (12, vP R), (13, .int .i64 R.length), (14, .int .i64 i)], []⟩ ∧ ω = ⟨0, 0, .leaf⟩) ⟨R.length, 0, by omega, rfl, rfl⟩ ?_
  rintro r _ _ ⟨i, hi, rfl, rfl⟩
  by_cases hil : i < R.length
  · have hil' : (i : Int) < R.length := by omega
    have hw := h.wide i hil
    have hw0 := h.wide 0 (by omega)
    have x0 : (0 : Int) < R.length := by omega
    have hs := lostP_len R (i + 1) R.length (by omega)
    rw [lostP, List.length_append] at hs
    unfold lost at hN
    simp (disch := omega) [Und, hil, hil', hw, hw0, x0, h4, h5, -Bool.exists_bool]
    refine ⟨by omega, ?_⟩
    refine lp_loop pl (fun r2 fr ω => ∃ k : Nat, k + r2 = w ∧ fr = ⟨[(0, vP R), (3, .int .i64 ((lostP R i).length + (lostR i (nth R i) k).length : Nat)), (12, vP R), (13, .int .i64 R.length), (14, .int .i64 i), (31, vl eT false (nth R i)), (32, .int .i64 w), (33, .int .i64 k)], []⟩ ∧ ω = ⟨0, 0, .leaf⟩) ⟨w, 0, by omega, by simp [lostR], rfl⟩ ?_
    rintro r2 _ _ ⟨k, hk, rfl, rfl⟩
    have hsk := lostR_len i (nth R i) k (nth R i).length (by omega)
    by_cases hkl : k < w
    · have hkl' : (k : Int) < ((nth R i).length : Int) := by omega
      have he := h.ent i k hil hkl
      have hsk1 := lostR_len i (nth R i) (k + 1) (nth R i).length (by omega)
      rw [lostR, List.length_append, lostE_full] at hsk1
      have hkw : (k : Int) < (w : Int) := by omega
      simp (disch := omega) [Und, hkl, hkl', hkw, hw, isEntry_ok he, Count_ok (nth (nth R i) k) bysQ he.bys, -Bool.exists_bool]
      refine ⟨r2 - 1, by omega, k + 1, by omega, ?_, by omega⟩
      rw [lostR, List.length_append, lostE_full]
      omega
    · obtain rfl : k = w := by omega
      simp (disch := omega) [Und, -Bool.exists_bool]
      refine ⟨r - 1, by omega, i + 1, by omega, ?_, by omega⟩
      rw [lostP, List.length_append, hw]
      omega
  · obtain rfl : i = R.length := by omega
    unfold lost at hN
    simp (disch := omega) [Und, -Bool.exists_bool]
    omega
theorem CheckPage_ok {w : Nat} {R : Page} (h : okP w R) (hN : (lost R).length ≤ 5) : ans prog O 51 [vP R] = some (.int .i64 0) := by
  refine fn_of' pl get51 (oo (by decide)) rfl rfl ?_
  simp (disch := omega) [Und, valid_ok h hN, -Bool.exists_bool]
theorem LV.ofBuf {lo : Nat} {σ : AH} {v : AV} {L : List Pl} (h : Buf lo 3 eP σ v L) : LV σ v L := by
  rcases h with h | ⟨i, h1, h2, h3, h4⟩
  · exact .inl h
  · exact .inr ⟨i, h1, h3, h4⟩
theorem opened_call {w : Nat} {R : Page} (h : okP w R) (hN : (lost R).length ≤ 5) {σ : AH} (h0 : σ.lim = 0) {K : AV → AH → Prop}
    (hK : ∀ lv m σ', Only [] σ σ' → LV σ' lv (lost R) → (∃ es c, σ'.get m = some (.map (es.map entP) c) ∧ es = ([] : List PE)) → σ.next ≤ m → (∀ o ∈ obj lv, σ.next ≤ o ∧ o ≠ m) → K (.tuple [pgA R lv m, .int .i64 0]) σ') :
    Call prog O (.fn 24) [vP R] σ K := by
  refine @call_of' _ _ pl _ _ _ _ _ _ _ ⟨K⟩ get24 ((oo (by decide)).2 _) rfl ?_
  have x0 : ¬ σ.next = σ.next + 1 + 1 := by omega
  have x1 : ¬ σ.next + 1 = σ.next + 1 + 1 := by omega
  simp (disch := omega) [Und, h0, CheckPage_ok h hN, x0, x1, -Bool.exists_bool]
  generalize hυ0 : AH.set (AH.push (AH.push (AH.push σ _) _) _) (σ.next + 1 + 1) _ = υ
  have hυ : Only [] σ υ := by rw [← hυ0]; exact (((Only.push [] σ _).pushN _).pushN _).setN (by omega) _
  have υl := hυ.lim
  have υn : υ.next = σ.next + 3 := by rw [← hυ0]; rfl
  have υm : υ.get (σ.next + 1) = some (.map [] 0) := by rw [← hυ0]; simp (disch := omega) [x1]
  have υt : υ.get (σ.next + 2) = some (.cells [vP R, .vsl true [], .map (some (σ.next + 1))]) := by rw [← hυ0]; simp (disch := omega)
  have υ0 : ∃ cs, υ.get σ.next = some (.cells cs) ∧ cs.length = 3 := ⟨_, by rw [← hυ0]; simp (disch := omega) [x0, show ¬ σ.next = σ.next + 1 by omega]; rfl, rfl⟩
  clear hυ0
  have hr := h.rows
  have hcols := h.cols
  have hl5 := hN
  unfold lost at hl5
  refine lp_loop pl (fun r fr ω => ∃ (i : Nat) (lv : AV), i + r = R.length ∧ fr = ⟨[(2, .ptr (some (σ.next, 0))), (5, .ptr (some (σ.next + 2, 0))), (21, vP R), (22, .int .i64 R.length), (23, .int .i64 i)], []⟩ ∧ Only [σ.next + 2] υ ω ∧
      ω.get (σ.next + 2) = some (.cells [vP R, lv, .map (some (σ.next + 1))]) ∧ Buf (σ.next + 3) 3 eP ω lv (lostP R i)) ⟨R.length, 0, _, by omega, rfl, Only.refl _ υ, υt, Buf.nil⟩ ?_
  rintro r _ ω ⟨i, lv, hi, rfl, hω, ωt, hB⟩
  have ωn := hω.next
  have ωl := hω.lim
  have x2 : σ.next + 2 < ω.next := by omega
  by_cases hil : i < R.length
  · have hil' : (i : Int) < R.length := by omega
    have hw := h.wide i hil
    have hs := lostP_len R (i + 1) R.length (by omega)
    rw [lostP, List.length_append] at hs
    simp (disch := omega) [Und, hil, hil', hw, -Bool.exists_bool]
    refine lp_loop pl (fun r2 fr ω => ∃ (k : Nat) (lv : AV), k + r2 = w ∧ fr = ⟨[(2, .ptr (some (σ.next, 0))), (5, .ptr (some (σ.next + 2, 0))), (6, .int .i64 i), (21, vP R), (22, .int .i64 R.length), (23, .int .i64 i), (28, vl eT false (nth R i)), (29, .int .i64 w), (30, .int .i64 k)], []⟩ ∧ Only [σ.next + 2] υ ω ∧
      ω.get (σ.next + 2) = some (.cells [vP R, lv, .map (some (σ.next + 1))]) ∧ Buf (σ.next + 3) 3 eP ω lv (lostP R i ++ lostR i (nth R i) k)) ⟨w, 0, _, by omega, rfl, hω, ωt, by simpa [lostR] using hB⟩ ?_
    clear hω ωt hB ωn ωl x2 lv
    rintro r2 _ ω ⟨k, lv, hk, rfl, hω, ωt, hB⟩
    have ωn := hω.next
    have ωl := hω.lim
    have x2 : σ.next + 2 < ω.next := by omega
    by_cases hkl : k < w
    · have hkl' : (k : Int) < ((nth R i).length : Int) := by omega
      have hkw : (k : Int) < (w : Int) := by omega
      have he := h.ent i k hil hkl
      have hb := he.bys
      have hel := he.len
      have hsk1 := lostR_len i (nth R i) (k + 1) (nth R i).length (by omega)
      rw [lostR, List.length_append] at hsk1
      have ha := fun j (hj : j < (nth (nth R i) k).length) => he.at hj
      generalize hl : nth (nth R i) k = l at hb hel hsk1 ha
      simp (disch := omega) [Und, hkl, hkl', hkw, hw, hl, eT, hb, -Bool.exists_bool]
      have hBω : ω.next ∉ obj lv := fun e => by have := (hB.obj_lt _ e).2; omega
      have hpush : Only [] ω (ω.push (.cells (l.map (AV.int .u8)))) := Only.push [] ω _
      have hcell : ∀ j, j < l.length → (List.map (AV.int IntKind.u8) l)[j]? = some (.int .u8 (nth l j)) := fun j hj => by simp [hj, nth, List.getD_eq_getElem?_getD]
      refine lp_loop pl (fun r3 fr τ => ∃ (j : Nat) (lv : AV), j + r3 = l.length ∧ fr = ⟨[(2, .ptr (some (σ.next, 0))), (5, .ptr (some (σ.next + 2, 0))), (6, .int .i64 i), (8, .int .i64 k), (21, vP R), (22, .int .i64 R.length), (23, .int .i64 i), (28, vl eT false (nth R i)), (29, .int .i64 w), (30, .int .i64 k), (36, .slice (some (ω.next, 0)) l.length (.op 1)), (37, .int .i64 l.length), (38, .int .i64 j)], []⟩ ∧ Only [σ.next + 2] υ τ ∧ ω.next < τ.next ∧
        τ.get (σ.next + 2) = some (.cells [vP R, lv, .map (some (σ.next + 1))]) ∧ τ.get ω.next = some (.cells (l.map (AV.int .u8))) ∧ ω.next ∉ obj lv ∧ Buf (σ.next + 3) 3 eP τ lv (lostP R i ++ lostR i (nth R i) k ++ lostE i k l j)) ⟨l.length, 0, lv, by omega, rfl, hω.pushN _, by show ω.next < ω.next + 1; omega, (AH.get_push_old _ _ _ (by omega)).trans ωt, AH.get_push_new _ _, hBω, by simpa [lostE] using hB.grown _⟩ ?_
      clear hω ωt hB ωn ωl lv hBω
      rintro r3 _ τ ⟨j, lv, hj, rfl, hτ, τn0, τt, τb, hnl, hB⟩
      have τn := hτ.next
      have τl := hτ.lim
      have y2 : σ.next + 2 < τ.next := by omega
      by_cases hjl : j < l.length
      · have hjl' : (j : Int) < (l.length : Int) := by omega
        by_cases h63 : nth l j = 63
        · have y3 : ¬ σ.next + 2 = τ.next := by omega
          simp (disch := omega) [Und, hjl, hjl', τb, τn0, hcell j hjl, h63, τt, y2, y3, -Bool.exists_bool]
          refine ⟨by omega, ?_⟩
          have hlen := hsk1
          refine hB.push encP (by omega) (by omega) ⟨i, k, j⟩ (bytes := 24) (by
            have e := lostE_len i k l j (by omega)
            have e2 : (l.take j).count 63 ≤ (l.take j).length := List.count_le_length
            rw [List.length_take] at e2
            have e3 := lostR_len i (nth R i) k (nth R i).length (by omega)
            simp only [topBytes, List.length_append]; omega) rfl fun v' ζ q1 q2 => ?_
          have q3 := q2.next
          have q4 := q2.lim
          have q5 := (q2.get (σ.next + 2) (by omega)).trans τt
          have y4 : σ.next + 2 < ζ.next := by omega
          have y5 : ζ.lim ≤ σ.next + 2 := by omega
          have q6 := q1
          have hv1 := (LV.ofBuf q1).one
          have hv : v'.dfd = true ∧ v'.cells = [v'] := by
            rcases LV.ofBuf q1 with ⟨rfl, _⟩ | ⟨_, rfl, _⟩ <;> exact ⟨rfl, rfl⟩
          have y6 : ¬ ω.next = σ.next + 2 := by omega
          have q7 : ζ.get ω.next = some (.cells (l.map (AV.int .u8))) := (q2.only.get _ (by omega) hnl).trans τb
          have q8 : ω.next ∉ obj v' := fun e => by
            rcases q2.fresh _ e with e | e
            · exact hnl e
            · omega
          simp (disch := omega) [Und, q5, y4, y5, y6, hv.1, hv.2, hv1, q7, q8, -Bool.exists_bool]
          refine ⟨r3 - 1, by omega, j + 1, by omega, by omega, Only.setI ⟨by omega, by omega, fun z hz hs => (q2.get z (by omega)).trans (hτ.get z hz hs)⟩ (by simp) _, by omega, ?_⟩
          rw [lostE, if_pos h63]
          refine Buf.keep (σ := ζ) (by simpa using q1) fun z z1 z2 => AH.get_set_other _ _ _ _ (by omega)
        · simp (disch := omega) [Und, hjl, hjl', τb, τn0, hcell j hjl, h63, -Bool.exists_bool]
          refine ⟨by omega, r3 - 1, by omega, j + 1, by omega, by omega, hτ, lv, τt, hnl, ?_⟩
          rw [lostE, if_neg h63, List.append_nil]
          simpa using hB
      · obtain rfl : j = l.length := by omega
        simp (disch := omega) [Und, -Bool.exists_bool]
        refine ⟨r2 - 1, by omega, k + 1, by omega, by omega, hτ, lv, τt, ?_⟩
        rw [lostR, hl]
        simpa using hB
    · obtain rfl : k = w := by omega
      simp (disch := omega) [Und, -Bool.exists_bool]
      refine ⟨r - 1, by omega, i + 1, by omega, by omega, hω, lv, ωt, ?_⟩
      rw [lostP, hw]
      exact hB
  · obtain rfl : i = R.length := by omega
    obtain ⟨cs, υ0, hcs⟩ := υ0
    obtain ⟨c0, c1, c2, rfl⟩ : ∃ c0 c1 c2, cs = [c0, c1, c2] := by
      match cs, hcs with
      | [c0, c1, c2], _ => exact ⟨c0, c1, c2, rfl⟩
    have ω0 := (hω.get σ.next (by omega) (by simp)).trans υ0
    have x3 : σ.next < ω.next := by omega
    have hLV := LV.ofBuf hB
    have h1 := hLV.one
    have x4 : ω.lim ≤ σ.next := by omega
    simp (disch := omega) [Und, ωt, ω0, x2, x3, x4, h1, -Bool.exists_bool]
    have ωm := (hω.get (σ.next + 1) (by omega) (by simp)).trans υm
    refine hK lv (σ.next + 1) _ ⟨by show ω.lim = σ.lim; omega, by show σ.next ≤ ω.next; omega, fun z hz _ => ?_⟩ (hLV.same fun o ho hon => AH.get_set_other _ _ _ _ fun e => ?_) ⟨[], 0, ?_, rfl⟩ (by omega) fun o ho => ?_
    · rw [AH.get_set_other _ _ _ _ (by omega)]
      exact (hω.get z (by omega) (by simp; omega)).trans (hυ.get z hz (by simp))
    · have := (hB.obj_lt o ho).1; omega
    · rw [AH.get_set_other _ _ _ _ (by omega)]; exact ωm
    · have := (hB.obj_lt o ho).1
      exact ⟨by omega, by omega⟩
end Go.Oct.Log
