/- Rank: the program's. -/
import Derived.Test.YtddkghgfbhhcdaaGreatDoorOLogRnkP
set_option maxRecDepth 100000
set_option maxHeartbeats 4000000
set_option linter.unusedVariables false
set_option linter.unusedSimpArgs false
namespace Go.Oct.Log.Ck
open Go.Oct
@[simp] theorem fzV_strs (k : Nat) (c : Nat → Option (List AV)) (b : ByteArray) : fzV (k + 1) c (.str b) = .str b := (rfl)
theorem SnapK.str (k : Nat) (σ : AH) (b : ByteArray) : SnapK (k + 1) σ (.str b) [] (.str b) := ⟨rfl, fun _ _ => rfl⟩
@[simp] theorem rank1_ok (n : Int) : ans prog O 33 [.int .i64 n] = some (.bool (!decide (inW n))) := by
  refine fn_of' pl get33 (oo (by decide)) rfl rfl ?_
  unfold inW
  simp (disch := omega) []
  by_cases h1 : -100000 ≤ n <;> by_cases h2 : n ≤ 100000 <;> simp [h1, h2]
theorem rank2_ok (o x : Ent) : ans prog O 35 [.agg [.str o.name, vs o.wn o.weeks], .vptr [.str x.name, vs x.wn x.weeks] 0] = some (.bool (decide (o.name = x.name))) := by
  refine fn_of' pl get35 (oo (by decide)) rfl rfl ?_
  simp (disch := omega) []
theorem rankC_ok (nl : Bool) (xs : List Ent) (x : Ent) (hx : xs.length < 2 ^ 62) :
    ans prog O 34 [vl eEnt nl xs, .func (.func 35) [] [.vptr [.str x.name, vs x.wn x.weeks] 0]] = some (.bool (decide (∃ j, j < xs.length ∧ (decide ((nth xs j).name = x.name)) = true))) :=
  ContainsFuncE_ok nl xs hx 35 [] [.vptr [.str x.name, vs x.wn x.weeks] 0] (by decide) rfl rfl rfl rfl (fun o => decide (o.name = x.name)) (fun j _ => rank2_ok (nth xs j) x)
theorem rankW_ok (nl : Bool) (xs : List Int) (hx : xs.length < 2 ^ 62) :
    ans prog O 32 [vs nl xs, .func (.func 33) [] []] = some (.bool (decide (∃ j, j < xs.length ∧ (!decide (inW (nth xs j))) = true))) :=
  ContainsFuncI_ok nl xs hx 33 [] [] (by decide) rfl rfl rfl rfl (fun n => !decide (inW n)) (fun j _ => rank1_ok (nth xs j))

theorem rankC_call {σ : AH} {nl : Bool} {xs : List Ent} {x : Ent} {i : Nat} {k : Kn (AV → AH → Prop)} {b : Bool} (hx : xs.length < 2 ^ 62) (hi : σ.get i = some (.cells [.str x.name, vs x.wn x.weeks])) (hb : b = false)
    (hk : k.k (.bool (decide (∃ j, j < xs.length ∧ (decide ((nth xs j).name = x.name)) = true))) σ) : @PcI prog O b 34 [vl eEnt nl xs, .func (.func 35) [] [.ptr (some (i, 0))]] σ k := by
  subst hb
  exact pc_scal (.cons (SnapK.snap (SnapK.vl _ _ _ _ _)) (.cons (SnapK.snap (SnapK.func .nil (.cons (SnapK.ptr hi (.cons (SnapK.str _ _ _) (.cons (SnapK.vl _ _ _ _ _) .nil))) .nil))) .nil)) (fun h => by simp at h) (by simp) (oo (args := []) (by decide)).1 (rankC_ok nl xs x hx) rfl hk
/-- What Rank tells. -/
noncomputable def rankV (l : List Ent) : List Int × List Int × Int := if okTri l then ((ordR l l.length).map (fun i : Nat => (i : Int)), nums l l.length, 0) else ([], [], 72)
theorem Rank_ok (nl : Bool) (l : List Ent) (hf : fits l) : ans prog O 13 [vl eEnt nl l] = some (.tuple [vs (rankV l).1.isEmpty (rankV l).1, vs (rankV l).2.1.isEmpty (rankV l).2.1, .int .i64 (rankV l).2.2]) := by
  have hx := hf.1
  refine fn_of' pl get13 (oo (by decide)) rfl rfl ?_
  simp (disch := omega) []
  refine lp_loop pl (fun k fr σ => ∃ j : Nat, j + k = l.length ∧ fr = ⟨[(0, vl eEnt nl l), (2, .vsl true []), (3, .vsl true []), (5, .bool (decide (triTo l j))), (16, vl eEnt nl l), (17, .int .i64 l.length), (18, .int .i64 j)], []⟩ ∧ σ.lim = 0) ⟨l.length, 0, by omega, by simp [triTo], rfl⟩ ?_
  rintro k _ σ ⟨j, hj, rfl, hl0⟩
  have hu := under_zero hl0
  by_cases hjl : j < l.length
  · have hw := hf.2 j hjl
    have hwc := rankW_ok (nth l j).wn (nth l j).weeks hw
    by_cases h : triTo l j
    · by_cases hH : okHd l j
      · obtain ⟨a1, ⟨a2, a3⟩, a4⟩ := id hH
        have a5 : 0 < l.length := by omega
        have a6 : (j : Int) ≤ l.length := by omega
        have b2 : 2 ≤ ((nth l 0).weeks.length : Int) := by omega
        have b3 : ((nth l 0).weeks.length : Int) ≤ 30 := by omega
        by_cases hW : okWk l j (nth l j).weeks.length
        · have hW' : ∀ (x : Nat), x < (nth l j).weeks.length → inW (nth (nth l j).weeks x) := hW
          have hW2 : ¬ ∃ j_1, j_1 < (nth l j).weeks.length ∧ ¬ inW (nth (nth l j).weeks j_1) := fun ⟨q, q1, q2⟩ => q2 (hW q q1)
          simp (disch := omega) [Und, h, hjl, hl0, hu, hwc, a1, a2, a3, a4, a5, a6, b2, b3, hW', hW2]
          refine rankC_call (x := nth l j) (by simp; omega) (by simp) rfl ?_
          simp (disch := omega) [Und, hl0, -Bool.exists_bool]
          refine ⟨k - 1, by omega, j + 1, by omega, ?_, by omega⟩
          rw [Bool.eq_iff_iff]
          simp only [decide_eq_true_eq, Bool.not_eq_true', decide_eq_false_iff_not, triTo_succ]
          refine ⟨fun ⟨q, q1, q2⟩ hc => hc.2.2.2 q q1 (by rw [nth_take q1 (by omega)] at q2; exact q2), fun hc => Decidable.byContradiction fun hq => hc ⟨h, hH, hW, fun q q1 q2 => hq ⟨q, q1, by rw [nth_take q1 (by omega)]; exact q2⟩⟩⟩
        · have hW2 : ∃ j_1, j_1 < (nth l j).weeks.length ∧ ¬ inW (nth (nth l j).weeks j_1) := Decidable.byContradiction fun hc => hW fun q q1 => Decidable.byContradiction fun q2 => hc ⟨q, q1, q2⟩
          have hW' : ¬ ∀ (x : Nat), x < (nth l j).weeks.length → inW (nth (nth l j).weeks x) := hW
          simp (disch := omega) [Und, h, hjl, hl0, hu, hwc, a1, a2, a3, a4, a5, a6, hW', hW2]
          exact ⟨k - 1, by omega, j + 1, by omega, fun h2 => hW (triTo_succ.1 h2).2.2.1, by omega⟩
      · have hH' : ¬ ((nameOK (nth l j).name ∧ 2 ≤ ((nth l j).weeks.length : Int) ∧ ((nth l j).weeks.length : Int) ≤ 30) ∧ ((nth l j).weeks.length : Int) = (nth l 0).weeks.length) := fun hc => hH ⟨hc.1.1, hc.1.2, hc.2⟩
        simp (disch := omega) [Und, h, hjl, hl0, hu, hwc, hH']
        exact ⟨fun _ _ _ => by omega, k - 1, by omega, j + 1, by omega, fun h2 => hH (triTo_succ.1 h2).2.1, by omega⟩
    · simp (disch := omega) [Und, h, hjl, hl0, hu]
      exact ⟨k - 1, by omega, j + 1, by omega, fun h2 => h (triTo_succ.1 h2).1, by omega⟩
  · obtain rfl : j = l.length := by omega
    by_cases hb : okTri l
    · have hv : rankV l = ((ordR l l.length).map (fun i : Nat => (i : Int)), nums l l.length, 0) := by unfold rankV; rw [if_pos hb]
      rw [hv]
      have hll := hb.1
      simp (disch := omega) [Und, hjl, hb, -Bool.exists_bool]
      refine lp_loop pl (fun k fr σ => ∃ (j : Nat) (v w : AV), j + k = l.length ∧ fr = ⟨[(2, .vsl true []), (3, w), (8, v), (65, vl eEnt nl l), (66, .int .i64 l.length), (67, .int .i64 j)], []⟩ ∧ σ.lim = 0 ∧ Buf 0 4 eEn σ v (enL l j) ∧ Buf 0 1 (AV.int .i64) σ w (nums l j) ∧ ∀ i ∈ obj v, i ∉ obj w)
        ⟨l.length, 0, .vsl true [], .vsl true [], by omega, rfl, hl0, Buf.nil, Buf.nil, by simp [obj]⟩ ?_
      rintro k _ σ ⟨j, v, w, hj, rfl, hl0, hv, hw, hvw⟩
      have hu := under_zero hl0
      by_cases hjl : j < l.length
      · have hno := number_ok (nth l j).wn (nth l j).weeks (tri_weeks hb hjl)
        simp (disch := omega) [Und, hjl, hl0, hu, hno, -Bool.exists_bool]
        generalize hτ : AH.under _ 0 = τ
        have τl : τ.lim = 0 := by rw [← hτ]; rfl
        have τn : τ.next = σ.next + 1 := by rw [← hτ]; rfl
        have τg : ∀ i, i < σ.next → τ.get i = σ.get i := fun i h1 => by rw [← hτ, AH.under_get, AH.get_set_other _ _ _ _ (by omega), AH.get_push_old _ _ _ (by omega)]
        rw [← τn]
        have el := enL_len l j
        have nl' := nums_len l j
        refine (hv.keep (σ' := τ) fun i _ h2 => τg i h2).push encEn (by omega) (by omega) (enAt l j) (by rw [el]; simp only [topBytes]; omega) rfl fun v' σ1 h1 h2 => ?_
        rw [← enL_succ] at h1
        have hw1 : Buf 0 1 (AV.int .i64) σ1 w (nums l j) := (hw.keep (σ' := τ) fun i _ h2 => τg i h2).stay h2.only fun i hi hj => hvw i hj hi
        have hlim := h2.lim
        have hnext := h2.next
        have hfr := h2.fresh
        have el1 := enL_len l (j + 1)
        rcases h1 with ⟨_, e0⟩ | ⟨i, rfl, _, hg, hne⟩
        · rw [e0] at el1; simp at el1
        have hrl := rowOf_length encEn (enL l (j + 1))
        have hcell := row_cell encEn (xs := enL l (j + 1)) (j := j) (c := 3) (by omega) (by omega)
        have hlast : nth (enL l (j + 1)) j = enAt l j := by rw [enL_succ, nth_append_right (by omega) (by simp only [List.length_singleton]; omega), el, Nat.sub_self]; rfl
        rw [hlast, show (eEn (enAt l j)).cells[3]? = some (.int .i64 (numV (nth l j).weeks)) from rfl] at hcell
        have hl1 : σ1.lim = 0 := by omega
        simp (disch := omega) [hl1, el1, hg, hrl, hcell, -Bool.exists_bool, -getElem?_pos]
        refine ⟨by omega, by omega, ?_⟩
        refine hw1.push encI (by omega) (by omega) (numV (nth l j).weeks) (by rw [nl']; simp only [topBytes]; omega) rfl fun w' σ2 h3 h4 => ?_
        rw [← nums_succ] at h3
        have hlim2 := h4.lim
        have hiw : i ∉ obj w := fun hc => by
          have hwl := (hw.obj_lt i hc).2
          rcases hfr i (List.mem_singleton.2 rfl) with h5 | h5
          · exact hvw i h5 hc
          · omega
        simp (disch := omega) [-Bool.exists_bool]
        refine ⟨k - 1, by omega, j + 1, by omega, .slice (some (i, 0)) (j + 1) (.op 4), w', ⟨rfl, rfl, by omega⟩, by omega, ?_, h3, ?_⟩
        · exact .inr ⟨i, by rw [el1], Nat.zero_le _, by rw [h4.only.get i (AH.get_lt hg) hiw]; exact hg, hne⟩
        · intro q hq hq2
          obtain rfl : q = i := by simpa [obj] using hq
          rcases h4.fresh q hq2 with h5 | h5
          · exact hiw h5
          · have := AH.get_lt hg; omega
      · obtain rfl : j = l.length := by omega
        simp (disch := omega) [Und, hjl, -Bool.exists_bool]
        have el := enL_len l l.length
        have nl' := nums_len l l.length
        rcases hv with ⟨_, e0⟩ | ⟨i, rfl, _, hg, hne⟩
        · rw [e0] at el; simp at el; omega
        rw [el]
        refine SortFunc_ok (by omega) hg el (by omega) fun ys σ1 hS hT => ?_
        have hys := sorted_ord hb hS.perm hT
        have hyl : ys.length = l.length := by rw [hS.perm.length_eq, el]
        have hw1 : Buf 0 1 (AV.int .i64) σ1 w (nums l l.length) := hw.stay (S := [i]) ⟨hS.lim, Nat.le_of_eq hS.next.symm, fun q _ h2 => hS.get q fun e => h2 (by rw [e]; exact List.mem_singleton.2 rfl)⟩ fun q h1 h2 => hvw i (List.mem_singleton.2 rfl) (by rw [← List.mem_singleton.1 h2]; exact h1)
        have hl1 : σ1.lim = 0 := by have := hS.lim; omega
        simp (disch := omega) [Und, hl1, -Bool.exists_bool]
        refine lp_loop pl (fun k fr σ => ∃ (j : Nat) (u : AV), j + k = l.length ∧ fr = ⟨[(2, u), (3, w), (92, .slice (some (i, 0)) l.length (.op 4)), (93, .int .i64 l.length), (94, .int .i64 j)], []⟩ ∧ σ.lim = 0 ∧ σ.get i = some (.cells (rowOf eEn ys)) ∧ Buf 0 1 (AV.int .i64) σ w (nums l l.length) ∧ Buf 0 1 (AV.int .i64) σ u ((ys.take j).map En.idx) ∧ (∀ q ∈ obj u, q ∉ obj w ∧ q ≠ i))
          ⟨l.length, 0, .vsl true [], by omega, rfl, hl1, hS.row, hw1, Buf.nil, by simp [obj]⟩ ?_
        rintro k _ σ ⟨j, u, hj, rfl, hl0, hgi, hw, hu, huw⟩
        by_cases hjl : j < l.length
        · have hrl := rowOf_length encEn ys
          have hr := row_at encEn (xs := ys) (j := j) (by omega)
          simp (disch := omega) [Und, hjl, hl0, hgi, hrl, hr, hyl, eEn, -Bool.exists_bool]
          refine ⟨by omega, ?_⟩
          generalize hτ : AH.set (σ.push _) _ _ = τ
          have τl : τ.lim = 0 := by rw [← hτ]; exact hl0
          have τn : τ.next = σ.next + 1 := by rw [← hτ]; rfl
          have τg : ∀ i, i < σ.next → τ.get i = σ.get i := fun i h1 => by rw [← hτ, AH.get_set_other _ _ _ _ (by omega), AH.get_push_old _ _ _ (by omega)]
          rw [← τn]
          have tl : ((ys.take j).map En.idx).length = j := by simp; omega
          refine (hu.keep (σ' := τ) fun i _ h2 => τg i h2).push encI (by omega) (by omega) (nth ys j).idx (by rw [tl]; simp only [topBytes]; omega) rfl fun u' σ2 h1 h2 => ?_
          have hlim := h2.lim
          have hgl := AH.get_lt hgi
          simp (disch := omega) [-Bool.exists_bool]
          refine ⟨k - 1, by omega, j + 1, by omega, u', ⟨rfl, by omega⟩, by omega, ?_, ?_, ?_, ?_⟩
          · rw [h2.only.get i (by omega) fun hc => (huw i hc).2 rfl, τg i hgl]; exact hgi
          · exact (hw.keep (σ' := τ) fun i _ h2 => τg i h2).stay h2.only fun q h3 h4 => (huw q h4).1 h3
          · rw [take_succ_nth (by rw [List.length_map]; omega), nth_map _ (by omega), ← List.map_take]; exact h1
          · intro q hq
            rcases h2.fresh q hq with h5 | h5
            · exact huw q h5
            · exact ⟨fun hc => by have := (hw.obj_lt q hc).2; omega, by omega⟩
        · obtain rfl : j = l.length := by omega
          simp (disch := omega) [Und, hjl, hl0, -Bool.exists_bool]
          rw [hu.fzI, hw.fzI, take_all (by omega), hys, List.map_map]
          have e1 : List.map (En.idx ∘ enAt l) (ordR l l.length) = List.map (fun i : Nat => (i : Int)) (ordR l l.length) := rfl
          rw [e1]
          have e2 : (List.map (fun i : Nat => (i : Int)) (ordR l l.length)).isEmpty = (ordR l l.length).isEmpty := by cases ordR l l.length <;> rfl
          rw [e2]
          exact ⟨rfl, rfl⟩
    · have hv : rankV l = ([], [], 72) := by unfold rankV; rw [if_neg hb]
      rw [hv]
      simp (disch := omega) [Und, hjl, hb]
      rfl
end Go.Oct.Log.Ck
