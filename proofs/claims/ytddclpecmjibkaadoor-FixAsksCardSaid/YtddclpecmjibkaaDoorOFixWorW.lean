/- FixBest: how many points a sight leaves at most, as the program counts it. -/
import Derived.Test.YtddclpecmjibkaaDoorOFixWorP
import Derived.Test.YtddclpecmjibkaaDoorOFixMapI
set_option maxRecDepth 100000
set_option maxHeartbeats 8000000
set_option linter.unusedVariables false
set_option linter.unusedSimpArgs false
namespace Go.Oct.Fix
open Go.Oct
/-- A sight that can be taken. -/
structure Ask where
  a : Int
  b : Int
  w : Int
instance : Inhabited Ask := ⟨⟨0, 0, 0⟩⟩
def eAsk (x : Ask) : AV := .agg [.int .i64 x.a, .int .i64 x.b, .int .i64 x.w]
def okAsk (x : Ask) : Prop := okLine x.a x.b ∧ 0 ≤ x.w ∧ x.w ≤ 1000
/-- Its value at a point. -/
def valA (x : Ask) (q : Span) : Int := x.a * q.lo + x.b * q.hi
theorem greatest_ok (nl : Bool) (l : List Int) (hl : l.length < 2 ^ 62) : ans prog O 101 [vs nl l] = some (.int .i64 (l.foldl max 0)) := by
  refine fn_of' pl get101 (oo (by decide)) rfl rfl ?_
  simp (disch := omega) [-Bool.exists_bool]
  refine lp_loop pl (fun k fr σ => ∃ i : Nat, i + k = l.length ∧ fr = ⟨[(2, .int .i64 ((l.take i).foldl max 0)), (5, vs nl l), (6, .int .i64 l.length), (7, .int .i64 i)], []⟩ ∧ σ = ⟨0, 0, .leaf⟩)
    ⟨l.length, 0, by omega, rfl, rfl⟩ ?_
  rintro k _ _ ⟨i, hi, rfl, rfl⟩
  by_cases hil : i < l.length
  · have hil' : (i : Int) < l.length := by omega
    simp (disch := omega) [Und, hil', -Bool.exists_bool]
    refine ⟨k - 1, by omega, i + 1, by omega, ?_⟩
    rw [take_succ_nth hil, List.foldl_append]
    exact ⟨rfl, rfl⟩
  · obtain rfl : i = l.length := by omega
    simp (disch := omega) [Und, -Bool.exists_bool]
theorem val_bd {x : Ask} (hx : okAsk x) {q : Span} (hq : inSea q) : (-1180 ≤ x.a * q.lo ∧ x.a * q.lo ≤ 1180) ∧ -1180 ≤ x.b * q.hi ∧ x.b * q.hi ≤ 1180 := by
  obtain ⟨hl, _⟩ := hx
  unfold okLine at hl
  obtain ⟨⟨q1, q2⟩, q3, q4⟩ := hq
  have h1 : x.a * q.lo ≤ 20 * q.lo := Int.mul_le_mul_of_nonneg_right hl.1.2 q1
  have h2 : -20 * q.lo ≤ x.a * q.lo := Int.mul_le_mul_of_nonneg_right hl.1.1 q1
  have h3 : x.b * q.hi ≤ 20 * q.hi := Int.mul_le_mul_of_nonneg_right hl.2.1.2 q3
  have h4 : -20 * q.hi ≤ x.b * q.hi := Int.mul_le_mul_of_nonneg_right hl.2.1.1 q3
  omega
/-- The values at the first points. -/
abbrev vals (x : Ask) (f : Nat → Bool) (n : Nat) : List Int := (ptsTo f n).map (valA x)
theorem vals_succ (x : Ask) (f : Nat → Bool) (n : Nat) : vals x f (n + 1) = vals x f n ++ if f n = true then [valA x (pt n)] else [] := by
  unfold vals
  rw [ptsTo_succ, List.map_append]
  split <;> rfl
theorem foldl_min_le : ∀ (V : List Int) (a : Int), V.foldl min a ≤ a ∧ ∀ v ∈ V, V.foldl min a ≤ v
  | [], a => ⟨Int.le_refl _, fun v h => by cases h⟩
  | x :: V, a => by
    obtain ⟨h1, h2⟩ := foldl_min_le V (min a x)
    rw [List.foldl_cons]
    refine ⟨by omega, fun v hv => ?_⟩
    rcases List.mem_cons.1 hv with rfl | hv
    · omega
    · exact h2 v hv
theorem foldl_max_ge : ∀ (V : List Int) (a : Int), a ≤ V.foldl max a ∧ ∀ v ∈ V, v ≤ V.foldl max a
  | [], a => ⟨Int.le_refl _, fun v h => by cases h⟩
  | x :: V, a => by
    obtain ⟨h1, h2⟩ := foldl_max_ge V (max a x)
    rw [List.foldl_cons]
    refine ⟨by omega, fun v hv => ?_⟩
    rcases List.mem_cons.1 hv with rfl | hv
    · omega
    · exact h2 v hv
theorem foldl_bd {V : List Int} (h : ∀ v ∈ V, -2360 ≤ v ∧ v ≤ 2360) : (-2360 ≤ V.foldl min 0 ∧ V.foldl min 0 ≤ 0) ∧ 0 ≤ V.foldl max 0 ∧ V.foldl max 0 ≤ 2360 := by
  have key1 : ∀ (V : List Int) (a : Int), (∀ v ∈ V, -2360 ≤ v ∧ v ≤ 2360) → -2360 ≤ a → -2360 ≤ V.foldl min a := by
    intro V
    induction V with
    | nil => intro a _ h; exact h
    | cons x V ih =>
      intro a h1 h2
      have := h1 x (List.mem_cons_self ..)
      exact ih _ (fun v hv => h1 v (List.mem_cons_of_mem _ hv)) (by omega)
  have key2 : ∀ (V : List Int) (a : Int), (∀ v ∈ V, -2360 ≤ v ∧ v ≤ 2360) → a ≤ 2360 → V.foldl max a ≤ 2360 := by
    intro V
    induction V with
    | nil => intro a _ h; exact h
    | cons x V ih =>
      intro a h1 h2
      have := h1 x (List.mem_cons_self ..)
      exact ih _ (fun v hv => h1 v (List.mem_cons_of_mem _ hv)) (by omega)
  exact ⟨⟨key1 V 0 h (by decide), (foldl_min_le V 0).1⟩, (foldl_max_ge V 0).1, key2 V 0 h (by decide)⟩
theorem foldl_max_mem : ∀ (V : List Int) (a : Int), V.foldl max a = a ∨ V.foldl max a ∈ V
  | [], a => .inl rfl
  | x :: V, a => by
    rw [List.foldl_cons]
    rcases foldl_max_mem V (max a x) with h | h
    · by_cases h2 : x ≤ a
      · left; omega
      · right
        rw [h, show max a x = x by omega]; exact List.mem_cons_self ..
    · exact .inr (List.mem_cons_of_mem _ h)
/-- The greatest of all windows. -/
theorem fold_most {V : List Int} {w2 lo : Int} {tot : Nat} (hw : 0 ≤ w2) (h0 : 0 < tot) (hlo : ∀ v ∈ V, lo ≤ v ∧ v + w2 ≤ lo + ((tot - 1 : Nat) : Int)) : ((List.range tot).map fun j : Nat => (cntW V (lo + j - w2) (lo + j) : Int)).foldl max 0 = (mostW V w2 V : Int) := by
  obtain ⟨L, hL⟩ : ∃ L, L = (List.range tot).map fun j : Nat => (cntW V (lo + j - w2) (lo + j) : Int) := ⟨_, rfl⟩
  rw [← hL]
  have h1 := foldl_max_ge L 0
  have h2 := foldl_max_mem L 0
  have hmem : ∀ y, y ∈ L ↔ ∃ j : Nat, j < tot ∧ (cntW V (lo + j - w2) (lo + j) : Int) = y := fun y => by
    rw [hL, List.mem_map]
    constructor
    · rintro ⟨j, a, b⟩; exact ⟨j, List.mem_range.1 a, b⟩
    · rintro ⟨j, a, b⟩; exact ⟨j, List.mem_range.2 a, b⟩
  obtain ⟨M, hM⟩ : ∃ M : Nat, L.foldl max 0 = M := ⟨(L.foldl max 0).toNat, by omega⟩
  rw [hM] at h1 h2 ⊢
  refine congrArg Int.ofNat (most_of (V := V) (d := w2) (n := tot - 1) (lo := lo) (M := M) hw hlo (fun i hi => ?_) ?_)
  · have := h1.2 _ ((hmem _).2 ⟨i, by omega, rfl⟩)
    omega
  · rcases h2 with h | h
    · exact .inl (by omega)
    · obtain ⟨j, a, b⟩ := (hmem _).1 h
      exact .inr ⟨j, by omega, by omega⟩
theorem vals_bd {x : Ask} (hx : okAsk x) (f : Nat → Bool) (n : Nat) (hn : n ≤ 3600) : ∀ v ∈ vals x f n, -2360 ≤ v ∧ v ≤ 2360 := by
  intro v hv
  obtain ⟨q, h1, rfl⟩ := List.mem_map.1 hv
  unfold ptsTo at h1
  obtain ⟨m, h2, rfl⟩ := List.mem_map.1 h1
  have h3 := List.mem_range.1 (List.mem_filter.1 h2).1
  have := val_bd hx (pt_sea (show m < 3600 by omega))
  unfold valA
  omega
theorem cnt1_app (V W : List Int) (y : Int) : cnt1 (V ++ W) y = cnt1 V y + cnt1 W y := by
  unfold cnt1
  rw [List.filter_append, List.length_append]
/-- A round over the points. -/
structure RgW (T : AH) (env : Env) (r : Nat) (x : Ask) (f : Nat → Bool) (n : Nat) (σ : AH) : Prop where
  lim : σ.lim = 0
  nx : T.next + 2 ≤ σ.next
  low : ∀ k, k < T.next → k ≠ r + 1 → k ≠ r + 3 → k ≠ r + 4 → σ.get k = T.get k
  mark : σ.get T.next = some .dfr
  loop : σ.get (T.next + 1) = some (.loop 80 0 env .ready none T.next)
  mp : ∃ es c, σ.get (r + 1) = some (.map (es.map ent) c) ∧ ∀ y, mgi es y = .int .i64 (cnt1 (vals x f n) y)
  lo : σ.get (r + 3) = some (.cells [.int .i64 ((vals x f n).foldl min 0)])
  hi : σ.get (r + 4) = some (.cells [.int .i64 ((vals x f n).foldl max 0)])
theorem worst_call (f : Nat → Bool) (x : Ask) (hx : okAsk x) {σ : AH} {K : AV → AH → Prop} (h0 : σ.lim = 0)
    (hK : ∀ σ', Only [] σ σ' → K (.int .i64 (mostW ((ptsL f).map (valA x)) (2 * x.w) ((ptsL f).map (valA x)))) σ') :
    Call prog O (.fn 80) [eSea f, eAsk x] σ K := by
  refine @call_of' _ _ pl _ _ _ _ _ _ _ ⟨K⟩ get80 ((oo (by decide)).2 _) rfl ?_
  have hx2 := hx.2
  simp (disch := omega) [eSea, eAsk, h0, Und, eqf1, eqf2, ltT, -Bool.exists_bool]
  generalize hT : AH.set (AH.set _ _ _) (σ.next + 1 + 1 + 1 + 1) _ = T
  have t0 : T.lim = 0 := by rw [← hT]; exact h0
  have tn : T.next = σ.next + 5 := by rw [← hT]; rfl
  have tg : ∀ z, z < σ.next → T.get z = σ.get z := fun z hz => by rw [← hT]; simp (disch := omega) [eqf1, eqf2]
  have ta : T.get σ.next = some (.cells [.int .i64 x.a, .int .i64 x.b, .int .i64 x.w]) := by rw [← hT]; simp (disch := omega) [eqf1, eqf2, ltT]
  have tm : T.get (σ.next + 1) = some (.map [] 0) := by rw [← hT]; simp (disch := omega) [eqf1, eqf2, ltT]
  have tc : T.get (σ.next + 2) = some (.cells [.map (some (σ.next + 1))]) := by rw [← hT]; simp (disch := omega) [eqf1, eqf2, ltT]
  have tl : T.get (σ.next + 3) = some (.cells [.int .i64 0]) := by rw [← hT]; simp (disch := omega) [eqf1, eqf2, ltT]
  have th : T.get (σ.next + 4) = some (.cells [.int .i64 0]) := by rw [← hT]; simp (disch := omega) [eqf1, eqf2, ltT]
  clear hT
  refine rg_of (h := 72) (xs := [.vptr (seaC f) 0]) (ys := []) rfl ?_
  show Call prog O (.fn 72) [.vptr (seaC f) 0, .func (.yield (T.next + 1)) [] []] _ _
  generalize henv : (List.cons _ _ : Env) = env
  refine points_ok (f := f) (lm := 0) (I := fun n s => RgW T env σ.next x f n s) (J := fun _ => False) (fun n s hI hn => ?_) (fun n s hI => hI.lim) (fun n s hI hn hf => ?_) (fun n s hI hn hf => ?_) ?_ (fun s hI => ?_) (fun s hj => hj.elim)
  · exact .inl ⟨seaC f, rfl, seaC_len f, seaC_get hn⟩
  · have e : vals x f (n + 1) = vals x f n := by rw [vals_succ, if_neg (by rw [hf]; decide), List.append_nil]
    obtain ⟨y0, y1, y2, y3, y4, y5, y6, y7⟩ := hI
    exact ⟨y0, y1, y2, y3, y4, by rw [e]; exact y5, by rw [e]; exact y6, by rw [e]; exact y7⟩
  · have e : vals x f (n + 1) = vals x f n ++ [valA x (pt n)] := by rw [vals_succ, if_pos hf]
    obtain ⟨y0, y1, y2, y3, y4, ⟨es, c, y5, y5'⟩, y6, y7⟩ := hI
    obtain ⟨vb1, vb2⟩ := val_bd hx (pt_sea hn)
    have hvb := foldl_bd (vals_bd hx f n (by omega))
    have hcb := cnt1_le (vals x f n) (valA x (pt n))
    have hvl : (vals x f n).length ≤ 3600 := by unfold vals; rw [List.length_map]; have := ptsTo_len f n; omega
    have hpl : (pt n).lo = ((n / 60 : Nat) : Int) := pt_lo n
    have hph : (pt n).hi = ((n % 60 : Nat) : Int) := pt_hi n
    rw [← hpl, ← hph]
    refine yield_of' pl y4 get80 rfl rfl (by omega) rfl ?_
    subst henv
    simp (disch := omega) [y0, Und, -Bool.exists_bool]
    generalize hv1 : AH.set (s.push _) s.next _ = v1
    have a0 : v1.lim = 0 := by rw [← hv1]; exact y0
    have an : v1.next = s.next + 1 := by rw [← hv1]; rfl
    have ag : ∀ k, k < s.next → v1.get k = s.get k := fun k hk => by rw [← hv1, AH.get_set_other _ _ _ _ (by omega), AH.get_push_old _ _ _ (by omega)]
    have ax : v1.get s.next = some (.cells [.int .i64 (pt n).lo, .int .i64 (pt n).hi]) := by rw [← hv1, AH.get_set_same _ _ _ (Nat.lt_succ_self _)]
    clear hv1
    have a4 : v1.get (T.next + 1) = _ := (ag _ (by omega)).trans y4
    rw [ak_of a4]
    have ra := AH.get_lt a4
    generalize hob2 : AObj.loop _ _ _ LoopState.busy none T.next = ob2
    generalize hv2 : v1.set (T.next + 1) ob2 = v2
    have c0 : v2.lim = 0 := by rw [← hv2]; exact a0
    have cn : v2.next = v1.next := by rw [← hv2]; rfl
    have cg : ∀ k, k ≠ T.next + 1 → v2.get k = v1.get k := fun k hk => by rw [← hv2, AH.get_set_other _ _ _ _ hk]
    have c3 : v2.get (T.next + 1) = some ob2 := by rw [← hv2, AH.get_set_same _ _ _ ra]
    clear hv2
    have cl : ∀ z, z < s.next → z ≠ T.next + 1 → v2.get z = s.get z := fun z h1 h2 => (cg z h2).trans (ag z h1)
    have ca : v2.get σ.next = _ := (cl _ (by omega) (by omega)).trans ((y2 _ (by omega) (by omega) (by omega) (by omega)).trans ta)
    have cm : v2.get (σ.next + 1) = _ := (cl _ (by omega) (by omega)).trans y5
    have cc : v2.get (σ.next + 2) = _ := (cl _ (by omega) (by omega)).trans ((y2 _ (by omega) (by omega) (by omega) (by omega)).trans tc)
    have clo : v2.get (σ.next + 3) = _ := (cl _ (by omega) (by omega)).trans y6
    have chi : v2.get (σ.next + 4) = _ := (cl _ (by omega) (by omega)).trans y7
    have cx : v2.get s.next = _ := (cg _ (by omega)).trans ax
    rw [← hob2] at c3
    have lca := AH.get_lt ca
    have lcm := AH.get_lt cm
    have lcc := AH.get_lt cc
    have lclo := AH.get_lt clo
    have lchi := AH.get_lt chi
    have lcx := AH.get_lt cx
    obtain ⟨V, hV⟩ : ∃ V, x.a * (pt n).lo + x.b * (pt n).hi = V := ⟨_, rfl⟩
    have hk1 := lookI_I (σ := v2) V cm
    rw [y5'] at hk1
    have hcb2 : cnt1 (vals x f n) V ≤ 3600 := by have := cnt1_le (vals x f n) V; omega
    obtain ⟨es2, c2, hu, he⟩ := updI_I (σ := v2) V (.int .i64 ((cnt1 (vals x f n) V : Int) + 1)) (by omega) cm
    simp (disch := omega) [Und, eqf1, eqf2, c0, ca, cm, cc, clo, chi, cx, lca, lcm, lcc, lclo, lchi, lcx, hV, ahop_lookup, ahop_mapUpd, hk1, hu, -Bool.exists_bool, -getElem?_pos]
    generalize hW : AH.set (AH.set _ _ _) (σ.next + 1 + 1 + 1 + 1) _ = W
    have w0 : W.lim = 0 := by rw [← hW]; exact c0
    have wn : W.next = v2.next := by rw [← hW]; rfl
    have wg : ∀ z, z ≠ σ.next + 1 → z ≠ σ.next + 3 → z ≠ σ.next + 4 → W.get z = v2.get z := fun z h1 h2 h3 => by
      have e1 : ¬ z = σ.next + 1 + 1 + 1 := by omega
      have e2 : ¬ z = σ.next + 1 + 1 + 1 + 1 := by omega
      rw [← hW]; simp [h1, e1, e2]
    have w1 : W.get (σ.next + 1) = some (.map (es2.map ent) c2) := by rw [← hW]; simp (disch := omega) [eqf1, eqf2, lcm]
    have w3 : W.get (σ.next + 3) = some (.cells [.int .i64 (min ((vals x f n).foldl min 0) V)]) := by rw [← hW]; simp (disch := omega) [eqf1, eqf2, lclo]
    have w4 : W.get (σ.next + 4) = some (.cells [.int .i64 (max ((vals x f n).foldl max 0) V)]) := by rw [← hW]; simp (disch := omega) [eqf1, eqf2, lchi]
    clear hW
    have hval : valA x (pt n) = V := hV
    refine bd_normal ((wg _ (by omega) (by omega) (by omega)).trans c3) ⟨rfl, w0, by show _ ≤ W.next; omega, fun k h1 h2 h3 h4 => ?_, ?_, ?_, ⟨es2, c2, (AH.get_set_other _ _ _ _ (by omega)).trans w1, fun y => ?_⟩, ?_, ?_⟩
    · rw [AH.get_set_other _ _ _ _ (by omega), wg k h2 h3 h4, cl k (by omega) (by omega), y2 k h1 h2 h3 h4]
    · rw [AH.get_set_other _ _ _ _ (by omega), wg _ (by omega) (by omega) (by omega), cl _ (by omega) (by omega), y3]
    · exact AH.get_set_same _ _ _ (by omega)
    · rw [he, y5', e, cnt1_app, hval]
      by_cases e1 : V = y
      · rw [if_pos e1, e1]
        have : cnt1 [y] y = 1 := by unfold cnt1; simp
        rw [this]; rfl
      · rw [if_neg e1]
        have : cnt1 [V] y = 0 := by unfold cnt1; simp [e1]
        rw [this, Nat.add_zero]
    · rw [AH.get_set_other _ _ _ _ (by omega), w3, e, hval, List.foldl_append]; rfl
    · rw [AH.get_set_other _ _ _ _ (by omega), w4, e, hval, List.foldl_append]; rfl
  · refine ⟨t0, Nat.le_refl _, fun k h1 _ _ _ => ?_, ?_, AH.get_push_new _ _, ⟨[], 0, ?_, fun y => rfl⟩, ?_, ?_⟩
    · rw [AH.get_push_old _ _ _ (by show k ≠ T.next + 1; omega), AH.get_push_old _ _ _ (by omega)]
    · rw [AH.get_push_old _ _ _ (by show T.next ≠ T.next + 1; omega), AH.get_push_new]
    · rw [AH.get_push_old _ _ _ (by show σ.next + 1 ≠ T.next + 1; omega), AH.get_push_old _ _ _ (by omega)]; exact tm
    · rw [AH.get_push_old _ _ _ (by show σ.next + 3 ≠ T.next + 1; omega), AH.get_push_old _ _ _ (by omega)]; exact tl
    · rw [AH.get_push_old _ _ _ (by show σ.next + 4 ≠ T.next + 1; omega), AH.get_push_old _ _ _ (by omega)]; exact th
  · obtain ⟨y0, y1, y2, y3, y4, ⟨es, c, y5, y5'⟩, y6, y7⟩ := hI
    refine ⟨_, _, _, .ready, none, T.next, y4, by simp, by rw [y0]; omega, ?_⟩
    subst henv
    obtain ⟨V, hV⟩ : ∃ V, V = vals x f 3600 := ⟨_, rfl⟩
    have hVm : V = (ptsL f).map (valA x) := hV
    have hvl : V.length ≤ 3600 := by rw [hVm, List.length_map]; exact ptsTo_len f 3600
    have hvb := foldl_bd (vals_bd hx f 3600 (Nat.le_refl _))
    have hlo2 := (foldl_min_le (vals x f 3600) 0).2
    have hhi2 := (foldl_max_ge (vals x f 3600) 0).2
    rw [← hV] at hvb hlo2 hhi2 y6 y7
    obtain ⟨lo, hlo⟩ : ∃ lo, V.foldl min 0 = lo := ⟨_, rfl⟩
    obtain ⟨hi, hhi⟩ : ∃ hi, V.foldl max 0 = hi := ⟨_, rfl⟩
    rw [hlo] at hvb hlo2 y6
    rw [hhi] at hvb hhi2 y7
    generalize hW : s.set (T.next + 1) _ = W
    have w0 : W.lim = 0 := by rw [← hW]; exact y0
    have wn : W.next = s.next := by rw [← hW]; rfl
    have wg : ∀ z, z ≠ T.next + 1 → W.get z = s.get z := fun z h1 => by rw [← hW, AH.get_set_other _ _ _ _ h1]
    clear hW
    have wa : W.get σ.next = _ := (wg _ (by omega)).trans ((y2 _ (by omega) (by omega) (by omega) (by omega)).trans ta)
    have wm : W.get (σ.next + 1) = _ := (wg _ (by omega)).trans y5
    have wc : W.get (σ.next + 2) = _ := (wg _ (by omega)).trans ((y2 _ (by omega) (by omega) (by omega) (by omega)).trans tc)
    have wl : W.get (σ.next + 3) = _ := (wg _ (by omega)).trans y6
    have wh : W.get (σ.next + 4) = _ := (wg _ (by omega)).trans y7
    have wk : W.get T.next = _ := (wg _ (by omega)).trans y3
    have wlow : ∀ z, z < σ.next → W.get z = σ.get z := fun z hz => (wg z (by omega)).trans ((y2 z (by omega) (by omega) (by omega) (by omega)).trans (tg z hz))
    have lwl := AH.get_lt wl
    simp (disch := omega) [Und, eqf1, eqf2, w0, wl, lwl, -Bool.exists_bool, -getElem?_pos]
    obtain ⟨w2, hw2⟩ : ∃ w2, 2 * x.w = w2 := ⟨_, rfl⟩
    have hw2b : 0 ≤ w2 ∧ w2 ≤ 2000 := by omega
    obtain ⟨tot, htot⟩ : ∃ tot : Nat, hi + w2 - lo + 1 = tot := ⟨(hi + w2 - lo + 1).toNat, by omega⟩
    refine lp_loop pl (fun k fr υ => ∃ (i : Nat) (v : AV), i + k = tot ∧ fr = ⟨[(3, .ptr (some (σ.next, 0))), (5, .ptr (some (σ.next + 1 + 1, 0))), (7, .ptr (some (σ.next + 1 + 1 + 1 + 1, 0))), (10, v), (11, .int .i64 (cntW V (lo + i - 1 - w2) (lo + i - 1))), (12, .int .i64 (lo + i))], [T.next]⟩ ∧ υ.lim = 0 ∧ W.next ≤ υ.next ∧ (∀ z, z < W.next → υ.get z = W.get z) ∧ Buf W.next 1 (AV.int .i64) υ v ((List.range i).map fun j : Nat => (cntW V (lo + j - w2) (lo + j) : Int)))
      ⟨tot, 0, .vsl true [], by omega, by
        rw [cntW_zero (fun v hv h => by have := hlo2 v hv; omega)]
        simp, w0, Nat.le_refl _, fun z _ => rfl, Buf.nil⟩ ?_
    rintro k _ υ ⟨i, v, hik, rfl, u0, un, ug, ub⟩
    have ua := (ug _ (by omega)).trans wa
    have um := (ug _ (by omega)).trans wm
    have uc := (ug _ (by omega)).trans wc
    have uh := (ug _ (by omega)).trans wh
    have uk := (ug _ (by omega)).trans wk
    have lua := AH.get_lt ua
    have luc := AH.get_lt uc
    have luh := AH.get_lt uh
    have luk := AH.get_lt uk
    by_cases hit : i < tot
    · have hit' : lo + (i : Int) ≤ hi + w2 := by omega
      have hk1 := lookI_I (σ := υ) (lo + i) um
      have hk2 := lookI_I (σ := υ) (lo + i - w2 - 1) um
      rw [y5', ← hV] at hk1 hk2
      have hst := cntW_step V (lo + i) w2 hw2b.1
      have b1 := cntW_le V (lo + i - w2) (lo + i)
      have b2 := cntW_le V (lo + i - 1 - w2) (lo + i - 1)
      have b3 := cnt1_le V (lo + i)
      have b4 := cnt1_le V (lo + i - w2 - 1)
      simp (disch := omega) [Und, eqf1, eqf2, u0, ua, uc, uh, lua, luc, luh, hw2, hit', ahop_lookup, hk1, hk2, -Bool.exists_bool, -getElem?_pos]
      have e : ((cntW V (lo + i - 1 - w2) (lo + i - 1) : Int) + ((cnt1 V (lo + i) : Int) - cnt1 V (lo + i - w2 - 1))) = cntW V (lo + i - w2) (lo + i) := by omega
      rw [e]
      refine ub.push encI (by omega) (by omega) (cntW V (lo + i - w2) (lo + i) : Int) (by simp only [topBytes, List.length_map, List.length_range]; omega) rfl fun v' τ k1 k2 => ?_
      have e1 : lo + ((i + 1 : Nat) : Int) - 1 - w2 = lo + i - w2 := by omega
      have e2 : lo + ((i + 1 : Nat) : Int) - 1 = lo + i := by omega
      have e3 : lo + ((i + 1 : Nat) : Int) = lo + i + 1 := by omega
      simp (disch := omega) [-Bool.exists_bool]
      refine ⟨k - 1, by omega, i + 1, by omega, v', ⟨rfl, ?_, ?_⟩, k2.lim.trans u0, by have := k2.next; omega, fun z hz => (k2.get z hz).trans (ug z hz), ?_⟩
      · rw [e1, e2]
      · omega
      · rw [List.range_succ, List.map_append]; exact k1
    · obtain rfl : i = tot := by omega
      have hit' : ¬ lo + (i : Int) ≤ hi + w2 := by omega
      simp (disch := omega) [Und, eqf1, eqf2, u0, ua, uc, uh, lua, luc, luh, hw2, hit', -Bool.exists_bool, -getElem?_pos]
      have hLl : ((List.range i).map fun j : Nat => (cntW V (lo + j - w2) (lo + j) : Int)).length = i := by rw [List.length_map, List.length_range]
      have hgr := greatest_ok ((List.range i).map fun j : Nat => (cntW V (lo + j - w2) (lo + j) : Int)).isEmpty ((List.range i).map fun j : Nat => (cntW V (lo + j - w2) (lo + j) : Int)) (by omega)
      rw [fold_most hw2b.1 (by omega) (fun v hv => by have := hlo2 v hv; have := hhi2 v hv; omega)] at hgr
      refine ub.call encI flatI (by omega) (oo (args := []) (by decide)).1 hgr fun τ o2 => ?_
      have v0 := o2.lim.trans u0
      have hobj := ub.obj_lt
      have vk : τ.get T.next = _ := (o2.get _ luk (fun h => by have := (hobj _ h).1; omega)).trans uk
      have lvk := AH.get_lt vk
      simp (disch := omega) [Und, v0, vk, lvk, -Bool.exists_bool]
      rw [retP_mark vk (by rw [v0]; omega), retP_ret]
      simp (disch := omega) [-Bool.exists_bool]
      rw [hVm, ← hw2] at *
      refine hK _ ⟨v0.trans h0.symm, by have := o2.next; show σ.next ≤ τ.next; omega, fun z hz _ => ?_⟩
      rw [AH.get_set_other _ _ _ _ (by omega), o2.get z (by omega) (fun h => by have := (hobj _ h).1; omega), ug z (by omega), wlow z hz]
end Go.Oct.Fix
