/- Restore: the page with all digits that are sure, and how many readings agree. -/
import Derived.Test.YtddkghgfbhhcdaaGreatDoorOLogResI
import Derived.Test.YtddkghgfbhhcdaaGreatDoorOLogPut
import Derived.Test.YtddkghgfbhhcdaaGreatDoorOLogSnp
set_option maxRecDepth 100000
set_option maxHeartbeats 16000000
set_option linter.unusedVariables false
set_option linter.unusedSimpArgs false
namespace Go.Oct.Log
open Go.Oct
theorem retK_mark {res : List ARes} {v : AV} {env : Env} {d : Nat} {σ : AH} (h0 : σ.lim = 0) (hd : σ.get d = some .dfr) (h : OptK (aresults env (σ.set d .dead) res) fun vs => fzV 8 (σ.set d .dead).cel (oneOf vs) = v) : RetK res v .ret ⟨env, [d]⟩ σ := by
  have e : takeMarks σ [d] = some (σ.set d .dead) := by simp only [takeMarks, hd, h0, Nat.zero_le, if_true]
  show OptK (takeMarks σ [d]) _
  rw [e]
  exact ⟨_, rfl, h⟩
theorem readings_call {R : Page} {lv : AV} {m : Nat} {σ : AH} {K : AV → AH → Prop} (h1 : lv.one = true) (hl : σ.lim ≤ σ.next) (hk : K (.func (.func 52) [] [.ptr (some (σ.next, 0))]) (σ.push (.cells [vP R, lv, .map (some m)]))) :
    Call prog O (.fn 25) [pgA R lv m] σ K := by
  refine @call_of' _ _ pl _ _ _ _ _ _ _ ⟨K⟩ get25 ((oo (by decide)).2 _) rfl ?_
  simp (disch := omega) [h1]
  exact hk
/-- A single digit. -/
def onlyB (d : Nat) : List Bool := (List.range 10).map fun i => decide (i = d)
theorem onlyB_len (d : Nat) : (onlyB d).length = 10 := rfl
theorem onlyB_nth {d i : Nat} (h : i < 10) : nth (onlyB d) i = decide (i = d) := by
  unfold onlyB
  rw [nth_map _ (by simpa using h)]
  simp [nth, List.getD_eq_getElem?_getD, h]
theorem only_ok {d : Nat} (hd : d < 10) : ans prog O 26 [.int .i64 d] = some (.agg ((onlyB d).map AV.bool)) := by
  have : d = 0 ∨ d = 1 ∨ d = 2 ∨ d = 3 ∨ d = 4 ∨ d = 5 ∨ d = 6 ∨ d = 7 ∨ d = 8 ∨ d = 9 := by omega
  rcases this with rfl | rfl | rfl | rfl | rfl | rfl | rfl | rfl | rfl | rfl
  all_goals
    refine fn_of' pl get26 (oo (by decide)) rfl rfl ?_
    simp (disch := omega) [Und, -Bool.exists_bool]
    rfl
theorem eqB : ∀ (l m : List Bool), l.length = m.length → eqCells (List.replicate l.length .bool) (l.map AV.bool) (m.map AV.bool) = some (decide (l = m))
  | [], [], _ => rfl
  | [], _ :: _, h => by simp at h
  | _ :: _, [], h => by simp at h
  | a :: l, b :: m, h => by
    have ih := eqB l m (by simpa using h)
    show (eqCells (List.replicate l.length .bool) (l.map AV.bool) (m.map AV.bool)).map (fun r => (a == b) && r) = _
    rw [ih, Option.map_some, Option.some.injEq, Bool.eq_iff_iff]
    simp
theorem Restore_ok {w : Nat} {R : Page} (h : okP w R) (hN : (lost R).length ≤ 5) (hL : okL w R (lost R)) (hdp : Dep w R (lost R)) {T : List Int} (hT : Truth w R (lost R) T) {D : Pl → Int} (hD : ∀ j, j < (lost R).length → D (nth (lost R) j) = nth T j) :
    ∃ v, ResV w D R v ∧ ans prog O 7 [vP R] = some v := by
  refine fn_ex pl _ get7 (oo (by decide)) rfl rfl ?_
  simp (disch := omega) [Und, -Bool.exists_bool]
  generalize hσ0 : AH.push (⟨0, 0, .leaf⟩ : AH) _ = σ0
  have s0 : σ0.lim = 0 := by rw [← hσ0]; rfl
  have sn : σ0.next = 1 := by rw [← hσ0]; rfl
  have sg : σ0.get 0 = some (.cells [.int .i64 0]) := by rw [← hσ0]; simp
  clear hσ0
  refine opened_call h hN s0 fun lv m σ1 hO hLV hm hml hlo => ?_
  have o1 := hO.next
  have o2 := hO.lim
  have h1 := hLV.one
  have hln := hLV.len
  have g0 := (hO.get 0 (by omega) (by simp)).trans sg
  obtain ⟨P, hP⟩ : ∃ P, P = σ1.next := ⟨_, rfl⟩
  have x0 : ¬ 0 = σ1.next := by omega
  have x1 : ¬ σ1.next = σ1.next + 1 := by omega
  have x2 : ¬ σ1.next = σ1.next + 1 + 1 := by omega
  have x3 : ¬ σ1.next = σ1.next + 1 + 1 + 1 := by omega
  simp (disch := omega) [Und, h1, hln, o2, s0, x0, x1, x2, x3, -Bool.exists_bool]
  refine ⟨⟨by simp only [topBytes]; omega, by simp only [topBytes]; omega⟩, ?_⟩
  generalize hη : AH.push (AH.set (AH.push (AH.push (AH.set (AH.push σ1 _) _ _) _) _) _ _) _ = η
  have ηn : η.next = P + 4 := by rw [← hη, hP]; rfl
  have ηl : η.lim = 0 := by rw [← hη]; show σ1.lim = 0; omega
  have ηo : ∀ z, z < P → η.get z = σ1.get z := fun z hz => by
    have e1 : ¬ z = σ1.next := by omega
    have e2 : ¬ z = σ1.next + 1 := by omega
    have e3 : ¬ z = σ1.next + 1 + 1 := by omega
    have e4 : ¬ z = σ1.next + 1 + 1 + 1 := by omega
    rw [← hη]; simp (disch := omega) [e1, e2, e3, e4]
  have ηP : η.get P = some (.cells [vP R, lv, .map (some m)]) := by rw [← hη, hP]; simp (disch := omega) [x1, x2, x3]
  have η1 : η.get (P + 1) = some (.cells ((List.replicate ((lost R).length * 10) false).map AV.bool)) := by
    have e : zcells [AV.bool false, AV.bool false, AV.bool false, AV.bool false, AV.bool false, AV.bool false, AV.bool false, AV.bool false, AV.bool false, AV.bool false] (lost R).length = (List.replicate ((lost R).length * 10) false).map AV.bool := by
      rw [zcells_eq, List.map_replicate, ← List.flatten_replicate_replicate]; rfl
    rw [← e, ← hη, hP]; simp (disch := omega) [show ¬ σ1.next + 1 = σ1.next + 1 + 1 + 1 by omega, show ¬ σ1.next + 1 = σ1.next + 1 + 1 by omega]
  have η2 : η.get (P + 2) = some (.cells [.slice (some (P + 1, 0)) (lost R).length (.ex (lost R).length)]) := by rw [← hη, hP]; simp (disch := omega) [show ¬ σ1.next + 2 = σ1.next + 1 + 1 + 1 by omega]
  have η3 : η.get (P + 3) = some (.cells [.vsl true []]) := by rw [← hη, hP]; simp (disch := omega)
  clear hη
  rw [← hP]
  refine readings_call h1 (by omega) ?_
  rw [ηn]
  have y1 : σ1.lim = 0 := by omega
  simp (disch := omega) [Und, -Bool.exists_bool]
  refine rg_of (h := 52) (xs := []) (ys := [.ptr (some (P + 4, 0))]) rfl ?_
  show Call prog O (.fn 52) [.func (.yield (η.next + 1 + 1)) [] [], .ptr (some (P + 4, 0))] _ _
  rw [show (η.push (.cells [vP R, lv, .map (some m)])).next = P + 5 by show η.next + 1 = _; omega, ηn]
  generalize hZ : AH.push (AH.push (AH.push η _) _) _ = Z
  have Zl : Z.lim = 0 := by rw [← hZ]; exact ηl
  have Zn : Z.next = P + 7 := by rw [← hZ]; show η.next + 3 = _; omega
  have Zo : ∀ z, z < P + 4 → Z.get z = η.get z := fun z hz => by
    have e1 : ¬ z = η.next := by omega
    have e2 : ¬ z = η.next + 1 := by omega
    have e3 : ¬ z = η.next + 1 + 1 := by omega
    rw [← hZ]; simp (disch := omega) [e1, e2, e3]
  have Zp : Z.get (P + 4) = some (.cells [vP R, lv, .map (some m)]) := by rw [← hZ, ← ηn]; simp (disch := omega) [show ¬ η.next = η.next + 1 by omega, show ¬ η.next = η.next + 1 + 1 by omega]
  have Zd : Z.get (P + 5) = some .dfr := by rw [← hZ, show P + 5 = η.next + 1 by omega]; simp (disch := omega) [show ¬ η.next + 1 = η.next + 1 + 1 by omega]
  have Zy : Z.get (P + 6) = some (.loop 7 0 (envR P) .ready none (P + 5)) := by rw [← hZ, show P + 6 = η.next + 1 + 1 by omega]; simp
  clear hZ
  have hm0 := hm
  obtain ⟨es0, c0, em, rfl⟩ := hm
  have mlt := AH.get_lt em
  have Z0 : Z.get 0 = some (.cells [.int .i64 0]) := (Zo 0 (by omega)).trans ((ηo 0 (by omega)).trans g0)
  have ZO : ∀ z, z < P → Z.get z = σ1.get z := fun z hz => (Zo z (by omega)).trans (ηo z hz)
  have hMZ : MapD Z m (fun _ => 0) := ⟨[], c0, (ZO m (by omega)).trans em, fun p => rfl⟩
  have hLZ : LV Z lv (lost R) := hLV.same fun o _ ho => ZO o (by omega)
  have hlo2 : ∀ o ∈ obj lv, 1 ≤ o ∧ o ≠ m ∧ o < P := fun o ho => by
    have := hlo o ho
    refine ⟨by omega, this.2, ?_⟩
    rcases hLV with ⟨rfl, _⟩ | ⟨o', rfl, h2, _⟩
    · simp [obj] at ho
    · simp [obj] at ho
      subst ho
      have := AH.get_lt h2; omega
  have hI0 : RI (lost R).length P [] Z := by
    refine ⟨Zl, by omega, Z0, ⟨.vsl true [], (Zo (P + 3) (by omega)).trans η3, fun _ => rfl, fun y hy => by simp at hy⟩, ⟨List.replicate ((lost R).length * 10) false, (Zo (P + 1) (by omega)).trans η1, by simp, fun k d hk hd => ?_⟩, (Zo (P + 2) (by omega)).trans η2, Zy⟩
    have : nth (List.replicate ((lost R).length * 10) false) (k * 10 + d) = false := by
      unfold nth
      rw [List.getD_eq_getElem?_getD, List.getElem?_replicate]
      split <;> rfl
    rw [this]
    simp
  refine read_call (fun _ hh => hh.elim) h hL hdp (eatR (m := m) hN ⟨by omega, by omega⟩) Zl Zp hLZ (fun o ho => by
      have := hlo2 o ho
      simp; omega) hMZ (fun _ => by simp) (by simp; omega) (by simp; omega) (by omega) hI0 fun _ τ hτ => ?_
  obtain ⟨hOτ, Y, hY, hYy, hYn, hYall⟩ := hτ
  have hYT := (hYall T).2 hT
  have ty := hY.loop
  have t0 := hY.lim
  refine ⟨_, _, _, _, _, _, ty, by simp, by rw [t0]; omega, ?_⟩
  have td : τ.get (P + 5) = some .dfr := (hOτ.get (P + 5) (by omega) (by simp; omega) fun _ _ hh => hh).trans Zd
  have tP : τ.get P = some (.cells [vP R, lv, .map (some m)]) := (hOτ.get P (by omega) (by simp; omega) fun _ _ hh => hh).trans ((Zo P (by omega)).trans ηP)
  have tL : LV τ lv (lost R) := hLZ.same fun o ho _ => hOτ.get o (by have := hlo2 o ho; omega) (by have := hlo2 o ho; simp; omega) fun _ _ hh => hh
  have hnx := hY.nx
  obtain ⟨sv, q1, q2, q3⟩ := hY.last
  obtain ⟨B, b1, b2⟩ := hY.can
  have hcnt := count_bd hN hYn hYy
  have hY0 : 1 ≤ Y.length := List.length_pos_of_mem hYT
  obtain ⟨yl, hyl⟩ : ∃ yl, Y.getLast? = some yl := by
    cases e : Y.getLast? with
    | none => rw [List.getLast?_eq_none_iff] at e; subst e; simp at hY0
    | some yl => exact ⟨yl, rfl⟩
  have hylm : yl ∈ Y := List.mem_of_getLast? hyl
  have hyv := q3 yl hyl
  have hyo := hYy yl hylm
  obtain ⟨ω, hω⟩ : ∃ ω, ω = τ.set (P + 5 + 1) (.loop 7 0 (envR P) .exhausted none (P + 5)) := ⟨_, rfl⟩
  rw [← hω]
  have ωn : ω.next = τ.next := by rw [hω]; rfl
  have ωl : ω.lim = 0 := by rw [hω]; exact t0
  have ωo : ∀ z, z ≠ P + 6 → ω.get z = τ.get z := fun z hz => by rw [hω]; exact AH.get_set_other _ _ _ _ hz
  clear hω
  have w0 : ω.get 0 = some (.cells [.int .i64 Y.length]) := by rw [ωo 0 (by omega), hY.num, w64_id _ (by omega) (by omega)]
  have w1 := (ωo (P + 1) (by omega)).trans b1
  have w2 := (ωo (P + 2) (by omega)).trans hY.row
  have w3 := (ωo (P + 3) (by omega)).trans q1
  have w5 := (ωo (P + 5) (by omega)).trans td
  have wP := (ωo P (by omega)).trans tP
  have wL : LV ω lv (lost R) := tL.same fun o ho _ => ωo o (by have := hlo2 o ho; omega)
  have wY : YV (P + 7) ω sv yl := hyv.stay fun z z1 z2 => ωo z (by omega)
  have z0 : 0 < ω.next := by omega
  have zP : P < ω.next := by omega
  have z1 : P < ω.next + 1 := by omega
  have zz : ¬ P = ω.next := by omega
  obtain ⟨nY, hnY⟩ : ∃ n : Nat, n = Y.length := ⟨_, rfl⟩
  rw [← hnY] at w0 hcnt hY0
  have hYn0 : ¬ (nY : Int) = 0 := by omega
  have hYn1 : ¬ nY = 0 := by omega
  simp (disch := omega) [Und, w0, wP, z0, z1, zP, zz, hYn0, hYn1, hln, -Bool.exists_bool]
  generalize hΩ : AH.push ω _ = Ω
  obtain ⟨M, hM⟩ : ∃ M, M = ω.next := ⟨_, rfl⟩
  rw [← hM]
  have ΩM : Ω.get M = some (.map (([] : List PE).map entP) 0) := by rw [← hΩ, hM]; exact AH.get_push_new _ _
  have Ωl : Ω.lim = 0 := by rw [← hΩ]; exact ωl
  have Ωn : Ω.next = M + 1 := by rw [← hΩ, hM]; rfl
  have Ωo : ∀ z, z < M → Ω.get z = ω.get z := fun z hz => by rw [← hΩ]; exact AH.get_push_old _ _ _ (by omega)
  clear hΩ
  have Ω1 := (Ωo (P + 1) (by omega)).trans w1
  have Ω2 := (Ωo (P + 2) (by omega)).trans w2
  have Ω3 := (Ωo (P + 3) (by omega)).trans w3
  have ΩP := (Ωo P (by omega)).trans wP
  have Ω5 := (Ωo (P + 5) (by omega)).trans w5
  have ΩL : LV Ω lv (lost R) := wL.same fun o ho _ => Ωo o (by have := hlo2 o ho; omega)
  have ΩY : YV (P + 7) Ω sv yl := wY.stay fun z _ z2 => Ωo z (by omega)
  have Ω0 := (Ωo 0 (by omega)).trans w0
  refine lp_loop pl (fun k fr τ => ∃ (j : Nat) (es : List PE) (c : Nat), j + k = (lost R).length ∧ fr = ⟨[(2, .vsl true []), (3, .ptr (some (0, 0))), (5, .ptr (some (P, 0))), (6, .ptr (some (P + 1 + 1, 0))), (7, .ptr (some (P + 1 + 1 + 1, 0))), (11, .map (some M)), (58, lv), (59, .int .i64 (lost R).length), (60, .int .i64 j)], [P + 5]⟩ ∧ Only [M] Ω τ ∧ τ.get M = some (.map (es.map entP) c) ∧
      (∀ p v, pget es p = some v → v = .int .u8 (48 + D p) ∧ p ∈ lost R) ∧ (nY = 1 → ∀ i, i < j → pget es (nth (lost R) i) = some (.int .u8 (48 + D (nth (lost R) i)))))
    ⟨(lost R).length, 0, [], 0, by omega, rfl, Only.refl _ _, ΩM, (fun p v h => by cases h), fun _ i hi => absurd hi (by omega)⟩ ?_
  rintro k _ τ ⟨j, es, c0, hk, rfl, hτ, τM, hes, hes1⟩
  have τl := hτ.lim.trans Ωl
  have τn := hτ.next
  have τo : ∀ z, z < Ω.next → z ≠ M → τ.get z = Ω.get z := fun z z1 z2 => hτ.get z z1 (by simpa using z2)
  have zM : P + 7 ≤ M := by omega
  have τ1 := (τo (P + 1) (by omega) (by omega)).trans Ω1
  have τ2 := (τo (P + 2) (by omega) (by omega)).trans Ω2
  have τ3 := (τo (P + 3) (by omega) (by omega)).trans Ω3
  have τP := (τo P (by omega) (by omega)).trans ΩP
  by_cases hj : j < (lost R).length
  · have hj' : (j : Int) < (lost R).length := by omega
    have τL : LV τ lv (lost R) := ΩL.same fun o ho h2 => τo o h2 (by have := hlo2 o ho; omega)
    have τY : YV (P + 7) τ sv yl := wY.stay fun z z1 z2 => (τo z (by omega) (by omega)).trans (Ωo z (by omega))
    obtain ⟨o, rfl, ho, hon⟩ := τL.at hj
    obtain ⟨o2, rfl, p1, p2, p3⟩ : ∃ o2, sv = .slice (some (o2, 0)) yl.length (.ex yl.length) ∧ P + 7 ≤ o2 ∧ τ.get o2 = some (.cells (rowOf (AV.int .i64) yl)) ∧ yl ≠ [] := by
      rcases τY with ⟨_, e⟩ | h
      · have := hyo.1; rw [e] at this; simp at this; omega
      · exact h
    have hyd := hyo.2 j hj
    obtain ⟨q, hq⟩ : ∃ q : Nat, nth yl j = q := ⟨(nth yl j).toNat, by omega⟩
    have hq10 : q < 10 := by omega
    have r1 := row_at encP (xs := lost R) (j := j) hj
    have hr := rowOf_length encP (lost R)
    have q1 : j * 3 + 3 ≤ (lost R).length * 3 := by omega
    have hyl1 := hyo.1
    have hri := row_int (q := .i64) (xs := yl) (j := j) (by omega)
    rw [hq] at hri
    have hri2 : ∀ h : j < (rowOf (AV.int .i64) yl).length, (rowOf (AV.int .i64) yl)[j] = .int .i64 q := fun h => (List.getElem?_eq_some_iff.1 hri).2
    have hrl : (rowOf (AV.int .i64) yl).length = yl.length := by rw [rowOf_length encI]; omega
    have hbl : (B.map AV.bool).length = (lost R).length * 10 := by rw [List.length_map]; exact b2.1
    have hbl2 : j * 10 + 10 ≤ (lost R).length * 10 := by omega
    obtain ⟨b0, hb0⟩ : ∃ b0, b0 = (B.drop (j * 10)).take 10 := ⟨_, rfl⟩
    have b2l := b2.1
    have hb0l : b0.length = 10 := by rw [hb0, List.length_take, List.length_drop]; omega
    have hb0n : ∀ d, d < 10 → nth b0 d = nth B (j * 10 + d) := fun d hd => by
      rw [hb0, nth_take hd (by rw [List.length_drop]; omega), nth_drop (by omega)]
    have hbc : List.take 10 (List.drop (j * 10) (B.map AV.bool)) = b0.map AV.bool := by rw [hb0, List.map_take, List.map_drop]
    have hbone : ∀ x ∈ b0.map AV.bool, x.one = true := fun x hx => by
      obtain ⟨b, _, rfl⟩ := List.mem_map.1 hx
      rfl
    have heq := eqB b0 (onlyB q) (by rw [hb0l, onlyB_len])
    rw [hb0l, show List.replicate 10 Leaf.bool = [Leaf.bool, .bool, .bool, .bool, .bool, .bool, .bool, .bool, .bool, .bool] from rfl] at heq
    have hoy := only_ok hq10
    have x9 : ¬ o = τ.next := by omega
    have x10 : ¬ o2 = τ.next := by have := AH.get_lt p2; omega
    have l2 := AH.get_lt p2
    have l3 : P + 1 < τ.next := by omega
    have l4 : P + 2 < τ.next := by omega
    have l5 : P + 3 < τ.next := by omega
    have x11 : ¬ P + 1 = τ.next := by omega
    have x12 : ¬ P + 1 + 1 = τ.next := by omega
    have x13 : ¬ P + 1 + 1 + 1 = τ.next := by omega
    clear hb0
    have x14 : ¬ M = τ.next := by have := AH.get_lt τM; omega
    have hDj := hD j hj
    have htj := hT.dig j hj
    have hDq : b0 = onlyB q → D (nth (lost R) j) = q := fun e => by
      obtain ⟨t, ht⟩ : ∃ t : Nat, nth T j = t := ⟨(nth T j).toNat, by omega⟩
      have := seen_one b2 hYT hj hq10 ht (by omega) fun d hd => by rw [← hb0n d hd, e, onlyB_nth hd]
      rw [hDj, ht, this]
    have hOne : nY = 1 → b0 = onlyB q := fun e => by
      obtain ⟨y0, hy0⟩ := List.length_eq_one_iff.1 (show Y.length = 1 by omega)
      have e1 : T = y0 := by rw [hy0] at hYT; exact List.mem_singleton.1 hYT
      have e2 : yl = y0 := by rw [hy0] at hylm; exact List.mem_singleton.1 hylm
      refine list_eq (by rw [hb0l, onlyB_len]) fun d hd => ?_
      rw [hb0l] at hd
      rw [hb0n d hd, onlyB_nth hd, Bool.eq_iff_iff, b2.2 j d hj hd, hy0, decide_eq_true_eq]
      constructor
      · rintro ⟨y, h1, h2⟩
        rw [List.mem_singleton.1 h1, ← e2, hq] at h2
        omega
      · intro h1
        exact ⟨y0, List.mem_singleton.2 rfl, by rw [← e2, hq, h1]⟩
    have hcv := aconv_u8 .i64 (48 + (q : Int)) (by omega) (by omega)
    simp (disch := omega) [Und, hj, hj', ho, x9, x10, x11, x12, x13, x14, hcv, r1, hr, q1, eP, τl, τ1, τ2, τ3, p2, l2, l3, l4, l5, hyl1, hri, hri2, hrl, hbl, hbl2, hbc, hbone, heq, hoy, -Bool.exists_bool]
    refine ⟨by omega, by omega, fun he => ⟨by omega, ?_⟩, fun he => ?_⟩
    · generalize hκ : AH.under _ 0 = κ
      have κM : κ.get M = some (.map (es.map entP) c0) := by rw [← hκ]; show AH.get (AH.set (AH.push τ _) τ.next _) M = _; rw [AH.get_set_other _ _ _ _ x14, AH.get_push_old _ _ _ x14]; exact τM
      have κO : Only [M] Ω κ := by
        rw [← hκ]
        have h1 : Only [M] Ω (AH.set (τ.push (AObj.cells [L.z 0, L.z 0, L.z 0])) τ.next (AObj.cells [AV.int IntKind.i64 (nth (lost R) j).row, AV.int IntKind.i64 (nth (lost R) j).col, AV.int IntKind.i64 (nth (lost R) j).at_])) := hτ.trans ((Only.push [M] τ _).setN (by omega) _)
        exact ⟨by show 0 = Ω.lim; omega, h1.next, h1.get⟩
      clear hκ
      have κl := κO.lim
      obtain ⟨es', c', u1, u2⟩ := updP (nth (lost R) j) (.int .u8 (48 + (q : Int))) (σ := κ) (by omega) κM
      unfold eP at u1
      simp (disch := omega) [Und, ahop_mapUpd, u1, -Bool.exists_bool]
      refine ⟨k - 1, by omega, j + 1, by omega, by omega, κO.trans (Only.set (List.mem_singleton.2 rfl) _), es', ⟨AH.get_lt κM, rfl⟩, fun p v hp => ?_, fun e i hi => ?_⟩
      · rw [u2] at hp
        split at hp
        · next ee =>
          subst ee
          rw [hDq he]
          exact ⟨(Option.some.inj hp).symm, nth_mem hj⟩
        · exact hes p v hp
      · rw [u2]
        by_cases ee : nth (lost R) j = nth (lost R) i
        · rw [if_pos ee, ← ee, hDq he]
        · rw [if_neg ee]
          refine hes1 e i ?_
          by_cases e4 : i = j
          · subst e4; exact absurd rfl ee
          · omega
    · refine ⟨k - 1, by omega, j + 1, by omega, by omega, ?_, es, ⟨c0, τM⟩, hes, fun e => absurd (hOne e) he⟩
      have h1 : Only [M] Ω (AH.set (τ.push (AObj.cells [L.z 0, L.z 0, L.z 0])) τ.next (AObj.cells [AV.int IntKind.i64 (nth (lost R) j).row, AV.int IntKind.i64 (nth (lost R) j).col, AV.int IntKind.i64 (nth (lost R) j).at_])) := hτ.trans ((Only.push [M] τ _).setN (by omega) _)
      exact ⟨by show 0 = Ω.lim; omega, h1.next, h1.get⟩
  · obtain e : j = (lost R).length := by omega
    subst e
    have l1 : P < τ.next := by omega
    simp (disch := omega) [Und, τl, τP, l1, -Bool.exists_bool]
    obtain ⟨g, hg⟩ : ∃ g : Pl → Option Int, ∀ p, pget es p = (g p).map fun x => AV.int .u8 x := ⟨fun p => if (pget es p).isSome = true then some (48 + D p) else none, fun p => by
      show pget es p = (if (pget es p).isSome = true then some (48 + D p) else none : Option Int).map fun x => AV.int .u8 x
      cases e : pget es p with
      | none => rfl
      | some v => rw [(hes p v e).1]; rfl⟩
    have hg1 : ∀ p x, g p = some x → p ∈ lost R ∧ x = 48 + D p := fun p x e => by
      have e1 := hg p
      rw [e] at e1
      obtain ⟨h1, h2⟩ := hes p _ e1
      injection h1 with _ h3
      exact ⟨h2, h3⟩
    have hg2 : nY = 1 → ∀ p ∈ lost R, g p = some (48 + D p) := fun e p hp => by
      obtain ⟨i, hi, rfl⟩ := mem_nth.1 hp
      have e1 := hes1 e i hi
      rw [hg] at e1
      cases e2 : g (nth (lost R) i) with
      | none => rw [e2] at e1; cases e1
      | some x =>
        rw [e2] at e1
        injection e1 with e3
        injection e3 with _ e4
        rw [e4]
    have hgb : ∀ p x, g p = some x → 0 ≤ x ∧ x ≤ 255 := fun p x e => by
      obtain ⟨h1, h2⟩ := hg1 p x e
      obtain ⟨i, hi, rfl⟩ := mem_nth.1 h1
      have := hT.dig i hi
      rw [← hD i hi] at this
      omega
    have τ0 := (τo 0 (by omega) (by omega)).trans Ω0
    have τ5 := (τo (P + 5) (by omega) (by omega)).trans Ω5
    have hrr := h.rows
    have hww := h.cols
    have Mlt := AH.get_lt τM
    refine lp_loop pl (fun k fr υ => ∃ (r : Nat) (v2 : AV), r + k = R.length ∧ fr = ⟨[(2, v2), (3, .ptr (some (0, 0))), (11, .map (some M)), (85, vP R), (86, .int .i64 R.length), (87, .int .i64 r)], [P + 5]⟩ ∧ Only [] τ υ ∧ RowsB τ.next 1 eT υ v2 ((putP g R).take r))
      ⟨R.length, 0, .vsl true [], by omega, rfl, Only.refl _ _, RowsB.nil⟩ ?_
    rintro k2 _ υ ⟨r, v2, hk2, rfl, hυ, hRB⟩
    have υl := hυ.lim.trans τl
    have υn := hυ.next
    by_cases hr1 : r < R.length
    · have hr1' : (r : Int) < R.length := by omega
      have hwr := h.wide r hr1
      have hwr' := hwr
      generalize hrow : nth R r = row at hwr'
      simp (disch := omega) [Und, hr1, hr1', hrow, -Bool.exists_bool]
      refine lp_loop pl (fun k fr ζ => ∃ (c : Nat) (v16 : AV), c + k = w ∧ fr = ⟨[(2, v2), (3, .ptr (some (0, 0))), (11, .map (some M)), (14, .int .i64 r), (16, v16), (85, vP R), (86, .int .i64 R.length), (87, .int .i64 r), (92, vl eT false row), (93, .int .i64 row.length), (94, .int .i64 c)], [P + 5]⟩ ∧ Only [] υ ζ ∧ Buf υ.next 1 eT ζ v16 ((putR g r row).take c))
        ⟨w, 0, .vsl true [], by omega, rfl, Only.refl _ _, Buf.nil⟩ ?_
      rintro k3 _ ζ ⟨c, v16, hk3, rfl, hζ, hB⟩
      have ζl := hζ.lim.trans υl
      have ζn := hζ.next
      by_cases hc1 : c < w
      · have hc1' : (c : Int) < row.length := by omega
        have hE := h.ent r c hr1 hc1
        rw [hrow] at hE
        have hbs := hE.bys
        have hEl := hE.len
        generalize hl : nth row c = l at *
        simp (disch := omega) [Und, hc1', hl, eT, hbs, -Bool.exists_bool]
        generalize hξ0 : AH.push ζ _ = ξ0
        have ξ0n : ξ0.next = ζ.next + 1 := by rw [← hξ0]; rfl
        have ξ0l : ξ0.lim = 0 := by rw [← hξ0]; exact ζl
        have ξ0g : ξ0.get ζ.next = some (.cells (l.map (AV.int .u8))) := by rw [← hξ0]; exact AH.get_push_new _ _
        have ξ0o : ∀ z, z < ζ.next → ξ0.get z = ζ.get z := fun z hz => by rw [← hξ0]; exact AH.get_push_old _ _ _ (by omega)
        clear hξ0
        obtain ⟨f, hf⟩ : ∃ f : Nat → Option Int, ∀ j : Nat, f j = g ⟨r, c, j⟩ := ⟨fun j => g ⟨r, c, j⟩, fun _ => rfl⟩
        have hput : nth (putR g r row) c = put f l := by
          rw [putR_nth (by omega), hl]
          have : f = fun j : Nat => g ⟨r, c, j⟩ := funext hf
          rw [this]
        refine lp_loop pl (fun k fr ξ => ∃ (a : Nat) (bs : List Int), a + k = l.length ∧ fr = ⟨[(2, v2), (3, .ptr (some (0, 0))), (11, .map (some M)), (14, .int .i64 r), (16, v16), (17, .int .i64 c), (19, .slice (some (ζ.next, 0)) l.length (.op 1)), (85, vP R), (86, .int .i64 R.length), (87, .int .i64 r), (92, vl eT false row), (93, .int .i64 row.length), (94, .int .i64 c), (102, .int .i64 l.length), (103, .int .i64 a)], [P + 5]⟩ ∧ ξ.lim = 0 ∧ ξ.next = ζ.next + 1 ∧ (∀ z, z < ζ.next → ξ.get z = ζ.get z) ∧ ξ.get ζ.next = some (.cells (bs.map (AV.int .u8))) ∧ bs.length = l.length ∧ ∀ i, i < l.length → nth bs i = if i < a then (f i).getD (nth l i) else nth l i)
          ⟨l.length, 0, l, by omega, rfl, ξ0l, ξ0n, ξ0o, ξ0g, rfl, fun i hi => by rw [if_neg (by omega)]⟩ ?_
        rintro k4 _ ξ ⟨a, bs, hk4, rfl, ξl, ξn, ξo, ξg, bsl, hbsn⟩
        have ξM : ξ.get M = some (.map (es.map entP) c0) := (ξo M (by omega)).trans ((hζ.get M (by omega) (by simp)).trans ((hυ.get M Mlt (by simp)).trans τM))
        by_cases ha : a < l.length
        · have ha' : (a : Int) < l.length := by omega
          have hlk := lookP2 (σ := ξ) (⟨r, c, a⟩ : Pl) (.int .u8 0) ξM
          unfold eP at hlk
          rw [hg, ← hf] at hlk
          have gb := hgb ⟨r, c, a⟩
          rw [← hf] at gb
          cases hfa : f a with
          | none =>
            rw [hfa] at hlk
            simp (disch := omega) [Und, ha, ha', ahop_lookup, hlk, -Bool.exists_bool]
            refine ⟨k4 - 1, by omega, a + 1, by omega, by omega, ξl, ξn, ξo, bs, ξg, bsl, fun i hi => ?_⟩
            rw [hbsn i hi]
            by_cases e1 : i < a
            · rw [if_pos e1, if_pos (by omega)]
            · rw [if_neg e1]
              by_cases e2 : i = a
              · subst e2; rw [if_pos (by omega), hfa]; rfl
              · rw [if_neg (by omega)]
          | some x =>
            rw [hfa] at hlk
            have hx := gb x hfa
            have ξlt := AH.get_lt ξg
            simp (disch := omega) [Und, ha, ha', ahop_lookup, hlk, ξl, ξg, ξlt, bsl, -Bool.exists_bool]
            refine ⟨by omega, k4 - 1, by omega, a + 1, by omega, by omega, ξn, fun z hz => ?_, bs.set a x, by rw [List.map_set], by rw [List.length_set, bsl], fun i hi => ?_⟩
            · rw [if_neg (by omega)]; exact ξo z hz
            · rw [nth_set (by omega)]
              by_cases e2 : i = a
              · subst e2; rw [if_pos rfl, if_pos (by omega), hfa]; rfl
              · rw [if_neg e2, hbsn i hi]
                by_cases e1 : i < a
                · rw [if_pos e1, if_pos (by omega)]
                · rw [if_neg e1, if_neg (by omega)]
        · obtain e : a = l.length := by omega
          subst e
          have ebs : bs = put f l := list_eq (by rw [put_len, bsl]) fun i hi => by
            rw [bsl] at hi
            rw [hbsn i hi, if_pos hi, put_nth hi]
          have hrow2 : ξ.row ζ.next = some (bs.map (AV.int .u8)) := by simp [ξg]
          have hb2s := ab2s_row (σ := ξ) (i := ζ.next) (n := l.length) (c := .op 1) hrow2 bsl.symm (by omega)
          simp (disch := omega) [Und, hb2s, -Bool.exists_bool]
          have hBξ : Buf υ.next 1 eT ξ v16 ((putR g r row).take c) := hB.keep fun z _ z2 => ξo z z2
          refine hBξ.push encT (by omega) (by omega) bs (bytes := 16) (by rw [List.length_take, putR_len]; simp only [topBytes]; omega) rfl fun v17 χ q1 q2 => ?_
          have q3 := q2.next
          have q4 := q2.lim
          simp (disch := omega) [Und, -Bool.exists_bool]
          refine ⟨k3 - 1, by omega, c + 1, by omega, v17, ⟨rfl, by omega⟩, ⟨by omega, by omega, fun z z1 _ => (q2.get z z1).trans ((ξo z (by omega)).trans (hζ.get z z1 (by simp)))⟩, ?_⟩
          rw [take_succ_nth (by rw [putR_len]; omega), hput, ← ebs]
          exact q1
      · obtain e : c = w := by omega
        have e1 : (putR g r row).take c = putR g r row := List.take_of_length_le (by rw [putR_len]; omega)
        rw [e1] at hB
        rcases hB with ⟨_, e2⟩ | ⟨o9, rfl, o1, o2, o3⟩
        · have := congrArg List.length e2
          rw [putR_len, List.length_nil] at this
          omega
        have hc1 : ¬ (c : Int) < row.length := by omega
        have hprl : (putR g r row).length = w := by rw [putR_len]; omega
        have hRζ : RowsB τ.next 1 eT ζ v2 ((putP g R).take r) := RowsB.keepL hRB fun z _ z2 => hζ.get z z2 (by simp)
        rw [hprl]
        have hsl := asl_whole o9 w
        simp (disch := omega) [Und, hc1, hsl, -Bool.exists_bool]
        have hnP : nth (putP g R) r = putR g r row := by rw [putP_nth hr1, hrow]
        refine RowsB.push hRζ (by omega) (by omega) (putR g r row) (by omega) o2 (fun ho => ?_) (n := w) hprl.symm (.inr rfl) (bytes := 24) (by rw [List.length_take, putP_len]; simp only [topBytes]; omega) fun v8 χ p1 p2 => ?_
        · have := (RowsB.obj_lt hRB o9 ho).2
          omega
        have p3 := p2.next
        have p4 := p2.lim
        simp (disch := omega) [Und, -Bool.exists_bool]
        refine ⟨k2 - 1, by omega, r + 1, by omega, v8, ⟨rfl, by omega⟩, ⟨by omega, by omega, fun z z1 z2 => (p2.get z (by omega)).trans ((hζ.get z (by omega) z2).trans (hυ.get z z1 z2))⟩, ?_⟩
        rw [take_succ_nth (by rw [putP_len]; exact hr1), hnP]
        exact p1
    · obtain e : r = R.length := by omega
      have υ0 := (hυ.get 0 (by omega) (by simp)).trans τ0
      have υ5 := (hυ.get (P + 5) (by omega) (by simp)).trans τ5
      have l0 : 0 < υ.next := by omega
      simp (disch := omega) [Und, e, υ0, l0, υl, -Bool.exists_bool]
      rw [List.take_of_length_le (by rw [putP_len]; omega)] at hRB
      generalize hχ : AH.set υ 0 _ = χ
      have χ0 : χ.get 0 = some (.cells [.int .i64 nY]) := by rw [← hχ]; exact AH.get_set_same _ _ _ l0
      have χl : χ.lim = 0 := by rw [← hχ]; exact υl
      have χ5 : χ.get (P + 5) = some .dfr := by rw [← hχ, AH.get_set_other _ _ _ _ (by omega)]; exact υ5
      have hRχ : RowsB τ.next 1 eT χ v2 (putP g R) := RowsB.keepL hRB fun z z1 z2 => by rw [← hχ]; exact AH.get_set_other _ _ _ _ (by omega)
      clear hχ
      refine ⟨_, ⟨nY, g, ⟨Y, hnY, hYn, hYall⟩, rfl, hY0, hcnt, hg1, hg2⟩, retK_mark χl χ5 ?_⟩
      generalize hψ : AH.set χ (P + 5) _ = ψ
      have ψ0 : ψ.get 0 = some (.cells [.int .i64 nY]) := by rw [← hψ, AH.get_set_other _ _ _ _ (by omega)]; exact χ0
      have hRψ : RowsB τ.next 1 eT ψ v2 (putP g R) := RowsB.keepL hRχ fun z z1 z2 => by rw [← hψ]; exact AH.get_set_other _ _ _ _ (by omega)
      clear hψ
      have hne : (putP g R).isEmpty = false := by
        cases e : putP g R with
        | nil => have := putP_len g R; rw [e] at this; simp at this; omega
        | cons _ _ => rfl
      have hfz := RowsB.fz hRψ encT flatT 4
      rw [hne] at hfz
      simp (disch := omega) [Und, ψ0, hfz, -Bool.exists_bool]
      rfl
end Go.Oct.Log
