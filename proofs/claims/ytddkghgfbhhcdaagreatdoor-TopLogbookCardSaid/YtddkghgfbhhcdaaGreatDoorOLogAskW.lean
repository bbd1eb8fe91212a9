/- Ask: the lost byte that would leave the fewest readings, and how many. -/
import Derived.Test.YtddkghgfbhhcdaaGreatDoorOLogAskE
import Derived.Test.YtddkghgfbhhcdaaGreatDoorOLogResW
set_option maxRecDepth 100000
set_option maxHeartbeats 16000000
set_option linter.unusedVariables false
set_option linter.unusedSimpArgs false
namespace Go.Oct.Log
open Go.Oct
def mxN (g : Nat → Nat) : Nat → Nat
  | 0 => 0
  | d + 1 => max (mxN g d) (g d)
theorem mxN_ge {g : Nat → Nat} : ∀ n d, d < n → g d ≤ mxN g n
  | 0, d, h => by omega
  | n + 1, d, h => by
    rw [mxN]
    by_cases e : d = n
    · subst e; omega
    · have := mxN_ge (g := g) n d (by omega); omega
theorem mxN_le {g : Nat → Nat} {b : Nat} : ∀ n, (∀ d, d < n → g d ≤ b) → mxN g n ≤ b
  | 0, _ => Nat.zero_le _
  | n + 1, h => by
    have h1 := mxN_le n fun d hd => h d (by omega)
    have h2 := h n (by omega)
    rw [mxN]; omega
/-- The most readings that a byte can leave. -/
def mostZ (Y : List (List Int)) (k : Nat) : Nat := mxN (cntZ Y k) 10
theorem cntZ_le (Y : List (List Int)) (k d : Nat) : cntZ Y k d ≤ Y.length := List.length_filter_le _ _
theorem mostZ_le (Y : List (List Int)) (k : Nat) : mostZ Y k ≤ Y.length := mxN_le 10 fun d _ => cntZ_le Y k d
theorem mostZ_pos {N : Nat} {Y : List (List Int)} (hy : ∀ y ∈ Y, okY N y) (hne : 1 ≤ Y.length) {k : Nat} (hk : k < N) : 1 ≤ mostZ Y k := by
  obtain ⟨y, hy1⟩ : ∃ y, y ∈ Y := List.exists_mem_of_length_pos hne
  have h1 := (hy y hy1).2 k hk
  obtain ⟨q, hq⟩ : ∃ q : Nat, nth y k = q := ⟨(nth y k).toNat, by omega⟩
  have h2 := mxN_ge (g := cntZ Y k) 10 q (by omega)
  have h3 : 0 < cntZ Y k q := List.length_pos_of_mem (a := y) (List.mem_filter.2 ⟨hy1, by rw [hq]; exact decide_eq_true rfl⟩)
  unfold mostZ
  omega
theorem mostZ_lt {N : Nat} {Y : List (List Int)} (hy : ∀ y ∈ Y, okY N y) (hn : Y.Nodup) (h2 : 2 ≤ Y.length) : ∃ k, k < N ∧ mostZ Y k + 1 ≤ Y.length := by
  match Y, h2 with
  | a :: b :: Z, _ =>
    have hab : a ≠ b := by
      rw [List.nodup_cons] at hn
      exact fun e => hn.1 (by rw [e]; exact List.mem_cons_self ..)
    have ha := hy a (List.mem_cons_self ..)
    have hb := hy b (List.mem_cons_of_mem _ (List.mem_cons_self ..))
    obtain ⟨k, hk, hne⟩ : ∃ k, k < N ∧ nth a k ≠ nth b k := Classical.byContradiction fun hno => hab (list_eq (by rw [ha.1, hb.1]) fun j hj => Classical.byContradiction fun e => hno ⟨j, by rw [← ha.1]; exact hj, e⟩)
    refine ⟨k, hk, ?_⟩
    have : ∀ d, cntZ (a :: b :: Z) k d + 1 ≤ (a :: b :: Z).length := fun d => by
      unfold cntZ
      have := (List.length_filter_lt_length_iff_exists (l := a :: b :: Z) (p := fun y => decide (nth y k = (d : Int)))).2 (by
        by_cases e : nth a k = (d : Int)
        · exact ⟨b, by simp, by simp; exact fun e2 => hne (e.trans e2.symm)⟩
        · exact ⟨a, by simp, by simpa using e⟩)
      omega
    have h3 := mxN_le (g := cntZ (a :: b :: Z) k) (b := (a :: b :: Z).length - 1) 10 fun d _ => by have := this d; omega
    have h4 := this 0
    unfold mostZ
    omega
theorem Ask_ok {w : Nat} {R : Page} (h : okP w R) (hN : (lost R).length ≤ 5) (hL : okL w R (lost R)) (hdp : Dep w R (lost R)) {T : List Int} (hT : Truth w R (lost R) T) {n : Nat} (hYn : ∃ Y : List (List Int), n = Y.length ∧ Y.Nodup ∧ ∀ T, T ∈ Y ↔ Truth w R (lost R) T) (hn2 : 2 ≤ n) :
    ∃ v, (∃ (p : Pl) (lf : Int), v = .tuple [eP p, .int .i64 lf, .int .i64 0] ∧ 1 ≤ lf ∧ lf ≤ (n : Int) - 1) ∧ ans prog O 9 [vP R] = some v := by
  refine fn_ex pl _ get9 (oo (by decide)) rfl rfl ?_
  simp (disch := omega) [Und, -Bool.exists_bool]
  generalize hσ0 : AH.push (⟨0, 0, .leaf⟩ : AH) _ = σ0
  have s0 : σ0.lim = 0 := by rw [← hσ0]; rfl
  have sn : σ0.next = 1 := by rw [← hσ0]; rfl
  have sg : σ0.get 0 = some (.cells [.int .i64 0, .int .i64 0, .int .i64 0]) := by rw [← hσ0]; exact AH.get_push_new _ _
  clear hσ0
  refine opened_call h hN s0 fun lv m σ1 hO hLV hm hml hlo => ?_
  have o1 := hO.next
  have o2 := hO.lim
  have h1 := hLV.one
  have hln := hLV.len
  have g0 := (hO.get 0 (by omega) (by simp)).trans sg
  obtain ⟨P, hP⟩ : ∃ P, P = σ1.next := ⟨_, rfl⟩
  have x0 : ¬ 0 = σ1.next := by omega
  have x1 : ¬ σ1.next = σ1.next + 1 := by omega
  have x2 : ¬ σ1.next = σ1.next + 1 + 1 := by omega
  have x3 : ¬ σ1.next = σ1.next + 1 + 1 + 1 := by omega
  simp (disch := omega) [Und, h1, hln, o2, s0, x0, x1, x2, x3, -Bool.exists_bool]
  generalize hη : AH.set (AH.push (AH.set (AH.push (AH.push (AH.set (AH.push σ1 _) _ _) _) _) _ _) _) _ _ = η
  have ηn : η.next = P + 4 := by rw [← hη, hP]; rfl
  have ηl : η.lim = 0 := by rw [← hη]; show σ1.lim = 0; omega
  have ηo : ∀ z, z < P → η.get z = σ1.get z := fun z hz => by
    have e1 : ¬ z = σ1.next := by omega
    have e2 : ¬ z = σ1.next + 1 := by omega
    have e3 : ¬ z = σ1.next + 1 + 1 := by omega
    have e4 : ¬ z = σ1.next + 1 + 1 + 1 := by omega
    rw [← hη]; simp (disch := omega) [e1, e2, e3, e4]
  have ηP : η.get P = some (.cells [vP R, lv, .map (some m)]) := by rw [← hη, hP]; simp (disch := omega) [x1, x2, x3]
  have η1 : η.get (P + 1) = some (.map [] 0) := by rw [← hη, hP]; simp (disch := omega) [show ¬ σ1.next + 1 = σ1.next + 1 + 1 + 1 by omega, show ¬ σ1.next + 1 = σ1.next + 1 + 1 by omega, show ¬ σ1.next + 1 = σ1.next by omega]
  have η2 : η.get (P + 2) = some (.cells [.map (some (P + 1))]) := by rw [← hη, hP]; simp (disch := omega) [show ¬ σ1.next + 2 = σ1.next + 1 + 1 + 1 by omega]
  have η3 : η.get (P + 3) = some (.cells [.int .i64 0]) := by rw [← hη, hP]; simp (disch := omega)
  clear hη
  rw [← hP]
  refine readings_call h1 (by omega) ?_
  rw [ηn]
  have y1 : σ1.lim = 0 := by omega
  simp (disch := omega) [Und, -Bool.exists_bool]
  refine rg_of (h := 52) (xs := []) (ys := [.ptr (some (P + 4, 0))]) rfl ?_
  show Call prog O (.fn 52) [.func (.yield (η.next + 1 + 1)) [] [], .ptr (some (P + 4, 0))] _ _
  rw [show (η.push (.cells [vP R, lv, .map (some m)])).next = P + 5 by show η.next + 1 = _; omega, ηn]
  generalize hZ : AH.push (AH.push (AH.push η _) _) _ = Z
  have Zl : Z.lim = 0 := by rw [← hZ]; exact ηl
  have Zn : Z.next = P + 7 := by rw [← hZ]; show η.next + 3 = _; omega
  have Zo : ∀ z, z < P + 4 → Z.get z = η.get z := fun z hz => by
    have e1 : ¬ z = η.next := by omega
    have e2 : ¬ z = η.next + 1 := by omega
    have e3 : ¬ z = η.next + 1 + 1 := by omega
    rw [← hZ]; simp (disch := omega) [e1, e2, e3]
  have Zp : Z.get (P + 4) = some (.cells [vP R, lv, .map (some m)]) := by rw [← hZ, ← ηn]; simp (disch := omega) [show ¬ η.next = η.next + 1 by omega, show ¬ η.next = η.next + 1 + 1 by omega]
  have Zd : Z.get (P + 5) = some .dfr := by rw [← hZ, show P + 5 = η.next + 1 by omega]; simp (disch := omega) [show ¬ η.next + 1 = η.next + 1 + 1 by omega]
  have Zy : Z.get (P + 6) = some (.loop 9 0 (envA P) .ready none (P + 5)) := by rw [← hZ, show P + 6 = η.next + 1 + 1 by omega]; simp
  clear hZ
  have hm0 := hm
  obtain ⟨es0, c0, em, rfl⟩ := hm
  have mlt := AH.get_lt em
  have Z0 : Z.get 0 = some (.cells [.int .i64 0, .int .i64 0, .int .i64 0]) := (Zo 0 (by omega)).trans ((ηo 0 (by omega)).trans g0)
  have ZO : ∀ z, z < P → Z.get z = σ1.get z := fun z hz => (Zo z (by omega)).trans (ηo z hz)
  have hMZ : MapD Z m (fun _ => 0) := ⟨[], c0, (ZO m (by omega)).trans em, fun p => rfl⟩
  have hLZ : LV Z lv (lost R) := hLV.same fun o _ ho => ZO o (by omega)
  have hlo2 : ∀ o ∈ obj lv, 1 ≤ o ∧ o ≠ m ∧ o < P := fun o ho => by
    have := hlo o ho
    refine ⟨by omega, this.2, ?_⟩
    rcases hLV with ⟨rfl, _⟩ | ⟨o', rfl, h2, _⟩
    · simp [obj] at ho
    · simp [obj] at ho
      subst ho
      have := AH.get_lt h2; omega
  have hI0 : AI P m R lv (lost R) [] Z := by
    refine ⟨Zl, by omega, (Zo (P + 3) (by omega)).trans η3, (Zo (P + 2) (by omega)).trans η2, (Zo P (by omega)).trans ηP, hLZ, fun o ho => ⟨(hlo2 o ho).2.2, (hlo2 o ho).2.1⟩, ⟨[], 0, fun _ => 0, (Zo (P + 1) (by omega)).trans η1, fun a b _ _ h1 _ _ => (by cases h1), fun k hk => .inl ⟨rfl, rfl⟩⟩, Zy⟩
  refine read_call (fun _ hh => hh) h hL hdp (eatA (m := m) (R := R) (lv := lv) (P := P) hN hL.once ⟨by omega, by omega⟩) Zl Zp hLZ (fun o ho => by
      have := hlo2 o ho
      simp; omega) hMZ (fun _ => by simp) (by simp; omega) (by simp; omega) (by omega) hI0 fun _ τ hτ => ?_
  obtain ⟨hOτ, Y, hY, hYy, hYd, hYall⟩ := hτ
  obtain ⟨Y2, hY2, hY2d, hY2all⟩ := hYn
  have hlen : n = Y.length := by rw [hY2]; exact same_len hY2d hYd hY2all hYall
  have ty := hY.loop
  have t0 := hY.lim
  refine ⟨_, _, _, _, _, _, ty, by simp, by rw [t0]; omega, ?_⟩
  have td : τ.get (P + 5) = some .dfr := (hOτ.get (P + 5) (by omega) (by simp; omega) fun cs e => by rw [Zd] at e; cases e).trans Zd
  have tz := hOτ.few (fun _ hh => hh) Z0 (by simp) (by simp; omega)
  have hnx := hY.nx
  obtain ⟨es, c, f, m1, hMA⟩ := hY.mp
  have hcnt := count_bd hN hYd hYy
  obtain ⟨ω, hω⟩ : ∃ ω, ω = τ.set (P + 5 + 1) (.loop 9 0 (envA P) .exhausted none (P + 5)) := ⟨_, rfl⟩
  rw [← hω]
  have ωn : ω.next = τ.next := by rw [hω]; rfl
  have ωl : ω.lim = 0 := by rw [hω]; exact t0
  have ωo : ∀ z, z ≠ P + 6 → ω.get z = τ.get z := fun z hz => by rw [hω]; exact AH.get_set_other _ _ _ _ hz
  clear hω
  obtain ⟨nY, hnY⟩ : ∃ nY : Nat, nY = Y.length := ⟨_, rfl⟩
  rw [← hnY] at hlen hcnt
  subst hlen
  have w3 : ω.get (P + 3) = some (.cells [.int .i64 n]) := by rw [ωo (P + 3) (by omega), hY.num, ← hnY, w64_id _ (by omega) (by omega)]
  have w1 := (ωo (P + 1) (by omega)).trans m1
  have w2 := (ωo (P + 2) (by omega)).trans hY.cell
  have w5 := (ωo (P + 5) (by omega)).trans td
  have w0 := (ωo 0 (by omega)).trans tz
  have wP := (ωo P (by omega)).trans hY.page
  have wL : LV ω lv (lost R) := hY.lost.same fun o ho _ => ωo o (by have := hlo2 o ho; omega)
  have wMA := hMA.keep fun z z1 _ => ωo z (by omega)
  have z3 : P + 3 < ω.next := by omega
  have zP : P < ω.next := by omega
  have hn0 : ¬ (n : Int) = 0 := by omega
  have hn1 : ¬ (n : Int) = 1 := by omega
  have hn0' : ¬ n = 0 := by omega
  have hn1' : ¬ n = 1 := by omega
  simp (disch := omega) [Und, w3, wP, z3, zP, hn0, hn1, hn0', hn1', hln, -Bool.exists_bool]
  have hYne : Y ≠ [] := fun e => by rw [e] at hnY; simp at hnY; omega
  refine lp_loop pl (fun k fr τ => ∃ (j lf : Nat) (p : Pl), j + k = (lost R).length ∧ fr = ⟨[(2, .ptr (some (0, 0))), (3, .int .i64 lf), (6, .ptr (some (P + 1 + 1, 0))), (77, lv), (78, .int .i64 (lost R).length), (79, .int .i64 j)], [P + 5]⟩ ∧ Only [0] ω τ ∧ τ.get 0 = some (.cells [.int .i64 p.row, .int .i64 p.col, .int .i64 p.at_]) ∧
      ((j = 0 ∧ lf = 0) ∨ (1 ≤ lf ∧ ∀ q, q < j → lf ≤ mostZ Y q)))
    ⟨(lost R).length, 0, 0, ⟨0, 0, 0⟩, by omega, rfl, Only.refl _ _, w0, .inl ⟨rfl, rfl⟩⟩ ?_
  rintro k _ τ ⟨j, lf, p, hk, rfl, hτ, τ0, hlf⟩
  have τl := hτ.lim.trans ωl
  have τn := hτ.next
  have τo : ∀ z, z < ω.next → z ≠ 0 → τ.get z = ω.get z := fun z h1 h2 => hτ.get z h1 (by simpa using h2)
  have τ1 := (τo (P + 1) (by omega) (by omega)).trans w1
  have τ2 := (τo (P + 2) (by omega) (by omega)).trans w2
  have τ5 := (τo (P + 5) (by omega) (by omega)).trans w5
  by_cases hj : j < (lost R).length
  · have hj' : (j : Int) < (lost R).length := by omega
    obtain ⟨o, rfl, ho, hon⟩ := (wL.same (σ' := τ) fun o ho h2 => τo o h2 (by have := hlo2 o ho; omega)).at hj
    have r1 := row_at encP (xs := lost R) (j := j) hj
    have hr := rowOf_length encP (lost R)
    have q1 : j * 3 + 3 ≤ (lost R).length * 3 := by omega
    have x9 : ¬ o = τ.next := by omega
    have x12 : ¬ P + 1 + 1 = τ.next := by omega
    have l4 : P + 2 < τ.next + 1 := by omega
    obtain ⟨l, n1, n2, n3, n4, n5⟩ : ∃ l, cnY Y j = some l ∧ pget es (nth (lost R) j) = some (.ptr (some (f j, 0))) ∧ P + 7 ≤ f j ∧ ω.get (f j) = some (.cells (l.map (AV.int .i64))) ∧ l.length = 10 := by
      rcases wMA.2 j hj with ⟨h1, _⟩ | h1
      · unfold cnY at h1; rw [if_neg hYne] at h1; cases h1
      · exact h1
    have hl3 : l = cntL Y j := by
      unfold cnY at n1
      rw [if_neg hYne] at n1
      exact (Option.some.inj n1).symm
    have τf := (τo (f j) (AH.get_lt n4) (by omega)).trans n4
    simp (disch := omega) [Und, hj, hj', ho, x9, x12, l4, r1, hr, q1, eP, τl, τ2, ahop_lookup, -Bool.exists_bool]
    generalize hκ : AH.set (AH.push τ _) τ.next _ = κ
    have κl : κ.lim = 0 := by rw [← hκ]; exact τl
    have κn : κ.next = τ.next + 1 := by rw [← hκ]; rfl
    have κo : ∀ z, z < τ.next → κ.get z = τ.get z := fun z hz => by rw [← hκ, AH.get_set_other _ _ _ _ (by omega), AH.get_push_old _ _ _ (by omega)]
    have κt : κ.get τ.next = some (.cells [.int .i64 (nth (lost R) j).row, .int .i64 (nth (lost R) j).col, .int .i64 (nth (lost R) j).at_]) := by rw [← hκ]; exact AH.get_set_same _ _ _ (by show τ.next < τ.next + 1; omega)
    clear hκ
    have κ1 := (κo (P + 1) (by omega)).trans τ1
    have hlk := lookP (σ := κ) (nth (lost R) j) (.ptr none) κ1
    rw [n2] at hlk
    unfold eP at hlk
    rw [hlk]
    simp (disch := omega) [Und, -Bool.exists_bool]
    have κf := (κo (f j) (AH.get_lt τf)).trans τf
    have κfl := AH.get_lt κf
    have hll : (l.map (AV.int .i64)).length = 10 := by rw [List.length_map]; exact n5
    refine lp_loop pl (fun k fr χ => ∃ d : Nat, d + k = 10 ∧ fr = ⟨[(2, .ptr (some (0, 0))), (3, .int .i64 lf), (6, .ptr (some (P + 1 + 1, 0))), (12, .ptr (some (τ.next, 0))), (13, .int .i64 (mxN (cntZ Y j) d : Nat)), (77, .slice (some (o, 0)) (lost R).length (.op 3)), (78, .int .i64 (lost R).length), (79, .int .i64 j), (85, .ptr (some (f j, 0))), (86, .int .i64 d)], [P + 5]⟩ ∧ χ = κ)
      ⟨10, 0, by omega, rfl, rfl⟩ ?_
    rintro k2 _ χ ⟨d, hk2, rfl, rfl⟩
    by_cases hd : d < 10
    · have hd' : (d : Int) < 10 := by omega
      have hcz := cntZ_le Y j d
      have hcq : (l.map (AV.int .i64))[d]? = some (.int .i64 (cntZ Y j d : Nat)) := by
        rw [List.getElem?_map, List.getElem?_eq_getElem (by omega), ← nthE (by omega), hl3, cntL_nth hd, w64_id _ (by omega) (by omega)]; rfl
      have hcq2 : ∀ h : d < (l.map (AV.int .i64)).length, (l.map (AV.int .i64))[d] = .int .i64 (cntZ Y j d : Nat) := fun h => (List.getElem?_eq_some_iff.1 hcq).2
      simp (disch := omega) [Und, hd, hd', κf, κfl, hcq, hcq2, hll, -Bool.exists_bool]
      exact ⟨by omega, k2 - 1, by omega, d + 1, by omega, by rw [mxN]; omega, by omega⟩
    · obtain e : d = 10 := by omega
      subst e
      have hmp := mostZ_pos hYy (by omega) hj
      have hml := mostZ_le Y j
      have κtl := AH.get_lt κt
      have z0 : 0 < χ.next := by omega
      have κ0 := (κo 0 (by omega)).trans τ0
      have hM : mxN (cntZ Y j) 10 = mostZ Y j := rfl
      have hOχ : Only [0] ω χ := ⟨by omega, by omega, fun z h1 h2 => (κo z (by omega)).trans (hτ.get z h1 h2)⟩
      simp (disch := omega) [Und, κt, κtl, κl, κ0, z0, hM, -Bool.exists_bool]
      refine ⟨fun hc => ⟨k - 1, by omega, j + 1, by omega, mostZ Y j, ⟨rfl, by omega⟩, hOχ.trans (Only.set (by simp) _), ⟨nth (lost R) j, rfl, rfl, rfl⟩, .inr ⟨hmp, fun q hq => ?_⟩⟩, fun h1 h2 => ⟨k - 1, by omega, j + 1, by omega, lf, ⟨rfl, by omega⟩, hOχ, ⟨p, rfl, rfl, rfl⟩, .inr ⟨by omega, fun q hq => ?_⟩⟩⟩
      · by_cases e : q = j
        · subst e; exact Nat.le_refl _
        · rcases hlf with ⟨h3, _⟩ | ⟨h3, h4⟩
          · omega
          · have := h4 q (by omega); omega
      · by_cases e : q = j
        · subst e; exact h2
        · rcases hlf with ⟨_, h3⟩ | ⟨h3, h4⟩
          · omega
          · exact h4 q (by omega)
  · obtain e : j = (lost R).length := by omega
    have z0 : 0 < τ.next := by omega
    simp (disch := omega) [Und, e, τ0, z0, τl, -Bool.exists_bool]
    obtain ⟨q, hq1, hq2⟩ := mostZ_lt hYy hYd (by omega)
    have hfin : 1 ≤ lf ∧ lf + 1 ≤ n := by
      rcases hlf with ⟨h3, _⟩ | ⟨h3, h4⟩
      · omega
      · have := h4 q (by omega); omega
    generalize hχ : AH.set τ 0 _ = χ
    have χ0 : χ.get 0 = some (.cells [.int .i64 p.row, .int .i64 p.col, .int .i64 p.at_]) := by rw [← hχ]; exact AH.get_set_same _ _ _ z0
    have χl : χ.lim = 0 := by rw [← hχ]; exact τl
    have χ5 : χ.get (P + 5) = some .dfr := by rw [← hχ, AH.get_set_other _ _ _ _ (by omega)]; exact τ5
    clear hχ
    refine ⟨_, ⟨p, lf, rfl, by omega, by omega⟩, retK_mark χl χ5 ?_⟩
    generalize hψ : AH.set χ (P + 5) _ = ψ
    have ψ0 : ψ.get 0 = some (.cells [.int .i64 p.row, .int .i64 p.col, .int .i64 p.at_]) := by rw [← hψ, AH.get_set_other _ _ _ _ (by omega)]; exact χ0
    clear hψ
    simp (disch := omega) [Und, ψ0, -Bool.exists_bool]
    rfl
end Go.Oct.Log
