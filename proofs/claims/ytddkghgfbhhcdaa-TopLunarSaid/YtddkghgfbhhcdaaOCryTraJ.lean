/- Trials: one index error more, in the loop of tables. -/
import Derived.Test.YtddkghgfbhhcdaaOCryTraI
set_option maxRecDepth 100000
set_option maxHeartbeats 4000000
set_option linter.unusedVariables false
set_option linter.unusedSimpArgs false
namespace Go.Oct.Cry.Sx
open Go.Oct
abbrev cSx (nT nS : Bool) (s : Sext) : List AV := [.int .i64 s.step, vl eSpan nT s.tab, .int .i64 s.il, .int .i64 s.ih, .int .i64 s.w, vl eSpan nS s.sh]
abbrev envB (B q : Nat) (F1 : AV) : Env := [(1, .ptr (some (B, 0))), (2, .ptr (some (B + 1, 0))), (3, .ptr (some (q, 0))), (10, F1)]
/-- Corrections that are narrowed one after the other, k of them not to nothing. -/
structure Nrw (s : Sext) (k : Nat) (L : List Span) : Prop where
  len : L.length = s.tab.length
  wid : ∀ j, j < L.length → (nth s.tab j).lo ≤ (nth L j).lo ∧ (nth L j).hi ≤ (nth s.tab j).hi
  ok : ∀ j, j < k → j < L.length → (nth L j).lo ≤ (nth L j).hi
theorem Nrw.both {s : Sext} {k : Nat} {L : List Span} (h : Nrw s k L) (hk : k < L.length) (a b : Int) : Nrw s k (L.set k ⟨max (nth L k).lo a, min (nth L k).hi b⟩) := by
  refine ⟨by rw [List.length_set]; exact h.len, fun j hj => ?_, fun j hj hj2 => ?_⟩
  · rw [List.length_set] at hj
    rw [nth_set hk]
    have := h.wid j hj
    by_cases e : j = k
    · rw [if_pos e]; subst e; simp only; omega
    · rw [if_neg e]; exact this
  · rw [List.length_set] at hj2
    rw [nth_set hk, if_neg (by omega)]
    exact h.ok j hj hj2
theorem Nrw.next {s : Sext} {k : Nat} {L : List Span} (h : Nrw s k L) (hk : (nth L k).lo ≤ (nth L k).hi) : Nrw s (k + 1) L := ⟨h.len, h.wid, fun j hj hj2 => by
  by_cases e : j = k
  · rw [e]; exact hk
  · exact h.ok j (by omega) hj2⟩
theorem TabS.keep {s : Sext} {p x : Nat} {σ σ' : AH} (h : TabS s p σ) (hk : ∀ z, z < σ.next → z ≠ x → σ'.get z = σ.get z) (hx : 3 ≤ x) (hp : x < p) : TabS s p σ' := by
  rcases h with ⟨a1, a2⟩ | ⟨tv, L1, a, b, a1, a2, a3, a4⟩
  · exact .inl ⟨(hk 1 (AH.get_lt a1) (by omega)).trans a1, (hk 2 (AH.get_lt a2) (by omega)).trans a2⟩
  · refine .inr ⟨tv, L1, a, b, (hk 1 (AH.get_lt a1) (by omega)).trans a1, (hk 2 (AH.get_lt a2) (by omega)).trans a2, ?_, a4⟩
    obtain ⟨ti, tc1, rfl, b1, b2, b3⟩ := a3
    exact ⟨ti, tc1, rfl, b1, (hk ti (AH.get_lt b2) (by omega)).trans b2, b3⟩
theorem table_step {s : Sext} (hs : okS s) {nS : Bool} {n p q B m lo c : Nat} {F F1 : AV} {i : Int} {bs : List Bool} {es : List ME} {σ : AH} (hi : s.il ≤ i ∧ i ≤ s.ih) (h0 : σ.lim = 0) (hp : p = q + 4) (hpn : p ≤ σ.next) (hq : n + 1 < q) (hB : 3 ≤ B ∧ B + 1 < n) (hm : 3 ≤ m ∧ m < n) (hlo : 3 ≤ lo)
    (gl : σ.get (q + 3) = some (.loop 119 0 (envB B q F1) .ready none (q + 2))) (gn : σ.get (n + 1) = some (.loop 32 0 (envT F) .ready none n)) (gq : σ.get q = some (.cells [.func (.yield (n + 1)) [] []]))
    (gB : σ.get B = some (.cells (cSx false nS s))) (gt : σ.get (B + 1) = some (.cells (bs.map AV.bool ++ [AV.map (some m)]))) (hbl : bs.length = 12) (gm : σ.get m = some (.map (es.map ent) c)) (hM : MapS lo σ es 8) (hMn : ∀ t, ∀ z ∈ obj (mgl es t), z < n) (hT : TabS s p σ) :
    Call prog O (.yield (q + 3)) [.int .i64 i] σ (fun r σ' => r = .bool true ∧ σ'.lim = 0 ∧ σ.next ≤ σ'.next ∧ σ'.get (q + 3) = some (.loop 119 0 (envB B q F1) .ready none (q + 2)) ∧ σ'.get (n + 1) = some (.loop 32 0 (envT F) .ready none n) ∧ TabS s p σ' ∧
      ∀ z, z < p → z ≠ 1 → z ≠ 2 → z ≠ n + 1 → z ≠ q + 3 → σ'.get z = σ.get z) := by
  have hit := hs.len
  have hix := hs.idx
  have hst := hs.step
  refine yield_of' pl gl get119 rfl rfl (by omega) rfl ?_
  have k1 : B < σ.next := by omega
  have k2 : B + 1 < σ.next := by omega
  have k3 : ¬ B = q + 3 := by omega
  have k4 : ¬ B + 1 = q + 3 := by omega
  have hb0 : ∀ z, z ≠ q + 3 → (σ.set (q + 3) (.loop 119 0 (envB B q F1) .busy none (q + 2))).get z = σ.get z := fun z hz => AH.get_set_other _ _ _ _ hz
  have hb1 : (σ.set (q + 3) (.loop 119 0 (envB B q F1) .busy none (q + 2))).get (q + 3) = some (.loop 119 0 (envB B q F1) .busy none (q + 2)) := AH.get_set_same _ _ _ (by omega)
  have hbn : (σ.set (q + 3) (.loop 119 0 (envB B q F1) .busy none (q + 2))).next = σ.next := rfl
  have hbl2 : (σ.set (q + 3) (.loop 119 0 (envB B q F1) .busy none (q + 2))).lim = 0 := h0
  simp (disch := omega) [ak_of gl, h0, gB, k1, k3, eqf1, eqf2, -Bool.exists_bool]
  generalize σ.set (q + 3) _ = β at hb0 hb1 hbn hbl2 ⊢
  refine clone_vl s.tab (σ := β) (by omega) fun tv υ c1 c2 => ?_
  obtain ⟨o, tc, rfl, o1, o2, o3⟩ := c1
  have υn := c2.next
  have υl := c2.lim
  have υo : ∀ z, z < σ.next → z ≠ q + 3 → υ.get z = σ.get z := fun z hz h => by rw [c2.get z (by omega) (by simp), hb0 z h]
  have υb : υ.get (q + 3) = some (.loop 119 0 (envB B q F1) .busy none (q + 2)) := by rw [c2.get _ (by omega) (by simp)]; exact hb1
  simp (disch := omega) [-Bool.exists_bool]
  refine lp_loop pl (fun r fr ω => ∃ (k : Nat) (L : List Span), k + r = s.tab.length ∧ fr = ⟨[(2, .ptr (some (B + 1, 0))), (3, .ptr (some (q, 0))), (4, .int .i64 i), (5, .slice (some (o, 0)) s.tab.length tc), (17, .int .i64 s.tab.length), (18, .int .i64 k)], []⟩ ∧ ω.lim = 0 ∧ υ.next ≤ ω.next ∧ (∀ z, z < σ.next → ω.get z = υ.get z) ∧ ω.get o = some (.cells (rowOf eSpan L)) ∧ Nrw s k L)
    ⟨s.tab.length, 0, s.tab, by omega, rfl, by omega, Nat.le_refl _, fun _ _ => rfl, o2, ⟨rfl, fun j hj => by have := hs.tab j hj; unfold inM at this; omega, fun j hj => by omega⟩⟩ ?_
  rintro r _ ω ⟨k, L, hk, rfl, w0, wn, wo, wg, hN⟩
  have wt := (wo (B + 1) (by omega)).trans ((υo _ (by omega) (by omega)).trans gt)
  have wm := (wo m (by omega)).trans ((υo _ (by omega) (by omega)).trans gm)
  have x1 : B + 1 < ω.next := by omega
  have x2 := AH.get_lt wg
  have h12 : (bs.map AV.bool ++ [AV.map (some m)])[12]? = some (AV.map (some m)) := by
    rw [List.getElem?_append_right (by simp [hbl])]; simp [hbl]
  by_cases hkl : k < s.tab.length
  · obtain ⟨xs, hb, hxl, hxb⟩ := hM (k : Int)
    have hbω : Buf lo 2 eSpan ω (mgl es (k : Int)) xs := hb.stay (S := [q + 3]) ⟨by omega, by omega, fun z hz h => (wo z hz).trans (υo z hz (by simpa using h))⟩ fun z hz h => by
      have := hMn _ z hz
      simp at h
      omega
    have hlen := hbω.len
    simp (disch := omega) [Und, hkl, w0, wt, x1, h12, hbl, ahop_lookup, look_I (es := es) (c := c) (k : Int) wm, hlen, -Bool.exists_bool]
    refine lp_loop pl (fun r fr ζ => ∃ (e : Nat) (L' : List Span), e + r = xs.length ∧ fr = ⟨[(2, .ptr (some (B + 1, 0))), (3, .ptr (some (q, 0))), (4, .int .i64 i), (5, .slice (some (o, 0)) s.tab.length tc), (6, .int .i64 k), (17, .int .i64 s.tab.length), (18, .int .i64 k), (24, mgl es (k : Int)), (25, .int .i64 xs.length), (26, .int .i64 e)], []⟩ ∧ ζ.lim = 0 ∧ ω.next ≤ ζ.next ∧ (∀ z, z < σ.next → ζ.get z = υ.get z) ∧ ζ.get o = some (.cells (rowOf eSpan L')) ∧ Nrw s k L')
      ⟨xs.length, 0, L, by omega, rfl, w0, Nat.le_refl _, wo, wg, hN⟩ ?_
    rintro r2 _ ζ ⟨e, L', he, rfl, z0, zn, zo, zg, hN2⟩
    have hbζ : Buf lo 2 eSpan ζ (mgl es (k : Int)) xs := hb.stay (S := [q + 3]) ⟨by omega, by omega, fun z hz h => (zo z hz).trans (υo z hz (by simpa using h))⟩ fun z hz h => by
      have := hMn _ z hz
      simp at h
      omega
    have zl := AH.get_lt zg
    have hr1 := rowOf_length encSpan L'
    have hL1 := hN2.len
    have r1 := row_at encSpan (xs := L') (j := k) (by omega)
    have q1 : k < s.tab.length := hkl
    have q2 : (k : Int) < s.tab.length := by omega
    have q3 : k * 2 + 2 ≤ L'.length * 2 := by omega
    have q4 : ¬ o = ζ.next := by omega
    have q5 : ¬ ζ.next = o := by omega
    by_cases hex : e < xs.length
    · rcases id hbζ with ⟨e1, e2⟩ | ⟨ov, e1, e2, e3, e4⟩
      · rw [e2] at hex; exact absurd hex (by simp)
      · have ol := AH.get_lt e3
        have hr0 := rowOf_length encSpan xs
        have r0 := row_at encSpan (xs := xs) (j := e) hex
        have q6 : (e : Int) < xs.length := by omega
        have q7 : e * 2 + 2 ≤ xs.length * 2 := by omega
        have q8 : ¬ ov = ζ.next := by omega
        have hxe := hxb e hex
        unfold bdS at hxe
        simp (disch := omega) [Und, e1, z0, zg, zl, e3, ol, hex, hr0, hr1, r0, r1, q1, q2, q3, q4, q5, q6, q7, q8, eSpan, -Bool.exists_bool]
        refine ⟨by omega, ?_⟩
        generalize hX : AH.push (AH.under (AH.set (AH.push ζ _) ζ.next _) _) _ = X
        have X0 : X.lim = ζ.next + 1 := by rw [← hX]; rfl
        have Xn : X.next = ζ.next + 2 := by rw [← hX]; rfl
        have Xo : ∀ z, z < ζ.next → X.get z = ζ.get z := fun z hz => by
          have h1 : ¬ z = ζ.next := by omega
          have h2 : ¬ z = ζ.next + 1 := by omega
          rw [← hX]; simp (disch := omega) [h1, h2]
        have Xs : X.get (ζ.next + 1) = some (.cells [.int .i64 (nth xs e).lo, .int .i64 (nth xs e).hi, .int .i64 (-i), .int .i64 (-i)]) := by rw [← hX]; simp
        clear hX
        have hsu := sum_ok false [nth xs e, ⟨-i, -i⟩] (show 2 ≤ 100 by decide) (fun j hj => by
          have hj : j < 2 := hj
          have h : j = 0 ∨ j = 1 := by omega
          rcases h with rfl | rfl
          · exact hxb e hex
          · show bdS ⟨-i, -i⟩; unfold bdS; simp only; omega)
        have hv : View 0 2 eSpan X (.slice (some (ζ.next + 1, 0)) 2 (.ex 2)) [nth xs e, ⟨-i, -i⟩] := ⟨ζ.next + 1, .ex 2, [], [], rfl, by omega, AH.cel_get Xs, .inr ⟨2, rfl, by simp, by simp⟩, by simp⟩
        refine pc_scal (.cons (hv.snap encSpan flatSp) .nil) (fun h => by cases h) (by simp) (oo (args := []) (by decide)).1 hsu rfl ?_
        rw [show totS [nth xs e, ⟨-i, -i⟩] [nth xs e, ⟨-i, -i⟩].length = ⟨0 + (nth xs e).lo + -i, 0 + (nth xs e).hi + -i⟩ from rfl]
        have Xg := (Xo o zl).trans zg
        have q10 : o < X.next := by omega
        have q11 : ¬ o = ζ.next + 1 := by omega
        have q12 : X.lim ≤ X.next := by omega
        have q13 : ζ.lim ≤ o := by omega
        simp (disch := omega) [Und, eSpan, X0, Xg, zl, hr1, r1, q1, q2, q3, q4, q5, q10, q11, q12, q13, -Bool.exists_bool]
        have hset : ∀ y : Span, ((rowOf eSpan L').set (k * 2) (.int .i64 y.lo)).set (k * 2 + 1) (.int .i64 y.hi) = rowOf eSpan (L'.set k y) := fun y => by rw [← rowOf_set encSpan (by omega) y]; rfl
        refine ⟨r2 - 1, by omega, e + 1, by omega, ⟨e1.symm, by omega⟩, z0, by omega, fun z hz => ?_, L'.set k ⟨max (nth L' k).lo ((nth xs e).lo + -i), min (nth L' k).hi ((nth xs e).hi + -i)⟩, hset ⟨_, _⟩, hN2.both (by omega) _ _⟩
        rw [if_neg (by omega), Xo z (by omega)]
        exact zo z hz
    · obtain rfl : e = xs.length := by omega
      have hq0 : ∀ h : k * 2 < (rowOf eSpan L').length, (rowOf eSpan L')[k * 2] = .int .i64 (nth L' k).lo := fun h => by
        have := row_cell encSpan (xs := L') (j := k) (c := 0) (by omega) (by decide)
        rw [Nat.add_zero] at this
        exact (List.getElem?_eq_some_iff.1 this).2
      have hq1 : ∀ h : k * 2 + 1 < (rowOf eSpan L').length, (rowOf eSpan L')[k * 2 + 1] = .int .i64 (nth L' k).hi := fun h => by
        have := row_cell encSpan (xs := L') (j := k) (c := 1) (by omega) (by decide)
        exact (List.getElem?_eq_some_iff.1 this).2
      have q9 : k * 2 + 1 ≤ L'.length * 2 := by omega
      by_cases hlh : (nth L' k).lo ≤ (nth L' k).hi
      · simp (disch := omega) [Und, z0, zg, zl, hr1, r1, q1, q2, q3, q4, q5, q9, hq0, hq1, hlh, -Bool.exists_bool]
        refine ⟨fun h => absurd hlh (by omega), r - 1, by omega, k + 1, by omega, by omega, by omega, zo, L', rfl, hN2.next hlh⟩
      · simp (disch := omega) [Und, z0, zg, zl, hr1, r1, q1, q2, q3, q4, q5, q9, hq0, hq1, hlh, -Bool.exists_bool]
        have ζs : ∀ z, z < σ.next → z ≠ q + 3 → ζ.get z = σ.get z := fun z hz h => (zo z hz).trans (υo z hz h)
        exact fun _ => bd_normal (f := 119) (i := 0) (env := envB B q F1) (st := .busy) (pd := none) (d := q + 2) ((zo (q + 3) (by omega)).trans υb) ⟨rfl, z0, by show σ.next ≤ ζ.next; omega, AH.get_set_same _ _ _ (by omega), by rw [AH.get_set_other _ _ _ _ (by omega), ζs _ (by omega) (by omega)]; exact gn, hT.keep (fun z hz h => by rw [AH.get_set_other _ _ _ _ h]; exact ζs z hz h) (by omega) (by omega), fun z z1 z2 z3 z4 z5 => by rw [AH.get_set_other _ _ _ _ z5]; exact ζs z (by omega) z5⟩
  · obtain rfl : k = s.tab.length := by omega
    have wq := (wo q (by omega)).trans ((υo _ (by omega) (by omega)).trans gq)
    have x3 : q < ω.next := by omega
    simp (disch := omega) [Und, w0, wq, x3, -Bool.exists_bool]
    have ωs : ∀ z, z < σ.next → z ≠ q + 3 → ω.get z = σ.get z := fun z hz h => (wo z hz).trans (υo z hz h)
    have hTω : TabS s p ω := hT.keep ωs (by omega) (by omega)
    have hyl := trial_yield hs (n := n) (p := p) (F := F) (lv := .slice (some (o, 0)) s.tab.length tc) (i := i) (L0 := L) (σ := ω) hi ⟨hN.len, fun j hj => ⟨(hN.wid j hj).1, hN.ok j (by have := hN.len; omega) hj, (hN.wid j hj).2⟩⟩ w0 (by omega) (by omega) ((ωs (n + 1) (by omega) (by omega)).trans gn) hTω
      ⟨o, tc, by rw [hN.len], by omega, wg, by rw [hN.len]; exact o3⟩ (fun tv htv z hz hz2 => by
        simp [obj] at hz
        subst hz
        rw [ωs 1 (by omega) (by omega)] at htv
        rcases hT with ⟨a1, a2⟩ | ⟨tv', L1, a, b, a1, a2, a3, a4⟩
        · rw [a1] at htv
          simp at htv
          subst htv
          simp [obj] at hz2
        · rw [a1] at htv
          simp at htv
          subst htv
          have := (a3.obj_lt _ hz2).2
          omega)
    refine hyl.mono ?_
    rintro r2 τ ⟨rfl, τ0, τn, τl, τT, τk⟩
    simp (disch := omega) [Und, -Bool.exists_bool]
    have τb : τ.get (q + 3) = some (.loop 119 0 (envB B q F1) .busy none (q + 2)) := by rw [τk _ (by omega) (by omega) (by omega) (by omega), wo _ (by omega)]; exact υb
    have τo := AH.get_lt τb
    refine bd_normal (f := 119) (i := 0) (env := envB B q F1) (st := .busy) (pd := none) (d := q + 2) τb ⟨rfl, τ0, by show σ.next ≤ τ.next; omega, AH.get_set_same _ _ _ τo, by rw [AH.get_set_other _ _ _ _ (by omega)]; exact τl, τT.keep (fun z hz h => AH.get_set_other _ _ _ _ h) (by omega) (by omega), fun z z1 z2 z3 z4 z5 => by rw [AH.get_set_other _ _ _ _ z5, τk z z1 z2 z3 z4]; exact ωs z (by omega) z5⟩
end Go.Oct.Cry.Sx
