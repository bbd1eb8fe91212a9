/- Trials: one index error more, in the loop of Trial. -/
import Derived.Test.YtddkghgfbhhcdaaOCryTraH
set_option maxRecDepth 100000
set_option maxHeartbeats 4000000
set_option linter.unusedVariables false
set_option linter.unusedSimpArgs false
namespace Go.Oct.Cry.Sx
open Go.Oct
theorem eqf1 {a b : Nat} (h : a < b) : (a = b) = False := by simp; omega
theorem eqf2 {a b : Nat} (h : b < a) : (a = b) = False := by simp; omega
theorem clone_vl (l : List Span) {σ : AH} {K : AV → AH → Prop} (hl : l.length ≤ 1000) (hK : ∀ v σ', Whole σ.next 2 eSpan σ' v l → Only [] σ σ' → K v σ') : Call prog O (.fn 74) [vl eSpan false l] σ K := by
  refine @call_of' _ _ pl _ _ _ _ _ _ _ ⟨K⟩ get74 ((oo (by decide)).2 _) rfl ?_
  simp (disch := omega) [-Bool.exists_bool]
  refine lit0_app (lo := σ.next) encSpan (Nat.le_refl _) (by simp) (by simp) (vl_src encSpan false l) (by simp only [topBytes]; omega) fun v' σ' h1 h2 h3 => ?_
  simp (disch := omega) [-Bool.exists_bool]
  exact hK v' σ' h1 ((Only.push [] σ _).trans h2)
theorem clone_wh {lo : Nat} {l : List Span} {σ : AH} {lv : AV} (hv : Whole lo 2 eSpan σ lv l) {K : AV → AH → Prop} (hl : l.length ≤ 1000) (hK : ∀ v σ', Whole σ.next 2 eSpan σ' v l → Only [] σ σ' → K v σ') : Call prog O (.fn 74) [lv] σ K := by
  have hs := (hv.stay (Only.push [] σ (.cells [])) fun _ _ h => by cases h).view.src encSpan
  obtain ⟨o, c, rfl, _, hg, _⟩ := hv
  refine @call_of' _ _ pl _ _ _ _ _ _ _ ⟨K⟩ get74 ((oo (by decide)).2 _) rfl ?_
  simp (disch := omega) [-Bool.exists_bool]
  refine lit0_app (lo := σ.next) encSpan (Nat.le_refl _) (by simp) (by simp) hs (by simp only [topBytes]; omega) fun v' σ' h1 h2 h3 => ?_
  simp (disch := omega) [-Bool.exists_bool]
  exact hK v' σ' h1 ((Only.push [] σ _).trans h2)
@[simp] theorem wider_ok (lo hi n : Int) (f : Bool) : ans prog O 75 [.agg [.int .i64 lo, .int .i64 hi], .int .i64 n, .bool f] = some (if f = true then .agg [.int .i64 n, .int .i64 n] else .agg [.int .i64 (min lo n), .int .i64 (max hi n)]) := by
  refine fn_of' pl get75 (oo (by decide)) rfl rfl ?_
  cases f <;> simp +contextual (disch := omega) [Und]
@[simp] theorem both_ok (a b c d : Int) : ans prog O 121 [.agg [.int .i64 a, .int .i64 b], .agg [.int .i64 c, .int .i64 d]] = some (.agg [.int .i64 (max a c), .int .i64 (min b d)]) := by
  refine fn_of' pl get121 (oo (by decide)) rfl rfl ?_
  simp +contextual (disch := omega) [Und]
/-- Corrections within those of the table. -/
def okL (s : Sext) (L : List Span) : Prop := L.length = s.tab.length ∧ ∀ k, k < L.length → (nth s.tab k).lo ≤ (nth L k).lo ∧ (nth L k).lo ≤ (nth L k).hi ∧ (nth L k).hi ≤ (nth s.tab k).hi
theorem okL.set {s : Sext} {L : List Span} (h : okL s L) {j : Nat} (hj : j < L.length) {y : Span} (h1 : (nth s.tab j).lo ≤ y.lo) (h2 : y.lo ≤ y.hi) (h3 : y.hi ≤ (nth s.tab j).hi) : okL s (L.set j y) := by
  refine ⟨by rw [List.length_set]; exact h.1, fun k hk => ?_⟩
  rw [List.length_set] at hk
  rw [nth_set hj]
  by_cases e : k = j
  · rw [if_pos e, e]; exact ⟨h1, h2, h3⟩
  · rw [if_neg e]; exact h.2 k hk
/-- What has been found. -/
def TabS (s : Sext) (p : Nat) (σ : AH) : Prop := (σ.get 1 = some (.cells [.vsl true []]) ∧ σ.get 2 = some (.cells [.int .i64 0, .int .i64 0])) ∨
  ∃ tv L a b, σ.get 1 = some (.cells [tv]) ∧ σ.get 2 = some (.cells [.int .i64 a, .int .i64 b]) ∧ Whole p 2 eSpan σ tv L ∧ okL s L ∧ s.il ≤ a ∧ a ≤ b ∧ b ≤ s.ih
abbrev envT (F : AV) : Env := [(4, .ptr (some (1, 0))), (5, .ptr (some (2, 0))), (6, .int .i64 0), (27, F)]
theorem trial_yield {s : Sext} (hs : okS s) {n p : Nat} {F lv : AV} {i : Int} {L0 : List Span} {σ : AH} (hi : s.il ≤ i ∧ i ≤ s.ih) (hL : okL s L0) (h0 : σ.lim = 0) (hn : 3 ≤ n ∧ n + 1 < p) (hp : p ≤ σ.next) (hl : σ.get (n + 1) = some (.loop 32 0 (envT F) .ready none n))
    (hT : TabS s p σ) (hlv : Whole p 2 eSpan σ lv L0) (hne : ∀ tv, σ.get 1 = some (.cells [tv]) → ∀ z ∈ obj lv, z ∉ obj tv) :
    Call prog O (.yield (n + 1)) [.int .i64 i, lv] σ (fun r σ' => r = .bool true ∧ σ'.lim = 0 ∧ σ.next ≤ σ'.next ∧ σ'.get (n + 1) = some (.loop 32 0 (envT F) .ready none n) ∧ TabS s p σ' ∧ ∀ z, z < p → z ≠ 1 → z ≠ 2 → z ≠ n + 1 → σ'.get z = σ.get z) := by
  obtain ⟨o, cc, rfl, ho, hg, hcc⟩ := hlv
  have hon := AH.get_lt hg
  refine yield_of' pl hl get32 rfl rfl (by omega) rfl ?_
  have hit := hs.len
  have hix := hs.idx
  have k1 : 1 < σ.next := by omega
  have k2 : 2 < σ.next := by omega
  have k3 : ¬ 1 = n + 1 := by omega
  have k4 : ¬ 2 = n + 1 := by omega
  have hb0 : ∀ z, z ≠ n + 1 → (σ.set (n + 1) (.loop 32 0 (envT F) .busy none n)).get z = σ.get z := fun z hz => AH.get_set_other _ _ _ _ hz
  have hb1 : (σ.set (n + 1) (.loop 32 0 (envT F) .busy none n)).get (n + 1) = some (.loop 32 0 (envT F) .busy none n) := AH.get_set_same _ _ _ (by omega)
  have hbn : (σ.set (n + 1) (.loop 32 0 (envT F) .busy none n)).next = σ.next := rfl
  have hbl : (σ.set (n + 1) (.loop 32 0 (envT F) .busy none n)).lim = 0 := h0
  have hlen : L0.length ≤ 12 := by have := hL.1; omega
  rcases hT with ⟨g1, g2⟩ | ⟨tv, L, a, b, g1, g2, hW, hL2, ha, hab, hb⟩
  · simp (disch := omega) [ak_of hl, h0, g1, g2, k1, k2, k3, k4, eqf1, eqf2, -Bool.exists_bool]
    generalize σ.set (n + 1) _ = β at hb0 hb1 hbn hbl ⊢
    have hgβ : β.get o = some (.cells (rowOf eSpan L0)) := by rw [hb0 o (by omega)]; exact hg
    refine clone_wh (lo := p) (σ := β) ⟨o, cc, rfl, ho, hgβ, hcc⟩ (by omega) fun tv υ c1 c2 => ?_
    have υl := c2.lim
    have υn := c2.next
    have υo : ∀ z, z < σ.next → υ.get z = β.get z := fun z hz => c2.get z (by omega) (by simp)
    have υ1 : υ.get 1 = some (.cells [.vsl true []]) := by rw [υo 1 k1, hb0 1 (by omega)]; exact g1
    have υ2 : υ.get 2 = some (.cells [.int .i64 0, .int .i64 0]) := by rw [υo 2 k2, hb0 2 (by omega)]; exact g2
    have k5 : 1 < υ.next := by omega
    obtain ⟨ti, tc, rfl, t1, t2, t3⟩ := c1
    have t4 := AH.get_lt t2
    simp (disch := omega) [υl, hbl, υ1, k5, -Bool.exists_bool]
    generalize hω : υ.set 1 _ = ω
    have ω0 : ω.lim = 0 := by rw [← hω]; show υ.lim = 0; omega
    have ωn : σ.next ≤ ω.next := by rw [← hω]; show σ.next ≤ υ.next; omega
    have ω1 : ω.get 1 = some (.cells [.slice (some (ti, 0)) L0.length tc]) := by rw [← hω]; exact AH.get_set_same _ _ _ k5
    have ωz : ∀ z, z ≠ 1 → ω.get z = υ.get z := fun z hz => by rw [← hω]; exact AH.get_set_other _ _ _ _ hz
    have ω2 : ω.get 2 = some (.cells [.int .i64 0, .int .i64 0]) := (ωz 2 (by omega)).trans υ2
    have ωl : ω.get (n + 1) = some (.loop 32 0 (envT F) .busy none n) := by rw [ωz _ (by omega), υo _ (by omega)]; exact hb1
    have ωW : Whole p 2 eSpan ω (.slice (some (ti, 0)) L0.length tc) L0 := ⟨ti, tc, rfl, by omega, by rw [ωz _ (by omega)]; exact t2, t3⟩
    have ωo : ω.get o = some (.cells (rowOf eSpan L0)) := by rw [ωz _ (by omega), υo _ hon]; exact hgβ
    have ωk : ∀ z, z < p → z ≠ 1 → z ≠ 2 → z ≠ n + 1 → ω.get z = σ.get z := fun z z1 z2 z3 z4 => by rw [ωz z z2, υo z (by omega), hb0 z z4]
    clear hω
    have hot : ¬ o = ti := by omega
    refine lp_loop pl (fun k fr υ => ∃ (j : Nat) (L1 : List Span), j + k = L0.length ∧ fr = ⟨[(4, .ptr (some (1, 0))), (5, .ptr (some (2, 0))), (8, .int .i64 i), (10, .bool true), (35, .slice (some (o, 0)) L0.length cc), (36, .int .i64 L0.length), (37, .int .i64 j)], []⟩ ∧ υ.lim = 0 ∧ σ.next ≤ υ.next ∧ υ.get 1 = some (.cells [.slice (some (ti, 0)) L0.length tc]) ∧
        υ.get 2 = some (.cells [.int .i64 0, .int .i64 0]) ∧ υ.get (n + 1) = some (.loop 32 0 (envT F) .busy none n) ∧ υ.get ti = some (.cells (rowOf eSpan L1)) ∧ L1.length = L0.length ∧ okL s L1 ∧ υ.get o = some (.cells (rowOf eSpan L0)) ∧ ∀ z, z < p → z ≠ 1 → z ≠ 2 → z ≠ n + 1 → υ.get z = σ.get z)
      ⟨L0.length, 0, L0, by omega, rfl, ω0, ωn, ω1, ω2, ωl, by obtain ⟨_, _, e, _, h, _⟩ := ωW; cases e; exact h, rfl, hL, ωo, ωk⟩ ?_
    rintro k _ υ ⟨j, L1, hj, rfl, u0, un, u1, u2, ul, ut, hl1, hok, uo, uk⟩
    have v1 : 1 < υ.next := by omega
    have v2 : 2 < υ.next := by omega
    have v3 := AH.get_lt ut
    have v4 := AH.get_lt uo
    have hr0 := rowOf_length encSpan L0
    have hr1 := rowOf_length encSpan L1
    by_cases hjl : j < L0.length
    · have hjl' : (j : Int) < L0.length := by omega
      have b0 := hL.2 j hjl
      have b1 := hok.2 j (by omega)
      have r0 := row_at encSpan (xs := L0) (j := j) hjl
      have r1 := row_at encSpan (xs := L1) (j := j) (by omega)
      have w0 : j * 2 + 2 ≤ L0.length * 2 := by omega
      have w1 : j * 2 + 2 ≤ L1.length * 2 := by omega
      have y1 : ¬ 1 = υ.next := by omega
      have y2 : ¬ ti = υ.next := by omega
      have y3 : ¬ o = υ.next := by omega
      have y4 : ¬ υ.next = 1 := by omega
      have y5 : ¬ υ.next = ti := by omega
      have y6 : 1 < υ.next + 1 := by omega
      have y7 : ti < υ.next + 1 := by omega
      have y8 : ¬ 1 = ti := by omega
      have y9 : ¬ 2 = ti := by omega
      have y10 : ¬ 2 = υ.next := by omega
      have y11 : ¬ n + 1 = ti := by omega
      have y12 : ¬ n + 1 = υ.next := by omega
      have y13 : ¬ ti = o := fun h => hot h.symm
      have y14 : ∀ z, z < p → ¬ z = ti := fun z hz => by omega
      have y15 : ∀ z, z < p → ¬ z = υ.next := fun z hz => by omega
      have hjt : (j : Int) < L0.length := by omega
      have hjt' : j < L0.length := by omega
      simp (disch := omega) [Und, hjl, hjl', hjt, hjt', u0, u1, ut, uo, v1, v2, v3, v4, hr0, hr1, r0, r1, w0, w1, y1, y2, y3, y4, y5, y6, y7, y8, y9, y10, y11, y12, y13, hot, -Bool.exists_bool]
      have hset : ∀ y : Span, ((rowOf eSpan L1).set (j * 2) (.int .i64 y.lo)).set (j * 2 + 1) (.int .i64 y.hi) = rowOf eSpan (L1.set j y) := fun y => by rw [← rowOf_set encSpan (by omega) y]; rfl
      refine ⟨fun _ => ?_, fun _ _ => ?_⟩
      · refine ⟨k - 1, by omega, j + 1, by omega, by omega, by omega, u2, ul, L1.set j ⟨min (nth L1 j).lo (min (nth L0 j).lo (nth L0 j).hi), max (nth L1 j).hi (max (nth L0 j).lo (nth L0 j).hi)⟩, hset ⟨_, _⟩, by simp [hl1], hok.set (by omega) (by simp only; omega) (by simp only; omega) (by simp only; omega), fun z z1 z2 z3 z4 => ?_⟩
        rw [if_neg (y14 z z1), if_neg (y15 z z1), if_neg (y15 z z1)]
        exact uk z z1 z2 z3 z4
      · refine ⟨k - 1, by omega, j + 1, by omega, by omega, by omega, u2, ul, L1, rfl, hl1, hok, fun z z1 z2 z3 z4 => ?_⟩
        rw [if_neg (y15 z z1), if_neg (y15 z z1)]
        exact uk z z1 z2 z3 z4
    · obtain rfl : j = L0.length := by omega
      simp (disch := omega) [Und, u0, u2, v2, -Bool.exists_bool]
      have y11 : ¬ n + 1 = ti := by omega
      refine bd_normal (f := 32) (i := 0) (env := envT F) (st := .busy) (pd := none) (d := n) (by rw [AH.get_set_other _ _ _ _ (by omega)]; exact ul) ⟨rfl, u0, un, AH.get_set_same _ _ _ (by show n + 1 < υ.next; omega), .inr ⟨.slice (some (ti, 0)) L0.length tc, L1, i, i, ?_, ?_, ⟨ti, tc, by rw [hl1], by omega, ?_, by rw [hl1]; exact t3⟩, hok, by omega, by omega, by omega⟩, fun z z1 z2 z3 z4 => ?_⟩
      · rw [AH.get_set_other _ _ _ _ (by omega), AH.get_set_other _ _ _ _ (by omega)]; exact u1
      · rw [AH.get_set_other _ _ _ _ (by omega)]; exact AH.get_set_same _ _ _ v2
      · rw [AH.get_set_other _ _ _ _ (by omega), AH.get_set_other _ _ _ _ (by omega)]; exact ut
      · rw [AH.get_set_other _ _ _ _ z4, AH.get_set_other _ _ _ _ z3]; exact uk z z1 z2 z3 z4
  · obtain ⟨ti, tc, rfl, t1, t2, t3⟩ := id hW
    simp (disch := omega) [ak_of hl, h0, g1, g2, k1, k2, k3, k4, eqf1, eqf2, -Bool.exists_bool]
    generalize σ.set (n + 1) _ = ω at hb0 hb1 hbn hbl ⊢
    have hLL : L.length = L0.length := by have := hL.1; have := hL2.1; omega
    have hot : ¬ o = ti := fun e => hne _ g1 o (by simp [obj]) (by simp [obj, e])
    have ω0 : ω.lim = 0 := hbl
    have ωn : σ.next ≤ ω.next := by omega
    have ω1 : ω.get 1 = some (.cells [.slice (some (ti, 0)) L.length tc]) := (hb0 1 (by omega)).trans g1
    have ω2 : ω.get 2 = some (.cells [.int .i64 a, .int .i64 b]) := (hb0 2 (by omega)).trans g2
    have ωl : ω.get (n + 1) = some (.loop 32 0 (envT F) .busy none n) := hb1
    have ωo : ω.get o = some (.cells (rowOf eSpan L0)) := (hb0 o (by omega)).trans hg
    have ωk : ∀ z, z < p → z ≠ 1 → z ≠ 2 → z ≠ n + 1 → ω.get z = σ.get z := fun z z1 z2 z3 z4 => hb0 z z4
    refine lp_loop pl (fun k fr υ => ∃ (j : Nat) (L1 : List Span), j + k = L0.length ∧ fr = ⟨[(4, .ptr (some (1, 0))), (5, .ptr (some (2, 0))), (8, .int .i64 i), (10, .bool false), (35, .slice (some (o, 0)) L0.length cc), (36, .int .i64 L0.length), (37, .int .i64 j)], []⟩ ∧ υ.lim = 0 ∧ σ.next ≤ υ.next ∧ υ.get 1 = some (.cells [.slice (some (ti, 0)) L.length tc]) ∧
        υ.get 2 = some (.cells [.int .i64 a, .int .i64 b]) ∧ υ.get (n + 1) = some (.loop 32 0 (envT F) .busy none n) ∧ υ.get ti = some (.cells (rowOf eSpan L1)) ∧ L1.length = L0.length ∧ okL s L1 ∧ υ.get o = some (.cells (rowOf eSpan L0)) ∧ ∀ z, z < p → z ≠ 1 → z ≠ 2 → z ≠ n + 1 → υ.get z = σ.get z)
      ⟨L0.length, 0, L, by omega, rfl, ω0, ωn, ω1, ω2, ωl, by rw [hb0 ti (by omega)]; exact t2, by have := hL.1; have := hL2.1; omega, hL2, ωo, ωk⟩ ?_
    rintro k _ υ ⟨j, L1, hj, rfl, u0, un, u1, u2, ul, ut, hl1, hok, uo, uk⟩
    have v1 : 1 < υ.next := by omega
    have v2 : 2 < υ.next := by omega
    have v3 := AH.get_lt ut
    have v4 := AH.get_lt uo
    have hr0 := rowOf_length encSpan L0
    have hr1 := rowOf_length encSpan L1
    by_cases hjl : j < L0.length
    · have hjl' : (j : Int) < L0.length := by omega
      have b0 := hL.2 j hjl
      have b1 := hok.2 j (by omega)
      have r0 := row_at encSpan (xs := L0) (j := j) hjl
      have r1 := row_at encSpan (xs := L1) (j := j) (by omega)
      have w0 : j * 2 + 2 ≤ L0.length * 2 := by omega
      have w1 : j * 2 + 2 ≤ L1.length * 2 := by omega
      have y1 : ¬ 1 = υ.next := by omega
      have y2 : ¬ ti = υ.next := by omega
      have y3 : ¬ o = υ.next := by omega
      have y4 : ¬ υ.next = 1 := by omega
      have y5 : ¬ υ.next = ti := by omega
      have y6 : 1 < υ.next + 1 := by omega
      have y7 : ti < υ.next + 1 := by omega
      have y8 : ¬ 1 = ti := by omega
      have y9 : ¬ 2 = ti := by omega
      have y10 : ¬ 2 = υ.next := by omega
      have y11 : ¬ n + 1 = ti := by omega
      have y12 : ¬ n + 1 = υ.next := by omega
      have y13 : ¬ ti = o := fun h => hot h.symm
      have y14 : ∀ z, z < p → ¬ z = ti := fun z hz => by omega
      have y15 : ∀ z, z < p → ¬ z = υ.next := fun z hz => by omega
      have hjt : (j : Int) < L.length := by omega
      have hjt' : j < L.length := by omega
      simp (disch := omega) [Und, hjl, hjl', hjt, hjt', u0, u1, ut, uo, v1, v2, v3, v4, hr0, hr1, r0, r1, w0, w1, y1, y2, y3, y4, y5, y6, y7, y8, y9, y10, y11, y12, y13, hot, -Bool.exists_bool]
      have hset : ∀ y : Span, ((rowOf eSpan L1).set (j * 2) (.int .i64 y.lo)).set (j * 2 + 1) (.int .i64 y.hi) = rowOf eSpan (L1.set j y) := fun y => by rw [← rowOf_set encSpan (by omega) y]; rfl
      refine ⟨fun _ => ?_, fun _ _ => ?_⟩
      · refine ⟨k - 1, by omega, j + 1, by omega, by omega, by omega, u2, ul, L1.set j ⟨min (nth L1 j).lo (min (nth L0 j).lo (nth L0 j).hi), max (nth L1 j).hi (max (nth L0 j).lo (nth L0 j).hi)⟩, hset ⟨_, _⟩, by simp [hl1], hok.set (by omega) (by simp only; omega) (by simp only; omega) (by simp only; omega), fun z z1 z2 z3 z4 => ?_⟩
        rw [if_neg (y14 z z1), if_neg (y15 z z1), if_neg (y15 z z1)]
        exact uk z z1 z2 z3 z4
      · refine ⟨k - 1, by omega, j + 1, by omega, by omega, by omega, u2, ul, L1, rfl, hl1, hok, fun z z1 z2 z3 z4 => ?_⟩
        rw [if_neg (y15 z z1), if_neg (y15 z z1)]
        exact uk z z1 z2 z3 z4
    · obtain rfl : j = L0.length := by omega
      simp (disch := omega) [Und, u0, u2, v2, -Bool.exists_bool]
      have y11 : ¬ n + 1 = ti := by omega
      refine bd_normal (f := 32) (i := 0) (env := envT F) (st := .busy) (pd := none) (d := n) (by rw [AH.get_set_other _ _ _ _ (by omega)]; exact ul) ⟨rfl, u0, un, AH.get_set_same _ _ _ (by show n + 1 < υ.next; omega), .inr ⟨.slice (some (ti, 0)) L.length tc, L1, (min a i), (max b i), ?_, ?_, ⟨ti, tc, by rw [hl1, hLL], by omega, ?_, by rw [hl1]; exact (by have := hL.1; have := hL2.1; rw [show L.length = L0.length by omega] at t3; exact t3)⟩, hok, by omega, by omega, by omega⟩, fun z z1 z2 z3 z4 => ?_⟩
      · rw [AH.get_set_other _ _ _ _ (by omega), AH.get_set_other _ _ _ _ (by omega)]; exact u1
      · rw [AH.get_set_other _ _ _ _ (by omega)]; exact AH.get_set_same _ _ _ v2
      · rw [AH.get_set_other _ _ _ _ (by omega), AH.get_set_other _ _ _ _ (by omega)]; exact ut
      · rw [AH.get_set_other _ _ _ _ z4, AH.get_set_other _ _ _ _ z3]; exact uk z z1 z2 z3 z4
end Go.Oct.Cry.Sx
