/- Sorting spans by their lower ends: insertion, and the heap. -/
import Derived.Test.YtddclpecmjibkaaDoorOFixSrtQ
set_option maxRecDepth 100000
set_option maxHeartbeats 8000000
set_option linter.unusedVariables false
set_option linter.unusedSimpArgs false
namespace Go.Oct.Fix
open Go.Oct
def bd (x : Span) : Prop := -1000000 ≤ x.lo ∧ x.lo ≤ 1000000
theorem cmpS_ok (a b : Span) (ha : bd a) (hb : bd b) : ans prog O 87 [.agg [.int .i64 a.lo, .int .i64 a.hi], .agg [.int .i64 b.lo, .int .i64 b.hi]] = some (.int .i64 (a.lo - b.lo)) := by
  unfold bd at ha hb
  refine fn_of' pl get87 (oo (by decide)) rfl rfl ?_
  simp (disch := omega) [Und, -Bool.exists_bool]
abbrev cmpF : AV := .func (.func 87) [] []
/-- What a part of the sort leaves: the object has these elements; all else is as it was. -/
structure Lay (o : Nat) (σ σ' : AH) (ys : List Span) : Prop where
  only : Only [o] σ σ'
  row : σ'.get o = some (.cells (rowOf eSpan ys))
theorem Lay.trans {o : Nat} {σ σ' σ'' : AH} {ys zs : List Span} (h : Lay o σ σ' ys) (k : Lay o σ' σ'' zs) : Lay o σ σ'' zs := ⟨h.only.trans k.only, k.row⟩
theorem Lay.set {o : Nat} {σ σ' : AH} {ys : List Span} (h : Lay o σ σ' ys) (zs : List Span) : Lay o σ (σ'.set o (.cells (rowOf eSpan zs))) zs :=
  ⟨h.only.trans (Only.set (by simp) _), AH.get_set_same _ _ _ (AH.get_lt h.row)⟩
theorem Lay.refl {o : Nat} {σ : AH} {xs : List Span} (h : σ.get o = some (.cells (rowOf eSpan xs))) : Lay o σ σ xs := ⟨Only.refl _ _, h⟩
theorem Lay.set2 {o : Nat} {σ σ' : AH} {ys : List Span} (h : Lay o σ σ' ys) (A : AObj) (zs : List Span) : Lay o σ ((σ'.set o A).set o (.cells (rowOf eSpan zs))) zs :=
  ⟨(h.only.trans (Only.set (by simp) _)).trans (Only.set (by simp) _), AH.get_set_same _ _ _ (show o < σ'.next from AH.get_lt h.row)⟩
theorem setS {zs : List Span} {m : Nat} (h : m < zs.length) (y : Span) : ((rowOf eSpan zs).set (m * 2) (.int .i64 y.lo)).set (m * 2 + 1) (.int .i64 y.hi) = rowOf eSpan (zs.set m y) := by
  rw [← rowOf_set encSpan h y]; rfl
theorem swpC {zs : List Span} {i j : Nat} (hi : i < zs.length) (hj : j < zs.length) : ((((rowOf eSpan zs).set (j * 2) (.int .i64 (nth zs i).lo)).set (j * 2 + 1) (.int .i64 (nth zs i).hi)).set (i * 2) (.int .i64 (nth zs j).lo)).set (i * 2 + 1) (.int .i64 (nth zs j).hi) = rowOf eSpan (swp zs i j) := by
  rw [setS hj, setS (by simpa using hi)]; rfl
theorem swp_comm {zs : List Span} {i j : Nat} (h : i ≠ j) : swp zs i j = swp zs j i := by unfold swp; rw [List.set_comm _ _ h]
theorem isort_call {σ : AH} {o n a b : Nat} {xs : List Span} (hl : σ.lim ≤ o) (hg : σ.get o = some (.cells (rowOf eSpan xs))) (hn : xs.length = n) (hn2 : n ≤ 1000) (hbd : ∀ x ∈ xs, bd x) (hab : a ≤ b) (hb : b ≤ n) {c : ACap} {K : AV → AH → Prop}
    (hK : ∀ ys σ', Lay o σ σ' ys → PI a b xs ys → srt a b ys → K (.tuple []) σ') :
    Call prog O (.fn 108) [.slice (some (o, 0)) n c, .int .i64 a, .int .i64 b, cmpF] σ K := by
  refine @call_of' _ _ pl _ _ _ _ _ _ _ ⟨K⟩ get108 ((oo (by decide)).2 _) rfl ?_
  simp (disch := omega) [-Bool.exists_bool]
  refine lp_loop pl (fun k fr υ => ∃ (j : Nat) (ys : List Span), j + k = b + 1 ∧ a + 1 ≤ j ∧ fr = ⟨[(0, .slice (some (o, 0)) n c), (1, .int .i64 a), (2, .int .i64 b), (3, cmpF), (8, .int .i64 j)], []⟩ ∧ Lay o σ υ ys ∧ PI a b xs ys ∧ (j ≤ b → srt a j ys) ∧ (b < j → srt a b ys))
    ⟨b - a, a + 1, xs, by omega, by omega, rfl, .refl hg, .refl _ _ _, fun _ p q h1 h2 h3 => by omega, fun h p q h1 h2 h3 => by omega⟩ ?_
  rintro k _ υ ⟨j, ys, hj, hj1, rfl, hL, hP, hS, hS2⟩
  by_cases hjb : j < b
  · simp (disch := omega) [Und, hjb, -Bool.exists_bool]
    refine lp_loop pl (fun k fr υ' => ∃ (m : Nat) (zs : List Span), m = k ∧ fr = ⟨[(0, .slice (some (o, 0)) n c), (1, .int .i64 a), (2, .int .i64 b), (3, cmpF), (8, .int .i64 j), (9, .int .i64 m)], []⟩ ∧ Lay o σ υ' zs ∧ PI a b xs zs ∧ Snk a j m zs)
      ⟨j, j, ys, rfl, rfl, hL, hP, .start (by omega) (hS (by omega))⟩ ?_
    rintro k2 _ υ2 ⟨m, zs, rfl, rfl, hZ, hQ, hk⟩
    have hzl : zs.length = n := hQ.len.trans hn
    have hmj := hk.le
    have hma := hk.lo
    have hrl := rowOf_length encSpan zs
    have hlm : υ2.lim ≤ o := by rw [hZ.only.lim]; exact hl
    have hin : o < υ2.next := AH.get_lt hZ.row
    have sz : ∀ j, j < zs.length → bd (nth zs j) := fun j hj => hbd _ (hQ.perm.mem_iff.1 (nth_mem hj))
    by_cases hm : a < m
    · have r1 := row_at encSpan (xs := zs) (j := m) (by omega)
      have r2 := row_at encSpan (xs := zs) (j := m - 1) (by omega)
      have e1 : ((m : Int) - 1).toNat = m - 1 := by omega
      have hcmp := cmpS_ok (nth zs m) (nth zs (m - 1)) (sz _ (by omega)) (sz _ (by omega))
      have hb1 := sz m (by omega)
      have hb2 := sz (m - 1) (by omega)
      unfold bd at hb1 hb2
      have q1 : m < n := by omega
      have q2 : (m : Int) - 1 < n := by omega
      have q3 : m * 2 + 2 ≤ zs.length * 2 := by omega
      have q4 : (m - 1) * 2 + 2 ≤ zs.length * 2 := by omega
      have q5 : 1 ≤ (m : Int) := by omega
      simp (disch := omega) [Und, hm, hZ.row, hrl, r1, r2, e1, q1, q2, q3, q4, q5, hlm, hin, hcmp, -Bool.exists_bool]
      refine ⟨fun hlt => ?_, fun hge => ?_⟩
      · rw [swpC (i := m - 1) (j := m) (by omega) (by omega)]
        exact ⟨m - 1, by omega, by omega, swp zs (m - 1) m, hZ.set2 _ _, hQ.swp (by omega) (by omega) (by omega), hk.step (by omega) hm (by unfold kk; omega)⟩
      · exact ⟨k - 1, by omega, j + 1, by omega, by omega, by omega, zs, hZ, hQ, fun _ => hk.stop fun _ => by unfold kk; omega, fun h => by omega⟩
    · obtain rfl : m = a := by omega
      simp (disch := omega) [Und, -Bool.exists_bool]
      exact ⟨k - 1, by omega, j + 1, by omega, by omega, by omega, zs, hZ, hQ, fun _ => hk.stop fun h => by omega, fun h => by omega⟩
  · simp (disch := omega) [Und, hjb, -Bool.exists_bool]
    refine hK ys υ hL hP ?_
    by_cases e : j = b
    · rw [← e]; exact hS (by omega)
    · exact hS2 (by omega)
theorem sift_call {σ : AH} {o n lo hi f : Nat} {xs : List Span} (hl : σ.lim ≤ o) (hg : σ.get o = some (.cells (rowOf eSpan xs))) (hn : xs.length = n) (hn2 : n ≤ 1000) (hbd : ∀ x ∈ xs, bd x) (hf : f + hi ≤ n) (hlo : lo < 1000) (hh : heap f hi (lo + 1) xs) {c : ACap} {K : AV → AH → Prop}
    (hK : ∀ ys σ', Lay o σ σ' ys → PI f (f + hi) xs ys → heap f hi lo ys → K (.tuple []) σ') :
    Call prog O (.fn 118) [.slice (some (o, 0)) n c, .int .i64 lo, .int .i64 hi, .int .i64 f, cmpF] σ K := by
  refine @call_of' _ _ pl _ _ _ _ _ _ _ ⟨K⟩ get118 ((oo (by decide)).2 _) rfl ?_
  simp (disch := omega) [-Bool.exists_bool]
  refine lp_loop pl (fun k fr υ => ∃ (r : Nat) (zs : List Span), r + k = 2000 ∧ lo ≤ r ∧ r < 1000 ∧ fr = ⟨[(0, .slice (some (o, 0)) n c), (2, .int .i64 hi), (3, .int .i64 f), (4, cmpF), (10, .int .i64 r)], []⟩ ∧ Lay o σ υ zs ∧ PI f (f + hi) xs zs ∧ Hp f hi lo r zs)
    ⟨2000 - lo, lo, xs, by omega, by omega, by omega, rfl, .refl hg, .refl _ _ _, .start hh⟩ ?_
  rintro k _ υ ⟨r, zs, hrk, hr1, hr2, rfl, hZ, hQ, hk⟩
  have hzl : zs.length = n := hQ.len.trans hn
  have hrl := rowOf_length encSpan zs
  have hlm : υ.lim ≤ o := by rw [hZ.only.lim]; exact hl
  have hin : o < υ.next := AH.get_lt hZ.row
  have sz : ∀ j, j < zs.length → bd (nth zs j) := fun j hj => hbd _ (hQ.perm.mem_iff.1 (nth_mem hj))
  by_cases h1 : hi ≤ 2 * r + 1
  · have h1' : (hi : Int) ≤ 2 * (r : Int) + 1 := by omega
    simp (disch := omega) [Und, h1', -Bool.exists_bool]
    exact hK zs υ hZ hQ (hk.stop fun c h2 h3 => by omega)
  · have h1' : ¬ (hi : Int) ≤ 2 * (r : Int) + 1 := by omega
    have r0 := row_at encSpan (xs := zs) (j := f + r) (by omega)
    have r1 := row_at encSpan (xs := zs) (j := f + (2 * r + 1)) (by omega)
    have e0 : ((f : Int) + (r : Int)).toNat = f + r := by omega
    have e1 : ((f : Int) + (2 * (r : Int) + 1)).toNat = f + (2 * r + 1) := by omega
    have q0 : (f : Int) + (r : Int) < n := by omega
    have q1 : (f : Int) + (2 * (r : Int) + 1) < n := by omega
    have b0 := sz (f + r) (by omega)
    have b1 := sz (f + (2 * r + 1)) (by omega)
    have cm1 := cmpS_ok (nth zs (f + r)) (nth zs (f + (2 * r + 1))) b0 b1
    unfold bd at b0 b1
    have w0 : (f + r) * 2 + 2 ≤ zs.length * 2 := by omega
    have w1 : (f + (2 * r + 1)) * 2 + 2 ≤ zs.length * 2 := by omega
    have p0 : 0 ≤ (f : Int) + (r : Int) := by omega
    have p1 : 0 ≤ (f : Int) + (2 * (r : Int) + 1) := by omega
    have kd : ∀ i, kk zs i = (nth zs i).lo := fun i => rfl
    by_cases h2 : 2 * r + 2 < hi
    · have h2' : 2 * (r : Int) + 1 + 1 < hi := by omega
      have r2 := row_at encSpan (xs := zs) (j := f + (2 * r + 2)) (by omega)
      have e2 : ((f : Int) + (2 * (r : Int) + 1) + 1).toNat = f + (2 * r + 2) := by omega
      have e3 : ((f : Int) + (2 * (r : Int) + 1 + 1)).toNat = f + (2 * r + 2) := by omega
      have b2 := sz (f + (2 * r + 2)) (by omega)
      have cm0 := cmpS_ok (nth zs (f + (2 * r + 1))) (nth zs (f + (2 * r + 2))) (sz _ (by omega)) (sz _ (by omega))
      have cm2 := cmpS_ok (nth zs (f + r)) (nth zs (f + (2 * r + 2))) (sz _ (by omega)) (sz _ (by omega))
      unfold bd at b2
      have q2 : (f : Int) + (2 * (r : Int) + 1) + 1 < n := by omega
      have q3 : (f : Int) + (2 * (r : Int) + 1 + 1) < n := by omega
      have w2 : (f + (2 * r + 2)) * 2 + 2 ≤ zs.length * 2 := by omega
      have p2 : 0 ≤ (f : Int) + (2 * (r : Int) + 1) + 1 := by omega
      have p3 : 0 ≤ (f : Int) + (2 * (r : Int) + 1 + 1) := by omega
      simp (disch := omega) [Und, h1', h2', hZ.row, hrl, r0, r1, r2, e0, e1, e2, e3, q0, q1, q2, q3, w0, w1, w2, p0, p1, p2, p3, hlm, hin, cm0, cm1, cm2, -Bool.exists_bool]
      refine ⟨fun c0 => ⟨fun c1 => ?_, fun c1 => ?_⟩, fun c0 => ⟨fun c1 => ?_, fun c1 => ?_⟩⟩
      · exact hK zs υ hZ hQ (hk.stop fun c h3 h4 => by rcases h3 with rfl | rfl <;> simp only [kd] <;> omega)
      · rw [swpC (i := f + (2 * r + 2)) (j := f + r) (by omega) (by omega), swp_comm (by omega)]
        exact ⟨2000 - (2 * r + 2), by omega, 2 * r + 2, by omega, by omega, by omega, by omega, swp zs (f + r) (f + (2 * r + 2)), hZ.set2 _ _, hQ.swp (by omega) (by omega) (by omega), hk.step hr1 (by omega) (.inr rfl) h2 (fun c h3 h4 => by rcases h3 with rfl | rfl <;> simp only [kd] <;> omega) (by rw [kd, kd]; omega)⟩
      · exact hK zs υ hZ hQ (hk.stop fun c h3 h4 => by rcases h3 with rfl | rfl <;> simp only [kd] <;> omega)
      · rw [swpC (i := f + (2 * r + 1)) (j := f + r) (by omega) (by omega), swp_comm (by omega)]
        exact ⟨2000 - (2 * r + 1), by omega, 2 * r + 1, by omega, by omega, by omega, by omega, swp zs (f + r) (f + (2 * r + 1)), hZ.set2 _ _, hQ.swp (by omega) (by omega) (by omega), hk.step hr1 (by omega) (.inl rfl) (by omega) (fun c h3 h4 => by rcases h3 with rfl | rfl <;> simp only [kd] <;> omega) (by rw [kd, kd]; omega)⟩
    · have h2' : ¬ 2 * (r : Int) + 1 + 1 < hi := by omega
      simp (disch := omega) [Und, h1', h2', hZ.row, hrl, r0, r1, e0, e1, q0, q1, w0, w1, p0, p1, hlm, hin, cm1, -Bool.exists_bool]
      refine ⟨fun c1 => ?_, fun c1 => ?_⟩
      · exact hK zs υ hZ hQ (hk.stop fun c h3 h4 => by
          obtain rfl : c = 2 * r + 1 := by omega
          rw [kd, kd]; omega)
      · rw [swpC (i := f + (2 * r + 1)) (j := f + r) (by omega) (by omega), swp_comm (by omega)]
        exact ⟨2000 - (2 * r + 1), by omega, 2 * r + 1, by omega, by omega, by omega, by omega, swp zs (f + r) (f + (2 * r + 1)), hZ.set2 _ _, hQ.swp (by omega) (by omega) (by omega), hk.step hr1 (by omega) (.inl rfl) (by omega) (fun c h3 h4 => by
          obtain rfl : c = 2 * r + 1 := by omega
          simp only [kd]; omega) (by rw [kd, kd]; omega)⟩
theorem hsort_call {σ : AH} {o n a b : Nat} {xs : List Span} (hl : σ.lim ≤ o) (hg : σ.get o = some (.cells (rowOf eSpan xs))) (hn : xs.length = n) (hn2 : n ≤ 1000) (hbd : ∀ x ∈ xs, bd x) (hab : a < b) (hb : b ≤ n) {c : ACap} {K : AV → AH → Prop}
    (hK : ∀ ys σ', Lay o σ σ' ys → PI a b xs ys → srt a b ys → K (.tuple []) σ') :
    Call prog O (.fn 109) [.slice (some (o, 0)) n c, .int .i64 a, .int .i64 b, cmpF] σ K := by
  refine @call_of' _ _ pl _ _ _ _ _ _ _ ⟨K⟩ get109 ((oo (by decide)).2 _) rfl ?_
  obtain ⟨hi, hhi⟩ : ∃ hi : Nat, b = a + hi := ⟨b - a, by omega⟩
  have hhi' : (b : Int) - a = hi := by omega
  have etd : ((hi : Int) - 1).tdiv 2 = ((hi - 1) / 2 : Nat) := by rw [Int.tdiv_eq_ediv_of_nonneg (by omega)]; omega
  simp (disch := omega) [hhi', etd, -Bool.exists_bool]
  refine lp_loop pl (fun k fr υ => ∃ (i : Int) (zs : List Span), i + 1 = k ∧ i ≤ ((hi - 1) / 2 : Nat) ∧ fr = ⟨[(0, .slice (some (o, 0)) n c), (3, cmpF), (8, .int .i64 a), (9, .int .i64 0), (10, .int .i64 hi), (11, .int .i64 i)], []⟩ ∧ Lay o σ υ zs ∧ PI a b xs zs ∧ heap a hi (i + 1).toNat zs)
    ⟨(hi - 1) / 2 + 1, ((hi - 1) / 2 : Nat), xs, by omega, by omega, rfl, .refl hg, .refl _ _ _, fun i c h1 h2 h3 => by omega⟩ ?_
  rintro k _ υ ⟨i, zs, hik, hi1, rfl, hZ, hQ, hh⟩
  have hzl : zs.length = n := hQ.len.trans hn
  have hlm : υ.lim ≤ o := by rw [hZ.only.lim]; exact hl
  have hzb : ∀ x ∈ zs, bd x := fun x hx => hbd x (hQ.perm.mem_iff.1 hx)
  by_cases h0 : 0 ≤ i
  · obtain ⟨m, rfl⟩ : ∃ m : Nat, i = m := ⟨i.toNat, by omega⟩
    simp (disch := omega) [Und, h0, -Bool.exists_bool]
    refine sift_call hlm hZ.row hzl hn2 hzb (by omega) (by omega) (by rw [show ((m : Int) + 1).toNat = m + 1 by omega] at hh; exact hh) fun ys υ' h1 h2 h3 => ?_
    simp (disch := omega) [-Bool.exists_bool]
    exact ⟨k - 1, by omega, (m : Int) - 1, by omega, by omega, rfl, ys, hZ.trans h1, hQ.trans (h2.mono (by omega) (by omega)), by rw [show ((m : Int) - 1 + 1).toNat = m by omega]; exact h3⟩
  · have hi0 : (i + 1).toNat = 0 := by omega
    rw [hi0] at hh
    simp (disch := omega) [Und, h0, -Bool.exists_bool]
    refine lp_loop pl (fun k fr υ => ∃ (i : Int) (zs : List Span), i + 1 = k ∧ i < hi ∧ fr = ⟨[(0, .slice (some (o, 0)) n c), (3, cmpF), (8, .int .i64 a), (9, .int .i64 0), (12, .int .i64 i)], []⟩ ∧ Lay o σ υ zs ∧ PI a b xs zs ∧ heap a (i + 1).toNat 0 zs ∧ (∀ p q, (i + 1).toNat ≤ p → p < q → q < hi → kk zs (a + p) ≤ kk zs (a + q)) ∧ ∀ p q, p < (i + 1).toNat → (i + 1).toNat ≤ q → q < hi → kk zs (a + p) ≤ kk zs (a + q))
      ⟨hi, (hi : Int) - 1, zs, by omega, by omega, by simp, hZ, hQ, by rw [show ((hi : Int) - 1 + 1).toNat = hi by omega]; exact hh, fun p q h1 h2 h3 => by omega, fun p q h1 h2 h3 => by omega⟩ ?_
    clear hh hi0 h0 hi1 hik hzb hlm hzl hQ hZ
    rintro k2 _ υ ⟨i, zs, hik, hi1, rfl, hZ, hQ, hh, ht1, ht2⟩
    have hzl : zs.length = n := hQ.len.trans hn
    have hlm : υ.lim ≤ o := by rw [hZ.only.lim]; exact hl
    have hzb : ∀ x ∈ zs, bd x := fun x hx => hbd x (hQ.perm.mem_iff.1 hx)
    by_cases h0 : 0 ≤ i
    · obtain ⟨m, rfl⟩ : ∃ m : Nat, i = m := ⟨i.toNat, by omega⟩
      rw [show ((m : Int) + 1).toNat = m + 1 by omega] at hh ht1 ht2
      have hrl := rowOf_length encSpan zs
      have hin : o < υ.next := AH.get_lt hZ.row
      have r0 := row_at encSpan (xs := zs) (j := a) (by omega)
      have r1 := row_at encSpan (xs := zs) (j := a + m) (by omega)
      have e1 : ((a : Int) + (m : Int)).toNat = a + m := by omega
      have q0 : (a : Int) < n := by omega
      have q1 : (a : Int) + (m : Int) < n := by omega
      have w0 : a * 2 + 2 ≤ zs.length * 2 := by omega
      have w1 : (a + m) * 2 + 2 ≤ zs.length * 2 := by omega
      have p1 : 0 ≤ (a : Int) + (m : Int) := by omega
      simp (disch := omega) [Und, h0, hZ.row, hrl, r0, r1, e1, q0, q1, w0, w1, p1, hlm, hin, -Bool.exists_bool]
      rw [swpC (i := a + m) (j := a) (by omega) (by omega)]
      have E := kk_swp (xs := zs) (i := a + m) (j := a) (by omega) (by omega)
      have hZ1 := hZ.set2 (.cells (((rowOf eSpan zs).set (a * 2) (AV.int IntKind.i64 (nth zs (a + m)).lo)).set (a * 2 + 1) (AV.int IntKind.i64 (nth zs (a + m)).hi))) (swp zs (a + m) a)
      have hQ1 : PI a b xs (swp zs (a + m) a) := hQ.swp (by omega) (by omega) (by omega)
      have Em : kk (swp zs (a + m) a) (a + m) = kk zs a := by rw [E, if_pos rfl]
      have Eo : ∀ p, p ≠ m → p ≠ 0 → kk (swp zs (a + m) a) (a + p) = kk zs (a + p) := fun p h1 h2 => by rw [E, if_neg (by omega), if_neg (by omega)]
      have E0 : m ≠ 0 → kk (swp zs (a + m) a) a = kk zs (a + m) := fun h => by rw [E, if_neg (by omega), if_pos rfl]
      refine sift_call (lo := 0) (hi := m) (f := a) (by rw [hZ1.only.lim]; exact hl) hZ1.row (hQ1.len.trans hn) hn2 (fun x hx => hbd x (hQ1.perm.mem_iff.1 hx)) (by omega) (by omega) (fun i c h1 h2 h3 => by
        rw [Eo c (by omega) (by omega), Eo i (by omega) (by omega)]
        exact hh i c (by omega) h2 (by omega)) fun ys υ' h1 h2 h3 => ?_
      simp (disch := omega) [-Bool.exists_bool]
      have root := heap_root hh
      have K1 : ∀ q, m ≤ q → kk ys (a + q) = kk (swp zs (a + m) a) (a + q) := fun q hq => h2.kout (by omega)
      refine ⟨k2 - 1, by omega, (m : Int) - 1, by omega, by omega, rfl, ys, hZ1.trans h1, hQ1.trans (h2.mono (by omega) (by omega)), by rw [show ((m : Int) - 1 + 1).toNat = m by omega]; exact h3, fun p q g1 g2 g3 => ?_, fun p q g1 g2 g3 => ?_⟩
      · have g1' : m ≤ p := by omega
        rw [K1 p g1', K1 q (by omega), Eo q (by omega) (by omega)]
        by_cases e : p = m
        · rw [e, Em]; exact ht2 0 q (by omega) (by omega) g3
        · rw [Eo p e (by omega)]; exact ht1 p q (by omega) g2 g3
      · have g1' : p < m := by omega
        have g2' : m ≤ q := by omega
        refine h2.all (P := fun z => z ≤ kk ys (a + q)) (fun i i1 i2 => ?_) (a + p) (by omega) (by omega)
        obtain ⟨x, rfl⟩ : ∃ x, i = a + x := ⟨i - a, by omega⟩
        rw [K1 q g2']
        by_cases e : q = m
        · rw [e, Em]
          by_cases e0 : x = 0
          · subst e0
            show kk (swp zs (a + m) a) a ≤ _
            rw [E0 (by omega)]; exact root m (by omega)
          · rw [Eo x (by omega) e0]; exact root x (by omega)
        · rw [Eo q e (by omega)]
          by_cases e0 : x = 0
          · subst e0
            show kk (swp zs (a + m) a) a ≤ _
            rw [E0 (by omega)]; exact ht2 m q (by omega) (by omega) g3
          · rw [Eo x (by omega) e0]; exact ht2 x q (by omega) (by omega) g3
    · have hi0 : (i + 1).toNat = 0 := by omega
      rw [hi0] at ht1
      simp (disch := omega) [Und, h0, -Bool.exists_bool]
      refine hK zs υ hZ hQ fun p q h1 h2 h3 => ?_
      have := ht1 (p - a) (q - a) (by omega) (by omega) (by omega)
      rwa [show a + (p - a) = p by omega, show a + (q - a) = q by omega] at this
end Go.Oct.Fix
