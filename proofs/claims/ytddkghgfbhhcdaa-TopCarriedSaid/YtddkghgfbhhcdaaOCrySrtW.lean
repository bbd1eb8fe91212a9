/- Sorting spans by their lower ends: insertion, and the heap. -/
import Derived.Test.YtddkghgfbhhcdaaOCrySrtQ
set_option maxRecDepth 100000
set_option maxHeartbeats 8000000
set_option linter.unusedVariables false
set_option linter.unusedSimpArgs false
namespace Go.Oct.Cry.Fx
open Go.Oct
def bd (x : Span) : Prop := -1000000 ≤ x.lo ∧ x.lo ≤ 1000000
theorem cmpS_ok (a b : Span) (ha : bd a) (hb : bd b) : ans prog O 69 [.agg [.int .i64 a.lo, .int .i64 a.hi], .agg [.int .i64 b.lo, .int .i64 b.hi]] = some (.int .i64 (a.lo - b.lo)) := by
  unfold bd at ha hb
  refine fn_of' pl get69 (oo (by decide)) rfl rfl ?_
  simp (disch := omega) [Und, -Bool.exists_bool]
abbrev cmpF : AV := .func (.func 69) [] []
/-- What a part of the sort leaves: the object has these elements; all else is as it was. -/
structure Lay (o : Nat) (σ σ' : AH) (ys : List Span) : Prop where
  only : Only [o] σ σ'
  row : σ'.get o = some (.cells (rowOf eSpan ys))
theorem Lay.trans {o : Nat} {σ σ' σ'' : AH} {ys zs : List Span} (h : Lay o σ σ' ys) (k : Lay o σ' σ'' zs) : Lay o σ σ'' zs := ⟨h.only.trans k.only, k.row⟩
theorem Lay.set {o : Nat} {σ σ' : AH} {ys : List Span} (h : Lay o σ σ' ys) (zs : List Span) : Lay o σ (σ'.set o (.cells (rowOf eSpan zs))) zs :=
  ⟨h.only.trans (Only.set (by simp) _), AH.get_set_same _ _ _ (AH.get_lt h.row)⟩
theorem Lay.refl {o : Nat} {σ : AH} {xs : List Span} (h : σ.get o = some (.cells (rowOf eSpan xs))) : Lay o σ σ xs := ⟨Only.refl _ _, h⟩
theorem Lay.set2 {o : Nat} {σ σ' : AH} {ys : List Span} (h : Lay o σ σ' ys) (A : AObj) (zs : List Span) : Lay o σ ((σ'.set o A).set o (.cells (rowOf eSpan zs))) zs :=
  ⟨(h.only.trans (Only.set (by simp) _)).trans (Only.set (by simp) _), AH.get_set_same _ _ _ (show o < σ'.next from AH.get_lt h.row)⟩
theorem setS {zs : List Span} {m : Nat} (h : m < zs.length) (y : Span) : ((rowOf eSpan zs).set (m * 2) (.int .i64 y.lo)).set (m * 2 + 1) (.int .i64 y.hi) = rowOf eSpan (zs.set m y) := by
  rw [← rowOf_set encSpan h y]; rfl
theorem swpC {zs : List Span} {i j : Nat} (hi : i < zs.length) (hj : j < zs.length) : ((((rowOf eSpan zs).set (j * 2) (.int .i64 (nth zs i).lo)).set (j * 2 + 1) (.int .i64 (nth zs i).hi)).set (i * 2) (.int .i64 (nth zs j).lo)).set (i * 2 + 1) (.int .i64 (nth zs j).hi) = rowOf eSpan (swp zs i j) := by
  rw [setS hj, setS (by simpa using hi)]; rfl
theorem isort_call {σ : AH} {o n a b : Nat} {xs : List Span} (hl : σ.lim ≤ o) (hg : σ.get o = some (.cells (rowOf eSpan xs))) (hn : xs.length = n) (hn2 : n ≤ 1000) (hbd : ∀ x ∈ xs, bd x) (hab : a ≤ b) (hb : b ≤ n) {c : ACap} {K : AV → AH → Prop}
    (hK : ∀ ys σ', Lay o σ σ' ys → PI a b xs ys → srt a b ys → K (.tuple []) σ') :
    Call prog O (.fn 134) [.slice (some (o, 0)) n c, .int .i64 a, .int .i64 b, cmpF] σ K := by
  refine @call_of' _ _ pl _ _ _ _ _ _ _ ⟨K⟩ get134 ((oo (by decide)).2 _) rfl ?_
  simp (disch := omega) [-Bool.exists_bool]
  refine lp_loop pl (fun k fr υ => ∃ (j : Nat) (ys : List Span), j + k = b + 1 ∧ a + 1 ≤ j ∧ fr = ⟨[(0, .slice (some (o, 0)) n c), (1, .int .i64 a), (2, .int .i64 b), (3, cmpF), (8, .int .i64 j)], []⟩ ∧ Lay o σ υ ys ∧ PI a b xs ys ∧ (j ≤ b → srt a j ys) ∧ (b < j → srt a b ys))
    ⟨b - a, a + 1, xs, by omega, by omega, rfl, .refl hg, .refl _ _ _, fun _ p q h1 h2 h3 => by omega, fun h p q h1 h2 h3 => by omega⟩ ?_
  rintro k _ υ ⟨j, ys, hj, hj1, rfl, hL, hP, hS, hS2⟩
  by_cases hjb : j < b
  · simp (disch := omega) [Und, hjb, -Bool.exists_bool]
    refine lp_loop pl (fun k fr υ' => ∃ (m : Nat) (zs : List Span), m = k ∧ fr = ⟨[(0, .slice (some (o, 0)) n c), (1, .int .i64 a), (2, .int .i64 b), (3, cmpF), (8, .int .i64 j), (9, .int .i64 m)], []⟩ ∧ Lay o σ υ' zs ∧ PI a b xs zs ∧ Snk a j m zs)
      ⟨j, j, ys, rfl, rfl, hL, hP, .start (by omega) (hS (by omega))⟩ ?_
    rintro k2 _ υ2 ⟨m, zs, rfl, rfl, hZ, hQ, hk⟩
    have hzl : zs.length = n := hQ.len.trans hn
    have hmj := hk.le
    have hma := hk.lo
    have hrl := rowOf_length encSpan zs
    have hlm : υ2.lim ≤ o := by rw [hZ.only.lim]; exact hl
    have hin : o < υ2.next := AH.get_lt hZ.row
    have sz : ∀ j, j < zs.length → bd (nth zs j) := fun j hj => hbd _ (hQ.perm.mem_iff.1 (nth_mem hj))
    by_cases hm : a < m
    · have r1 := row_at encSpan (xs := zs) (j := m) (by omega)
      have r2 := row_at encSpan (xs := zs) (j := m - 1) (by omega)
      have e1 : ((m : Int) - 1).toNat = m - 1 := by omega
      have hcmp := cmpS_ok (nth zs m) (nth zs (m - 1)) (sz _ (by omega)) (sz _ (by omega))
      have hb1 := sz m (by omega)
      have hb2 := sz (m - 1) (by omega)
      unfold bd at hb1 hb2
      have q1 : m < n := by omega
      have q2 : (m : Int) - 1 < n := by omega
      have q3 : m * 2 + 2 ≤ zs.length * 2 := by omega
      have q4 : (m - 1) * 2 + 2 ≤ zs.length * 2 := by omega
      have q5 : 1 ≤ (m : Int) := by omega
      simp (disch := omega) [Und, hm, hZ.row, hrl, r1, r2, e1, q1, q2, q3, q4, q5, hlm, hin, hcmp, -Bool.exists_bool]
      refine ⟨fun hlt => ?_, fun hge => ?_⟩
      · rw [swpC (i := m - 1) (j := m) (by omega) (by omega)]
        exact ⟨m - 1, by omega, by omega, swp zs (m - 1) m, hZ.set2 _ _, hQ.swp (by omega) (by omega) (by omega), hk.step (by omega) hm (by unfold kk; omega)⟩
      · exact ⟨k - 1, by omega, j + 1, by omega, by omega, by omega, zs, hZ, hQ, fun _ => hk.stop fun _ => by unfold kk; omega, fun h => by omega⟩
    · obtain rfl : m = a := by omega
      simp (disch := omega) [Und, -Bool.exists_bool]
      exact ⟨k - 1, by omega, j + 1, by omega, by omega, by omega, zs, hZ, hQ, fun _ => hk.stop fun h => by omega, fun h => by omega⟩
  · simp (disch := omega) [Und, hjb, -Bool.exists_bool]
    refine hK ys υ hL hP ?_
    by_cases e : j = b
    · rw [← e]; exact hS (by omega)
    · exact hS2 (by omega)
theorem aconv_u8' (q : IntKind) (n : Int) (h : 0 ≤ n) (h2 : n ≤ 255) : aconv .u8 (.int q n) = some (.int .u8 n) := by
  have : wr .u8 n = n := by
    show IntKind.wrap .u8 n = n
    simp only [IntKind.wrap, IntKind.bits, IntKind.signed]
    simp
    omega
  simp only [aconv, this]
theorem aconv_u64' (q : IntKind) (n : Int) (h : 0 ≤ n) (h2 : n ≤ 1000) : aconv .u64 (.int q n) = some (.int .u64 n) := by
  have : wr .u64 n = n := by
    show IntKind.wrap .u64 n = n
    simp only [IntKind.wrap, IntKind.bits, IntKind.signed]
    simp
    omega
  simp only [aconv, this]
def tab0 : ByteArray := ⟨#[0,1,2,2,3,3,3,3,4,4,4,4,4,4,4,4,5,5,5,5,5,5,5,5,5,5,5,5,5,5,5,5,6,6,6,6,6,6,6,6,6,6,6,6,6,6,6,6,6,6,6,6,6,6,6,6,6,6,6,6,6,6,6,6,7,7,7,7,7,7,7,7,7,7,7,7,7,7,7,7,7,7,7,7,7,7,7,7,7,7,7,7,7,7,7,7,7,7,7,7,7,7,7,7,7,7,7,7,7,7,7,7,7,7,7,7,7,7,7,7,7,7,7,7,7,7,7,7,8,8,8,8,8,8,8,8,8,8,8,8,8,8,8,8,8,8,8,8,8,8,8,8,8,8,8,8,8,8,8,8,8,8,8,8,8,8,8,8,8,8,8,8,8,8,8,8,8,8,8,8,8,8,8,8,8,8,8,8,8,8,8,8,8,8,8,8,8,8,8,8,8,8,8,8,8,8,8,8,8,8,8,8,8,8,8,8,8,8,8,8,8,8,8,8,8,8,8,8,8,8,8,8,8,8,8,8,8,8,8,8,8,8,8,8,8,8,8,8,8,8,8,8,8,8,8,8]⟩
theorem Len64_v (n : Nat) (h : 1 ≤ n) (h2 : n ≤ 31) : ∃ l : Nat, ans prog O 143 [.int .u64 n] = some (.int .i64 l) ∧ l ≤ 5 ∧ 2 ^ l ≤ 2 * n := by
  have main : ∃ tab : ByteArray, ((bys tab).length = 256 ∧ ∀ m, m < 32 → 0 ≤ nth (bys tab) m ∧ (nth (bys tab) m).toNat ≤ 5 ∧ (1 ≤ m → 2 ^ (nth (bys tab) m).toNat ≤ 2 * m)) ∧ ans prog O 143 [.int .u64 n] = some (.int .i64 (nth (bys tab) n)) := by
    refine ⟨tab0, by decide +kernel, ?_⟩
    refine fn_of' pl get143 (oo (by decide)) rfl rfl ?_
    have q1 : ¬ (4294967296 : Int) ≤ n := by omega
    have q2 : ¬ (65536 : Int) ≤ n := by omega
    have q3 : ¬ (256 : Int) ≤ n := by omega
    simp (disch := omega) [Und, q1, q2, q3, aconv_u8']
    have hlen : (bys tab0).length = 256 := by decide +kernel
    have hbd := bys_bd tab0 n (by omega)
    show n < (bys tab0).length ∧ w64 (w64 (nth (bys tab0) n)) = nth (bys tab0) n
    refine ⟨by omega, ?_⟩
    simp (disch := omega)
  obtain ⟨tab, ⟨ht, hb⟩, hv⟩ := main
  obtain ⟨b1, b2, b3⟩ := hb n (by omega)
  exact ⟨(nth (bys tab) n).toNat, by rw [hv, Int.toNat_of_nonneg b1], b2, b3 h⟩
theorem Len_v (n : Nat) (h : 1 ≤ n) (h2 : n ≤ 31) : ∃ l : Nat, ans prog O 118 [.int .u64 n] = some (.int .i64 l) ∧ l ≤ 5 ∧ 2 ^ l ≤ 2 * n := by
  obtain ⟨l, h3, h4⟩ := Len64_v n h h2
  refine ⟨l, ?_, h4⟩
  refine fn_of' pl get118 (oo (by decide)) rfl rfl ?_
  simp (disch := omega) [Und, h3]
theorem pdq_small {σ : AH} {i n : Nat} {xs : List Span} (hi : σ.lim ≤ i) (hg : σ.get i = some (.cells (rowOf eSpan xs))) (hn : xs.length = n) (hn2 : n ≤ 12) (hbd : ∀ x ∈ xs, bd x) {c : ACap} {l : Int} {K : AV → AH → Prop}
    (hK : ∀ ys σ', Lay i σ σ' ys → PI 0 n xs ys → srt 0 n ys → K (.tuple []) σ') :
    Call prog O (.fn 117) [.slice (some (i, 0)) n c, .int .i64 0, .int .i64 n, .int .i64 l, cmpF] σ K := by
  refine @call_of' _ _ pl _ _ _ _ _ _ _ ⟨K⟩ get117 ((oo (by decide)).2 _) rfl ?_
  simp (disch := omega) [-Bool.exists_bool]
  refine lp_loop pl (fun k fr σ' => k = 0 ∧ fr = ⟨[(0, .slice (some (i, 0)) n c), (1, .int .i64 0), (2, .int .i64 n), (3, .int .i64 l), (4, cmpF), (10, .bool true), (11, .bool true)], []⟩ ∧ σ' = σ) ⟨0, rfl, rfl, rfl⟩ ?_
  rintro k _ _ ⟨rfl, rfl, rfl⟩
  have q : (n : Int) ≤ 12 := by omega
  simp (disch := omega) [Und, q, -Bool.exists_bool]
  refine isort_call (a := 0) hi hg hn (by omega) hbd (Nat.zero_le _) (Nat.le_refl _) fun ys σ' h1 h2 h3 => ?_
  simp (disch := omega) [-Bool.exists_bool]
  exact hK ys σ' h1 h2 h3
theorem flatSpan : flatE eSpan := fun x c hc k f => by
  rw [show (eSpan x).cells = [.int .i64 x.lo, .int .i64 x.hi] from rfl] at hc
  simp only [List.mem_cons, List.not_mem_nil, or_false] at hc
  rcases hc with rfl | rfl <;> exact ⟨rfl, rfl⟩
end Go.Oct.Cry.Fx
