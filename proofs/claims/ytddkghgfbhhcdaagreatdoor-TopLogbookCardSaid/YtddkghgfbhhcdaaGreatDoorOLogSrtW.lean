/- Sorting the clocks of a trial: the walk. -/
import Derived.Test.YtddkghgfbhhcdaaGreatDoorOLogSrt
set_option maxRecDepth 100000
set_option maxHeartbeats 4000000
set_option linter.unusedVariables false
set_option linter.unusedSimpArgs false
namespace Go.Oct.Log.Ck
open Go.Oct
/-- What sorting leaves: the object has the same elements, sorted; all else is as it was. -/
structure Sorted (i : Nat) (xs : List En) (σ σ' : AH) (ys : List En) : Prop where
  lim : σ'.lim = σ.lim
  next : σ'.next = σ.next
  get : ∀ k, k ≠ i → σ'.get k = σ.get k
  row : σ'.get i = some (.cells (rowOf eEn ys))
  perm : ys.Perm xs
theorem isort_ok {σ : AH} {i n : Nat} {xs : List En} (hi : σ.lim ≤ i) (hg : σ.get i = some (.cells (rowOf eEn xs))) (hn : xs.length = n) (hn2 : n ≤ 1000) {c : ACap} {K : AV → AH → Prop}
    (hK : ∀ ys σ', Sorted i xs σ σ' ys → SortedTo ltE ys n → K (.tuple []) σ') :
    Call prog O (.fn 86) [.slice (some (i, 0)) n c, .int .i64 0, .int .i64 n, .func (.func 38) [] []] σ K := by
  refine @call_of' _ _ pl _ _ _ _ _ _ _ ⟨K⟩ get86 ((oo (by decide)).2 _) rfl ?_
  simp (disch := omega) []
  refine lp_loop pl (fun k fr σ' => ∃ (j : Nat) (ys : List En), j + k = n + 1 ∧ 1 ≤ j ∧ fr = ⟨[(0, .slice (some (i, 0)) n c), (1, .int .i64 0), (2, .int .i64 n), (3, .func (.func 38) [] []), (8, .int .i64 j)], []⟩ ∧ Sorted i xs σ σ' ys ∧ SortedTo ltE ys j)
    ⟨n, 1, xs, by omega, by omega, rfl, ⟨rfl, rfl, fun _ _ => rfl, hg, .refl _⟩, fun p q h1 h2 => by omega⟩ ?_
  rintro k _ σ1 ⟨j, ys, hj, hj1, rfl, hS, hT⟩
  have hyl : ys.length = n := hS.perm.length_eq.trans hn
  by_cases hjl : j < n
  · simp (disch := omega) [Und, hjl]
    refine lp_loop pl (fun k fr σ' => ∃ (m : Nat) (zs : List En), m = k ∧ fr = ⟨[(0, .slice (some (i, 0)) n c), (1, .int .i64 0), (2, .int .i64 n), (3, .func (.func 38) [] []), (8, .int .i64 j), (9, .int .i64 m)], []⟩ ∧ Sorted i xs σ σ' zs ∧ Sink ltE zs j m)
      ⟨j, j, ys, rfl, rfl, hS, .start hT⟩ ?_
    rintro k2 _ σ2 ⟨m, zs, rfl, rfl, hZ, hk⟩
    have hzl : zs.length = n := hZ.perm.length_eq.trans hn
    have hmj := hk.le
    have hrl := rowOf_length encEn zs
    have hl : σ2.lim ≤ i := by have := hZ.lim; omega
    have hin : i < σ2.next := AH.get_lt hZ.row
    by_cases hm : 0 < m
    · have r1 := row_at encEn (xs := zs) (j := m) (by omega)
      have r2 := row_at encEn (xs := zs) (j := m - 1) (by omega)
      have e1 : ((m : Int) - 1).toNat = m - 1 := by omega
      have q1 : m < n := by omega
      have q2 : (m : Int) - 1 < n := by omega
      have q3 : m * 4 + 4 ≤ zs.length * 4 := by omega
      have q4 : (m - 1) * 4 + 4 ≤ zs.length * 4 := by omega
      have q5 : 1 ≤ (m : Int) := by omega
      simp (disch := omega) [Und, hm, hZ.row, hrl, r1, r2, e1, q1, q2, q3, q4, q5, hl, hin, before_ok]
      refine ⟨fun hlt => ?_, fun hge => ?_⟩
      · have p1 := rowOf_set encEn (xs := zs) (j := m) (by omega) (nth zs (m - 1))
        have p2 := rowOf_set encEn (xs := zs.set m (nth zs (m - 1))) (j := m - 1) (by rw [List.length_set]; omega) (nth zs m)
        have hlen := rowOf_length encEn (zs.set m (nth zs (m - 1)))
        rw [p1, p2]
        refine ⟨by rw [hlen, List.length_set]; omega, m - 1, by omega, by omega, swp zs (m - 1) m, ⟨by have := hZ.lim; simpa using this, by have := hZ.next; simpa using this, fun k hk' => ?_, ?_, (swp_perm (by omega) (by omega)).trans hZ.perm⟩, hk.step ordE (by omega) hm ((cmpE_lt _ _).1 hlt)⟩
        · rw [AH.get_set_other _ _ _ _ hk', AH.get_set_other _ _ _ _ hk']; exact hZ.get k hk'
        · exact AH.get_set_same _ _ _ hin
      · exact ⟨k - 1, by omega, j + 1, by omega, by omega, by omega, zs, hZ, hk.stop ordE fun _ h => by have := (cmpE_lt _ _).2 h; omega⟩
    · obtain rfl : m = 0 := by omega
      simp (disch := omega) [Und]
      exact ⟨k - 1, by omega, j + 1, by omega, by omega, by omega, zs, hZ, hk.stop ordE fun h => by omega⟩
  · simp (disch := omega) [Und, hjl]
    exact hK ys σ1 hS (fun p q h1 h2 => hT p q h1 (by omega))

theorem pdq_ok {σ : AH} {i n : Nat} {xs : List En} (hi : σ.lim ≤ i) (hg : σ.get i = some (.cells (rowOf eEn xs))) (hn : xs.length = n) (hn2 : n ≤ 12) {c : ACap} {l : Int} {K : AV → AH → Prop}
    (hK : ∀ ys σ', Sorted i xs σ σ' ys → SortedTo ltE ys n → K (.tuple []) σ') :
    Call prog O (.fn 63) [.slice (some (i, 0)) n c, .int .i64 0, .int .i64 n, .int .i64 l, .func (.func 38) [] []] σ K := by
  refine @call_of' _ _ pl _ _ _ _ _ _ _ ⟨K⟩ get63 ((oo (by decide)).2 _) rfl ?_
  simp (disch := omega) []
  refine lp_loop pl (fun k fr σ' => k = 0 ∧ fr = ⟨[(0, .slice (some (i, 0)) n c), (1, .int .i64 0), (2, .int .i64 n), (3, .int .i64 l), (4, .func (.func 38) [] []), (10, .bool true), (11, .bool true)], []⟩ ∧ σ' = σ) ⟨0, rfl, rfl, rfl⟩ ?_
  rintro k _ _ ⟨rfl, rfl, rfl⟩
  have q : (n : Int) ≤ 12 := by omega
  simp (disch := omega) [Und, q]
  refine isort_ok hi hg hn (by omega) fun ys σ' h1 h2 => ?_
  simp (disch := omega) []
  exact hK ys σ' h1 h2
theorem aconv_u8 (q : IntKind) (n : Int) (h : 0 ≤ n) (h2 : n ≤ 255) : aconv .u8 (.int q n) = some (.int .u8 n) := by
  have : wr .u8 n = n := by
    show IntKind.wrap .u8 n = n
    simp only [IntKind.wrap, IntKind.bits, IntKind.signed]
    simp
    omega
  simp only [aconv, this]
theorem bits_tab : ∀ a : ByteArray, a.size = 256 → (bys a).length = 256 := fun a h => by rw [bys_len, h]
theorem Len64_ok (n : Nat) (h : n ≤ 255) : ∃ v, (∃ l, v = .int .i64 l) ∧ ans prog O 95 [.int .u64 n] = some v := by
  refine fn_ex pl _ get95 (oo (by decide)) rfl rfl ?_
  have q1 : ¬ (4294967296 : Int) ≤ n := by omega
  have q2 : ¬ (65536 : Int) ≤ n := by omega
  have q3 : ¬ (256 : Int) ≤ n := by omega
  simp (disch := omega) [Und, q1, q2, q3, aconv_u8]
  rw [bits_tab _ rfl]
  omega
theorem Len_ok (n : Nat) (h : n ≤ 255) : ∃ l, ans prog O 64 [.int .u64 n] = some (.int .i64 l) := by
  obtain ⟨_, ⟨l, rfl⟩, h1⟩ := Len64_ok n h
  refine ⟨l, ?_⟩
  refine fn_of' pl get64 (oo (by decide)) rfl rfl ?_
  simp (disch := omega) [Und, h1]
theorem SortFunc_ok {σ : AH} {i n : Nat} {xs : List En} (hi : σ.lim ≤ i) (hg : σ.get i = some (.cells (rowOf eEn xs))) (hn : xs.length = n) (hn2 : n ≤ 12) {c : ACap} {K : AV → AH → Prop}
    (hK : ∀ ys σ', Sorted i xs σ σ' ys → SortedTo ltE ys n → K (.tuple []) σ') :
    Call prog O (.fn 37) [.slice (some (i, 0)) n c, .func (.func 38) [] []] σ K := by
  refine @call_of' _ _ pl _ _ _ _ _ _ _ ⟨K⟩ get37 ((oo (by decide)).2 _) rfl ?_
  obtain ⟨l, hl⟩ := Len_ok n (by omega)
  simp (disch := omega) [hl, aconv_u64]
  refine pdq_ok hi hg hn hn2 fun ys σ' h1 h2 => ?_
  simp (disch := omega) []
  exact hK ys σ' h1 h2
end Go.Oct.Log.Ck
