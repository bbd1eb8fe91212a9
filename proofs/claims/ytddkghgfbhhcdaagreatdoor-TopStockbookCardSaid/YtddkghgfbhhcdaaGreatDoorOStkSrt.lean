/- Sorting pieces and numbers: the walks. -/
import Derived.Test.YtddkghgfbhhcdaaGreatDoorOStkOrd
import Derived.Test.YtddkghgfbhhcdaaGreatDoorOT4
set_option maxRecDepth 100000
set_option maxHeartbeats 4000000
set_option linter.unusedVariables false
set_option linter.unusedSimpArgs false
namespace Go.Oct.Stk.Sh
open Go.Oct
def cmpP (a b : P5) : Int := if a.lv ≠ b.lv then b.lv - a.lv else a.ix - b.ix
def ltP (a b : P5) : Prop := b.lv < a.lv ∨ (a.lv = b.lv ∧ a.ix < b.ix)
def ltI (a b : Int) : Prop := a < b
theorem cmpP_lt (a b : P5) : cmpP a b < 0 ↔ ltP a b := by
  unfold cmpP ltP
  by_cases h : a.lv = b.lv
  · rw [if_neg (by simp [h])]; omega
  · rw [if_pos h]; omega
theorem ordP : Ord ltP := ⟨fun a b h1 h2 => by unfold ltP at *; omega, fun a b c h => by unfold ltP at *; omega⟩
theorem ordI : Ord ltI := ⟨fun a b h1 h2 => by unfold ltI at *; omega, fun a b c h => by unfold ltI at *; omega⟩
def smallP (x : P5) : Prop := (0 ≤ x.lv ∧ x.lv ≤ 1000) ∧ 0 ≤ x.ix ∧ x.ix ≤ 1000
theorem higher_ok (a b : P5) (ha : smallP a) (hb : smallP b) : ans prog O 47 [eP5 a, eP5 b] = some (.int .i64 (cmpP a b)) := by
  unfold smallP at ha hb
  refine fn_of' pl get47 (oo (by decide)) rfl rfl ?_
  by_cases h : a.lv = b.lv
  · simp (disch := omega) [eP5, cmpP, h]
  · simp (disch := omega) [eP5, cmpP, h]
theorem planCmp_ok (a b : P5) (ha : smallP a) (hb : smallP b) : ans prog O 46 [eP5 a, eP5 b] = some (.int .i64 (cmpP a b)) := by
  have h := higher_ok a b ha hb
  refine fn_of' pl get46 (oo (by decide)) rfl rfl ?_
  simp (disch := omega) [eP5] at h ⊢
  simp (disch := omega) [h]
@[simp] theorem isNaN_ok (a : Int) : ans prog O 96 [.int .i64 a] = some (.bool false) := by
  refine fn_of' pl get96 (oo (by decide)) rfl rfl ?_
  simp (disch := omega) []
@[simp] theorem Less_ok (a b : Int) : ans prog O 123 [.int .i64 a, .int .i64 b] = some (.bool (decide (a < b))) := by
  refine fn_of' pl get123 (oo (by decide)) rfl rfl ?_
  simp (disch := omega) []
@[simp] theorem agg_eP5 (x : P5) : AV.agg (eP5 x).cells = eP5 x := (rfl)
@[simp] theorem dfd_eP5 (x : P5) : (eP5 x).dfd = true := (rfl)
@[simp] theorem len_eP5 (x : P5) : (eP5 x).cells.length = 5 := (rfl)
@[simp] theorem all_eP5 (x : P5) : (eP5 x).cells.all AV.one = true := (rfl)
@[simp] theorem closed_eP5 (k : Nat) (x : P5) : closed (k + 2) (eP5 x) = true := (rfl)
/-- What sorting leaves: the object has the same elements, sorted; all else is as it was. -/
structure Sorted {α : Type} (e : α → AV) (i : Nat) (xs : List α) (σ σ' : AH) (ys : List α) : Prop where
  lim : σ'.lim = σ.lim
  next : σ'.next = σ.next
  get : ∀ k, k ≠ i → σ'.get k = σ.get k
  row : σ'.get i = some (.cells (rowOf e ys))
  perm : ys.Perm xs
theorem isort_ok {σ : AH} {i n : Nat} {xs : List P5} (hi : σ.lim ≤ i) (hg : σ.get i = some (.cells (rowOf eP5 xs))) (hn : xs.length = n) (hn2 : n ≤ 1000) (hsm : ∀ x ∈ xs, smallP x) {c : ACap} {K : AV → AH → Prop}
    (hK : ∀ ys σ', Sorted eP5 i xs σ σ' ys → SortedTo ltP ys n → K (.tuple []) σ') :
    Call prog O (.fn 109) [.slice (some (i, 0)) n c, .int .i64 0, .int .i64 n, .func (.func 46) [] []] σ K := by
  refine @call_of' _ _ pl _ _ _ _ _ _ _ ⟨K⟩ get109 ((oo (by decide)).2 _) rfl ?_
  simp (disch := omega) []
  refine lp_loop pl (fun k fr σ' => ∃ (j : Nat) (ys : List P5), j + k = n + 1 ∧ 1 ≤ j ∧ fr = ⟨[(0, .slice (some (i, 0)) n c), (1, .int .i64 0), (2, .int .i64 n), (3, .func (.func 46) [] []), (8, .int .i64 j)], []⟩ ∧ Sorted eP5 i xs σ σ' ys ∧ SortedTo ltP ys j)
    ⟨n, 1, xs, by omega, by omega, rfl, ⟨rfl, rfl, fun _ _ => rfl, hg, .refl _⟩, fun p q h1 h2 => by omega⟩ ?_
  rintro k _ σ1 ⟨j, ys, hj, hj1, rfl, hS, hT⟩
  have hyl : ys.length = n := hS.perm.length_eq.trans hn
  by_cases hjl : j < n
  · simp (disch := omega) [Und, hjl]
    refine lp_loop pl (fun k fr σ' => ∃ (m : Nat) (zs : List P5), m = k ∧ fr = ⟨[(0, .slice (some (i, 0)) n c), (1, .int .i64 0), (2, .int .i64 n), (3, .func (.func 46) [] []), (8, .int .i64 j), (9, .int .i64 m)], []⟩ ∧ Sorted eP5 i xs σ σ' zs ∧ Sink ltP zs j m)
      ⟨j, j, ys, rfl, rfl, hS, .start hT⟩ ?_
    rintro k2 _ σ2 ⟨m, zs, rfl, rfl, hZ, hk⟩
    have hzl : zs.length = n := hZ.perm.length_eq.trans hn
    have hmj := hk.le
    have hrl := rowOf_length encP5 zs
    have hl : σ2.lim ≤ i := by have := hZ.lim; omega
    have hin : i < σ2.next := AH.get_lt hZ.row
    by_cases hm : 0 < m
    · have r1 := row_at encP5 (xs := zs) (j := m) (by omega)
      have r2 := row_at encP5 (xs := zs) (j := m - 1) (by omega)
      have e1 : ((m : Int) - 1).toNat = m - 1 := by omega
      have sz : ∀ j, j < zs.length → smallP (nth zs j) := fun j hj => hsm _ (hZ.perm.mem_iff.1 (nth_mem hj))
      have hcmp := planCmp_ok (nth zs m) (nth zs (m - 1)) (sz _ (by omega)) (sz _ (by omega))
      have q1 : m < n := by omega
      have q2 : (m : Int) - 1 < n := by omega
      have q3 : m * 5 + 5 ≤ zs.length * 5 := by omega
      have q4 : (m - 1) * 5 + 5 ≤ zs.length * 5 := by omega
      have q5 : 1 ≤ (m : Int) := by omega
      simp (disch := omega) [Und, hm, hZ.row, hrl, r1, r2, e1, q1, q2, q3, q4, q5, hl, hin, hcmp]
      refine ⟨fun hlt => ?_, fun hge => ?_⟩
      · have p1 := rowOf_set encP5 (xs := zs) (j := m) (by omega) (nth zs (m - 1))
        have p2 := rowOf_set encP5 (xs := zs.set m (nth zs (m - 1))) (j := m - 1) (by rw [List.length_set]; omega) (nth zs m)
        have hlen := rowOf_length encP5 (zs.set m (nth zs (m - 1)))
        rw [p1, p2]
        refine ⟨by rw [hlen, List.length_set]; omega, m - 1, by omega, by omega, swp zs (m - 1) m, ⟨by have := hZ.lim; simpa using this, by have := hZ.next; simpa using this, fun k hk' => ?_, ?_, (swp_perm (by omega) (by omega)).trans hZ.perm⟩, hk.step ordP (by omega) hm ((cmpP_lt _ _).1 hlt)⟩
        · rw [AH.get_set_other _ _ _ _ hk', AH.get_set_other _ _ _ _ hk']; exact hZ.get k hk'
        · exact AH.get_set_same _ _ _ hin
      · exact ⟨k - 1, by omega, j + 1, by omega, by omega, by omega, zs, hZ, hk.stop ordP fun _ h => by have := (cmpP_lt _ _).2 h; omega⟩
    · obtain rfl : m = 0 := by omega
      simp (disch := omega) [Und]
      exact ⟨k - 1, by omega, j + 1, by omega, by omega, by omega, zs, hZ, hk.stop ordP fun h => by omega⟩
  · simp (disch := omega) [Und, hjl]
    exact hK ys σ1 hS (fun p q h1 h2 => hT p q h1 (by omega))

theorem pdq_ok {σ : AH} {i n : Nat} {xs : List P5} (hi : σ.lim ≤ i) (hg : σ.get i = some (.cells (rowOf eP5 xs))) (hn : xs.length = n) (hn2 : n ≤ 12) (hsm : ∀ x ∈ xs, smallP x) {c : ACap} {l : Int} {K : AV → AH → Prop}
    (hK : ∀ ys σ', Sorted eP5 i xs σ σ' ys → SortedTo ltP ys n → K (.tuple []) σ') :
    Call prog O (.fn 75) [.slice (some (i, 0)) n c, .int .i64 0, .int .i64 n, .int .i64 l, .func (.func 46) [] []] σ K := by
  refine @call_of' _ _ pl _ _ _ _ _ _ _ ⟨K⟩ get75 ((oo (by decide)).2 _) rfl ?_
  simp (disch := omega) []
  refine lp_loop pl (fun k fr σ' => k = 0 ∧ fr = ⟨[(0, .slice (some (i, 0)) n c), (1, .int .i64 0), (2, .int .i64 n), (3, .int .i64 l), (4, .func (.func 46) [] []), (10, .bool true), (11, .bool true)], []⟩ ∧ σ' = σ) ⟨0, rfl, rfl, rfl⟩ ?_
  rintro k _ _ ⟨rfl, rfl, rfl⟩
  have q : (n : Int) ≤ 12 := by omega
  simp (disch := omega) [Und, q]
  refine isort_ok hi hg hn (by omega) hsm fun ys σ' h1 h2 => ?_
  simp (disch := omega) []
  exact hK ys σ' h1 h2
theorem aconv_u8 (q : IntKind) (n : Int) (h : 0 ≤ n) (h2 : n ≤ 255) : aconv .u8 (.int q n) = some (.int .u8 n) := by
  have : wr .u8 n = n := by
    show IntKind.wrap .u8 n = n
    simp only [IntKind.wrap, IntKind.bits, IntKind.signed]
    simp
    omega
  simp only [aconv, this]
theorem aconv_u64 (q : IntKind) (n : Int) (h : 0 ≤ n) (h2 : n ≤ 1000) : aconv .u64 (.int q n) = some (.int .u64 n) := by
  have : wr .u64 n = n := by
    show IntKind.wrap .u64 n = n
    simp only [IntKind.wrap, IntKind.bits, IntKind.signed]
    simp
    omega
  simp only [aconv, this]
theorem bits_tab : ∀ a : ByteArray, a.size = 256 → (bys a).length = 256 := fun a h => by rw [bys_len, h]
theorem Len64_ok (n : Nat) (h : n ≤ 255) : ∃ v, (∃ l, v = .int .i64 l) ∧ ans prog O 95 [.int .u64 n] = some v := by
  refine fn_ex pl _ get95 (oo (by decide)) rfl rfl ?_
  have q1 : ¬ (4294967296 : Int) ≤ n := by omega
  have q2 : ¬ (65536 : Int) ≤ n := by omega
  have q3 : ¬ (256 : Int) ≤ n := by omega
  simp (disch := omega) [Und, q1, q2, q3, aconv_u8]
  rw [bits_tab _ rfl]
  omega
theorem Len_ok (n : Nat) (h : n ≤ 255) : ∃ l, ans prog O 64 [.int .u64 n] = some (.int .i64 l) := by
  obtain ⟨_, ⟨l, rfl⟩, h1⟩ := Len64_ok n h
  refine ⟨l, ?_⟩
  refine fn_of' pl get64 (oo (by decide)) rfl rfl ?_
  simp (disch := omega) [Und, h1]
theorem SortFunc_ok {σ : AH} {i n : Nat} {xs : List P5} (hi : σ.lim ≤ i) (hg : σ.get i = some (.cells (rowOf eP5 xs))) (hn : xs.length = n) (hn2 : n ≤ 12) (hsm : ∀ x ∈ xs, smallP x) {c : ACap} {K : AV → AH → Prop}
    (hK : ∀ ys σ', Sorted eP5 i xs σ σ' ys → SortedTo ltP ys n → K (.tuple []) σ') :
    Call prog O (.fn 45) [.slice (some (i, 0)) n c, .func (.func 46) [] []] σ K := by
  refine @call_of' _ _ pl _ _ _ _ _ _ _ ⟨K⟩ get45 ((oo (by decide)).2 _) rfl ?_
  obtain ⟨l, hl⟩ := Len_ok n (by omega)
  simp (disch := omega) [hl, aconv_u64]
  refine pdq_ok hi hg hn hn2 hsm fun ys σ' h1 h2 => ?_
  simp (disch := omega) []
  exact hK ys σ' h1 h2
theorem setI (xs : List Int) (j : Nat) (v : Int) : (rowOf (AV.int .i64) xs).set j (.int .i64 v) = rowOf (AV.int .i64) (xs.set j v) := by
  have e : ∀ ys : List Int, rowOf (AV.int .i64) ys = ys.map (AV.int .i64) := fun ys => by
    induction ys with
    | nil => rfl
    | cons x r ih => simp only [rowOf, List.flatMap_cons, List.map_cons] at ih ⊢; rw [ih]; rfl
  rw [e, e, List.map_set]
theorem isortI_ok {σ : AH} {i n : Nat} {xs : List Int} (hi : σ.lim ≤ i) (hg : σ.get i = some (.cells (rowOf (AV.int .i64) xs))) (hn : xs.length = n) (hn2 : n ≤ 1000) {c : ACap} {K : AV → AH → Prop}
    (hK : ∀ ys σ', Sorted (AV.int .i64) i xs σ σ' ys → SortedTo ltI ys n → K (.tuple []) σ') :
    Call prog O (.fn 117) [.slice (some (i, 0)) n c, .int .i64 0, .int .i64 n] σ K := by
  refine @call_of' _ _ pl _ _ _ _ _ _ _ ⟨K⟩ get117 ((oo (by decide)).2 _) rfl ?_
  simp (disch := omega) []
  refine lp_loop pl (fun k fr σ' => ∃ (j : Nat) (ys : List Int), j + k = n + 1 ∧ 1 ≤ j ∧ fr = ⟨[(0, .slice (some (i, 0)) n c), (1, .int .i64 0), (2, .int .i64 n), (6, .int .i64 j)], []⟩ ∧ Sorted (AV.int .i64) i xs σ σ' ys ∧ SortedTo ltI ys j)
    ⟨n, 1, xs, by omega, by omega, rfl, ⟨rfl, rfl, fun _ _ => rfl, hg, .refl _⟩, fun p q h1 h2 => by omega⟩ ?_
  rintro k _ σ1 ⟨j, ys, hj, hj1, rfl, hS, hT⟩
  have hyl : ys.length = n := hS.perm.length_eq.trans hn
  by_cases hjl : j < n
  · simp (disch := omega) [Und, hjl]
    refine lp_loop pl (fun k fr σ' => ∃ (m : Nat) (zs : List Int), m = k ∧ fr = ⟨[(0, .slice (some (i, 0)) n c), (1, .int .i64 0), (2, .int .i64 n), (6, .int .i64 j), (7, .int .i64 m)], []⟩ ∧ Sorted (AV.int .i64) i xs σ σ' zs ∧ Sink ltI zs j m)
      ⟨j, j, ys, rfl, rfl, hS, .start hT⟩ ?_
    rintro k2 _ σ2 ⟨m, zs, rfl, rfl, hZ, hk⟩
    have hzl : zs.length = n := hZ.perm.length_eq.trans hn
    have hmj := hk.le
    have hrl := rowOf_length encI zs
    have hl : σ2.lim ≤ i := by have := hZ.lim; omega
    have hin : i < σ2.next := AH.get_lt hZ.row
    by_cases hm : 0 < m
    · have r1 := row_int (q := .i64) (xs := zs) (j := m) (by omega)
      have r2 := row_int (q := .i64) (xs := zs) (j := m - 1) (by omega)
      have e1 : ((m : Int) - 1).toNat = m - 1 := by omega
      have q1 : m < n := by omega
      have q2 : (m : Int) - 1 < n := by omega
      have q3 : m + 1 ≤ zs.length := by omega
      have q4 : m - 1 + 1 ≤ zs.length := by omega
      have q5 : 1 ≤ (m : Int) := by omega
      simp (disch := omega) [Und, hm, hZ.row, hrl, r1, r2, e1, q1, q2, q3, q4, q5, hl, hin, -getElem?_pos]
      refine ⟨by omega, fun hlt => ?_, fun hge => ?_⟩
      · refine ⟨by omega, m - 1, by omega, by omega, swp zs (m - 1) m, ⟨by have := hZ.lim; simpa using this, by have := hZ.next; simpa using this, fun k hk' => ?_, ?_, (swp_perm (by omega) (by omega)).trans hZ.perm⟩, hk.step ordI (by omega) hm hlt⟩
        · rw [AH.get_set_other _ _ _ _ hk', AH.get_set_other _ _ _ _ hk']; exact hZ.get k hk'
        · rw [setI, setI]; exact AH.get_set_same _ _ _ hin
      · exact ⟨k - 1, by omega, j + 1, by omega, by omega, by omega, zs, hZ, hk.stop ordI fun _ h => by unfold ltI at h; omega⟩
    · obtain rfl : m = 0 := by omega
      simp (disch := omega) [Und]
      exact ⟨k - 1, by omega, j + 1, by omega, by omega, by omega, zs, hZ, hk.stop ordI fun h => by omega⟩
  · simp (disch := omega) [Und, hjl]
    exact hK ys σ1 hS (fun p q h1 h2 => hT p q h1 (by omega))

theorem pdqI_ok {σ : AH} {i n : Nat} {xs : List Int} (hi : σ.lim ≤ i) (hg : σ.get i = some (.cells (rowOf (AV.int .i64) xs))) (hn : xs.length = n) (hn2 : n ≤ 12) {c : ACap} {l : Int} {K : AV → AH → Prop}
    (hK : ∀ ys σ', Sorted (AV.int .i64) i xs σ σ' ys → SortedTo ltI ys n → K (.tuple []) σ') :
    Call prog O (.fn 76) [.slice (some (i, 0)) n c, .int .i64 0, .int .i64 n, .int .i64 l] σ K := by
  refine @call_of' _ _ pl _ _ _ _ _ _ _ ⟨K⟩ get76 ((oo (by decide)).2 _) rfl ?_
  simp (disch := omega) []
  refine lp_loop pl (fun k fr σ' => k = 0 ∧ fr = ⟨[(0, .slice (some (i, 0)) n c), (1, .int .i64 0), (2, .int .i64 n), (3, .int .i64 l), (8, .bool true), (9, .bool true)], []⟩ ∧ σ' = σ) ⟨0, rfl, rfl, rfl⟩ ?_
  rintro k _ _ ⟨rfl, rfl, rfl⟩
  have q : (n : Int) ≤ 12 := by omega
  simp (disch := omega) [Und, q]
  refine isortI_ok hi hg hn (by omega) fun ys σ' h1 h2 => ?_
  simp (disch := omega) []
  exact hK ys σ' h1 h2
theorem SortI_ok {σ : AH} {i n : Nat} {xs : List Int} (hi : σ.lim ≤ i) (hg : σ.get i = some (.cells (rowOf (AV.int .i64) xs))) (hn : xs.length = n) (hn2 : n ≤ 12) {c : ACap} {K : AV → AH → Prop}
    (hK : ∀ ys σ', Sorted (AV.int .i64) i xs σ σ' ys → SortedTo ltI ys n → K (.tuple []) σ') :
    Call prog O (.fn 48) [.slice (some (i, 0)) n c] σ K := by
  refine @call_of' _ _ pl _ _ _ _ _ _ _ ⟨K⟩ get48 ((oo (by decide)).2 _) rfl ?_
  obtain ⟨l, hl⟩ := Len_ok n (by omega)
  simp (disch := omega) [hl, aconv_u64]
  refine pdqI_ok hi hg hn hn2 fun ys σ' h1 h2 => ?_
  simp (disch := omega) []
  exact hK ys σ' h1 h2
end Go.Oct.Stk.Sh
