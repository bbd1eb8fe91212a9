/- Sorting spans by their lower ends: the partitions. -/
import Derived.Test.YtddclpecmjibkaaDoorOFixSrtW
set_option maxRecDepth 100000
set_option maxHeartbeats 8000000
set_option linter.unusedVariables false
set_option linter.unusedSimpArgs false
namespace Go.Oct.Fix
open Go.Oct
/-- A loop, and what comes behind it. -/
theorem lp_then {p : AProg} {O : Caller} {f : Nat} {rd : Option Nat} {b : ACode} {fr : Fr} {σ : AH} {Q : Kn (AEx → Fr → AH → Prop)} (e0 : AEx) (R : Fr → AH → Prop) (h : @Lp p O f rd b fr σ ⟨fun e fr s => e = e0 ∧ R fr s⟩) (k : ∀ fr s, R fr s → Q.k e0 fr s) : @Lp p O f rd b fr σ Q :=
  WC.mono h fun ex fr s h => by obtain ⟨rfl, hr⟩ := h; exact k fr s hr
/-- Between two scans: the part below i is on the one side, that above j on the other. -/
structure Par (a b i j : Nat) (L : Int → Prop) (xs : List Span) : Prop where
  ai : a < i
  ij : i ≤ j + 1
  jb : j < b
  les : ∀ q, a < q → q < i → L (kk xs q)
  ges : ∀ q, j < q → q < b → ¬ L (kk xs q)
theorem Par.up {a b i j : Nat} {L : Int → Prop} {xs : List Span} (h : Par a b i j L xs) (hi : i ≤ j) (hl : L (kk xs i)) : Par a b (i + 1) j L xs :=
  ⟨by have := h.ai; omega, by omega, h.jb, fun q h1 h2 => by
    by_cases e : q = i
    · rw [e]; exact hl
    · exact h.les q h1 (by omega), h.ges⟩
theorem Par.down {a b i j : Nat} {L : Int → Prop} {xs : List Span} (h : Par a b i j L xs) (hi : i ≤ j) (hl : ¬ L (kk xs j)) : Par a b i (j - 1) L xs :=
  ⟨h.ai, by have := h.ai; omega, by have := h.jb; omega, h.les, fun q h1 h2 => by
    by_cases e : q = j
    · rw [e]; exact hl
    · exact h.ges q (by omega) h2⟩
theorem Par.both {a b i j : Nat} {L : Int → Prop} {xs : List Span} (h : Par a b i j L xs) (hb : b ≤ xs.length) (hi : i < j) (h1 : ¬ L (kk xs i)) (h2 : L (kk xs j)) : Par a b (i + 1) (j - 1) L (swp xs j i) ∧ kk (swp xs j i) a = kk xs a := by
  have ha := h.ai
  have hj := h.jb
  have e := kk_swp (xs := xs) (i := j) (j := i) (by omega) (by omega)
  refine ⟨⟨by omega, by omega, by omega, fun q g1 g2 => ?_, fun q g1 g2 => ?_⟩, ?_⟩
  · rw [e, if_neg (by omega)]
    by_cases e1 : q = i
    · rw [if_pos e1]; exact h2
    · rw [if_neg e1]; exact h.les q g1 (by omega)
  · rw [e]
    by_cases e1 : q = j
    · rw [if_pos e1]; exact h1
    · rw [if_neg e1, if_neg (by omega)]; exact h.ges q (by omega) g2
  · rw [e, if_neg (by omega), if_neg (by omega)]
/-- The pivot put between both. -/
theorem Par.done {a b i j : Nat} {p : Int} {xs : List Span} (h : Par a b i j (fun z => z < p) xs) (hp : kk xs a = p) (hb : b ≤ xs.length) (hi : j < i) : kk (swp xs a j) j = p ∧ (∀ q, a ≤ q → q < j → kk (swp xs a j) q < p) ∧ ∀ q, j < q → q < b → p ≤ kk (swp xs a j) q := by
  have ha := h.ai
  have hij := h.ij
  have hj := h.jb
  have e := kk_swp (xs := xs) (i := a) (j := j) (by omega) (by omega)
  refine ⟨?_, fun q g1 g2 => ?_, fun q g1 g2 => ?_⟩
  · rw [e]
    by_cases e1 : j = a
    · rw [if_pos e1, e1]; exact hp
    · rw [if_neg e1, if_pos rfl]; exact hp
  · rw [e]
    by_cases e1 : q = a
    · rw [if_pos e1]; exact h.les j (by omega) (by omega)
    · rw [if_neg e1, if_neg (by omega)]; exact h.les q (by omega) (by omega)
  · rw [e, if_neg (by omega), if_neg (by omega)]
    have := h.ges q g1 g2
    omega
theorem part_call {σ : AH} {o n a b v : Nat} {xs : List Span} (hl : σ.lim ≤ o) (hg : σ.get o = some (.cells (rowOf eSpan xs))) (hn : xs.length = n) (hn2 : n ≤ 1000) (hbd : ∀ x ∈ xs, bd x) (hab : a + 1 < b) (hb : b ≤ n) (hv : a ≤ v ∧ v < b) {c : ACap} {K : AV → AH → Prop}
    (hK : ∀ (m : Nat) (al : Bool) ys σ', Lay o σ σ' ys → PI a b xs ys → a ≤ m → m < b → (∀ q, a ≤ q → q < m → kk ys q < kk ys m) → (∀ q, m < q → q < b → kk ys m ≤ kk ys q) → K (.tuple [.int .i64 m, .bool al]) σ') :
    Call prog O (.fn 115) [.slice (some (o, 0)) n c, .int .i64 a, .int .i64 b, .int .i64 v, cmpF] σ K := by
  refine @call_of' _ _ pl _ _ _ _ _ _ _ ⟨K⟩ get115 ((oo (by decide)).2 _) rfl ?_
  have hrl := rowOf_length encSpan xs
  have hin : o < σ.next := AH.get_lt hg
  have r0 := row_at encSpan (xs := xs) (j := a) (by omega)
  have r1 := row_at encSpan (xs := xs) (j := v) (by omega)
  have q0 : a < n := by omega
  have q1 : v < n := by omega
  have w0 : a * 2 + 2 ≤ xs.length * 2 := by omega
  have w1 : v * 2 + 2 ≤ xs.length * 2 := by omega
  simp (disch := omega) [Und, hg, hrl, r0, r1, q0, q1, w0, w1, hl, hin, -Bool.exists_bool]
  rw [swpC (i := v) (j := a) (by omega) (by omega)]
  have hZ0 := (Lay.refl hg).set2 (.cells (((rowOf eSpan xs).set (a * 2) (AV.int IntKind.i64 (nth xs v).lo)).set (a * 2 + 1) (AV.int IntKind.i64 (nth xs v).hi))) (swp xs v a)
  have hQ0 : PI a b xs (swp xs v a) := (PI.refl a b xs).swp (by omega) (by omega) (by omega)
  have hpv : kk (swp xs v a) a = kk xs v := by
    rw [kk_swp (by omega) (by omega)]
    by_cases e : a = v
    · rw [if_pos e, e]
    · rw [if_neg e, if_pos rfl]
  generalize AH.set (AH.set σ _ _) _ _ = σ1 at hZ0 ⊢
  obtain ⟨ys, hys⟩ : ∃ ys, ys = swp xs v a := ⟨_, rfl⟩
  rw [← hys] at hZ0 hQ0 hpv
  obtain ⟨p, hp⟩ : ∃ p, p = kk xs v := ⟨_, rfl⟩
  rw [← hp] at hpv
  obtain ⟨L, hL0⟩ : ∃ L : Int → Prop, L = fun z => z < p := ⟨_, rfl⟩
  have hL : ∀ z, L z = (z < p) := fun z => by rw [hL0]
  have hP0 : Par a b (a + 1) (b - 1) L ys := ⟨by omega, by omega, by omega, fun q h1 h2 => by omega, fun q h1 h2 => by omega⟩
  have hj0 : (b : Int) - 1 = ((b - 1 : Nat) : Int) := by omega
  have hi0 : (a : Int) + 1 = ((a + 1 : Nat) : Int) := by omega
  rw [hj0, hi0]
  clear hrl hin r0 r1 q0 q1 w0 w1 hys
  refine lp_then (.exit 0) (fun fr s => ∃ i2 : Nat, fr = ⟨[(0, .slice (some (o, 0)) n c), (1, .int .i64 a), (4, cmpF), (12, .int .i64 (i2 : Nat)), (13, .int .i64 (b - 1 : Nat)), (47, .bool false)], []⟩ ∧ s = σ1 ∧ a + 1 ≤ i2 ∧ Par a b i2 (b - 1) L ys ∧ (i2 ≤ b - 1 → ¬ L (kk ys i2))) ?_ ?_
  · refine lp_loop pl (fun k fr ω => ∃ (i2 : Nat) (ext : Env), i2 + k = b + 1 ∧ fr = ⟨(0, .slice (some (o, 0)) n c) :: (1, .int .i64 a) :: (4, cmpF) :: (12, .int .i64 (i2 : Nat)) :: (13, .int .i64 (b - 1 : Nat)) :: ext, []⟩ ∧ ω = σ1 ∧ a + 1 ≤ i2 ∧ Par a b i2 (b - 1) L ys) ⟨b + 1 - (a + 1), a + 1, _, by have := hP0.ij; have := hP0.jb; omega, rfl, rfl, Nat.le_refl _, hP0⟩ ?_
    rintro k1 _ _ ⟨i2, ext, hx2, rfl, rfl, hmo, hP2⟩
    have hyl : ys.length = n := hQ0.len.trans hn
    have hrl := rowOf_length encSpan ys
    have sz : ∀ j, j < ys.length → bd (nth ys j) := fun j hj => hbd _ (hQ0.perm.mem_iff.1 (nth_mem hj))
    have g1 := hP2.ai
    have g2 := hP2.ij
    have g3 := hP2.jb
    by_cases c1 : i2 ≤ b - 1
    · have c1' : ((i2 : Nat) : Int) ≤ ((b - 1 : Nat) : Int) := by omega
      have r1 := row_at encSpan (xs := ys) (j := i2) (by omega)
      have r0 := row_at encSpan (xs := ys) (j := a) (by omega)
      have q0 : a < n := by omega
      have q1 : i2 < n := by omega
      have w0 : a * 2 + 2 ≤ ys.length * 2 := by omega
      have w1 : i2 * 2 + 2 ≤ ys.length * 2 := by omega
      have hcmp := cmpS_ok (nth ys i2) (nth ys a) (sz _ (by omega)) (sz _ (by omega))
      by_cases c2 : L (kk ys i2)
      · have c2' : (nth ys i2).lo - (nth ys a).lo < 0 := by rw [hL] at c2; have := hpv; unfold kk at c2 this; omega
        simp (disch := omega) [Und, c1', hZ0.row, hrl, r0, r1, q0, q1, w0, w1, hcmp, c2', -Bool.exists_bool]
        exact ⟨k1 - 1, by omega, i2 + 1, by omega, by omega, by omega, hP2.up c1 c2⟩
      · have c2' : ¬ (nth ys i2).lo - (nth ys a).lo < 0 := by rw [hL] at c2; have := hpv; unfold kk at c2 this; omega
        simp (disch := omega) [Und, c1', hZ0.row, hrl, r0, r1, q0, q1, w0, w1, hcmp, c2', -Bool.exists_bool]
        exact ⟨i2, rfl, hmo, hP2, fun _ => by first | exact c2 | exact Classical.not_not.1 c2⟩
    · have c1' : ¬ ((i2 : Nat) : Int) ≤ ((b - 1 : Nat) : Int) := by omega
      simp (disch := omega) [Und, c1', -Bool.exists_bool]
      exact ⟨i2, rfl, hmo, hP2, fun h => absurd h c1⟩
  rintro _ _ ⟨i2, rfl, hs9, hP1m, hP1, hP1x⟩
  have hs8 := hs9.symm
  subst hs8
  simp (disch := omega) [Und, -Bool.exists_bool]
  refine lp_then (.exit 2) (fun fr s => ∃ j2 : Nat, fr = ⟨[(0, .slice (some (o, 0)) n c), (1, .int .i64 a), (4, cmpF), (12, .int .i64 (i2 : Nat)), (13, .int .i64 (j2 : Nat)), (66, .bool false)], []⟩ ∧ s = σ1 ∧ j2 ≤ b - 1 ∧ Par a b (i2) j2 L ys ∧ (i2 ≤ j2 → L (kk ys j2))) ?_ ?_
  · refine lp_loop pl (fun k fr ω => ∃ (j2 : Nat) (ext : Env), j2 = k ∧ fr = ⟨(0, .slice (some (o, 0)) n c) :: (1, .int .i64 a) :: (4, cmpF) :: (12, .int .i64 (i2 : Nat)) :: (13, .int .i64 (j2 : Nat)) :: ext, []⟩ ∧ ω = σ1 ∧ j2 ≤ b - 1 ∧ Par a b (i2) j2 L ys) ⟨b - 1, b - 1, _, by have := hP1.ij; have := hP1.jb; omega, rfl, rfl, Nat.le_refl _, hP1⟩ ?_
    rintro k1 _ _ ⟨j2, ext, hx2, rfl, rfl, hmo, hP2⟩
    have hyl : ys.length = n := hQ0.len.trans hn
    have hrl := rowOf_length encSpan ys
    have sz : ∀ j, j < ys.length → bd (nth ys j) := fun j hj => hbd _ (hQ0.perm.mem_iff.1 (nth_mem hj))
    have g1 := hP2.ai
    have g2 := hP2.ij
    have g3 := hP2.jb
    by_cases c1 : i2 ≤ j2
    · have c1' : ((i2 : Nat) : Int) ≤ ((j2 : Nat) : Int) := by omega
      have r1 := row_at encSpan (xs := ys) (j := j2) (by omega)
      have r0 := row_at encSpan (xs := ys) (j := a) (by omega)
      have q0 : a < n := by omega
      have q1 : j2 < n := by omega
      have w0 : a * 2 + 2 ≤ ys.length * 2 := by omega
      have w1 : j2 * 2 + 2 ≤ ys.length * 2 := by omega
      have hcmp := cmpS_ok (nth ys j2) (nth ys a) (sz _ (by omega)) (sz _ (by omega))
      by_cases c2 : ¬ L (kk ys j2)
      · have c2' : ¬ (nth ys j2).lo - (nth ys a).lo < 0 := by rw [hL] at c2; have := hpv; unfold kk at c2 this; omega
        simp (disch := omega) [Und, c1', hZ0.row, hrl, r0, r1, q0, q1, w0, w1, hcmp, c2', -Bool.exists_bool]
        exact ⟨j2 - 1, by omega, by omega, by omega, hP2.down c1 c2⟩
      · have c2' : (nth ys j2).lo - (nth ys a).lo < 0 := by rw [hL] at c2; have := hpv; unfold kk at c2 this; omega
        simp (disch := omega) [Und, c1', hZ0.row, hrl, r0, r1, q0, q1, w0, w1, hcmp, c2', -Bool.exists_bool]
        exact ⟨j2, rfl, hmo, hP2, fun _ => by first | exact c2 | exact Classical.not_not.1 c2⟩
    · have c1' : ¬ ((i2 : Nat) : Int) ≤ ((j2 : Nat) : Int) := by omega
      simp (disch := omega) [Und, c1', -Bool.exists_bool]
      exact ⟨j2, rfl, hmo, hP2, fun h => absurd h c1⟩
  rintro _ _ ⟨j2, rfl, hs9, hP3m, hP3, hP3x⟩
  have hs8 := hs9.symm
  subst hs8
  have g1 := hP3.ai
  have g2 := hP3.ij
  have g3 := hP3.jb
  by_cases c3 : j2 < i2
  · have c3' : (j2 : Int) < i2 := by omega
    have hyl : ys.length = n := hQ0.len.trans hn
    have hrl := rowOf_length encSpan ys
    have hlm : ∀ {υ : AH}, Lay o σ υ ys → υ.lim ≤ o := fun h => by rw [h.only.lim]; exact hl
    have hlm2 := hlm hZ0
    have hin := AH.get_lt hZ0.row
    have r0 := row_at encSpan (xs := ys) (j := a) (by omega)
    have q0 : a < n := by omega
    have w0 : a * 2 + 2 ≤ ys.length * 2 := by omega
    have r1 := row_at encSpan (xs := ys) (j := j2) (by omega)
    have q1 : j2 < n := by omega
    have w1 : j2 * 2 + 2 ≤ ys.length * 2 := by omega
    simp (disch := omega) [Und, hZ0.row, hrl, r0, r1, q0, q1, w0, w1, hlm2, hin, c3', -Bool.exists_bool]
    rw [swpC (zs := ys) (i := a) (j := j2) (by omega) (by omega)]
    have hZ9 := hZ0.set2 (.cells (((rowOf eSpan ys).set (j2 * 2) (AV.int IntKind.i64 (nth ys (a)).lo)).set (j2 * 2 + 1) (AV.int IntKind.i64 (nth ys (a)).hi))) (swp ys (a) (j2))
    subst hL0
    have d1 := hP3.done hpv (by omega) (by omega)
    refine hK j2 true (swp ys a j2) _ hZ9 (hQ0.swp (by omega) (by omega) (by omega)) (by omega) (by omega) (fun q g1 g2 => by rw [d1.1]; exact d1.2.1 q g1 g2) (fun q g1 g2 => by rw [d1.1]; exact d1.2.2 q g1 g2)
  · have c3' : ¬ (j2 : Int) < i2 := by omega
    have hyl : ys.length = n := hQ0.len.trans hn
    have hrl := rowOf_length encSpan ys
    have hlm : ∀ {υ : AH}, Lay o σ υ ys → υ.lim ≤ o := fun h => by rw [h.only.lim]; exact hl
    have hlm2 := hlm hZ0
    have hin := AH.get_lt hZ0.row
    have r0 := row_at encSpan (xs := ys) (j := i2) (by omega)
    have q0 : i2 < n := by omega
    have w0 : i2 * 2 + 2 ≤ ys.length * 2 := by omega
    have r1 := row_at encSpan (xs := ys) (j := j2) (by omega)
    have q1 : j2 < n := by omega
    have w1 : j2 * 2 + 2 ≤ ys.length * 2 := by omega
    have hni : ¬ L (kk ys i2) := hP1x (by have := hP1.jb; omega)
    have hnj : L (kk ys j2) := hP3x (by omega)
    have hne : i2 ≠ j2 := fun e => hni (by rw [e]; exact hnj)
    have hbo := hP3.both (by omega) (by omega) hni hnj
    simp (disch := omega) [Und, hZ0.row, hrl, r0, r1, q0, q1, w0, w1, hlm2, hin, c3', -Bool.exists_bool]
    rw [swpC (zs := ys) (i := j2) (j := i2) (by omega) (by omega)]
    have hZ4 := hZ0.set2 (.cells (((rowOf eSpan ys).set (i2 * 2) (AV.int IntKind.i64 (nth ys (j2)).lo)).set (i2 * 2 + 1) (AV.int IntKind.i64 (nth ys (j2)).hi))) (swp ys (j2) (i2))
    have hQ4 : PI a b xs (swp ys j2 i2) := hQ0.swp (by omega) (by omega) (by omega)
    have hA4 := hbo.2.trans hpv
    have hP4 := hbo.1
    generalize AH.set (AH.set _ _ _) _ _ = σ4 at hZ4 ⊢
    generalize swp ys j2 i2 = zs0 at hZ4 hQ4 hA4 hP4
    have hj4 : (j2 : Int) - 1 = ((j2 - 1 : Nat) : Int) := by omega
    have hi4 : (i2 : Int) + 1 = ((i2 + 1 : Nat) : Int) := by omega
    rw [hj4, hi4]
    generalize i2 + 1 = I0 at hP4 ⊢
    generalize j2 - 1 = J0 at hP4 ⊢
    refine lp_loop pl (fun k fr υ => ∃ (i j : Nat) (zs : List Span), j + 1 = i + k ∧ fr = ⟨[(0, .slice (some (o, 0)) n c), (1, .int .i64 a), (4, cmpF), (12, .int .i64 (i : Nat)), (13, .int .i64 (j : Nat))], []⟩ ∧ Lay o σ υ zs ∧ PI a b xs zs ∧ kk zs a = p ∧ Par a b i j L zs)
      ⟨J0 + 1 - I0, I0, J0, zs0, by have := hP4.ij; omega, rfl, hZ4, hQ4, hA4, hP4⟩ ?_
    clear hZ4 hQ4 hA4 hP4
    rintro k _ υ ⟨i, j, zs, hk, rfl, hZ, hQ, hA, hP⟩
    simp (disch := omega) [Und, -Bool.exists_bool]
    refine lp_then (.exit 6) (fun fr s => ∃ i2 : Nat, fr = ⟨[(0, .slice (some (o, 0)) n c), (1, .int .i64 a), (4, cmpF), (12, .int .i64 (i2 : Nat)), (13, .int .i64 (j : Nat)), (120, .bool false)], []⟩ ∧ s = υ ∧ i ≤ i2 ∧ Par a b i2 (j) L zs ∧ (i2 ≤ j → ¬ L (kk zs i2))) ?_ ?_
    · refine lp_loop pl (fun k fr ω => ∃ (i2 : Nat) (ext : Env), i2 + k = b + 1 ∧ fr = ⟨(0, .slice (some (o, 0)) n c) :: (1, .int .i64 a) :: (4, cmpF) :: (12, .int .i64 (i2 : Nat)) :: (13, .int .i64 (j : Nat)) :: ext, []⟩ ∧ ω = υ ∧ i ≤ i2 ∧ Par a b i2 (j) L zs) ⟨b + 1 - (i), i, _, by have := hP.ij; have := hP.jb; omega, rfl, rfl, Nat.le_refl _, hP⟩ ?_
      rintro k1 _ _ ⟨i2, ext, hx2, rfl, rfl, hmo, hP2⟩
      have hyl : zs.length = n := hQ.len.trans hn
      have hrl := rowOf_length encSpan zs
      have sz : ∀ j, j < zs.length → bd (nth zs j) := fun j hj => hbd _ (hQ.perm.mem_iff.1 (nth_mem hj))
      have g1 := hP2.ai
      have g2 := hP2.ij
      have g3 := hP2.jb
      by_cases c1 : i2 ≤ j
      · have c1' : ((i2 : Nat) : Int) ≤ ((j : Nat) : Int) := by omega
        have r1 := row_at encSpan (xs := zs) (j := i2) (by omega)
        have r0 := row_at encSpan (xs := zs) (j := a) (by omega)
        have q0 : a < n := by omega
        have q1 : i2 < n := by omega
        have w0 : a * 2 + 2 ≤ zs.length * 2 := by omega
        have w1 : i2 * 2 + 2 ≤ zs.length * 2 := by omega
        have hcmp := cmpS_ok (nth zs i2) (nth zs a) (sz _ (by omega)) (sz _ (by omega))
        by_cases c2 : L (kk zs i2)
        · have c2' : (nth zs i2).lo - (nth zs a).lo < 0 := by rw [hL] at c2; have := hA; unfold kk at c2 this; omega
          simp (disch := omega) [Und, c1', hZ.row, hrl, r0, r1, q0, q1, w0, w1, hcmp, c2', -Bool.exists_bool]
          exact ⟨k1 - 1, by omega, i2 + 1, by omega, by omega, by omega, hP2.up c1 c2⟩
        · have c2' : ¬ (nth zs i2).lo - (nth zs a).lo < 0 := by rw [hL] at c2; have := hA; unfold kk at c2 this; omega
          simp (disch := omega) [Und, c1', hZ.row, hrl, r0, r1, q0, q1, w0, w1, hcmp, c2', -Bool.exists_bool]
          exact ⟨i2, rfl, hmo, hP2, fun _ => by first | exact c2 | exact Classical.not_not.1 c2⟩
      · have c1' : ¬ ((i2 : Nat) : Int) ≤ ((j : Nat) : Int) := by omega
        simp (disch := omega) [Und, c1', -Bool.exists_bool]
        exact ⟨i2, rfl, hmo, hP2, fun h => absurd h c1⟩
    rintro _ _ ⟨i2, rfl, hs9, hP5m, hP5, hP5x⟩
    have hs8 := hs9.symm
    subst hs8
    simp (disch := omega) [Und, -Bool.exists_bool]
    refine lp_then (.exit 8) (fun fr s => ∃ j2 : Nat, fr = ⟨[(0, .slice (some (o, 0)) n c), (1, .int .i64 a), (4, cmpF), (12, .int .i64 (i2 : Nat)), (13, .int .i64 (j2 : Nat)), (139, .bool false)], []⟩ ∧ s = υ ∧ j2 ≤ j ∧ Par a b (i2) j2 L zs ∧ (i2 ≤ j2 → L (kk zs j2))) ?_ ?_
    · refine lp_loop pl (fun k fr ω => ∃ (j2 : Nat) (ext : Env), j2 = k ∧ fr = ⟨(0, .slice (some (o, 0)) n c) :: (1, .int .i64 a) :: (4, cmpF) :: (12, .int .i64 (i2 : Nat)) :: (13, .int .i64 (j2 : Nat)) :: ext, []⟩ ∧ ω = υ ∧ j2 ≤ j ∧ Par a b (i2) j2 L zs) ⟨j, j, _, by have := hP5.ij; have := hP5.jb; omega, rfl, rfl, Nat.le_refl _, hP5⟩ ?_
      rintro k1 _ _ ⟨j2, ext, hx2, rfl, rfl, hmo, hP2⟩
      have hyl : zs.length = n := hQ.len.trans hn
      have hrl := rowOf_length encSpan zs
      have sz : ∀ j, j < zs.length → bd (nth zs j) := fun j hj => hbd _ (hQ.perm.mem_iff.1 (nth_mem hj))
      have g1 := hP2.ai
      have g2 := hP2.ij
      have g3 := hP2.jb
      by_cases c1 : i2 ≤ j2
      · have c1' : ((i2 : Nat) : Int) ≤ ((j2 : Nat) : Int) := by omega
        have r1 := row_at encSpan (xs := zs) (j := j2) (by omega)
        have r0 := row_at encSpan (xs := zs) (j := a) (by omega)
        have q0 : a < n := by omega
        have q1 : j2 < n := by omega
        have w0 : a * 2 + 2 ≤ zs.length * 2 := by omega
        have w1 : j2 * 2 + 2 ≤ zs.length * 2 := by omega
        have hcmp := cmpS_ok (nth zs j2) (nth zs a) (sz _ (by omega)) (sz _ (by omega))
        by_cases c2 : ¬ L (kk zs j2)
        · have c2' : ¬ (nth zs j2).lo - (nth zs a).lo < 0 := by rw [hL] at c2; have := hA; unfold kk at c2 this; omega
          simp (disch := omega) [Und, c1', hZ.row, hrl, r0, r1, q0, q1, w0, w1, hcmp, c2', -Bool.exists_bool]
          exact ⟨j2 - 1, by omega, by omega, by omega, hP2.down c1 c2⟩
        · have c2' : (nth zs j2).lo - (nth zs a).lo < 0 := by rw [hL] at c2; have := hA; unfold kk at c2 this; omega
          simp (disch := omega) [Und, c1', hZ.row, hrl, r0, r1, q0, q1, w0, w1, hcmp, c2', -Bool.exists_bool]
          exact ⟨j2, rfl, hmo, hP2, fun _ => by first | exact c2 | exact Classical.not_not.1 c2⟩
      · have c1' : ¬ ((i2 : Nat) : Int) ≤ ((j2 : Nat) : Int) := by omega
        simp (disch := omega) [Und, c1', -Bool.exists_bool]
        exact ⟨j2, rfl, hmo, hP2, fun h => absurd h c1⟩
    rintro _ _ ⟨j2, rfl, hs9, hP6m, hP6, hP6x⟩
    have hs8 := hs9.symm
    subst hs8
    have g1 := hP6.ai
    have g2 := hP6.ij
    have g3 := hP6.jb
    by_cases c3 : j2 < i2
    · have c3' : (j2 : Int) < i2 := by omega
      have hyl : zs.length = n := hQ.len.trans hn
      have hrl := rowOf_length encSpan zs
      have hlm : ∀ {υ : AH}, Lay o σ υ zs → υ.lim ≤ o := fun h => by rw [h.only.lim]; exact hl
      have hlm2 := hlm hZ
      have hin := AH.get_lt hZ.row
      have r0 := row_at encSpan (xs := zs) (j := a) (by omega)
      have q0 : a < n := by omega
      have w0 : a * 2 + 2 ≤ zs.length * 2 := by omega
      have r1 := row_at encSpan (xs := zs) (j := j2) (by omega)
      have q1 : j2 < n := by omega
      have w1 : j2 * 2 + 2 ≤ zs.length * 2 := by omega
      simp (disch := omega) [Und, hZ.row, hrl, r0, r1, q0, q1, w0, w1, hlm2, hin, c3', -Bool.exists_bool]
      rw [swpC (zs := zs) (i := a) (j := j2) (by omega) (by omega)]
      have hZ9 := hZ.set2 (.cells (((rowOf eSpan zs).set (j2 * 2) (AV.int IntKind.i64 (nth zs (a)).lo)).set (j2 * 2 + 1) (AV.int IntKind.i64 (nth zs (a)).hi))) (swp zs (a) (j2))
      subst hL0
      have d1 := hP6.done hA (by omega) (by omega)
      refine hK j2 false (swp zs a j2) _ hZ9 (hQ.swp (by omega) (by omega) (by omega)) (by omega) (by omega) (fun q g1 g2 => by rw [d1.1]; exact d1.2.1 q g1 g2) (fun q g1 g2 => by rw [d1.1]; exact d1.2.2 q g1 g2)
    · have c3' : ¬ (j2 : Int) < i2 := by omega
      have hyl : zs.length = n := hQ.len.trans hn
      have hrl := rowOf_length encSpan zs
      have hlm : ∀ {υ : AH}, Lay o σ υ zs → υ.lim ≤ o := fun h => by rw [h.only.lim]; exact hl
      have hlm2 := hlm hZ
      have hin := AH.get_lt hZ.row
      have r0 := row_at encSpan (xs := zs) (j := i2) (by omega)
      have q0 : i2 < n := by omega
      have w0 : i2 * 2 + 2 ≤ zs.length * 2 := by omega
      have r1 := row_at encSpan (xs := zs) (j := j2) (by omega)
      have q1 : j2 < n := by omega
      have w1 : j2 * 2 + 2 ≤ zs.length * 2 := by omega
      have hni : ¬ L (kk zs i2) := hP5x (by have := hP5.jb; omega)
      have hnj : L (kk zs j2) := hP6x (by omega)
      have hne : i2 ≠ j2 := fun e => hni (by rw [e]; exact hnj)
      have hbo := hP6.both (by omega) (by omega) hni hnj
      simp (disch := omega) [Und, hZ.row, hrl, r0, r1, q0, q1, w0, w1, hlm2, hin, c3', -Bool.exists_bool]
      rw [swpC (zs := zs) (i := j2) (j := i2) (by omega) (by omega)]
      have hZ7 := hZ.set2 (.cells (((rowOf eSpan zs).set (i2 * 2) (AV.int IntKind.i64 (nth zs (j2)).lo)).set (i2 * 2 + 1) (AV.int IntKind.i64 (nth zs (j2)).hi))) (swp zs (j2) (i2))
      refine ⟨j2 - (i2 + 1), ?_, i2 + 1, j2 - 1, by omega, ⟨by omega, by omega⟩, swp zs j2 i2, hZ7, hQ.swp (by omega) (by omega) (by omega), hbo.2.trans hA, hbo.1⟩
      have := hP.ij
      have := hP5.ij
      omega
theorem parteq_call {σ : AH} {o n a b v : Nat} {xs : List Span} (hl : σ.lim ≤ o) (hg : σ.get o = some (.cells (rowOf eSpan xs))) (hn : xs.length = n) (hn2 : n ≤ 1000) (hbd : ∀ x ∈ xs, bd x) (hab : a + 1 < b) (hb : b ≤ n) (hv : a ≤ v ∧ v < b) {c : ACap} {K : AV → AH → Prop}
    (hK : ∀ (m : Nat) ys σ', Lay o σ σ' ys → PI a b xs ys → a < m → m ≤ b → (∀ q, a ≤ q → q < m → kk ys q ≤ kk xs v) → (∀ q, m ≤ q → q < b → kk xs v < kk ys q) → K (.int .i64 m) σ') :
    Call prog O (.fn 114) [.slice (some (o, 0)) n c, .int .i64 a, .int .i64 b, .int .i64 v, cmpF] σ K := by
  refine @call_of' _ _ pl _ _ _ _ _ _ _ ⟨K⟩ get114 ((oo (by decide)).2 _) rfl ?_
  have hrl := rowOf_length encSpan xs
  have hin : o < σ.next := AH.get_lt hg
  have r0 := row_at encSpan (xs := xs) (j := a) (by omega)
  have r1 := row_at encSpan (xs := xs) (j := v) (by omega)
  have q0 : a < n := by omega
  have q1 : v < n := by omega
  have w0 : a * 2 + 2 ≤ xs.length * 2 := by omega
  have w1 : v * 2 + 2 ≤ xs.length * 2 := by omega
  simp (disch := omega) [Und, hg, hrl, r0, r1, q0, q1, w0, w1, hl, hin, -Bool.exists_bool]
  rw [swpC (i := v) (j := a) (by omega) (by omega)]
  have hZ0 := (Lay.refl hg).set2 (.cells (((rowOf eSpan xs).set (a * 2) (AV.int IntKind.i64 (nth xs v).lo)).set (a * 2 + 1) (AV.int IntKind.i64 (nth xs v).hi))) (swp xs v a)
  have hQ0 : PI a b xs (swp xs v a) := (PI.refl a b xs).swp (by omega) (by omega) (by omega)
  have hpv : kk (swp xs v a) a = kk xs v := by
    rw [kk_swp (by omega) (by omega)]
    by_cases e : a = v
    · rw [if_pos e, e]
    · rw [if_neg e, if_pos rfl]
  generalize AH.set (AH.set σ _ _) _ _ = σ1 at hZ0 ⊢
  obtain ⟨ys, hys⟩ : ∃ ys, ys = swp xs v a := ⟨_, rfl⟩
  rw [← hys] at hZ0 hQ0 hpv
  obtain ⟨p, hp⟩ : ∃ p, p = kk xs v := ⟨_, rfl⟩
  rw [← hp] at hpv
  obtain ⟨L, hL0⟩ : ∃ L : Int → Prop, L = fun z => z ≤ p := ⟨_, rfl⟩
  have hL : ∀ z, L z = (z ≤ p) := fun z => by rw [hL0]
  have hP0 : Par a b (a + 1) (b - 1) L ys := ⟨by omega, by omega, by omega, fun q h1 h2 => by omega, fun q h1 h2 => by omega⟩
  have hj0 : (b : Int) - 1 = ((b - 1 : Nat) : Int) := by omega
  have hi0 : (a : Int) + 1 = ((a + 1 : Nat) : Int) := by omega
  rw [hj0, hi0]
  clear hrl hin r0 r1 q0 q1 w0 w1 hys
  obtain ⟨σ4, hσ4⟩ : ∃ σ4, σ4 = σ1 := ⟨_, rfl⟩
  rw [← hσ4] at hZ0 ⊢
  have hZ4 := hZ0
  have hQ4 := hQ0
  have hA4 := hpv
  have hP4 := hP0
  generalize ys = zs0 at hZ4 hQ4 hA4 hP4
  generalize a + 1 = I0 at hP4 ⊢
  generalize b - 1 = J0 at hP4 ⊢
  refine lp_loop pl (fun k fr υ => ∃ (i j : Nat) (zs : List Span), j + 1 = i + k ∧ fr = ⟨[(0, .slice (some (o, 0)) n c), (1, .int .i64 a), (4, cmpF), (11, .int .i64 (i : Nat)), (12, .int .i64 (j : Nat))], []⟩ ∧ Lay o σ υ zs ∧ PI a b xs zs ∧ kk zs a = p ∧ Par a b i j L zs)
    ⟨J0 + 1 - I0, I0, J0, zs0, by have := hP4.ij; omega, rfl, hZ4, hQ4, hA4, hP4⟩ ?_
  clear hZ4 hQ4 hA4 hP4
  rintro k _ υ ⟨i, j, zs, hk, rfl, hZ, hQ, hA, hP⟩
  simp (disch := omega) [Und, -Bool.exists_bool]
  refine lp_then (.exit 2) (fun fr s => ∃ i2 : Nat, fr = ⟨[(0, .slice (some (o, 0)) n c), (1, .int .i64 a), (4, cmpF), (11, .int .i64 (i2 : Nat)), (12, .int .i64 (j : Nat)), (47, .bool false)], []⟩ ∧ s = υ ∧ i ≤ i2 ∧ Par a b i2 (j) L zs ∧ (i2 ≤ j → ¬ L (kk zs i2))) ?_ ?_
  · refine lp_loop pl (fun k fr ω => ∃ (i2 : Nat) (ext : Env), i2 + k = b + 1 ∧ fr = ⟨(0, .slice (some (o, 0)) n c) :: (1, .int .i64 a) :: (4, cmpF) :: (11, .int .i64 (i2 : Nat)) :: (12, .int .i64 (j : Nat)) :: ext, []⟩ ∧ ω = υ ∧ i ≤ i2 ∧ Par a b i2 (j) L zs) ⟨b + 1 - (i), i, _, by have := hP.ij; have := hP.jb; omega, rfl, rfl, Nat.le_refl _, hP⟩ ?_
    rintro k1 _ _ ⟨i2, ext, hx2, rfl, rfl, hmo, hP2⟩
    have hyl : zs.length = n := hQ.len.trans hn
    have hrl := rowOf_length encSpan zs
    have sz : ∀ j, j < zs.length → bd (nth zs j) := fun j hj => hbd _ (hQ.perm.mem_iff.1 (nth_mem hj))
    have g1 := hP2.ai
    have g2 := hP2.ij
    have g3 := hP2.jb
    by_cases c1 : i2 ≤ j
    · have c1' : ((i2 : Nat) : Int) ≤ ((j : Nat) : Int) := by omega
      have r1 := row_at encSpan (xs := zs) (j := i2) (by omega)
      have r0 := row_at encSpan (xs := zs) (j := a) (by omega)
      have q0 : a < n := by omega
      have q1 : i2 < n := by omega
      have w0 : a * 2 + 2 ≤ zs.length * 2 := by omega
      have w1 : i2 * 2 + 2 ≤ zs.length * 2 := by omega
      have hcmp := cmpS_ok (nth zs a) (nth zs i2) (sz _ (by omega)) (sz _ (by omega))
      by_cases c2 : L (kk zs i2)
      · have c2' : ¬ (nth zs a).lo - (nth zs i2).lo < 0 := by rw [hL] at c2; have := hA; unfold kk at c2 this; omega
        simp (disch := omega) [Und, c1', hZ.row, hrl, r0, r1, q0, q1, w0, w1, hcmp, c2', -Bool.exists_bool]
        exact ⟨k1 - 1, by omega, i2 + 1, by omega, by omega, by omega, hP2.up c1 c2⟩
      · have c2' : (nth zs a).lo - (nth zs i2).lo < 0 := by rw [hL] at c2; have := hA; unfold kk at c2 this; omega
        simp (disch := omega) [Und, c1', hZ.row, hrl, r0, r1, q0, q1, w0, w1, hcmp, c2', -Bool.exists_bool]
        exact ⟨i2, rfl, hmo, hP2, fun _ => by first | exact c2 | exact Classical.not_not.1 c2⟩
    · have c1' : ¬ ((i2 : Nat) : Int) ≤ ((j : Nat) : Int) := by omega
      simp (disch := omega) [Und, c1', -Bool.exists_bool]
      exact ⟨i2, rfl, hmo, hP2, fun h => absurd h c1⟩
  rintro _ _ ⟨i2, rfl, hs9, hP5m, hP5, hP5x⟩
  have hs8 := hs9.symm
  subst hs8
  simp (disch := omega) [Und, -Bool.exists_bool]
  refine lp_then (.exit 4) (fun fr s => ∃ j2 : Nat, fr = ⟨[(0, .slice (some (o, 0)) n c), (1, .int .i64 a), (4, cmpF), (11, .int .i64 (i2 : Nat)), (12, .int .i64 (j2 : Nat)), (65, .bool false)], []⟩ ∧ s = υ ∧ j2 ≤ j ∧ Par a b (i2) j2 L zs ∧ (i2 ≤ j2 → L (kk zs j2))) ?_ ?_
  · refine lp_loop pl (fun k fr ω => ∃ (j2 : Nat) (ext : Env), j2 = k ∧ fr = ⟨(0, .slice (some (o, 0)) n c) :: (1, .int .i64 a) :: (4, cmpF) :: (11, .int .i64 (i2 : Nat)) :: (12, .int .i64 (j2 : Nat)) :: ext, []⟩ ∧ ω = υ ∧ j2 ≤ j ∧ Par a b (i2) j2 L zs) ⟨j, j, _, by have := hP5.ij; have := hP5.jb; omega, rfl, rfl, Nat.le_refl _, hP5⟩ ?_
    rintro k1 _ _ ⟨j2, ext, hx2, rfl, rfl, hmo, hP2⟩
    have hyl : zs.length = n := hQ.len.trans hn
    have hrl := rowOf_length encSpan zs
    have sz : ∀ j, j < zs.length → bd (nth zs j) := fun j hj => hbd _ (hQ.perm.mem_iff.1 (nth_mem hj))
    have g1 := hP2.ai
    have g2 := hP2.ij
    have g3 := hP2.jb
    by_cases c1 : i2 ≤ j2
    · have c1' : ((i2 : Nat) : Int) ≤ ((j2 : Nat) : Int) := by omega
      have r1 := row_at encSpan (xs := zs) (j := j2) (by omega)
      have r0 := row_at encSpan (xs := zs) (j := a) (by omega)
      have q0 : a < n := by omega
      have q1 : j2 < n := by omega
      have w0 : a * 2 + 2 ≤ zs.length * 2 := by omega
      have w1 : j2 * 2 + 2 ≤ zs.length * 2 := by omega
      have hcmp := cmpS_ok (nth zs a) (nth zs j2) (sz _ (by omega)) (sz _ (by omega))
      by_cases c2 : ¬ L (kk zs j2)
      · have c2' : (nth zs a).lo - (nth zs j2).lo < 0 := by rw [hL] at c2; have := hA; unfold kk at c2 this; omega
        simp (disch := omega) [Und, c1', hZ.row, hrl, r0, r1, q0, q1, w0, w1, hcmp, c2', -Bool.exists_bool]
        exact ⟨j2 - 1, by omega, by omega, by omega, hP2.down c1 c2⟩
      · have c2' : ¬ (nth zs a).lo - (nth zs j2).lo < 0 := by rw [hL] at c2; have := hA; unfold kk at c2 this; omega
        simp (disch := omega) [Und, c1', hZ.row, hrl, r0, r1, q0, q1, w0, w1, hcmp, c2', -Bool.exists_bool]
        exact ⟨j2, rfl, hmo, hP2, fun _ => by first | exact c2 | exact Classical.not_not.1 c2⟩
    · have c1' : ¬ ((i2 : Nat) : Int) ≤ ((j2 : Nat) : Int) := by omega
      simp (disch := omega) [Und, c1', -Bool.exists_bool]
      exact ⟨j2, rfl, hmo, hP2, fun h => absurd h c1⟩
  rintro _ _ ⟨j2, rfl, hs9, hP6m, hP6, hP6x⟩
  have hs8 := hs9.symm
  subst hs8
  have g1 := hP6.ai
  have g2 := hP6.ij
  have g3 := hP6.jb
  by_cases c3 : j2 < i2
  · have c3' : (j2 : Int) < i2 := by omega
    simp (disch := omega) [Und, c3', -Bool.exists_bool]
    refine hK i2 zs _ hZ hQ (by omega) (by omega) (fun q g4 g5 => ?_) (fun q g4 g5 => ?_)
    · rw [← hp]
      by_cases e : q = a
      · rw [e, hA]; exact Int.le_refl _
      · have := hP6.les q (by omega) g5
        rwa [hL] at this
    · rw [← hp]
      have := hP6.ges q (by omega) g5
      rw [hL] at this
      omega
  · have c3' : ¬ (j2 : Int) < i2 := by omega
    have hyl : zs.length = n := hQ.len.trans hn
    have hrl := rowOf_length encSpan zs
    have hlm : ∀ {υ : AH}, Lay o σ υ zs → υ.lim ≤ o := fun h => by rw [h.only.lim]; exact hl
    have hlm2 := hlm hZ
    have hin := AH.get_lt hZ.row
    have r0 := row_at encSpan (xs := zs) (j := i2) (by omega)
    have q0 : i2 < n := by omega
    have w0 : i2 * 2 + 2 ≤ zs.length * 2 := by omega
    have r1 := row_at encSpan (xs := zs) (j := j2) (by omega)
    have q1 : j2 < n := by omega
    have w1 : j2 * 2 + 2 ≤ zs.length * 2 := by omega
    have hni : ¬ L (kk zs i2) := hP5x (by have := hP5.jb; omega)
    have hnj : L (kk zs j2) := hP6x (by omega)
    have hne : i2 ≠ j2 := fun e => hni (by rw [e]; exact hnj)
    have hbo := hP6.both (by omega) (by omega) hni hnj
    simp (disch := omega) [Und, hZ.row, hrl, r0, r1, q0, q1, w0, w1, hlm2, hin, c3', -Bool.exists_bool]
    rw [swpC (zs := zs) (i := j2) (j := i2) (by omega) (by omega)]
    have hZ7 := hZ.set2 (.cells (((rowOf eSpan zs).set (i2 * 2) (AV.int IntKind.i64 (nth zs (j2)).lo)).set (i2 * 2 + 1) (AV.int IntKind.i64 (nth zs (j2)).hi))) (swp zs (j2) (i2))
    refine ⟨j2 - (i2 + 1), ?_, i2 + 1, j2 - 1, by omega, ⟨by omega, by omega⟩, swp zs j2 i2, hZ7, hQ.swp (by omega) (by omega) (by omega), hbo.2.trans hA, hbo.1⟩
    have := hP.ij
    have := hP5.ij
    omega
end Go.Oct.Fix
