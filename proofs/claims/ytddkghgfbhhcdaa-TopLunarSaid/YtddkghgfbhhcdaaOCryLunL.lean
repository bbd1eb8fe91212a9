/- TopLunar. -/
import Derived.Test.YtddkghgfbhhcdaaOCryLunR
import Derived.Test.YtddkghgfbhhcdaaOCryLunP
import Derived.Test.YtddkghgfbhhcdaaOCryMooW
import Derived.Test.YtddkghgfbhhcdaaOCryChz
import Derived.Test.YtddkghgfbhhcdaaOT3
set_option maxRecDepth 100000
set_option maxHeartbeats 4000000
set_option linter.unusedVariables false
set_option linter.unusedSimpArgs false
namespace Go.Oct.Cry
open Go.Oct
theorem Sx.under_id {σ : AH} (h : σ.lim = 0) : σ.under 0 = σ := by cases σ; subst h; rfl
theorem w64_back (c d : Int) (h1 : -9223372036854775808 ≤ c) (h2 : c ≤ 9223372036854775807) : w64 (d + w64 (c - d)) = c := by
  rw [w64_wrap, w64_wrap]
  simp only [IntKind.wrap, IntKind.bits, IntKind.signed]
  simp
  omega
def mvd (tb : List Span) (mo : Int) (n : Nat) : List Span := (List.range n).map fun i => ⟨(nth tb i).lo, w64 ((nth tb i).hi + mo)⟩
theorem mvd_succ (tb : List Span) (mo : Int) (n : Nat) : mvd tb mo (n + 1) = mvd tb mo n ++ [⟨(nth tb n).lo, w64 ((nth tb n).hi + mo)⟩] := by unfold mvd; rw [List.range_succ, List.map_append]; rfl
theorem mvd_len (tb : List Span) (mo : Int) (n : Nat) : (mvd tb mo n).length = n := by unfold mvd; simp
theorem mvd_nth (tb : List Span) (mo : Int) {n i : Nat} (h : i < n) : nth (mvd tb mo n) i = ⟨(nth tb i).lo, w64 ((nth tb i).hi + mo)⟩ := by
  rw [nth_eq (by rw [mvd_len]; exact h)]
  unfold mvd
  rw [List.getElem_map, List.getElem_range]
theorem TopLunar_law (nT nS : Bool) (s : Sx.Sext) (a1 s1 a2 s2 F L t lo hi w : Int) (nt : Bool) (tb : List Span) (nl : Bool) (l : List Sx.Tr) (n0 n1 : Int) (hT : s.tab.length < 2 ^ 62) (hS : s.sh.length < 2 ^ 62) (hn : nT = true → s.tab = []) (htb : tb.length < 2 ^ 62) (hl : l.length < 2 ^ 62) :
    ans prog O 6 [.agg [.int .i64 s.step, vl eSpan nT s.tab, .int .i64 s.il, .int .i64 s.ih, .int .i64 s.w, vl eSpan nS s.sh, .int .i64 a1, .int .i64 s1, .int .i64 a2, .int .i64 s2, .int .i64 F, .int .i64 L, .int .i64 t, .int .i64 lo, .int .i64 hi, .int .i64 w], vl eSpan nt tb, vl Sx.eTr nl l, .agg [.int .i64 n0, .int .i64 n1]] = some (.bool true) := by
  obtain ⟨v, hv, ha⟩ := Sx.Read_ok nT nS s a1 s1 hT hS
  refine fn_of' pl get6 (oo (by decide)) rfl rfl ?_
  cases hv with
  | bad e he => simp (disch := omega) [ha, he, Und, -Bool.exists_bool]
  | ok hs hr =>
    have hle := Sx.read_le hs hr nT
    obtain ⟨A, hA⟩ : ∃ A, A = Sx.readV s nT a1 s1 := ⟨_, rfl⟩
    rw [← hA] at ha hle
    by_cases ca : 0 ≤ A.lo ∧ A.lo ≤ A.hi ∧ A.hi ≤ 1000000
    · by_cases cb : 2 ≤ (tb.length : Int) ∧ (tb.length : Int) ≤ 12
      · obtain ⟨x, hx⟩ : ∃ x, x = chz A.lo A.hi n0 := ⟨_, rfl⟩
        have hx1 := chz_in (l := A.lo) (h := A.hi) (n := n0) ca.2.1
        rw [← hx] at hx1
        have e1 := Int.emod_nonneg n1 (show (tb.length : Int) ≠ 0 by omega)
        have e2 := Int.emod_lt_of_pos n1 (show (0 : Int) < tb.length by omega)
        obtain ⟨k, hk⟩ : ∃ k : Nat, (k : Int) = n1 % (tb.length : Int) := ⟨(n1 % (tb.length : Int)).toNat, by omega⟩
        have hkl : k < tb.length := by omega
        have hkl' : (k : Int) < tb.length := by omega
        obtain ⟨mo, hmo⟩ : ∃ mo, mo = w64 (x - (nth tb k).hi) := ⟨_, rfl⟩
        simp (disch := omega) [ha, Und, eq_true ca, eq_true cb, ← hx, ← hk, hkl, hkl', ← hmo, -Bool.exists_bool]
        generalize hσ : AH.under (AH.set (AH.push _ _) 2 _) 0 = σ
        have s0 : σ.lim = 0 := by rw [← hσ]; rfl
        have sn : σ.next = 3 := by rw [← hσ]; rfl
        have g0 : σ.get 0 = some (.cells [.int .i64 s.step, vl eSpan nT s.tab, .int .i64 s.il, .int .i64 s.ih, .int .i64 s.w, vl eSpan nS s.sh, .int .i64 a1, .int .i64 s1, .int .i64 a2, .int .i64 s2, .int .i64 F, .int .i64 L, .int .i64 t, .int .i64 lo, .int .i64 hi, .int .i64 w]) := by rw [← hσ]; simp
        have g2 : σ.get 2 = some (.cells [.int .i64 A.lo, .int .i64 A.hi]) := by rw [← hσ]; simp
        clear hσ
        refine lp_loop pl (fun r fr υ => ∃ (j : Nat) (v : AV), j + r = tb.length ∧ fr = ⟨[(1, vl eSpan nt tb), (2, vl Sx.eTr nl l), (4, .ptr (some (0, 0))), (9, .ptr (some (2, 0))), (11, .int .i64 k), (12, .int .i64 mo), (13, v), (14, .int .i64 j)], []⟩ ∧ υ.lim = 0 ∧ 3 ≤ υ.next ∧ (∀ z, z < 3 → υ.get z = σ.get z) ∧ Buf 3 2 eSpan υ v (mvd tb mo j))
          ⟨tb.length, 0, .vsl true [], by omega, rfl, s0, by omega, fun _ _ => rfl, Buf.nil⟩ ?_
        rintro r _ υ ⟨j, v, hj, rfl, u0, un, uo, hb⟩
        by_cases hjl : j < tb.length
        · have hjl' : (j : Int) < tb.length := by omega
          simp (disch := omega) [Und, u0, hjl, hjl', Sx.under_id u0, -Bool.exists_bool]
          refine hb.push encSpan (by omega) (by omega) ⟨(nth tb j).lo, w64 ((nth tb j).hi + mo)⟩ (by rw [mvd_len]; simp only [topBytes]; omega) rfl fun v' τ q1 q2 => ?_
          have l2 := q2.lim
          have n2 := q2.next
          simp (disch := omega) [-Bool.exists_bool]
          exact ⟨r - 1, by omega, j + 1, by omega, v', ⟨rfl, by omega⟩, by omega, by omega, fun z hz => (q2.get z hz).trans (uo z hz), by rw [mvd_succ]; exact q1⟩
        · obtain rfl : j = tb.length := by omega
          have ml := mvd_len tb mo tb.length
          have mk := mvd_nth tb mo hkl
          rw [hmo, w64_back x (nth tb k).hi (by omega) (by omega), ← hmo] at mk
          generalize hM : mvd tb mo tb.length = M at hb ml mk
          have v0 := (uo 0 (by omega)).trans g0
          have v2 := (uo 2 (by omega)).trans g2
          have k0 : 0 < υ.next := by omega
          have k2 : 2 < υ.next := by omega
          have hMn : M ≠ [] := fun e => by rw [e] at ml; simp at ml; omega
          obtain ⟨o, oc, rfl, o1, o2, o3⟩ := id (hb.whole hMn)
          have ol := AH.get_lt o2
          simp (disch := omega) [Und, u0, v0, v2, k0, k2, -Bool.exists_bool]
          have hmo2 := Fx.Moon_ok false M A (by omega)
          have hsn : Snap υ (.slice (some (o, 0)) M.length oc) [o] (vl eSpan false M) := (hb.whole hMn).view.snap encSpan Sx.flatSp
          have hnk := eq_true hkl
          by_cases ho : Fx.okTab M
          · obtain ⟨X, hX, hX1, hX2⟩ := Fx.moon_tells ho (s := A) (k := k) (by omega) (by rw [mk]; exact hx1.1) (by rw [mk]; exact hx1.2)
            rw [mk] at hX1 hX2
            simp only at hX1 hX2
            have hmv : Fx.moonV M A = (X, 0) := by unfold Fx.moonV; rw [if_pos ⟨ho, ca⟩, hX]
            rw [hmv] at hmo2
            refine pc_scal (.cons hsn (.cons ⟨rfl, fun _ _ => rfl⟩ .nil)) (fun h => by cases h) (by simp) (oo (args := []) (by decide)).1 hmo2 rfl ?_
            have k3 : ¬ 0 = υ.next := by omega
            have k4 : ¬ 2 = υ.next := by omega
            have k5 : 0 < υ.next + 1 := by omega
            have k6 : 2 < υ.next + 1 := by omega
            have k7 : ¬ υ.next = 0 := by omega
            have k8 : ¬ υ.next = 2 := by omega
            obtain ⟨tv, htv, htr⟩ := Sx.Trial_ok nT nS nl s l hT hS hl hn
            simp (disch := omega) [Und, u0, v0, v2, k0, k2, k3, k4, k5, k6, k7, k8, eSpan, hkl, hkl', hX1, hX2, htr, -Bool.exists_bool]
            cases htv with
            | bad a b e he =>
              simp (disch := omega) [Und, u0, v0, v2, k0, k2, k3, k4, k5, k6, k7, k8, he, -Bool.exists_bool]
            | ok L' a b _ hL' ha' hab hb' =>
              have hbk := Sx.bet_ok hs hL' ha' hab hb'
              have hLl := hL'.1
              have hrb : Sx.isRd (Sx.bet s L' a b) a1 s1 := by
                unfold Sx.isRd at hr ⊢
                show (0 ≤ a1 ∧ a1 ≤ s.step * ((L'.length : Int) - 1)) ∧ 0 ≤ s1 ∧ s1 ≤ ((2 ^ s.sh.length : Nat) : Int) - 1
                rw [hLl]; exact hr
              have hgo := Sx.Read_good false nS (Sx.bet s L' a b) a1 s1 (show L'.length < 2 ^ 62 by omega) hS hbk hrb
              have hrl := Sx.read_rel hs hL' ha' hb' hr nT false
              have hrle := Sx.read_le hbk hrb false
              rw [← hA] at hrl
              obtain ⟨R, hR⟩ : ∃ R, R = Sx.readV (Sx.bet s L' a b) false a1 s1 := ⟨_, rfl⟩
              rw [← hR] at hgo hrl hrle
              have zz1 : ∀ n, n ≤ 2 → ¬ υ.next = n := fun n hn => by omega
              have zz2 : ∀ n k, n ≤ 2 → ¬ υ.next + k = n := fun n k hn => by omega
              have zz3 : ∀ n, n ≤ 2 → n < υ.next := fun n hn => by omega
              have zz4 : ∀ n k, n ≤ 2 → n < υ.next + k := fun n k hn => by omega
              have zz5 : ∀ n k, n ≤ 2 → ¬ n = υ.next + k := fun n k hn => by omega
              have r1 : ¬ R.lo < A.lo := by omega
              have r2 : ¬ A.hi < R.hi := by omega
              simp (disch := omega) [Und, u0, v0, v2, k0, k2, k3, k4, k5, k6, k7, k8, zz1, zz2, zz3, zz4, zz5, hgo, r1, r2, -Bool.exists_bool]
              generalize hω : AH.set (AH.push (AH.set (AH.set (AH.set _ _ _) _ _) _ _) _) _ _ = ω
              have ω0 : ω.lim = 0 := by rw [← hω]; exact u0
              have ωn : ω.next = υ.next + 4 := by rw [← hω]; rfl
              have ωo : ω.get o = υ.get o := by
                rw [← hω]; simp (disch := omega) [show ¬ o = υ.next + 1 by omega, show ¬ o = υ.next + 1 + 1 by omega, show ¬ o = υ.next + 1 + 1 + 1 by omega, show ¬ o = υ.next by omega]
              have ωx : ω.get υ.next = some (.cells [.int .i64 X.lo, .int .i64 X.hi]) := by rw [← hω]; simp (disch := omega) [show ¬ υ.next = υ.next + 1 by omega, show ¬ υ.next = υ.next + 1 + 1 by omega, show ¬ υ.next = υ.next + 1 + 1 + 1 by omega]
              clear hω
              have hsn2 : Snap ω (.slice (some (o, 0)) M.length oc) [o] (vl eSpan false M) := ((hb.whole hMn).view.seen (σ' := ω) fun z hz => by
                simp [obj] at hz
                subst hz
                exact AH.cel_same ωo).snap encSpan Sx.flatSp
              have hmo3 := Fx.Moon_ok false M R (by omega)
              have hsp : Fx.isSp R 0 1000000 := ⟨by omega, by omega, by omega⟩
              have x1 : υ.next < ω.next := by omega
              have x2 : ¬ υ.next = ω.next := by omega
              have x3 : υ.next < ω.next + 1 := by omega
              have x4 : ¬ ω.next = υ.next := by omega
              cases hY : Fx.out M R (M.length - 1) with
              | none =>
                have hmv2 : Fx.moonV M R = (⟨0, 0⟩, 4) := by unfold Fx.moonV; rw [if_pos ⟨ho, hsp⟩, hY]
                rw [hmv2] at hmo3
                refine pc_scal (.cons hsn2 (.cons ⟨rfl, fun _ _ => rfl⟩ .nil)) (fun h => by cases h) (by simp) (oo (args := []) (by decide)).1 hmo3 rfl ?_
                simp (disch := omega) [Und, eSpan, ω0, ωx, x1, x2, x3, x4, -Bool.exists_bool]
              | some Y =>
                have hmv2 : Fx.moonV M R = (Y, 0) := by unfold Fx.moonV; rw [if_pos ⟨ho, hsp⟩, hY]
                rw [hmv2] at hmo3
                have hmm := Fx.moon_more ho hrl.1 hrl.2 hX hY
                refine pc_scal (.cons hsn2 (.cons ⟨rfl, fun _ _ => rfl⟩ .nil)) (fun h => by cases h) (by simp) (oo (args := []) (by decide)).1 hmo3 rfl ?_
                simp (disch := omega) [Und, eSpan, ω0, ωx, x1, x2, x3, x4, hmm.1, hmm.2, -Bool.exists_bool]
          · have hmv : Fx.moonV M A = (⟨0, 0⟩, 83) := by unfold Fx.moonV; rw [if_neg fun h => ho h.1]
            rw [hmv] at hmo2
            refine pc_scal (.cons hsn (.cons ⟨rfl, fun _ _ => rfl⟩ .nil)) (fun h => by cases h) (by simp) (oo (args := []) (by decide)).1 hmo2 rfl ?_
            simp (disch := omega) [Und, u0, v0, v2, k0, k2, eSpan, -Bool.exists_bool]
      · simp (disch := omega) [ha, Und, eq_true ca, eq_false cb, -Bool.exists_bool]
    · simp (disch := omega) [ha, Und, eq_false ca, -Bool.exists_bool]
theorem inv_trs {x : AV} (h : CellIs (.sl true [.int .i64, .int .i64, .int .i64]) x) : ∃ nl xs, Slice Sx.eTr (fun _ => True) x nl xs := by
  refine h.inv_sl fun cs hc => ?_
  obtain ⟨c1, _, rfl, h1, hc⟩ := hc.uncons
  obtain ⟨c2, _, rfl, h2, hc⟩ := hc.uncons
  obtain ⟨c3, rfl, h3⟩ := hc.one
  obtain ⟨n1, rfl, _⟩ := h1.inv_int
  obtain ⟨n2, rfl, _⟩ := h2.inv_int
  obtain ⟨n3, rfl, _⟩ := h3.inv_int
  exact ⟨⟨n1, n2, n3⟩, rfl, trivial⟩
theorem TopLunar_ok (st : Int) (nT : Bool) (T : List Span) (il ih w : Int) (nS : Bool) (S : List Span) (a1 s1 a2 s2 F L t lo hi wr : Int) (nt : Bool) (tb : List Span) (nl : Bool) (l : List Sx.Tr) (n0 n1 : Int) {x y z u : AV} (h1 : Slice eSpan (fun s => i64 s.lo ∧ i64 s.hi) x nT T) (h2 : Slice eSpan (fun s => i64 s.lo ∧ i64 s.hi) y nS S) (h3 : Slice eSpan (fun s => i64 s.lo ∧ i64 s.hi) z nt tb) (h4 : Slice Sx.eTr (fun _ => True) u nl l) (k0 : i64 n0) (k1 : i64 n1) :
    ans prog O 6 [.agg [.int .i64 st, vl eSpan nT T, .int .i64 il, .int .i64 ih, .int .i64 w, vl eSpan nS S, .int .i64 a1, .int .i64 s1, .int .i64 a2, .int .i64 s2, .int .i64 F, .int .i64 L, .int .i64 t, .int .i64 lo, .int .i64 hi, .int .i64 wr], vl eSpan nt tb, vl Sx.eTr nl l, .agg [.int .i64 n0, .int .i64 n1]] = some (.bool true) := by
  have := h1.len
  have := h2.len
  have := h3.len
  have := h4.len
  exact TopLunar_law nT nS ⟨st, il, ih, w, T, S⟩ a1 s1 a2 s2 F L t lo hi wr nt tb nl l n0 n1 (show T.length < 2 ^ 62 by omega) (show S.length < 2 ^ 62 by omega) h1.nil (by omega) (by omega)
end Go.Oct.Cry
