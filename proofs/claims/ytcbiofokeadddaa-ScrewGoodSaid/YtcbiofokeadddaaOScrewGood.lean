/- ScrewGood. -/
import Derived.Test.YtcbiofokeadddaaOScrewNut
import Derived.Test.YtcbiofokeadddaaOT4
set_option maxRecDepth 100000
set_option maxHeartbeats 4000000
set_option linter.unusedVariables false
set_option linter.unusedSimpArgs false
namespace Go.Oct.Screw
open Go.Oct
/-! ### The law, without the program -/
/-- Bounds of limits. -/
def bd : Nat → Int
  | 0 => 2147483648000000
  | 1 => 33554432000000
  | 2 => 524288000000
  | 3 => 8192000000
  | 4 => 128000000
  | _ => 2000000
theorem bd_step {r : Nat} (hr : r < 5) {n : Nat} (hn : n ≤ 64) {lm : Int} (h0 : 0 ≤ lm) (h : lm ≤ bd (r + 1)) : 0 ≤ lm * (n : Int) ∧ lm * (n : Int) ≤ bd r := by
  have h1 : lm * (n : Int) ≤ lm * 64 := Int.mul_le_mul_of_nonneg_left (by omega) h0
  have h2 : 0 ≤ lm * (n : Int) := Int.mul_nonneg h0 (by omega)
  refine ⟨h2, ?_⟩
  generalize lm * (n : Int) = P at *
  rcases r with _ | _ | _ | _ | _ | r
  · simp [bd] at h ⊢; omega
  · simp [bd] at h ⊢; omega
  · simp [bd] at h ⊢; omega
  · simp [bd] at h ⊢; omega
  · simp [bd] at h ⊢; omega
  · omega
theorem bd_le (r : Nat) : bd r ≤ 2147483648000000 := by
  rcases r with _ | _ | _ | _ | _ | r <;> simp [bd]
theorem w64_step {r : Nat} (hr : r < 5) {n : Nat} (hn : n ≤ 64) {lm : Int} (h0 : 0 ≤ lm) (h : lm ≤ bd (r + 1)) : w64 (lm * (n : Int)) = lm * (n : Int) := by
  obtain ⟨h1, h2⟩ := bd_step hr hn h0 h
  have := bd_le r
  exact w64_id _ (by omega) (by omega)
/-- What it can answer. -/
theorem lapsGo_in {N : Nat} : ∀ (r j : Nat) (ys : List Int) (lm : Int), ∃ (m : Nat) (e : Int), lapsGo N r j ys lm = .tuple [.int .i64 m, .int .i64 e] ∧ (e = 0 ∧ j ≤ m ∧ m < j + r ∨ e = 4 ∧ m = 0)
  | 0, j, ys, lm => ⟨0, 4, rfl, .inr ⟨rfl, rfl⟩⟩
  | r + 1, j, ys, lm => by
    rw [lapsGo_step]
    split
    · exact ⟨j, 0, rfl, .inl ⟨rfl, by omega, by omega⟩⟩
    · split
      · exact ⟨0, 4, rfl, .inr ⟨rfl, rfl⟩⟩
      · obtain ⟨m, e, h1, h2⟩ := lapsGo_in (N := N) r (j + 1) (lap ys N) (w64 (lm * N))
        exact ⟨m, e, h1, by rcases h2 with h | h <;> omega⟩
/-- A wider limit. -/
theorem lapsGo_wide {N : Nat} (hN : N ≤ 64) : ∀ (r j : Nat) (ys : List Int) (lm lm' : Int) (m : Int), r ≤ 5 → 0 ≤ lm → lm ≤ lm' → lm' ≤ bd r → lapsGo N r j ys lm = .tuple [.int .i64 m, .int .i64 0] → ∃ m' : Int, lapsGo N r j ys lm' = .tuple [.int .i64 m', .int .i64 0] ∧ m' ≤ m
  | 0, j, ys, lm, lm', m, _, _, _, _, h => by simp [lapsGo] at h
  | r + 1, j, ys, lm, lm', m, hr, h0, hl, hb, h => by
    rw [lapsGo_step] at h ⊢
    by_cases h1 : w64 (mx ys - mn ys) ≤ lm'
    · rw [if_pos h1]
      refine ⟨j, rfl, ?_⟩
      by_cases h2 : w64 (mx ys - mn ys) ≤ lm
      · rw [if_pos h2] at h; simp at h; omega
      · rw [if_neg h2] at h
        by_cases h3 : ys.length < N
        · rw [if_pos h3] at h; simp at h
        · rw [if_neg h3] at h
          obtain ⟨m', e, g1, g2⟩ := lapsGo_in (N := N) r (j + 1) (lap ys N) (w64 (lm * N))
          rw [g1] at h
          simp at h
          omega
    · rw [if_neg h1]
      rw [if_neg (by omega)] at h
      by_cases h3 : ys.length < N
      · rw [if_pos h3] at h; simp at h
      · rw [if_neg h3] at h ⊢
        rw [w64_step (r := r) (by omega) hN h0 (by omega)] at h
        rw [w64_step (r := r) (by omega) hN (by omega) hb]
        have b1 := bd_step (r := r) (by omega) hN h0 (by omega)
        have b2 := bd_step (r := r) (by omega) hN (lm := lm') (by omega) hb
        exact lapsGo_wide hN r (j + 1) (lap ys N) _ _ m (by omega) b1.1 (Int.mul_le_mul_of_nonneg_right hl (by omega)) b2.2 h
/-- What is found in a round. -/
theorem lapsGo_round {N r j : Nat} {ys : List Int} {lm m e : Int} (hr : j + (r + 1) = 5) (h : lapsGo N (r + 1) j ys lm = .tuple [.int .i64 m, .int .i64 e]) :
    (w64 (mx ys - mn ys) ≤ lm ↔ e = 0 ∧ (j : Int) = m) ∧ (w64 (mx ys - mn ys) ≤ lm ∨ ¬ (e = 0 ∧ m ≤ j)) ∧ (¬ w64 (mx ys - mn ys) ≤ lm → ¬ ys.length < N → lapsGo N r (j + 1) (lap ys N) (w64 (lm * N)) = .tuple [.int .i64 m, .int .i64 e]) := by
  rw [lapsGo_step] at h
  by_cases h2 : w64 (mx ys - mn ys) ≤ lm
  · rw [if_pos h2] at h
    simp at h
    exact ⟨⟨fun _ => ⟨h.2.symm, h.1⟩, fun _ => h2⟩, .inl h2, fun h3 => absurd h2 h3⟩
  · rw [if_neg h2] at h
    by_cases h3 : ys.length < N
    · rw [if_pos h3] at h
      simp at h
      exact ⟨⟨fun h4 => absurd h4 h2, fun h4 => by omega⟩, .inr (by omega), fun _ h4 => absurd h3 h4⟩
    · rw [if_neg h3] at h
      obtain ⟨m', e', g1, g2⟩ := lapsGo_in (N := N) r (j + 1) (lap ys N) (w64 (lm * N))
      have h' := h
      rw [g1] at h
      simp at h
      exact ⟨⟨fun h4 => absurd h4 h2, fun h4 => by omega⟩, .inr (by omega), fun _ _ => h'⟩
/-- The first j sums, and zeros. -/
def lapT (xs : List Int) (n j : Nat) : List Int := (lap xs n).take j ++ List.replicate ((lap xs n).length - j) 0
theorem lapT_zero (xs : List Int) (n : Nat) : lapT xs n 0 = List.replicate (lap xs n).length 0 := by simp [lapT]
theorem lapT_all (xs : List Int) (n : Nat) : lapT xs n (lap xs n).length = lap xs n := by simp [lapT]
theorem lapT_length (xs : List Int) (n : Nat) {j : Nat} (h : j ≤ (lap xs n).length) : (lapT xs n j).length = (lap xs n).length := by simp [lapT]; omega
theorem lapT_succ {xs : List Int} {n j : Nat} (h : j < (lap xs n).length) : (lapT xs n j).set j (nth (lap xs n) j) = lapT xs n (j + 1) := by
  unfold lapT
  rw [List.set_append_right _ _ (by simp; omega), take_succ_nth h]
  have : (lap xs n).length - j = ((lap xs n).length - (j + 1)) + 1 := by omega
  rw [this, List.replicate_succ]
  have e : j - (List.take j (lap xs n)).length = 0 := by simp; omega
  rw [e, List.set_cons_zero]
  simp
theorem ScrewGood_ok (nl : Bool) (l : List Int) (n lim m : Int) (hs : Slice (AV.int .i64) i64 (vs nl l) nl l) (_ : i64 n) (_ : i64 lim) (_ : i64 m) : ans prog O 12 [vs nl l, .int .i64 n, .int .i64 lim, .int .i64 m] = some (.bool true) := by
  have hx := hs.len
  refine fn_of' pl get12 (oo (by decide)) rfl rfl ?_
  by_cases h : okLap l n
  · by_cases hl : 0 ≤ lim ∧ lim ≤ 2000000
    · have hres : lapsRes l n lim = lapsGo n.toNat 5 0 l lim := by unfold lapsRes; rw [if_pos h, if_pos hl]
      obtain ⟨M, E, g1, g2⟩ := lapsGo_in (N := n.toNat) 5 0 l lim
      rw [g1] at hres
      obtain ⟨h1, h2, h3⟩ := h
      have hN : n.toNat ≤ 64 := by omega
      have en : ((n.toNat : Nat) : Int) = n := by omega
      have hE : E = 0 ∨ E = 4 := by omega
      have hE2 : ¬ (¬ E = 0 ∧ ¬ E = 4) := by omega
      simp +contextual (disch := omega) [Laps_ok, hres, hl, h1, h2, hE2]
      refine (Whole.lit0 (lo := 0) (z := 1) (e := AV.int .i64) (σ := ⟨0, 0, .leaf⟩) (Nat.le_refl _)).appV encI (by simp [AH.push]) (by omega) (by simp only [topBytes, List.length_nil]; omega) fun v σ hw hk => ?_
      have hlim := hk.lim
      simp +contextual (disch := omega) []
      rw [List.nil_append] at hw
      refine lp_loop pl (fun k fr σ => ∃ (j : Nat) (v : AV) (ys : List Int) (lm : Int), j + k = 5 ∧ fr = ⟨[(0, vs nl l), (1, .int .i64 n), (2, .int .i64 lim), (3, .int .i64 m), (9, .int .i64 M), (10, .int .i64 E), (11, v), (12, .int .i64 lm), (13, .int .i64 j)], []⟩ ∧ σ.lim = 0 ∧ Whole 0 1 (AV.int .i64) σ v ys ∧
        0 < ys.length ∧ ys.length ≤ 64 ∧ lapsGo n.toNat k j ys lm = .tuple [.int .i64 M, .int .i64 E]) ⟨5, 0, v, l, lim, rfl, rfl, hlim, hw, by omega, by omega, g1⟩ ?_
      clear hw hk hlim v σ
      rintro k _ σ ⟨j, v, ys, lm, hj, rfl, hσ, hw, hy1, hy2, hgo⟩
      simp +contextual (disch := omega) [Und, -Bool.exists_bool]
      obtain ⟨W, F, hwide, hWF⟩ : ∃ (W F : Int), lapsRes l n (min 2000000 (lim + m % 1000)) = .tuple [.int .i64 W, .int .i64 F] ∧ (E = 0 → F = 0 ∧ W ≤ M ∧ 0 ≤ (M : Int) ∧ (M : Int) ≤ 4) := by
        have hu : lapsRes l n (min 2000000 (lim + m % 1000)) = lapsGo n.toNat 5 0 l (min 2000000 (lim + m % 1000)) := by unfold lapsRes; rw [if_pos ⟨h1, h2, h3⟩, if_pos (by omega)]
        obtain ⟨a, b, e1, e2⟩ := lapsGo_in (N := n.toNat) 5 0 l (min 2000000 (lim + m % 1000))
        refine ⟨a, b, by rw [hu, e1], fun hE0 => ?_⟩
        subst hE0
        obtain ⟨m', e3, e4⟩ := lapsGo_wide hN 5 0 l lim (min 2000000 (lim + m % 1000)) M (Nat.le_refl _) hl.1 (by omega) (by simp [bd]; omega) g1
        rw [e1] at e3
        simp at e3
        omega
      have fin : E = 0 ∨ E ≠ 0 ∧ E = 4 := by omega
      refine ⟨fun hj4 => ?_, fun hj4 => ?_⟩
      · obtain ⟨r, rfl⟩ : ∃ r, k = r + 1 := ⟨k - 1, by omega⟩
        obtain ⟨r1, r2, r3⟩ := lapsGo_round hj hgo
        have sp := spread_ok false ys (by omega)
        rw [if_neg (by omega)] at sp
        refine pc_scal (.cons (hw.view.snap encI flatI) .nil) (fun h => by simp [hw.view.closed] at h) (by simp) (oo (args := []) (by decide)).1 sp rfl ?_
        have hlen := hw.len
        generalize hSP : w64 (mx ys - mn ys) = SP at *
        by_cases hg : SP ≤ lm
        · obtain ⟨rfl, hjM⟩ := r1.1 hg
          have hjM' : M = j := by omega
          subst hjM'
          have hb := hWF rfl
          simp +contextual (disch := omega) [hlen, hg, Laps_ok, hwide, -Bool.exists_bool]
          omega
        · have hE3 : E = 0 ∧ (j : Int) < M ∨ E = 4 := by omega
          by_cases hny : ys.length < n.toNat
          · have hny' : (ys.length : Int) < n := by omega
            have hE4 : E = 4 := by
              rw [lapsGo_step, if_pos hny] at hgo
              split at hgo
              · rename_i h7; rw [hSP] at h7; exact absurd h7 hg
              · simp at hgo; omega
            subst hE4
            simp +contextual (disch := omega) [hlen, hg, hny', Laps_ok, hwide, -Bool.exists_bool]
          · have hny' : ¬ (ys.length : Int) < n := by omega
            have r4 := r3 hg hny
            have hjM : E = 0 → ¬ (j : Int) = M ∧ (j : Int) < M := by omega
            have htop : 0 ≤ (ys.length : Int) - n + 1 ∧ ((ys.length : Int) - n + 1) * 8 ≤ (topBytes : Int) ∧ (ys.length : Int) - n + 1 ≤ (topBytes : Int) := by simp only [topBytes]; omega
            clear hgo r1 r2 r3 sp g1 hres h3 hWF
            have eN : ((ys.length : Int) - n + 1).toNat = (lap ys n.toNat).length := by rw [lap_length]; omega
            have hlap := lap_length ys n.toNat
            rcases hE with rfl | rfl
            · have hjM1 := hjM rfl
              simp +contextual (disch := omega) [hlen, hg, hny', hjM1, htop, -Bool.exists_bool]
              rw [eN]
              refine lp_loop pl (fun k fr σ' => ∃ (i : Nat) (y : AV), i + k = (lap ys n.toNat).length ∧ fr = ⟨[(0, vs nl l), (1, .int .i64 n), (2, .int .i64 lim), (3, .int .i64 m), (9, .int .i64 M), (10, .int .i64 0), (11, v), (12, .int .i64 lm), (13, .int .i64 j), (15, y), (16, .int .i64 i)], []⟩ ∧
                σ'.lim = 0 ∧ Whole 0 1 (AV.int .i64) σ' v ys ∧ Whole 0 1 (AV.int .i64) σ' y (lapT ys n.toNat i) ∧ ∀ o ∈ obj v, o ∉ obj y)
                ⟨(lap ys n.toNat).length, 0, _, by omega, rfl, hσ, hw.stay (Only.push [] σ _) (fun _ _ h => by cases h), by rw [lapT_zero]; exact Whole.make (Nat.zero_le _) (x := (0 : Int)) rfl _, fun o h1 h2 => by have := (hw.obj_lt o h1).2; simp [obj] at h2; omega⟩ ?_
              rintro k' _ σ' ⟨i, y, hi, rfl, hσ', hw', hy, hd⟩
              have hlen' := hy.len
              rw [lapT_length _ _ (by omega)] at hlen'
              simp +contextual (disch := omega) [Und, hlen', -Bool.exists_bool]
              refine ⟨fun hil => ?_, fun hil => ?_⟩
              · refine hw'.view.sub encI flatI (by omega) (by omega) (by omega) fun v' hv' hov => ?_
                have e1 : ((i : Int) + n).toNat - (i : Int).toNat = n.toNat := by omega
                rw [e1, Int.toNat_natCast] at hv'
                simp +contextual (disch := omega) [-Bool.exists_bool]
                refine pc_scal (.cons (hv'.snap encI flatI) .nil) (fun h => by simp [hv'.closed] at h) (by simp) (oo (args := []) (by decide)).1 (Sum_ok false _ (by simp; omega)) rfl ?_
                obtain ⟨o, p1, p2⟩ := hy.set encI (by omega) (q := .i64) (j := i) (by omega) (by rw [lapT_length _ _ (by omega)]; omega)
                obtain ⟨σ'', p3, p4, p5, p6⟩ := p2 (nth (lap ys n.toNat) i) (.int .i64 (nth (lap ys n.toNat) i)) rfl rfl
                have hnl : nth (lap ys n.toNat) i = gsum ((ys.drop i).take n.toNat) := nth_lap (by omega)
                rw [hnl] at p3
                simp only [Int.toNat_natCast, Nat.mul_one] at p1 p3 p4
                rw [lapT_succ hil] at p4
                have hl2 := p6.lim
                simp +contextual (disch := omega) [p1, p3, -astore_ptr, -Bool.exists_bool]
                exact ⟨k' - 1, by omega, i + 1, by omega, y, ⟨rfl, by omega⟩, by omega, hw'.stay p5 hd, p4, hd⟩
              · obtain rfl : i = (lap ys n.toNat).length := by omega
                rw [lapT_all] at hy
                rw [en] at r4
                exact ⟨r, by omega, j + 1, by omega, y, lap ys n.toNat, _, ⟨rfl, rfl, by omega⟩, hσ', hy, by omega, by omega, r4⟩
            · simp +contextual (disch := omega) [hlen, hg, hny', htop, -Bool.exists_bool]
              rw [eN]
              refine lp_loop pl (fun k fr σ' => ∃ (i : Nat) (y : AV), i + k = (lap ys n.toNat).length ∧ fr = ⟨[(0, vs nl l), (1, .int .i64 n), (2, .int .i64 lim), (3, .int .i64 m), (9, .int .i64 M), (10, .int .i64 4), (11, v), (12, .int .i64 lm), (13, .int .i64 j), (15, y), (16, .int .i64 i)], []⟩ ∧
                σ'.lim = 0 ∧ Whole 0 1 (AV.int .i64) σ' v ys ∧ Whole 0 1 (AV.int .i64) σ' y (lapT ys n.toNat i) ∧ ∀ o ∈ obj v, o ∉ obj y)
                ⟨(lap ys n.toNat).length, 0, _, by omega, rfl, hσ, hw.stay (Only.push [] σ _) (fun _ _ h => by cases h), by rw [lapT_zero]; exact Whole.make (Nat.zero_le _) (x := (0 : Int)) rfl _, fun o h1 h2 => by have := (hw.obj_lt o h1).2; simp [obj] at h2; omega⟩ ?_
              rintro k' _ σ' ⟨i, y, hi, rfl, hσ', hw', hy, hd⟩
              have hlen' := hy.len
              rw [lapT_length _ _ (by omega)] at hlen'
              simp +contextual (disch := omega) [Und, hlen', -Bool.exists_bool]
              refine ⟨fun hil => ?_, fun hil => ?_⟩
              · refine hw'.view.sub encI flatI (by omega) (by omega) (by omega) fun v' hv' hov => ?_
                have e1 : ((i : Int) + n).toNat - (i : Int).toNat = n.toNat := by omega
                rw [e1, Int.toNat_natCast] at hv'
                simp +contextual (disch := omega) [-Bool.exists_bool]
                refine pc_scal (.cons (hv'.snap encI flatI) .nil) (fun h => by simp [hv'.closed] at h) (by simp) (oo (args := []) (by decide)).1 (Sum_ok false _ (by simp; omega)) rfl ?_
                obtain ⟨o, p1, p2⟩ := hy.set encI (by omega) (q := .i64) (j := i) (by omega) (by rw [lapT_length _ _ (by omega)]; omega)
                obtain ⟨σ'', p3, p4, p5, p6⟩ := p2 (nth (lap ys n.toNat) i) (.int .i64 (nth (lap ys n.toNat) i)) rfl rfl
                have hnl : nth (lap ys n.toNat) i = gsum ((ys.drop i).take n.toNat) := nth_lap (by omega)
                rw [hnl] at p3
                simp only [Int.toNat_natCast, Nat.mul_one] at p1 p3 p4
                rw [lapT_succ hil] at p4
                have hl2 := p6.lim
                simp +contextual (disch := omega) [p1, p3, -astore_ptr, -Bool.exists_bool]
                exact ⟨k' - 1, by omega, i + 1, by omega, y, ⟨rfl, by omega⟩, by omega, hw'.stay p5 hd, p4, hd⟩
              · obtain rfl : i = (lap ys n.toNat).length := by omega
                rw [lapT_all] at hy
                rw [en] at r4
                exact ⟨r, by omega, j + 1, by omega, y, lap ys n.toNat, _, ⟨rfl, rfl, by omega⟩, hσ', hy, by omega, by omega, r4⟩
      · simp +contextual (disch := omega) [Laps_ok, hwide]
        omega
    · have hres : lapsRes l n lim = .tuple [.int .i64 0, .int .i64 7] := by unfold lapsRes; rw [if_pos h, if_neg hl]
      simp +contextual (disch := omega) [Laps_ok, hres]
  · have hres : lapsRes l n lim = .tuple [.int .i64 0, .int .i64 25] := by unfold lapsRes; rw [if_neg h]
    simp +contextual (disch := omega) [Laps_ok, hres]
end Go.Oct.Screw
