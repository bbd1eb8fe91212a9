/- TopTriangle. -/
import Derived.Test.YtddkghgfbhhcdaaOTriTriP
import Derived.Test.YtddkghgfbhhcdaaOTriRepW
import Derived.Test.YtddkghgfbhhcdaaOTriSex
import Derived.Test.YtddkghgfbhhcdaaOTriHol
import Derived.Test.YtddkghgfbhhcdaaOTriClo
import Derived.Test.YtddkghgfbhhcdaaOTriChz
import Derived.Test.YtddkghgfbhhcdaaOT3
set_option maxRecDepth 100000
set_option maxHeartbeats 8000000
set_option linter.unusedVariables false
set_option linter.unusedSimpArgs false
namespace Go.Oct.Tri
open Go.Oct
@[simp] theorem span_ok (a b : Int) : ans prog O 11 [.int .i64 a, .int .i64 b] = some (.agg [.int .i64 a, .int .i64 b]) := by
  refine fn_of' pl get11 (oo (by decide)) rfl rfl ?_
  simp +contextual (disch := omega) [Und]
/-- A sextant, two readings, a repetition. -/
abbrev eSg (nT nS : Bool) (s : Sx.Sext) (a1 s1 a2 s2 F L t lo hi w : Int) : AV := .agg [.int .i64 s.step, vl eSpan nT s.tab, .int .i64 s.il, .int .i64 s.ih, .int .i64 s.w, vl eSpan nS s.sh, .int .i64 a1, .int .i64 s1, .int .i64 a2, .int .i64 s2, .int .i64 F, .int .i64 L, .int .i64 t, .int .i64 lo, .int .i64 hi, .int .i64 w]
theorem net_snap {σ : AH} {i j : Nat} {A B C : Span} (hi : σ.cel i = some [.bool false, .bool false, .bool false]) (hj : σ.cel j = some (rowOf eAn (tri A B C))) :
    Snap σ (.agg [.int .i64 1, .slice (some (i, 0)) 3 (.ex 3), .slice (some (j, 0)) 3 (.ex 3)]) [i, j] (eNet 1 false c3 false (tri A B C)) := by
  refine ⟨?_, fun T hT => ?_⟩
  · have e5 : idsV 7 σ.cel (.slice (some (i, 0)) 3 (.ex 3)) = [i] := by
      show (match σ.cel i with | some cs => i :: cs.flatMap (idsV 6 σ.cel) | none => []) = _
      rw [hi]; rfl
    have e6 : idsV 7 σ.cel (.slice (some (j, 0)) 3 (.ex 3)) = [j] := by
      show (match σ.cel j with | some cs => j :: cs.flatMap (idsV 6 σ.cel) | none => []) = _
      rw [hj]; rfl
    show [AV.int .i64 1, .slice (some (i, 0)) 3 (.ex 3), .slice (some (j, 0)) 3 (.ex 3)].flatMap (idsV 7 σ.cel) = _
    simp only [List.flatMap_cons, List.flatMap_nil, e5, e6]
    rfl
  · have c5 : σ.celOf T i = some [.bool false, .bool false, .bool false] := by unfold AH.celOf; rw [if_pos (by simpa using hT i (by simp))]; exact hi
    have c6 : σ.celOf T j = some (rowOf eAn (tri A B C)) := by unfold AH.celOf; rw [if_pos (by simpa using hT j (by simp))]; exact hj
    have e5 : fzV 7 (σ.celOf T) (.slice (some (i, 0)) 3 (.ex 3)) = vl AV.bool false c3 := by
      show (match σ.celOf T i with
        | some cs => if 0 ≤ cs.length then
            match ACap.cellsOf 3 (cs.length - 0) (.ex 3) with
            | some z => AV.vsl false (chunks z 3 ((cs.drop 0).map fun x => (fzV 6 (σ.celOf T) x).na))
            | none => .undef
          else .undef
        | none => .undef) = _
      rw [c5]; rfl
    have e6 : fzV 7 (σ.celOf T) (.slice (some (j, 0)) 3 (.ex 3)) = vl eAn false (tri A B C) := by
      exact fz_whole encAn flatAn (f := σ.celOf T) (o := j) (xs := tri A B C) (c := .ex 3) c6 (.inr rfl) 5
    show AV.agg ([AV.int .i64 1, .slice (some (i, 0)) 3 (.ex 3), .slice (some (j, 0)) 3 (.ex 3)].map (fzV 7 (σ.celOf T))) = _
    simp only [List.map_cons, List.map_nil, e5, e6]
    rfl
theorem rise_idx {l : List Int} {n : Int} (h : rise l n) : ∀ i, i < l.length → (i : Int) ≤ nth l i
  | 0, hi => by have := (h 0 hi).1; simp at this; omega
  | i + 1, hi => by
    have h1 := rise_idx h i (by omega)
    have h2 := (h (i + 1) hi).1
    simp at h2
    omega
theorem rise_le {l : List Int} {n : Int} (h : rise l n) : (l.length : Int) ≤ max n 0 := by
  by_cases e : l.length = 0
  · omega
  · have h1 := rise_idx h (l.length - 1) (by omega)
    have h2 := (h (l.length - 1) (by omega)).2
    omega
def opn (A B C : Span) : Nat → Int
  | 0 => 0
  | 1 => A.hi - A.lo
  | 2 => A.hi - A.lo + (B.hi - B.lo)
  | _ => A.hi - A.lo + (B.hi - B.lo) + (C.hi - C.lo)
theorem opn_succ (A B C : Span) {j : Nat} (h : j < 3) : opn A B C (j + 1) = opn A B C j + ((nth [A, B, C] j).hi - (nth [A, B, C] j).lo) := by
  have : j = 0 ∨ j = 1 ∨ j = 2 := by omega
  rcases this with rfl | rfl | rfl
  · show _ = 0 + (A.hi - A.lo); simp [opn]
  · rfl
  · rfl
theorem opn_bd {A B C : Span} (hA : okA A) (hB : okA B) (hC : okA C) (j : Nat) : 0 ≤ opn A B C j ∧ opn A B C j ≤ 2000000 := by
  unfold okA at hA hB hC
  unfold opn
  split <;> omega
abbrev rowT (A B C : Span) : List AV := [.int .i64 0, .int .i64 0, .int .i64 A.lo, .int .i64 A.hi, .int .i64 0, .int .i64 1, .int .i64 B.lo, .int .i64 B.hi, .int .i64 0, .int .i64 2, .int .i64 C.lo, .int .i64 C.hi]
theorem TopTriangle_law (nT nS : Bool) (s : Sx.Sext) (a1 s1 a2 s2 F L t lo hi w n0 n1 n2 : Int) (hT : s.tab.length < 2 ^ 62) (hS : s.sh.length < 2 ^ 62) (hn : i64 n0 ∧ i64 n1 ∧ i64 n2) :
    ans prog O 4 [eSg nT nS s a1 s1 a2 s2 F L t lo hi w, .agg [.int .i64 n0, .int .i64 n1, .int .i64 n2]] = some (.bool true) := by
  obtain ⟨v, hv, ha⟩ := Sx.Read_ok nT nS s a1 s1 hT hS
  obtain ⟨v', hv', hb⟩ := Sx.Read_ok nT nS s a2 s2 hT hS
  refine fn_of' pl get4 (oo (by decide)) rfl rfl ?_
  cases hv with
  | bad e he =>
    cases hv' with
    | bad e' he' => simp (disch := omega) [ha, hb, he, he', Und, -Bool.exists_bool]
    | ok _ _ => simp (disch := omega) [ha, hb, he, Und, -Bool.exists_bool]
  | ok _ _ =>
    cases hv' with
    | bad e he => simp (disch := omega) [ha, hb, he, Und, -Bool.exists_bool]
    | ok _ _ =>
      generalize Sx.readV s nT a1 s1 = A at *
      generalize Sx.readV s nT a2 s2 = B at *
      by_cases ca : 0 ≤ A.lo ∧ A.lo ≤ A.hi ∧ A.hi ≤ 300000
      · by_cases cb : 0 ≤ B.lo ∧ B.lo ≤ B.hi ∧ B.hi ≤ 300000
        · obtain ⟨x, hx⟩ : ∃ x, x = chz A.lo A.hi n0 := ⟨_, rfl⟩
          obtain ⟨y, hy⟩ : ∃ y, y = chz B.lo B.hi n1 := ⟨_, rfl⟩
          have hx1 := chz_in (l := A.lo) (h := A.hi) (n := n0) ca.2.1
          have hy1 := chz_in (l := B.lo) (h := B.hi) (n := n1) cb.2.1
          rw [← hx] at hx1
          rw [← hy] at hy1
          obtain ⟨z, hz⟩ : ∃ z, z = 648000 - x - y := ⟨_, rfl⟩
          obtain ⟨tt, htt, tt1, tt2⟩ : ∃ q, q = 1 + t % 100 ∧ 1 ≤ q ∧ q ≤ 100 := ⟨_, rfl, by omega, by omega⟩
          obtain ⟨ww, hww, ww1, ww2⟩ : ∃ q, q = w % 100 ∧ 0 ≤ q ∧ q ≤ 99 := ⟨_, rfl, by omega, by omega⟩
          obtain ⟨FF, hFF, FF1, FF2⟩ : ∃ q, q = F % 1296000 ∧ 0 ≤ q ∧ q ≤ 1295999 := ⟨_, rfl, by omega, by omega⟩
          have m0 := Int.emod_nonneg n2 (show 4 * ww + 1 ≠ 0 by omega)
          have m1 := Int.emod_lt_of_pos n2 (show 0 < 4 * ww + 1 by omega)
          have tz1 := Int.mul_nonneg (show 0 ≤ tt by omega) (show 0 ≤ z by omega)
          have tz2 := Int.mul_le_mul tt2 (show z ≤ 648000 by omega) (by omega) (by decide)
          obtain ⟨m, hm⟩ : ∃ q, q = n2 % (4 * ww + 1) := ⟨_, rfl⟩
          rw [← hm] at m0 m1
          obtain ⟨LL, hLL⟩ : ∃ q, q = (FF + tt * z + m - 2 * ww) % 1296000 := ⟨_, rfl⟩
          have LL1 : 0 ≤ LL ∧ LL ≤ 1295999 := by omega
          obtain ⟨c0, k1, ⟨k2, k3⟩, k4⟩ := rep_in (F := FF) (w := ww) (t := tt) (a := z) (m := m - 2 * ww) (L := LL) ⟨FF1, by omega⟩ ⟨tt1, tt2⟩ ⟨ww1, ww2⟩ (by omega) (by omega) (by rw [hLL]; congr 1; omega)
          have hrp := Repeat_one (F := FF) (L := LL) (t := tt) (w := ww) (r1 := z - 500) (r2 := min 648000 (z + 500)) ⟨FF1, FF2⟩ LL1 ⟨tt1, tt2⟩ (by omega) (by omega) (c0 := c0) k1 (by omega) k4
          obtain ⟨C, hC⟩ : ∃ C : Span, C = ⟨max (z - 500) (upT FF LL ww tt c0), min (min 648000 (z + 500)) (dnT FF LL ww tt c0)⟩ := ⟨_, rfl⟩
          rw [← hC] at hrp
          have hC1 : (0 ≤ C.lo ∧ C.lo ≤ z) ∧ z ≤ C.hi ∧ C.hi ≤ 648000 := by rw [hC]; simp only; omega
          simp (disch := omega) [ha, hb, Und, eq_true ca, eq_true cb, ← hx, ← hy, ← hz, ← htt, ← hww, ← hFF, ← hm, ← hLL, hrp, -Bool.exists_bool]
          refine ⟨⟨by omega, by omega⟩, fun _ _ => ⟨by simp only [topBytes]; omega, ?_⟩⟩
          generalize hσ : AH.set (AH.push (AH.push (AH.push _ (.cells (zcells [.bool false] 3))) _) _) 7 _ = σ
          have s0 : σ.lim = 0 := by rw [← hσ]; rfl
          have sn : σ.next = 8 := by rw [← hσ]; rfl
          have s4 : σ.get 4 = some (.cells [.int .i64 x, .int .i64 y, .int .i64 z]) := by rw [← hσ]; simp
          have s5 : σ.get 5 = some (.cells [.bool false, .bool false, .bool false]) := by rw [← hσ]; simp; rfl
          have s6 : σ.get 6 = some (.cells (rowOf eAn (tri A B C))) := by rw [← hσ]; simp; rfl
          have s7 : σ.get 7 = some (.cells [.int .i64 1, .slice (some (5, 0)) 3 (.ex 3), .slice (some (6, 0)) 3 (.ex 3)]) := by rw [← hσ]; simp
          clear hσ
          have oA : okA A := ⟨by omega, by omega, by omega⟩
          have oB : okA B := ⟨by omega, by omega, by omega⟩
          have oC : okA C := ⟨by omega, by omega, by omega⟩
          have hnet := tri_net oA oB oC
          have hcl := (tri_cl oA oB oC).2 ⟨x, y, z, rfl, hx1, hy1, ⟨by omega, by omega⟩, by omega⟩
          have hnp : ¬ Proved 1 c3 (tri A B C) := fun ⟨P, Q, sm, p1, p2⟩ => never_both (N := 1) hnet hcl p1 sm p2
          obtain ⟨sv, hsv, hsp⟩ := Spans_ok 1 false c3 false (tri A B C) (by decide) (show 3 < 2 ^ 62 by decide)
          cases hsv with
          | bad h => exact absurd hnet h
          | none _ h => exact absurd h hnp
          | ok l _ hll hl =>
            refine pc_ro (.cons (net_snap (AH.cel_get s5) (AH.cel_get s6)) .nil) (fun h => by cases h) (by simp) (oo (args := []) (by decide)).1 (fun i hi => by simp [s0]) hsp fun σ1 o1 q1 => ?_
            have t0 : σ1.lim = 0 := o1.lim.trans s0
            have tn := o1.next
            have t4 := (o1.get 4 (by omega) (by simp)).trans s4
            have t7 := (o1.get 7 (by omega) (by simp)).trans s7
            have t5 := (q1 5).trans (AH.cel_get s5)
            have t6 := (q1 6).trans (AH.cel_get s6)
            simp (disch := omega) [Und, t0, t7, -Bool.exists_bool]
            have hcc := pCloses_ok 1 false c3 false (tri A B C) false [x, y, z] (by decide) (show 3 < 2 ^ 62 by decide) (show 3 < 2 ^ 62 by decide)
            rw [show ((1 : Nat) : Int) = 1 from rfl, if_pos hnet, if_pos (show ([x, y, z] : List Int).length = (tri A B C).length from rfl), decide_eq_true ((clD_iff (N := 1) hnet).2 hcl)] at hcc
            have v4 : View 0 1 (AV.int .i64) σ1 (.slice (some (4, 0)) 3 (.ex 3)) [x, y, z] := ⟨4, .ex 3, [], [], rfl, by omega, AH.cel_get t4, .inr ⟨3, rfl, by simp, by simp⟩, by simp⟩
            refine pc_scal (.cons (net_snap t5 t6) (.cons (v4.snap encI flatI) .nil)) (fun h => by cases h) (by simp) (oo (args := []) (by decide)).1 hcc rfl ?_
            simp (disch := omega) [Und, t0, t7, -Bool.exists_bool]
            obtain ⟨pv, hpv, hpp⟩ := Proof_ok 1 false c3 false (tri A B C) (by decide) (show 3 < 2 ^ 62 by decide)
            cases hpv with
            | bad h => exact absurd hnet h
            | ok _ _ P Q sm _ p1 p2 => exact absurd p2 (never_both (N := 1) hnet hcl p1 sm)
            | none h _ _ =>
              refine pc_ro (.cons (net_snap t5 t6) .nil) (fun h => by cases h) (by simp) (oo (args := []) (by decide)).1 (fun i hi => by simp [t0]) hpp fun σ2 o2 q2 => ?_
              have r0 : σ2.lim = 0 := o2.lim.trans t0
              have rn := o2.next
              have r4 := (o2.get 4 (by omega) (by simp)).trans t4
              have r7 := (o2.get 7 (by omega) (by simp)).trans t7
              have r5 := (q2 5).trans t5
              have r6 := (q2 6).trans t6
              have hll3 : l.length = 3 := hll
              simp (disch := omega) [Und, r0, r7, hll3, -Bool.exists_bool]
              have hin : ∀ k, k < 3 → ((nth l k).lo ≤ nth [x, y, z] k ∧ nth [x, y, z] k ≤ (nth l k).hi) ∧ (nth [A, B, C] k).lo ≤ (nth l k).lo ∧ (nth l k).hi ≤ (nth [A, B, C] k).hi := fun k hk => by
                have hk2 := hl k hk
                obtain ⟨h1, h2, h3⟩ := hk2.low
                obtain ⟨h4, h5, h6⟩ := hk2.high
                obtain ⟨x1, y1, z1, rfl, e1, e2, e3, _⟩ := (tri_cl oA oB oC).1 h2
                obtain ⟨x2, y2, z2, rfl, f1, f2, f3, _⟩ := (tri_cl oA oB oC).1 h5
                refine ⟨hk2.all _ hcl, ?_⟩
                rw [← h3, ← h6]
                have hk3 : k = 0 ∨ k = 1 ∨ k = 2 := by omega
                rcases hk3 with rfl | rfl | rfl
                · exact ⟨e1.1, f1.2⟩
                · exact ⟨e2.1, f2.2⟩
                · exact ⟨e3.1, f3.2⟩
              have i0 := hin 0 (by decide)
              have i1 := hin 1 (by decide)
              have i2 := hin 2 (by decide)
              simp only [nth_zero, nth_succ] at i0 i1 i2
              obtain ⟨O6, g6, hO6⟩ : ∃ O6, σ2.get 6 = some O6 ∧ (O6 = .cells (rowT A B C) ∨ O6 = .ro (rowT A B C)) := by
                rcases cel_row r6 with h | h
                · exact ⟨_, h, .inl rfl⟩
                · exact ⟨_, h, .inr rfl⟩
              refine lp_loop pl (fun k fr υ => ∃ j : Nat, j + k = 3 ∧ fr = ⟨[(9, .slice (some (4, 0)) 3 (.ex 3)), (14, vl eSpan false [C]), (15, .ptr (some (7, 0))), (16, vl eSpan false l), (20, .int .i64 (opn A B C j)), (21, .int .i64 j)], []⟩ ∧ Only [] σ2 υ)
                ⟨3, 0, by omega, rfl, rfl, Nat.le_succ _, fun q hq _ => by rw [AH.get_set_other _ _ _ _ (by omega), AH.get_push_old _ _ _ (by omega)]⟩ ?_
              rintro k _ υ ⟨j, hj, rfl, hO⟩
              have u0 : υ.lim = 0 := hO.lim.trans r0
              have un := hO.next
              have u4 := (hO.get 4 (by omega) (by simp)).trans r4
              have u7 := (hO.get 7 (by omega) (by simp)).trans r7
              have u6 := (hO.get 6 (by omega) (by simp)).trans g6
              have x4 : 4 < υ.next := by omega
              have x6 : 6 < υ.next := by omega
              have x7 : 7 < υ.next := by omega
              have y4 : ¬ 4 = υ.next := by omega
              have y6 : ¬ 6 = υ.next := by omega
              have y7 : ¬ 7 = υ.next := by omega
              have hNew : ∀ Q : AObj, Only [] σ2 ((υ.push (.cells [.int .i64 0, .int .i64 0])).set υ.next Q) := fun Q => hO.trans ⟨rfl, Nat.le_succ _, fun q hq _ => by rw [AH.get_set_other _ _ _ _ (by omega), AH.get_push_old _ _ _ (by omega)]⟩
              obtain ⟨ob1, ob2⟩ := opn_bd oA oB oC j
              by_cases hj3 : j < 3
              · have hk3 : j = 0 ∨ j = 1 ∨ j = 2 := by omega
                rcases hk3 with rfl | rfl | rfl
                · have z0 : ∀ v : Nat, v = 0 → ((v : Int)) = 0 := fun v h => by omega
                  rcases hO6 with rfl | rfl
                  · simp (disch := omega) [Und, u0, u4, u6, u7, x4, x6, x7, y4, y6, y7, hll3, i0, z0, -Bool.exists_bool]
                    exact ⟨2, by omega, 1, by omega, ⟨(opn_succ A B C (show 0 < 3 by decide)).symm, rfl⟩, hNew _⟩
                  · simp (disch := omega) [Und, u0, u4, u6, u7, x4, x6, x7, y4, y6, y7, hll3, i0, z0, -Bool.exists_bool]
                    exact ⟨2, by omega, 1, by omega, ⟨(opn_succ A B C (show 0 < 3 by decide)).symm, rfl⟩, hNew _⟩
                · have z0 : ∀ v : Nat, v = 1 → ((v : Int)) = 1 := fun v h => by omega
                  rcases hO6 with rfl | rfl
                  · simp (disch := omega) [Und, u0, u4, u6, u7, x4, x6, x7, y4, y6, y7, hll3, i1, z0, -Bool.exists_bool]
                    exact ⟨1, by omega, 2, by omega, ⟨(opn_succ A B C (show 1 < 3 by decide)).symm, rfl⟩, hNew _⟩
                  · simp (disch := omega) [Und, u0, u4, u6, u7, x4, x6, x7, y4, y6, y7, hll3, i1, z0, -Bool.exists_bool]
                    exact ⟨1, by omega, 2, by omega, ⟨(opn_succ A B C (show 1 < 3 by decide)).symm, rfl⟩, hNew _⟩
                · have z0 : ∀ v : Nat, v = 2 → ((v : Int)) = 2 := fun v h => by omega
                  rcases hO6 with rfl | rfl
                  · simp (disch := omega) [Und, u0, u4, u6, u7, x4, x6, x7, y4, y6, y7, hll3, i2, z0, -Bool.exists_bool]
                    exact ⟨0, by omega, 3, by omega, ⟨(opn_succ A B C (show 2 < 3 by decide)).symm, rfl⟩, hNew _⟩
                  · simp (disch := omega) [Und, u0, u4, u6, u7, x4, x6, x7, y4, y6, y7, hll3, i2, z0, -Bool.exists_bool]
                    exact ⟨0, by omega, 3, by omega, ⟨(opn_succ A B C (show 2 < 3 by decide)).symm, rfl⟩, hNew _⟩
              · obtain rfl : j = 3 := by omega
                have zz1 : ∀ n, n ≤ 7 → ¬ υ.next = n := fun n hn => by omega
                have zz2 : ∀ n k, n ≤ 7 → ¬ υ.next + k = n := fun n k hn => by omega
                have zz3 : ∀ n, n ≤ 7 → n < υ.next := fun n hn => by omega
                have zz4 : ∀ n k, n ≤ 7 → n < υ.next + k := fun n k hn => by omega
                have zz5 : ∀ n k, n ≤ 7 → ¬ n = υ.next + k := fun n k hn => by omega
                simp (disch := omega) [Und, u0, u4, u6, u7, x4, x6, x7, y4, y6, y7, zz1, zz2, zz3, zz4, zz5, -Bool.exists_bool]
                intro hoff
                obtain ⟨D, hD⟩ : ∃ D : Span, D = ⟨C.lo + opn A B C 3 + 1, C.hi + opn A B C 3 + 1⟩ := ⟨_, rfl⟩
                have o3 : opn A B C 3 = A.hi - A.lo + (B.hi - B.lo) + (C.hi - C.lo) := rfl
                have oD : okA D := by rw [hD]; exact ⟨by simp only; omega, by simp only; omega, by simp only; omega⟩
                have hnet2 := tri_net oA oB oD
                have hno : ∀ h, ¬ isCl 1 c3 (tri A B D) h := fun h hh => by
                  obtain ⟨x', y', z', _, e1, e2, e3, e4⟩ := (tri_cl oA oB oD).1 hh
                  rw [hD] at e3
                  simp only at e3
                  omega
                have hsus := tri_sus oA oB oD hx1 hy1 (z := z) ⟨by omega, by omega⟩ (by omega)
                have hpl := place_mem hsus
                have u5 : υ.cel 5 = some [.bool false, .bool false, .bool false] := (AH.cel_same (hO.get 5 (by omega) (by simp))).trans r5
                obtain ⟨mv, hmv, hm2⟩ := Some_ok 1 false c3 false (tri A B D) (by decide) (show 3 < 2 ^ 62 by decide)
                obtain ⟨pv, hpv, hp2⟩ := Proof_ok 1 false c3 false (tri A B D) (by decide) (show 3 < 2 ^ 62 by decide)
                obtain ⟨kv, hkv, hk2⟩ := Suspects_ok 1 false c3 false (tri A B D) (by decide) (show 3 < 2 ^ 62 by decide)
                cases hmv with
                | bad h => exact absurd hnet2 h
                | ok h _ hh => exact absurd hh (hno h)
                | none _ _ =>
                cases hpv with
                | bad h => exact absurd hnet2 h
                | none h _ hh => exact absurd hh (hno h)
                | ok aP aQ P Q sm _ p1 p2 =>
                cases hkv with
                | bad h => exact absurd hnet2 h
                | none h _ hh => exact absurd hh (hno h)
                | ok nl _ _ =>
                have hPl : P.length < 2 ^ 62 := by have := rise_le p1.1; omega
                have hQl : Q.length < 2 ^ 62 := by have := rise_le p1.2.1; simp at this; omega
                have hsl : (susL 1 c3 (tri A B D)).length < 2 ^ 62 := by have := sel_len (susF 1 c3 (tri A B D)) (tri A B D).length; rw [show (tri A B D).length = 3 from rfl] at this; unfold susL; rw [show (tri A B D).length = 3 from rfl]; omega
                have hho := pHolds_ok 1 false c3 false (tri A B D) aP aQ P Q sm (by decide) (show 3 < 2 ^ 62 by decide) hPl hQl
                rw [if_pos hnet2, if_pos p1, decide_eq_true p2] at hho
                have hplc := Place_ok nl (susL 1 c3 (tri A B D)) 2 hsl
                rcases hO6 with rfl | rfl
                all_goals
                  simp (disch := omega) [Und, u0, u4, u6, u7, x4, x6, x7, y4, y6, y7, zz1, zz2, zz3, zz4, zz5, -Bool.exists_bool]
                  generalize hσ : AH.set (AH.push (AH.set (AH.push _ _) _ _) _) _ _ = ω
                  have w0 : ω.lim = 0 := by rw [← hσ]; rfl
                  have wn : ω.next = υ.next + 3 := by rw [← hσ]; rfl
                  have w5 : ω.cel 5 = some [.bool false, .bool false, .bool false] := (AH.cel_same (by rw [← hσ]; simp (disch := omega) [zz1, zz2, zz3, zz4, zz5, show ¬ 5 = υ.next by omega])).trans u5
                  have wj : ω.get (υ.next + 1 + 1) = some (.cells (rowOf eAn (tri A B D))) := by rw [hD, ← hσ]; simp; rfl
                  have w1 : ω.get (υ.next + 1) = some (.cells [.int .i64 1, .slice (some (5, 0)) 3 (.ex 3), .slice (some (υ.next + 1 + 1, 0)) 3 (.ex 3)]) := by rw [← hσ]; simp
                  clear hσ
                  have wl : υ.next + 1 < ω.next := by omega
                  refine pc_ro (.cons (net_snap w5 (AH.cel_get wj)) .nil) (fun h => by cases h) (by simp) (oo (args := []) (by decide)).1 (fun i hi => by simp [w0]) hm2 fun ω1 a1 q3 => ?_
                  have x0 : ω1.lim = 0 := a1.lim.trans w0
                  have xn := a1.next
                  have x5 := (q3 5).trans w5
                  have xj := (q3 (υ.next + 1 + 1)).trans (AH.cel_get wj)
                  have x1 := (a1.get (υ.next + 1) (by omega) (by simp; omega)).trans w1
                  simp (disch := omega) [Und, x0, x1, -Bool.exists_bool]
                  refine pc_ro (.cons (net_snap x5 xj) .nil) (fun h => by cases h) (by simp) (oo (args := []) (by decide)).1 (fun i hi => by simp [x0]) hp2 fun ω2 a2 q4 => ?_
                  have g0 : ω2.lim = 0 := a2.lim.trans x0
                  have gn := a2.next
                  have g5 := (q4 5).trans x5
                  have gj := (q4 (υ.next + 1 + 1)).trans xj
                  have g1 := (a2.get (υ.next + 1) (by omega) (by simp; omega)).trans x1
                  have gl : υ.next + 1 < ω2.next := by omega
                  have gm : ¬ υ.next + 1 = ω2.next := by omega
                  simp (disch := omega) [Und, g0, g1, gl, gm, -Bool.exists_bool]
                  generalize hτ : AH.set (AH.push ω2 _) _ _ = τ
                  have d0 : τ.lim = 0 := by rw [← hτ]; exact g0
                  have dn : τ.next = ω2.next + 1 := by rw [← hτ]; rfl
                  have dO : ∀ q, q < ω2.next → τ.get q = ω2.get q := fun q hq => by rw [← hτ, AH.get_set_other _ _ _ _ (by omega), AH.get_push_old _ _ _ (by omega)]
                  clear hτ
                  have d5 := (AH.cel_same (dO 5 (by omega))).trans g5
                  have dj := (AH.cel_same (dO (υ.next + 1 + 1) (by omega))).trans gj
                  have d1 := (dO (υ.next + 1) (by omega)).trans g1
                  have dl : υ.next + 1 < τ.next := by omega
                  refine pc_scal (.cons (net_snap d5 dj) (.cons ⟨rfl, fun _ _ => rfl⟩ .nil)) (fun h => by cases h) (by simp) (oo (args := []) (by decide)).1 hho rfl ?_
                  simp (disch := omega) [Und, d0, d1, dl, -Bool.exists_bool]
                  refine pc_ro (.cons (net_snap d5 dj) .nil) (fun h => by cases h) (by simp) (oo (args := []) (by decide)).1 (fun i hi => by simp [d0]) hk2 fun ω3 a3 q5 => ?_
                  have e0 : ω3.lim = 0 := a3.lim.trans d0
                  simp (disch := omega) [Und, e0, hplc, hpl, -Bool.exists_bool]
        · simp (disch := omega) [ha, hb, Und, eq_true ca, eq_false cb, -Bool.exists_bool]
      · simp (disch := omega) [ha, hb, Und, eq_false ca, -Bool.exists_bool]
theorem TopTriangle_ok (st : Int) (nT : Bool) (T : List Span) (il ih w : Int) (nS : Bool) (S : List Span) (a1 s1 a2 s2 F L t lo hi wr n0 n1 n2 : Int) {x y : AV} (h1 : Slice eSpan (fun s => i64 s.lo ∧ i64 s.hi) x nT T) (h2 : Slice eSpan (fun s => i64 s.lo ∧ i64 s.hi) y nS S) (k0 : i64 n0) (k1 : i64 n1) (k2 : i64 n2) :
    ans prog O 4 [.agg [.int .i64 st, vl eSpan nT T, .int .i64 il, .int .i64 ih, .int .i64 w, vl eSpan nS S, .int .i64 a1, .int .i64 s1, .int .i64 a2, .int .i64 s2, .int .i64 F, .int .i64 L, .int .i64 t, .int .i64 lo, .int .i64 hi, .int .i64 wr], .agg [.int .i64 n0, .int .i64 n1, .int .i64 n2]] = some (.bool true) := by
  have := h1.len
  have := h2.len
  exact TopTriangle_law nT nS ⟨st, il, ih, w, T, S⟩ a1 s1 a2 s2 F L t lo hi wr n0 n1 n2 (show T.length < 2 ^ 62 by omega) (show S.length < 2 ^ 62 by omega) ⟨k0, k1, k2⟩
end Go.Oct.Tri
