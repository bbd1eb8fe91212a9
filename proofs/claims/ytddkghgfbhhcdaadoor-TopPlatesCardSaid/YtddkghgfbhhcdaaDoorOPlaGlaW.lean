/- The search over all curvatures: the walk. -/
import Derived.Test.YtddkghgfbhhcdaaDoorOPlaGlaP
import Derived.Test.YtddkghgfbhhcdaaDoorOT3
import Derived.Test.YtddkghgfbhhcdaaDoorOT4
set_option maxRecDepth 100000
set_option maxHeartbeats 4000000
set_option linter.unusedVariables false
set_option linter.unusedSimpArgs false
namespace Go.Oct.Pla
open Go.Oct
def eFr (x : Fr1) : AV := .agg [.int .i64 x.lo, .int .i64 x.hi, .int .i64 x.r, .int .i64 x.r, .int .i64 0]
theorem encFr : Enc eFr 5 := ⟨fun _ => rfl, fun _ => rfl, fun _ => rfl, by decide⟩
@[simp] theorem cells_eFr (x : Fr1) : (eFr x).cells = [.int .i64 x.lo, .int .i64 x.hi, .int .i64 x.r, .int .i64 x.r, .int .i64 0] := rfl
@[simp] theorem aidx_fr {nl : Bool} {xs : List Fr1} (q : IntKind) (i : Int) : aidx 5 (vl eFr nl xs) (.int q i) = if 0 ≤ i ∧ i < (xs.length : Int) then some (.vptr [.int .i64 (nth xs i.toNat).lo, .int .i64 (nth xs i.toNat).hi, .int .i64 (nth xs i.toNat).r, .int .i64 (nth xs i.toNat).r, .int .i64 0] 0) else none :=
  aidx_vl (e := eFr) (fun _ => rfl) q i
theorem flatSpan : flatE eSpan := fun x c hc k f => by
  simp only [cells_eSpan, List.mem_cons, List.not_mem_nil, or_false] at hc
  rcases hc with rfl | rfl <;> exact ⟨rfl, rfl⟩
theorem set_self' {α : Type} {l : List α} {i : Nat} {x : α} (h : l[i]? = some x) : l.set i x = l := by
  refine List.ext_getElem? fun j => ?_
  rw [List.getElem?_set]
  by_cases e : i = j
  · subst e
    have := (List.getElem?_eq_some_iff.1 h).1
    rw [if_pos rfl, if_pos this]; exact h.symm
  · rw [if_neg e]
theorem setS {zs : List Span} {m : Nat} (h : m < zs.length) (y : Span) : ((rowOf eSpan zs).set (m * 2) (.int .i64 y.lo)).set (m * 2 + 1) (.int .i64 y.hi) = rowOf eSpan (zs.set m y) := by
  rw [← rowOf_set encSpan h y]; rfl
theorem setHi {zs : List Span} {m : Nat} (h : m < zs.length) (y : Int) : (rowOf eSpan zs).set (m * 2 + 1) (.int .i64 y) = rowOf eSpan (zs.set m ⟨(nth zs m).lo, y⟩) := by
  have h1 := setS h ⟨(nth zs m).lo, y⟩
  simp only at h1
  rw [← h1]
  congr 1
  have := row_cell encSpan (xs := zs) (j := m) (c := 0) h (by decide)
  exact (set_self' this).symm
theorem nth_app_hi' {α : Type} [Inhabited α] {l : List α} {x : α} : nth (l ++ [x]) l.length = x := by
  rw [nth_eq (by simp)]; simp
theorem abound_self' (n m : Nat) : abound n m (some (.int .i64 n)) = some n := by simp [abound]
theorem aslS_full' (z i n : Nat) : aslS z (.slice (some (i, 0)) n (.op z)) none (some (.int .i64 n)) (some (.int .i64 n)) = some (.slice (some (i, 0)) n (.ex n)) := by
  have e : (ACap.op z).sure n = n := rfl
  have e2 : (ACap.op z).less z 0 (some n) = some (.ex n) := rfl
  simp only [aslS, e, abounds, abound_self']
  simp [abound, e2]
@[simp] theorem gWithin_ok (n l h : Int) : ans prog O 27 [.int .i64 n, .int .i64 l, .int .i64 h] = some (.bool (decide (l ≤ n ∧ n ≤ h))) := by
  refine fn_of' pl get27 (oo (by decide)) rfl rfl ?_
  simp +contextual (disch := omega) []
@[simp] theorem gValid_ok (s : Span) (l h : Int) : ans prog O 62 [.agg [.int .i64 s.lo, .int .i64 s.hi], .int .i64 l, .int .i64 h] = some (.bool (decide (l ≤ s.lo ∧ s.lo ≤ s.hi ∧ s.hi ≤ h))) := by
  refine fn_of' pl get62 (oo (by decide)) rfl rfl ?_
  simp +contextual (disch := omega) [Und, Bool.and_assoc]
@[simp] theorem gHolds_ok (a b : Int) (c : Int) : ans prog O 63 [.agg [.int .i64 a, .int .i64 b], .int .i64 c] = some (.bool (decide (a ≤ c ∧ c ≤ b))) := by
  refine fn_of' pl get63 (oo (by decide)) rfl rfl ?_
  simp +contextual (disch := omega) [Und]
theorem fValid_ok (x : Fr1) (hx : okFr x) : ans prog O 28 [eFr x] = some (.bool true) := by
  unfold okFr at hx
  refine fn_of' pl get28 (oo (by decide)) rfl rfl ?_
  have h1 := gValid_ok ⟨x.lo, x.hi⟩ (-1000) 1000
  have h2 := gValid_ok ⟨x.r, x.r⟩ 0 1000
  simp only at h1 h2
  rw [decide_eq_true ⟨by omega, by omega, by omega⟩] at h1 h2
  simp (disch := omega) [Und, eFr, h1, h2]
theorem fAgrees_ok (x : Fr1) (c : Int) (hx : okFr x) : ans prog O 29 [eFr x, .int .i64 c] = some (.bool (decide (inA x c))) := by
  unfold okFr at hx
  refine fn_of' pl get29 (oo (by decide)) rfl rfl ?_
  by_cases h1 : x.lo + x.r ≤ c ∧ c ≤ x.hi + x.r
  · have e : decide (inA x c) = true := decide_eq_true (.inl h1)
    rw [e]
    simp (disch := omega) [Und, eFr, eq_true h1, -Bool.exists_bool]
  · by_cases h2 : x.lo - x.r ≤ c ∧ c ≤ x.hi - x.r
    · have e : decide (inA x c) = true := decide_eq_true (.inr h2)
      rw [e]
      simp (disch := omega) [Und, eFr, eq_false h1, eq_true h2, -Bool.exists_bool]
    · have e : decide (inA x c) = false := decide_eq_false (fun h => h.elim h1 h2)
      rw [e]
      simp (disch := omega) [Und, eFr, eq_false h1, eq_false h2, -Bool.exists_bool]
theorem Surf_ok (x : Fr1) (hx : okFr x) : ans prog O 12 [vl eFr false [x]] = some (.tuple [vl eSpan false (stA x 2001), .int .i64 0]) := by
  have hv := fValid_ok x hx
  have ha := fun c => fAgrees_ok x c hx
  have hfin := stA_fin hx
  unfold eFr at hv ha
  refine fn_of' pl get12 (oo (by decide)) rfl rfl ?_
  have hn0 : nth [x] 0 = x := rfl
  simp (disch := omega) [Und, -Bool.exists_bool]
  refine lp_loop pl (fun k fr σ => ∃ i : Nat, i + k = 1 ∧ fr = ⟨[(0, vl eFr false [x]), (15, vl eFr false [x]), (16, .int .i64 1), (17, .int .i64 i)], []⟩ ∧ σ.lim = 0) ⟨1, 0, by omega, rfl, rfl⟩ ?_
  rintro k _ σ ⟨i, hik, rfl, hs0⟩
  by_cases hi : i < 1
  · obtain rfl : i = 0 := by omega
    simp (disch := omega) [Und, hs0, hn0, hv, -Bool.exists_bool]
    exact ⟨k - 1, by omega, 1, by omega, rfl⟩
  · obtain rfl : i = 1 := by omega
    simp (disch := omega) [Und, hs0, -Bool.exists_bool]
    have e0 : stA x (-2000) = [] := by unfold stA; unfold okFr at hx; rw [if_pos (by omega)]
    refine lp_loop pl (fun k fr ω => ∃ (n : Int) (ov : AV), n + k = 2001 ∧ -2000 ≤ n ∧ fr = ⟨[(0, vl eFr false [x]), (6, ov), (7, .int .i64 n)], []⟩ ∧ ω.lim = 0 ∧ Buf 0 2 eSpan ω ov (stA x n))
      ⟨4001, -2000, .vsl true [], by omega, by omega, rfl, hs0, by rw [e0]; exact Buf.nil⟩ ?_
    clear hs0 hi hik
    rintro k2 _ ω ⟨n, ov, hnk, hn1, rfl, w0, hb⟩
    by_cases hn : n ≤ 2000
    · simp (disch := omega) [Und, hn, -Bool.exists_bool]
      refine lp_loop pl (fun r fr τ => ∃ i : Nat, i + r = 1 ∧ fr = ⟨[(0, vl eFr false [x]), (6, ov), (7, .int .i64 n), (30, vl eFr false [x]), (31, .int .i64 1), (32, .int .i64 i)], []⟩ ∧ τ.lim = 0 ∧ Buf 0 2 eSpan τ ov (stA x n) ∧ (i = 1 → inA x n))
        ⟨1, 0, by omega, rfl, w0, hb, fun h => by omega⟩ ?_
      clear w0 hb
      rintro r _ τ ⟨i, hir, rfl, w0, hb, hin⟩
      by_cases hi : i < 1
      · obtain rfl : i = 0 := by omega
        by_cases c : inA x n
        · have ha1 := ha n
          rw [decide_eq_true c] at ha1
          simp (disch := omega) [Und, w0, hn0, ha1, -Bool.exists_bool]
          exact ⟨r - 1, by omega, 1, by omega, rfl, hb.keep fun i h1 h2 => (by simp [show ¬ i = τ.next by omega]), fun _ => c⟩
        · have ha1 := ha n
          rw [decide_eq_false c] at ha1
          simp (disch := omega) [Und, w0, hn0, ha1, -Bool.exists_bool]
          exact ⟨k2 - 1, by omega, n + 1, by omega, by omega, ov, ⟨rfl, rfl⟩, by rw [stA_skip hx c]; exact hb.keep fun i h1 h2 => (by simp [show ¬ i = τ.next by omega])⟩
      · obtain rfl : i = 1 := by omega
        have c := hin rfl
        have hM2 := stA_len x n
        generalize hM : stA x n = M at *
        rcases id hb with ⟨rfl, rfl⟩ | ⟨o2, rfl, o21, og2, hne2⟩
        · simp (disch := omega) [Und, w0, -Bool.exists_bool]
          refine Buf.push (σ := τ) (lo := 0) (v := .vsl true []) (xs := []) Buf.nil encSpan (by omega) (by omega) ⟨n, n⟩ (by simp [topBytes]) rfl fun v' υ g1 g2 => ?_
          have t0 : υ.lim = 0 := g2.lim.trans w0
          simp (disch := omega) [Und, t0, -Bool.exists_bool]
          exact ⟨k2 - 1, by omega, n + 1, by omega, by omega, v', ⟨rfl, rfl⟩, by rw [stA_new hx c (fun M0 l e => by rw [hM] at e; simp at e), hM]; exact g1⟩
        · obtain ⟨M0, l, hMl⟩ : ∃ M0 l, M = M0 ++ [l] := by
            rcases List.eq_nil_or_concat M with h | ⟨M0, l, h⟩
            · exact absurd h hne2
            · exact ⟨M0, l, by rw [h, List.concat_eq_append]⟩
          have hml : M.length = M0.length + 1 := by rw [hMl]; simp
          have hnl : nth M M0.length = l := by rw [hMl]; exact nth_app_hi'
          obtain ⟨m, hm0⟩ : ∃ m, m = M0.length := ⟨_, rfl⟩
          have hm1 : (M.length : Int) - 1 = (m : Int) := by omega
          have hm2 : (0 : Int) < M.length := by omega
          have hm3 : 0 < M.length := by omega
          have hm4 : m < M.length := by omega
          have hrm := rowOf_length encSpan M
          have rc := row_cell encSpan (xs := M) (j := m) (c := 1) hm4 (by decide)
          have hcc : (eSpan (nth M m)).cells[1]? = some (.int .i64 l.hi) := by rw [hm0, hnl]; rfl
          rw [hcc] at rc
          have w2 : m * 2 + 1 + 1 ≤ M.length * 2 := by omega
          have l2 := AH.get_lt og2
          by_cases ht : l.hi = n - 1
          · simp (disch := omega) [Und, w0, hm1, hm2, hm3, hm4, hrm, rc, w2, l2, og2, ht, -Bool.exists_bool, -getElem?_pos]
            have hset : (rowOf eSpan M).set (m * 2 + 1) (.int .i64 n) = rowOf eSpan (M0 ++ [⟨l.lo, n⟩]) := by
              rw [setHi hm4, hm0, hnl]
              congr 1
              rw [hMl, List.set_append_right _ _ (Nat.le_refl _), Nat.sub_self]; rfl
            have hle : (M0 ++ [(⟨l.lo, n⟩ : Span)]).length = M.length := by rw [hMl]; simp
            have hst := stA_ext hx c (hM.trans hMl) ht
            exact ⟨k2 - 1, by omega, n + 1, by omega, by omega, _, ⟨rfl, rfl⟩, by rw [hst]; exact .inr ⟨o2, by rw [hle], o21, by rw [AH.get_set_same _ _ _ l2, hset], by simp⟩⟩
          · simp (disch := omega) [Und, w0, hm1, hm2, hm3, hm4, hrm, rc, w2, l2, og2, ht, -Bool.exists_bool, -getElem?_pos]
            refine hb.push encSpan (by omega) (by omega) ⟨n, n⟩ (by simp only [topBytes]; omega) rfl fun v' υ g1 g2 => ?_
            have t0 : υ.lim = 0 := g2.lim.trans w0
            simp (disch := omega) [Und, t0, -Bool.exists_bool]
            exact ⟨k2 - 1, by omega, n + 1, by omega, by omega, v', ⟨rfl, rfl⟩, by
              rw [stA_new hx c (fun M1 l1 e => by
                rw [hM, hMl] at e
                have := (List.append_inj' e rfl).2
                simp at this
                subst this
                exact ht), hM]
              exact g1⟩
    · obtain rfl : n = 2001 := by omega
      have hl2 := stA_len x 2001
      rcases id hb with ⟨rfl, hM0⟩ | ⟨o2, rfl, o21, og2, hne2⟩
      · rw [hM0] at hfin; exact absurd hfin.1 (by simp)
      · have hfz := fz_whole encSpan flatSpan (f := ω.cel) (o := o2) (xs := stA x 2001) (c := .ex (stA x 2001).length) (AH.cel_get og2) (.inr rfl) 5
        simp (disch := omega) [Und, hn, w0, aslS_full', -Bool.exists_bool]
        first | exact hfz | exact congrArg (fun z => AV.tuple [z, .int .i64 0]) hfz | (trace_state; sorry)
end Go.Oct.Pla
