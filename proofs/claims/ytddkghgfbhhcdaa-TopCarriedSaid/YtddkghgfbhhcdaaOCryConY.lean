/- One temperature of a day, in the program's loop. -/
import Derived.Test.YtddkghgfbhhcdaaOCryConD
set_option maxRecDepth 100000
set_option maxHeartbeats 4000000
set_option linter.unusedVariables false
set_option linter.unusedSimpArgs false
namespace Go.Oct.Cry
open Go.Oct
def lst (f : Nat → Int) (m : Nat) : List AV := (List.range m).map fun q => .int .i64 (f q)
theorem lst_succ (f : Nat → Int) (m : Nat) : lst f (m + 1) = lst f m ++ [.int .i64 (f m)] := by unfold lst; rw [List.range_succ, List.map_append]; rfl
@[simp] theorem lst_len (f : Nat → Int) (m : Nat) : (lst f m).length = m := by unfold lst; simp
@[simp] theorem lst_all (f : Nat → Int) (m : Nat) : (lst f m).all AV.one = true := by
  unfold lst
  rw [List.all_map, List.all_eq_true]
  intro x _; rfl
abbrev vLow (nT nR : Bool) (T : List Int) (R : List Span) (a e : Span) : AV := .iface 145 (.agg [vs nT T, .func (.func 113) [] [.vptr [vs nT T, vl eSpan nR R, .int .i64 a.lo, .int .i64 a.hi, .int .i64 e.lo, .int .i64 e.hi] 0]])
abbrev vHigh (nT nR : Bool) (T : List Int) (R : List Span) (a e : Span) : AV := .iface 145 (.agg [vs nT T, .func (.func 114) [] [.vptr [vs nT T, vl eSpan nR R, .int .i64 a.lo, .int .i64 a.hi, .int .i64 e.lo, .int .i64 e.hi] 0]])
theorem eqf1 {a b : Nat} (h : a < b) : (a = b) = False := by simp; omega
theorem eqf2 {a b : Nat} (h : b < a) : (a = b) = False := by simp; omega
abbrev envC (n0 : Nat) (v1 v4 v5 v6 v10 v11 v12 v37 v38 v45 : AV) : Env := [(1, v1), (4, v4), (5, v5), (6, v6), (8, .ptr (some (2, 0))), (9, .ptr (some (3, 0))), (10, v10), (11, v11), (12, v12), (13, .ptr (some (n0, 0))), (14, .ptr (some (n0 + 1, 0))), (37, v37), (38, v38), (45, v45)]
/-- How things stand when m temperatures of a day have been told. -/
structure YInv (n0 : Nat) (σ0 : AH) (env : Env) (lo hi : Int) (f g : Nat → Int) (m : Nat) (σ : AH) : Prop where
  lim : σ.lim = 0
  next : n0 + 5 ≤ σ.next
  box : σ.get (n0 + 2) = some (.cells [.int .i64 lo, .int .i64 hi])
  mark : σ.get (n0 + 3) = some .dfr
  loop : σ.get (n0 + 4) = some (.loop 24 0 env .ready none (n0 + 3))
  low : ∀ k, k < n0 → σ.get k = σ0.get k
  lists : (m = 0 ∧ σ.get n0 = some (.cells [.vsl true []]) ∧ σ.get (n0 + 1) = some (.cells [.vsl true []])) ∨ ∃ i j, i ≠ j ∧ n0 + 5 ≤ i ∧ n0 + 5 ≤ j ∧ σ.get n0 = some (.cells [.slice (some (i, 0)) m (.op 1)]) ∧ σ.get (n0 + 1) = some (.cells [.slice (some (j, 0)) m (.op 1)]) ∧
    σ.get i = some (.cells (lst f m)) ∧ σ.get j = some (.cells (lst g m))
theorem yield_step {nT nR : Bool} {T : List Int} {R : List Span} {a e : Span} (h : okClk T R a e) {n0 : Nat} {σ0 : AH} {env : Env} {lo hi : Int} {m : Nat} {σ : AH} {v11 v12 v1 v4 v5 v6 v10 v37 v38 v45 : AV}
    (henv : env = envC n0 v1 v4 v5 v6 v10 v11 v12 v37 v38 v45)
    (h5 : 4 ≤ n0) (hlow : σ0.get 2 = some (.cells [vLow nT nR T R a e])) (hhigh : σ0.get 3 = some (.cells [vHigh nT nR T R a e]))
    (hi0 : YInv n0 σ0 env lo hi (fun q => rt T (fun i => (nth R i).lo) (lo + q)) (fun q => rt T (fun i => (nth R i).hi) (lo + q)) m σ) (h1 : nth T 0 ≤ lo + m) (h2 : lo + m ≤ nth T (T.length - 1)) (hm : m ≤ 100) :
    Call prog O (.yield (n0 + 4)) [.int .i64 (lo + m)] σ (fun r σ' => r = .bool true ∧ YInv n0 σ0 env lo hi (fun q => rt T (fun i => (nth R i).lo) (lo + q)) (fun q => rt T (fun i => (nth R i).hi) (lo + q)) (m + 1) σ') := by
  obtain ⟨l0, l1, l2, l3, l4, l5, l6⟩ := hi0
  have e2 : σ.get 2 = _ := (l5 2 (by omega)).trans hlow
  have e3 : σ.get 3 = _ := (l5 3 (by omega)).trans hhigh
  have r1 := rlow_ok (nT := nT) (nR := nR) h h1 h2
  have r2 := rhigh_ok (nT := nT) (nR := nR) h h1 h2
  refine yield_of' pl l4 get24 rfl rfl (by omega) rfl ?_
  subst henv
  have m2 : ¬ 2 = n0 + 4 := by omega
  have m3 : ¬ 3 = n0 + 4 := by omega
  have k2 : 2 < σ.next := by omega
  have k3 : 3 < σ.next := by omega
  have k0 : n0 < σ.next := by omega
  have k1 : n0 + 1 < σ.next := by omega
  rcases l6 with ⟨rfl, g0, g1⟩ | ⟨i, j, hij, i5, j5, g0, g1, gi, gj⟩
  · have r1' := r1
    have r2' := r2
    simp only [Int.natCast_zero, Int.add_zero] at r1' r2'
    have k4 : ¬ n0 = σ.next := by omega
    have k5 : ¬ n0 + 1 = σ.next := by omega
    have k6 : ¬ 2 = σ.next := by omega
    have k7 : ¬ 3 = σ.next := by omega
    have k8 : ¬ σ.next = 2 := by omega
    have k9 : ¬ σ.next = 3 := by omega
    have k10 : ¬ σ.next = n0 := by omega
    have k11 : ¬ σ.next = n0 + 1 := by omega
    have k12 : ¬ σ.next + 1 = n0 := by omega
    simp (disch := omega) [ak_of l4, l0, e2, e3, g0, g1, r1', r2', m2, m3, k0, k1, k2, k3, k4, k5, k6, k7, k8, k9, k10, k11, k12, eqf1, eqf2, aappend, dstOf, lenOf, srcOf, agrow, cellsAt, topBytes]
    have lo0 : lst (fun q => rt T (fun i => (nth R i).lo) (lo + q)) 1 = [.int .i64 (rt T (fun i => (nth R i).lo) lo)] := by simp [lst]
    have hi0 : lst (fun q => rt T (fun i => (nth R i).hi) (lo + q)) 1 = [.int .i64 (rt T (fun i => (nth R i).hi) lo)] := by simp [lst]
    refine bd_normal (f := 24) (i := 0) (env := envC n0 v1 v4 v5 v6 v10 v11 v12 v37 v38 v45) (st := .busy) (pd := none) (d := n0 + 3) (by simp (disch := omega) [eqf1, eqf2]; omega) ⟨rfl, ⟨by simp [l0], by simp; omega, ?_, ?_, ?_, ?_, .inr ⟨σ.next + 1, σ.next + 1 + 1 + 1, by omega, by omega, by omega, ?_, ?_, ?_, ?_⟩⟩⟩
    · simp (disch := omega) [eqf1, eqf2, l2]
    · simp (disch := omega) [eqf1, eqf2, l3]
    · simp (disch := omega) [eqf1, eqf2]; omega
    · intro k hk
      simp (disch := omega) [eqf1, eqf2, l5 k hk]
    · simp (disch := omega) [eqf1, eqf2]; omega
    · simp (disch := omega) [eqf1, eqf2]; omega
    · simp (disch := omega) [eqf1, eqf2, lo0]
    · simp (disch := omega) [eqf1, eqf2, hi0]
  · have il := AH.get_lt gi
    have jl := AH.get_lt gj
    have i0 : ¬ i = n0 := by omega
    have i1 : ¬ i = n0 + 1 := by omega
    have i1' : ¬ n0 + 1 = i := by omega
    have i0' : ¬ n0 = i := by omega
    have j1' : ¬ n0 + 1 = j := by omega
    have j0' : ¬ n0 = j := by omega
    have i4 : ¬ i = n0 + 4 := by omega
    have j4 : ¬ j = n0 + 4 := by omega
    have j0 : ¬ j = n0 := by omega
    have k4 : ¬ n0 = σ.next := by omega
    have k5 : ¬ n0 + 1 = σ.next := by omega
    have k6 : ¬ 2 = σ.next := by omega
    have k7 : ¬ 3 = σ.next := by omega
    have k8 : ¬ i = σ.next := by omega
    have k9 : ¬ j = σ.next := by omega
    have mm : ¬ m + 1 ≤ m := by omega
    have mb : (m + 1) * 8 ≤ 140737488355328 := by omega
    have tk1 : ∀ f, List.take m (lst f m) = lst f m := fun f => List.take_of_length_le (by simp)
    simp (disch := omega) [ak_of l4, l0, e2, e3, g0, g1, gi, gj, r1, r2, m2, m3, k0, k1, k2, k3, k4, k5, k6, k7, k8, k9, il, jl, i0, i1, i0', i1', j0', j1', i4, j4, j0, hij, Ne.symm hij, mm, mb, tk1, eqf1, eqf2, aappend, dstOf, lenOf, srcOf, agrow, cellsAt, topBytes]
    refine bd_normal (f := 24) (i := 0) (env := envC n0 v1 v4 v5 v6 v10 v11 v12 v37 v38 v45) (st := .busy) (pd := none) (d := n0 + 3) (by simp (disch := omega) [eqf1, eqf2, i4, j4]; omega) ⟨rfl, ⟨by simp [l0], by simp; omega, ?_, ?_, ?_, ?_, .inr ⟨σ.next + 1, σ.next + 1 + 1 + 1, by omega, by omega, by omega, ?_, ?_, ?_, ?_⟩⟩⟩
    · simp (disch := omega) [eqf1, eqf2, l2]
    · simp (disch := omega) [eqf1, eqf2, l3]
    · simp (disch := omega) [eqf1, eqf2]; omega
    · intro k hk
      simp (disch := omega) [eqf1, eqf2, l5 k hk]
    · simp (disch := omega) [eqf1, eqf2]; omega
    · simp (disch := omega) [eqf1, eqf2]; omega
    · simp (disch := omega) [eqf1, eqf2, lst_succ]
    · simp (disch := omega) [eqf1, eqf2, lst_succ]
end Go.Oct.Cry
