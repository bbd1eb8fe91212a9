/- Logs: where the ship can be, as the specification finds it. -/
import Derived.Test.YtddclpecmjibkaaDoorOFixRefT
import Derived.Test.YtddclpecmjibkaaDoorOFixWasW
set_option maxRecDepth 100000
set_option maxHeartbeats 8000000
set_option linter.unusedVariables false
set_option linter.unusedSimpArgs false
namespace Go.Oct.Fix
open Go.Oct
/-- A set of points. -/
def bl (f : Nat → Bool) : List Bool := (List.range 3600).map f
@[simp] theorem bl_len (f : Nat → Bool) : (bl f).length = 3600 := by unfold bl; rw [List.length_map, List.length_range]
theorem bl_nth {f : Nat → Bool} {n : Nat} (h : n < 3600) : nth (bl f) n = f n := by
  unfold nth bl
  rw [List.getD_eq_getElem?_getD, List.getElem?_map, List.getElem?_range h]
  rfl
theorem bl_sea (f : Nat → Bool) : (bl f).map AV.bool = seaC f := by
  unfold bl seaC
  rw [List.map_map]; rfl
@[simp ↓] theorem set0 : zcells [AV.bool false] 3600 = seaC fun _ => false := sea0
@[simp] theorem aidx_bl {nl : Bool} {xs : List Bool} (q : IntKind) (i : Int) : aidx 1 (vl AV.bool nl xs) (.int q i) = if 0 ≤ i ∧ i < (xs.length : Int) then some (.vptr [.bool (nth xs i.toNat)] 0) else none :=
  aidx_vl (e := AV.bool) (fun _ => rfl) q i
theorem encB : Enc AV.bool 1 := ⟨fun _ => rfl, fun _ => rfl, fun _ => rfl, by decide⟩
theorem flatB : flatE AV.bool := fun x c hc k f => by
  rw [show (AV.bool x).cells = [.bool x] from rfl, List.mem_singleton] at hc
  rw [hc]; exact ⟨rfl, rfl⟩
theorem row_bl (g : Nat → Bool) : rowOf AV.bool (bl g) = seaC g := by
  rw [← bl_sea]
  unfold rowOf
  induction bl g with
  | nil => rfl
  | cons x xs ih => rw [List.flatMap_cons, ih]; rfl
theorem fz_bl {σ : AH} {o : Nat} {g : Nat → Bool} (h : σ.get o = some (.cells (seaC g))) (k : Nat) : fzV (k + 2) σ.cel (.slice (some (o, 0)) 3600 (.ex 3600)) = vl AV.bool false (bl g) := by
  have := fz_whole encB flatB (f := σ.cel) (o := o) (xs := bl g) (c := .ex (bl g).length) (by rw [row_bl]; exact AH.cel_get h) (.inr rfl) k
  rwa [bl_len] at this
@[simp] theorem rpoint_ok (n : Int) (h : 0 ≤ n) (h2 : n < 3600) : ans prog O 97 [.int .i64 n] = some (.agg [.int .i64 (n / 60), .int .i64 (n % 60)]) := by
  have e1 : n.tdiv 60 = n / 60 := Int.tdiv_eq_ediv_of_nonneg h
  have e2 : n.tmod 60 = n % 60 := Int.tmod_eq_emod_of_nonneg h
  refine fn_of' pl get97 (oo (by decide)) rfl rfl ?_
  simp (disch := omega) [e1, e2, Und, -Bool.exists_bool]
theorem rplace_ok (e n : Int) (he : 0 ≤ e ∧ e ≤ 59) (hn : 0 ≤ n ∧ n ≤ 59) : ans prog O 107 [.agg [.int .i64 e, .int .i64 n]] = some (.int .i64 (60 * e + n)) := by
  refine fn_of' pl get107 (oo (by decide)) rfl rfl ?_
  simp (disch := omega) [Und, -Bool.exists_bool]
/-- A set that lies in the heap. -/
def sS (o : Nat) : AV := .slice (some (o, 0)) 3600 (.ex 3600)
theorem rheld_call (s : Stp) (f : Nat → Bool) (h : okStp s) (hk : s.k ≠ 2) {σ : AH} {o : Nat} (hlm : σ.lim ≤ σ.next) (hgo : σ.get o = some (.cells (seaC f))) {K : AV → AH → Prop}
    (hK : ∀ o' σ', σ.next ≤ o' → Only [] σ σ' → σ'.get o' = some (.cells (seaC fun n => f n && hldN s n)) → K (sS o') σ') : Call prog O (.fn 99) [eStp s, sS o] σ K := by
  have lo := AH.get_lt hgo
  refine @call_of' _ _ pl _ _ _ _ _ _ _ ⟨K⟩ get99 ((oo (by decide)).2 _) rfl ?_
  have m1 : σ.lim ≤ σ.next + 1 := by omega
  simp (disch := omega) [eStp, sS, topBytes, Und, hlm, m1, -Bool.exists_bool]
  generalize hT : AH.push (AH.push σ _) _ = T
  have t0 : T.lim = σ.lim := by rw [← hT]; rfl
  have tn : T.next = σ.next + 2 := by rw [← hT]; rfl
  have tg : ∀ z, z < σ.next → T.get z = σ.get z := fun z hz => by rw [← hT]; simp (disch := omega) [eqf1, eqf2]
  have ts : T.get σ.next = some (.cells (eStp s).cells) := by rw [← hT]; simp (disch := omega) [eqf1, eqf2]
  have tb : T.get (σ.next + 1) = some (.cells (seaC fun _ => false)) := by rw [← hT]; simp (disch := omega) [eqf1, eqf2]
  clear hT
  obtain ⟨b0, hb0⟩ : ∃ b0, b0 = σ.next := ⟨_, rfl⟩
  obtain ⟨b1, hb1⟩ : ∃ b1, b1 = σ.next + 1 := ⟨_, rfl⟩
  rw [← hb1]
  rw [← hb0] at ts ⊢
  rw [← hb1] at tb
  refine lp_loop pl (fun k fr υ => ∃ i : Nat, i + k = 3600 ∧ fr = ⟨[(1, .slice (some (o, 0)) 3600 (.ex 3600)), (2, .ptr (some (b0, 0))), (5, .slice (some (b1, 0)) 3600 (.ex 3600)), (6, .int .i64 i)], []⟩ ∧ υ.lim = σ.lim ∧ T.next ≤ υ.next ∧ (∀ z, z < T.next → z ≠ b1 → υ.get z = T.get z) ∧ υ.get b1 = some (.cells (seaC fun n => decide (n < i) && (f n && hldN s n))))
    ⟨3600, 0, by omega, rfl, t0, Nat.le_refl _, fun _ _ _ => rfl, tb.trans (congrArg (fun c => some (AObj.cells c)) (seaC_congr fun m _ => by simp))⟩ ?_
  rintro k _ υ ⟨i, hi, rfl, u0, un, ug, u1⟩
  have us := (ug b0 (by omega) (by omega)).trans ts
  have uo := ((ug o (by omega) (by omega)).trans (tg o lo)).trans hgo
  simp only [cells_eStp] at us
  have lus := AH.get_lt us
  have luo := AH.get_lt uo
  have lu1 := AH.get_lt u1
  have hm1 : σ.lim ≤ b1 := by omega
  by_cases hi3 : i < 3600
  · have hi3' : (i : Int) < 3600 := by omega
    have hfl := seaC_len f
    have hfg := seaC_get (f := f) hi3
    have hsl := seaC_len (fun n => decide (n < i) && (f n && hldN s n))
    have hp := rholds_ok s ((i : Int) / 60) ((i : Int) % 60) h hk (by omega) (by omega)
    have hset := fun b => seaC_set (fun n => decide (n < i) && (f n && hldN s n)) i b
    have hh : hldN s i = hld s ((i : Int) / 60) ((i : Int) % 60) := rfl
    rw [← hh] at hp
    unfold eStp at hp
    cases hf : f i
    · rw [hf] at hfg
      simp (disch := omega) [Und, eqf1, eqf2, u0, us, uo, u1, lus, luo, lu1, hm1, hi3, hi3', hfl, hfg, hsl, hset, ltT, -Bool.exists_bool, -getElem?_pos]
      refine ⟨by omega, k - 1, by omega, i + 1, by omega, by omega, by omega, fun z h1 h2 => ?_, seaC_congr fun m _ => ?_⟩
      · rw [if_neg h2]; exact ug z h1 h2
      · by_cases e : m = i
        · subst e; simp [hf]
        · by_cases e2 : m < i
          · simp [e, e2, show m < i + 1 by omega]
          · simp [e, e2, show ¬ m < i + 1 by omega]
    · rw [hf] at hfg
      simp (disch := omega) [Und, eqf1, eqf2, u0, us, uo, u1, lus, luo, lu1, hm1, hi3, hi3', hfl, hfg, hsl, hset, hp, ltT, -Bool.exists_bool, -getElem?_pos]
      refine ⟨by omega, by omega, by omega, k - 1, by omega, i + 1, by omega, by omega, by omega, fun z h1 h2 => ?_, seaC_congr fun m _ => ?_⟩
      · rw [if_neg h2]; exact ug z h1 h2
      · by_cases e : m = i
        · subst e; simp [hf]
        · by_cases e2 : m < i
          · simp [e, e2, show m < i + 1 by omega]
          · simp [e, e2, show ¬ m < i + 1 by omega]
  · obtain rfl : i = 3600 := by omega
    simp (disch := omega) [Und, u0, -Bool.exists_bool]
    refine hK b1 υ (by omega) ⟨u0, by omega, fun z hz _ => (ug z (by omega) (by omega)).trans (tg z hz)⟩ (u1.trans (congrArg (fun c => some (AObj.cells c)) (seaC_congr fun n hn => by rw [decide_eq_true hn, Bool.true_and])))
end Go.Oct.Fix
