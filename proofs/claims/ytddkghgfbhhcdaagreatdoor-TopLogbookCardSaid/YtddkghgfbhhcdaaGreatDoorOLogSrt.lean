/- Sorting the clocks of a trial. -/
import Derived.Test.YtddkghgfbhhcdaaGreatDoorOLogNum
set_option maxRecDepth 100000
set_option maxHeartbeats 2000000
set_option linter.unusedVariables false
set_option linter.unusedSimpArgs false
namespace Go.Oct.Log.Ck
open Go.Oct
/-- A clock that is tried, in the calculation. -/
structure En where
  ent : Ent
  idx : Int
  num : Int
  deriving Inhabited
def eEn (x : En) : AV := .agg [.str x.ent.name, vs x.ent.wn x.ent.weeks, .int .i64 x.idx, .int .i64 x.num]
theorem encEn : Enc eEn 4 := ⟨fun _ => rfl, fun _ => rfl, fun _ => rfl, by decide⟩
@[simp] theorem agg_eEn (x : En) : AV.agg (eEn x).cells = eEn x := (rfl)
@[simp] theorem dfd_eEn (x : En) : (eEn x).dfd = true := (rfl)
@[simp] theorem len_eEn (x : En) : (eEn x).cells.length = 4 := (rfl)
@[simp] theorem all_eEn (x : En) : (eEn x).cells.all AV.one = true := (rfl)
@[simp] theorem closed_eEn (k : Nat) (x : En) : closed (k + 2) (eEn x) = true := (rfl)
def cmpI (a b : Int) : Int := if a < b then -1 else if b < a then 1 else 0
def cmpE (x y : En) : Int := if cmpI x.num y.num ≠ 0 then cmpI x.num y.num else Extern.BytealgCompare.cmp x.ent.name y.ent.name
def ltE (x y : En) : Prop := x.num < y.num ∨ (x.num = y.num ∧ slt x.ent.name y.ent.name)
theorem cmpE_lt (x y : En) : cmpE x y < 0 ↔ ltE x y := by
  unfold cmpE cmpI ltE
  have h := cmp_spec x.ent.name y.ent.name
  have h1 : slt x.ent.name y.ent.name → ¬ slt y.ent.name x.ent.name := slt_asymm
  have h2 : x.ent.name = y.ent.name → ¬ slt x.ent.name y.ent.name := fun e => by rw [e]; exact slt_irrefl _
  rcases h with ⟨e, h⟩ | ⟨e, h⟩ | ⟨e, h⟩
  · rw [e]; split
    · split at * <;> (try split at *) <;> simp only [h, and_true] <;> omega
    · split at * <;> (try split at *) <;> simp only [h, and_true] <;> omega
  · have h3 : ¬ slt x.ent.name y.ent.name := slt_asymm h
    rw [e]; simp only [h3, and_false, or_false]; split
    · split at * <;> (try split at *) <;> omega
    · split at * <;> (try split at *) <;> omega
  · have h3 := h2 h
    rw [e]; simp only [h3, and_false, or_false]; split
    · split at * <;> (try split at *) <;> omega
    · split at * <;> (try split at *) <;> omega
theorem ordE : Ord ltE := by
  refine ⟨fun a b h1 h2 => ?_, fun a b c h => ?_⟩
  · unfold ltE at h1 h2
    rcases h1 with h1 | ⟨h1, h3⟩
    · rcases h2 with h2 | ⟨h2, _⟩ <;> omega
    · rcases h2 with h2 | ⟨h2, h4⟩
      · omega
      · exact slt_asymm h3 h4
  · unfold ltE at *
    rcases Int.lt_trichotomy a.num b.num with h1 | h1 | h1
    · exact .inl (.inl h1)
    · rcases h with h | ⟨h, h2⟩
      · exact .inr (.inl (by omega))
      · rcases slt_tri a.ent.name b.ent.name with h3 | h3 | h3
        · exact .inl (.inr ⟨h1, h3⟩)
        · exact .inr (.inr ⟨by omega, by rw [← h3]; exact h2⟩)
        · exact .inr (.inr ⟨by omega, slt_trans h3 h2⟩)
    · rcases h with h | ⟨h, h2⟩
      · exact .inr (.inl (by omega))
      · exact .inr (.inl (by omega))
@[simp] theorem Compare_ok (a b : Int) : ans prog O 66 [.int .i64 a, .int .i64 b] = some (.int .i64 (cmpI a b)) := by
  refine fn_of' pl get66 (oo (by decide)) rfl rfl ?_
  unfold cmpI
  by_cases h : a < b
  · simp (disch := omega) [h, Und]
  · by_cases h2 : b < a
    · simp (disch := omega) [h, h2, Und]
    · simp (disch := omega) [h, h2, Und]
@[simp] theorem CompareString_ok (a b : ByteArray) : ans prog O 97 [.str a, .str b] = some (.int .i64 (Extern.BytealgCompare.cmp a b)) := by
  refine fn_of' pl get97 (oo (by decide)) rfl rfl ?_
  simp +contextual (disch := omega) []
@[simp] theorem strCompare_ok (a b : ByteArray) : ans prog O 67 [.str a, .str b] = some (.int .i64 (Extern.BytealgCompare.cmp a b)) := by
  refine fn_of' pl get67 (oo (by decide)) rfl rfl ?_
  simp +contextual (disch := omega) []
theorem Or_ok (nl : Bool) (a b : Int) : ans prog O 65 [vs nl [a, b]] = some (.int .i64 (if a ≠ 0 then a else b)) := by
  refine fn_of' pl get65 (oo (by decide)) rfl rfl ?_
  simp (disch := omega) []
  refine lp_count pl 2 (fun j => [(3, .int .i64 0), (6, vs nl [a, b]), (7, .int .i64 2), (8, .int .i64 j)]) (fun _ => ⟨0, 0, .leaf⟩) (fun j => (0 < j → a = 0) ∧ (1 < j → b = 0)) (by simp) ?_
  intro j hj hi
  match j, hj with
  | 0, _ => simp (disch := omega) [Und]; exact fun h => by simp [h]
  | 1, _ =>
    have h0 := hi.1 (by omega)
    simp (disch := omega) [Und, h0]
  | 2, _ =>
    have h0 := hi.1 (by omega)
    have h1 := hi.2 (by omega)
    simp (disch := omega) [Und, h0, h1]
theorem Or_lit {σ : AH} {a b : Int} {i : Nat} {k : Kn (AV → AH → Prop)} {q : Bool} (hi : σ.get i = some (.cells [.int .i64 a, .int .i64 b])) (hq : q = false)
    (hk : k.k (.int .i64 (if a ≠ 0 then a else b)) σ) : @PcI prog O q 65 [.slice (some (i, 0)) 2 (.ex 2)] σ k := by
  subst hq
  have hw : Whole 0 1 (AV.int .i64) σ (.slice (some (i, 0)) 2 (.ex 2)) [a, b] := ⟨i, .ex 2, rfl, Nat.zero_le _, by rw [hi]; rfl, .inr rfl⟩
  exact pc_scal (.cons (hw.view.snap encI flatI) .nil) (fun h => by simp at h) (by simp) (oo (args := []) (by decide)).1 (Or_ok false a b) rfl hk
theorem before_ok (x y : En) : ans prog O 38 [eEn x, eEn y] = some (.int .i64 (cmpE x y)) := by
  refine fn_of' pl get38 (oo (by decide)) rfl rfl ?_
  simp (disch := omega) [eEn]
  refine Or_lit (a := cmpI x.num y.num) (b := Extern.BytealgCompare.cmp x.ent.name y.ent.name) (by simp) rfl ?_
  simp (disch := omega) [cmpE]
end Go.Oct.Log.Ck
