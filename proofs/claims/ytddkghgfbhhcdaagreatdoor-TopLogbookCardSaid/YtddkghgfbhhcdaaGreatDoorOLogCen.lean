/- Clocks on trial: their names and numbers; the least and the greatest of several numbers. -/
import Derived.Test.YtddkghgfbhhcdaaGreatDoorOLogB0
import Derived.Test.YtddkghgfbhhcdaaGreatDoorOT4
set_option maxRecDepth 100000
set_option maxHeartbeats 2000000
set_option linter.unusedVariables false
set_option linter.unusedSimpArgs false
namespace Go.Oct.Log.Ck
open Go.Oct
def lst (f : Nat → Int) (m : Nat) : List AV := (List.range m).map fun q => .int .i64 (f q)
@[simp] theorem lst_len (f : Nat → Int) (m : Nat) : (lst f m).length = m := by unfold lst; simp
@[simp] theorem lst_all (f : Nat → Int) (m : Nat) : (lst f m).all AV.one = true := by
  unfold lst
  rw [List.all_map, List.all_eq_true]
  intro x _; rfl
def minF (f : Nat → Int) : Nat → Int
  | 0 => f 0
  | n + 1 => min (minF f n) (f (n + 1))
def maxF (f : Nat → Int) : Nat → Int
  | 0 => f 0
  | n + 1 => max (maxF f n) (f (n + 1))
theorem minF_bd {f : Nat → Int} {A B : Int} : ∀ n, (∀ i, i ≤ n → A ≤ f i ∧ f i ≤ B) → A ≤ minF f n ∧ minF f n ≤ B
  | 0, h => h 0 (Nat.le_refl _)
  | n + 1, h => by
    have h1 := minF_bd n fun i hi => h i (by omega)
    have h2 := h (n + 1) (Nat.le_refl _)
    simp only [minF]
    omega
theorem maxF_bd {f : Nat → Int} {A B : Int} : ∀ n, (∀ i, i ≤ n → A ≤ f i ∧ f i ≤ B) → A ≤ maxF f n ∧ maxF f n ≤ B
  | 0, h => h 0 (Nat.le_refl _)
  | n + 1, h => by
    have h1 := maxF_bd n fun i hi => h i (by omega)
    have h2 := h (n + 1) (Nat.le_refl _)
    simp only [maxF]
    omega
theorem ends2_ok (nl : Bool) (xs : List Int) (x : Int) (hx : xs.length < 2 ^ 62) : ans prog O 62 [.int .i64 x, vs nl xs] = some (.tuple [.int .i64 (xs.foldl min x), .int .i64 (xs.foldl max x)]) := by
  refine fn_of' pl get62 (oo (by decide)) rfl rfl ?_
  simp +contextual (disch := omega) []
  refine lp_count pl xs.length (fun j => [(4, .int .i64 ((xs.take j).foldl min x)), (5, .int .i64 ((xs.take j).foldl max x)), (10, vs nl xs), (11, .int .i64 xs.length), (12, .int .i64 j)]) (fun _ => ⟨0, 0, .leaf⟩) (fun _ => True) (by simp) ?_
  intro j hj _
  have hf : j < xs.length → (xs.take (j + 1)).foldl min x = min ((xs.take j).foldl min x) (nth xs j) ∧ (xs.take (j + 1)).foldl max x = max ((xs.take j).foldl max x) (nth xs j) := fun h => by rw [take_succ_nth h, List.foldl_append, List.foldl_append]; exact ⟨rfl, rfl⟩
  simp +contextual (disch := omega) [Und, hf, take_all]
def tab (f : Nat → Int) (n : Nat) : List Int := (List.range n).map f
theorem tab_len (f : Nat → Int) (n : Nat) : (tab f n).length = n := by unfold tab; simp
theorem tab_min (f : Nat → Int) : ∀ n, (tab f (n + 1)).foldl min (f 0) = minF f n
  | 0 => by simp [tab, minF]
  | n + 1 => by
    have h := tab_min f n
    unfold tab at h ⊢
    rw [List.range_succ, List.map_append, List.foldl_append, h]
    rfl
theorem tab_max (f : Nat → Int) : ∀ n, (tab f (n + 1)).foldl max (f 0) = maxF f n
  | 0 => by simp [tab, maxF]
  | n + 1 => by
    have h := tab_max f n
    unfold tab at h ⊢
    rw [List.range_succ, List.map_append, List.foldl_append, h]
    rfl
@[simp] theorem isNaN_ok (n : Int) : ans prog O 96 [.int .i64 n] = some (.bool false) := by
  refine fn_of' pl get96 (oo (by decide)) rfl rfl ?_
  simp +contextual (disch := omega) []
theorem aconv_u64 {n : Int} (h : 0 ≤ n) (h2 : n < 9223372036854775808) : aconv .u64 (.int .i64 n) = some (.int .u64 n) := by
  have : wr .u64 n = n := by
    rw [wr_eq]
    simp only [IntKind.wrap]
    rw [if_neg (by simp [IntKind.signed])]
    exact Int.emod_eq_of_lt h (by simp only [IntKind.bits]; omega)
  simp [aconv, this]
@[simp] theorem within_ok (n l h : Int) : ans prog O 30 [.int .i64 n, .int .i64 l, .int .i64 h] = some (.bool (decide (l ≤ n ∧ n ≤ h))) := by
  refine fn_of' pl get30 (oo (by decide)) rfl rfl ?_
  simp +contextual (disch := omega) []
/-- A clock on trial. -/
structure Ent where
  name : ByteArray
  wn : Bool
  weeks : List Int
  deriving Inhabited
def eEnt (x : Ent) : AV := .agg [.str x.name, vs x.wn x.weeks]
theorem encEnt : Enc eEnt 2 := ⟨fun _ => rfl, fun _ => rfl, fun _ => rfl, by decide⟩
@[simp] theorem aidx_ent {nl : Bool} {xs : List Ent} (q : IntKind) (i : Int) : aidx 2 (vl eEnt nl xs) (.int q i) = if 0 ≤ i ∧ i < (xs.length : Int) then some (.vptr [.str (nth xs i.toNat).name, vs (nth xs i.toNat).wn (nth xs i.toNat).weeks] 0) else none :=
  aidx_vl (e := eEnt) (fun _ => rfl) q i
@[simp] theorem aslS_ent {nl : Bool} {xs : List Ent} (lo hi mx : Option AV) : aslS 2 (vl eEnt nl xs) lo hi mx = (abounds xs.length xs.length lo hi mx).map fun r => vl eEnt nl ((xs.drop r.1).take (r.2.1 - r.1)) := aslS_vl (e := eEnt) (fun _ => rfl) lo hi mx
/-! ### Names -/
def chOK (s : ByteArray) (i : Nat) : Prop := (97 ≤ nth (bys s) i ∧ nth (bys s) i ≤ 122) ∨ ((nth (bys s) i = 45 ∨ (48 ≤ nth (bys s) i ∧ nth (bys s) i ≤ 57)) ∧ 0 < i)
instance (s : ByteArray) (i : Nat) : Decidable (chOK s i) := by unfold chOK; infer_instance
def nameTo (s : ByteArray) (n : Nat) : Prop := (1 ≤ ((bys s).length : Int) ∧ ((bys s).length : Int) ≤ 16) ∧ ∀ i, i < n → chOK s i
instance (s : ByteArray) (n : Nat) : Decidable (nameTo s n) := by unfold nameTo; infer_instance
abbrev nameOK (s : ByteArray) : Prop := nameTo s (bys s).length
theorem nameTo_succ {s : ByteArray} {n : Nat} : nameTo s (n + 1) ↔ nameTo s n ∧ chOK s n := by
  unfold nameTo
  constructor
  · rintro ⟨h1, h2⟩; exact ⟨⟨h1, fun i hi => h2 i (by omega)⟩, h2 n (by omega)⟩
  · rintro ⟨⟨h1, h2⟩, h3⟩
    refine ⟨h1, fun i hi => ?_⟩
    by_cases e : i = n
    · rw [e]; exact h3
    · exact h2 i (by omega)
theorem map_get (l : List Int) {i : Nat} (h : i < l.length) : (l.map (AV.int .u8))[i]? = some (.int .u8 (nth l i)) := by
  rw [List.getElem?_map, nth_get? h]; rfl

@[simp] theorem isName_ok (s : ByteArray) : ans prog O 31 [.str s] = some (.bool (decide (nameOK s))) := by
  refine fn_of' pl get31 (oo (by decide)) rfl rfl ?_
  by_cases hl : 1 ≤ ((bys s).length : Int) ∧ ((bys s).length : Int) ≤ 16
  · have h1 : 0 < (bys s).length := by omega
    have hb0 := bys_bd s 0 h1
    by_cases h97 : nth (bys s) 0 < 97
    · simp (disch := omega) [hl, h1, h97]
      have hn : ¬ nameOK s := fun h => by
        have := h.2 0 h1
        unfold chOK at this
        omega
      simp [hn]
    · simp (disch := omega) [hl, h1, h97, map_get, bys_bd]
      refine lp_count pl (bys s).length (fun j => [(15, .slice (some (0, 0)) (bys s).length (.op 1)), (16, .int .i64 (bys s).length), (17, .int .i64 j)]) (fun _ => _) (fun j => nameTo s j) ⟨rfl, rfl, hl, fun i hi => by omega⟩ ?_
      intro j hj hi
      by_cases hjl : j < (bys s).length
      · have hb := bys_bd s j hjl
        simp (disch := omega) [Und, hjl, map_get, -List.getElem?_map]
        refine ⟨by omega, fun h2 h3 h4 => ?_, fun h2 => ?_⟩
        · have hn : ¬ nameOK s := fun h => by
            have := h.2 j hjl
            unfold chOK at this
            omega
          simp [hn]
        · refine nameTo_succ.2 ⟨hi, ?_⟩
          unfold chOK
          by_cases e : j = 0
          · subst e; omega
          · omega
      · obtain rfl : j = (bys s).length := by omega
        simp (disch := omega) [Und, hi]
  · have hn : ¬ nameOK s := fun h => hl h.1
    simp (disch := omega) [hl, hn, Und]
end Go.Oct.Log.Ck
