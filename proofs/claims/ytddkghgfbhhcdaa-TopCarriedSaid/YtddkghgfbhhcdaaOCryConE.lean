/- The least and the greatest of several numbers. -/
import Derived.Test.YtddkghgfbhhcdaaOCryConY
set_option maxRecDepth 100000
set_option maxHeartbeats 2000000
set_option linter.unusedVariables false
set_option linter.unusedSimpArgs false
namespace Go.Oct.Cry
open Go.Oct
theorem ends2_ok (nl : Bool) (xs : List Int) (x : Int) (hx : xs.length < 2 ^ 62) : ans prog O 60 [.int .i64 x, vs nl xs] = some (.tuple [.int .i64 (xs.foldl min x), .int .i64 (xs.foldl max x)]) := by
  refine fn_of' pl get60 (oo (by decide)) rfl rfl ?_
  simp +contextual (disch := omega) []
  refine lp_count pl xs.length (fun j => [(4, .int .i64 ((xs.take j).foldl min x)), (5, .int .i64 ((xs.take j).foldl max x)), (10, vs nl xs), (11, .int .i64 xs.length), (12, .int .i64 j)]) (fun _ => ⟨0, 0, .leaf⟩) (fun _ => True) (by simp) ?_
  intro j hj _
  have hf : j < xs.length → (xs.take (j + 1)).foldl min x = min ((xs.take j).foldl min x) (nth xs j) ∧ (xs.take (j + 1)).foldl max x = max ((xs.take j).foldl max x) (nth xs j) := fun h => by rw [take_succ_nth h, List.foldl_append, List.foldl_append]; exact ⟨rfl, rfl⟩
  simp +contextual (disch := omega) [Und, hf, take_all]
def tab (f : Nat → Int) (n : Nat) : List Int := (List.range n).map f
theorem tab_len (f : Nat → Int) (n : Nat) : (tab f n).length = n := by unfold tab; simp
theorem lst_tab (f : Nat → Int) (n : Nat) : lst f n = rowOf (AV.int .i64) (tab f n) := by
  unfold lst tab rowOf
  induction List.range n with
  | nil => rfl
  | cons x xs ih => simp only [List.map_cons, List.flatMap_cons, ih]; rfl
theorem tab_min (f : Nat → Int) : ∀ n, (tab f (n + 1)).foldl min (f 0) = minF f n
  | 0 => by simp [tab, minF]
  | n + 1 => by
    have h := tab_min f n
    unfold tab at h ⊢
    rw [List.range_succ, List.map_append, List.foldl_append, h]
    rfl
theorem tab_max (f : Nat → Int) : ∀ n, (tab f (n + 1)).foldl max (f 0) = maxF f n
  | 0 => by simp [tab, maxF]
  | n + 1 => by
    have h := tab_max f n
    unfold tab at h ⊢
    rw [List.range_succ, List.map_append, List.foldl_append, h]
    rfl
theorem minF_add (f : Nat → Int) (c : Int) : ∀ n, minF (fun q => f q + c) n = minF f n + c
  | 0 => rfl
  | n + 1 => by simp only [minF, minF_add f c n]; omega
theorem maxF_add (f : Nat → Int) (c : Int) : ∀ n, maxF (fun q => f q + c) n = maxF f n + c
  | 0 => rfl
  | n + 1 => by simp only [maxF, maxF_add f c n]; omega
/-- Of numbers in the heap. -/
theorem ends_call {σ : AH} {i n : Nat} {f : Nat → Int} {x : Int} {k : Kn (AV → AH → Prop)} {b : Bool} (hi : σ.get i = some (.cells (lst f n))) (hn : n < 2 ^ 62) (hb : b = false)
    (hk : k.k (.tuple [.int .i64 ((tab f n).foldl min x), .int .i64 ((tab f n).foldl max x)]) σ) : @PcI prog O b 60 [.int .i64 x, .slice (some (i, 0)) n (.op 1)] σ k := by
  subst hb
  have hw : Whole 0 1 (AV.int .i64) σ (.slice (some (i, 0)) n (.op 1)) (tab f n) := ⟨i, .op 1, by rw [tab_len], Nat.zero_le _, by rw [hi, lst_tab], .inl rfl⟩
  exact pc_scal (.cons (Snap.int σ _ _) (.cons (hw.view.snap encI flatI) .nil)) (fun h => by simp at h) (by simp) (oo (args := []) (by decide)).1 (ends2_ok false (tab f n) x (by rw [tab_len]; exact hn)) rfl hk
end Go.Oct.Cry
