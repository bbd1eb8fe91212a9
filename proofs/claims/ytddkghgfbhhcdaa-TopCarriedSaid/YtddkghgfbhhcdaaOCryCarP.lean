/- Clocks that are carried: what is asked of them; two lists without touching spans that have the same numbers are the same. -/
import Derived.Test.YtddkghgfbhhcdaaOCrySrtW
import Derived.Test.YtddkghgfbhhcdaaOCryTab
set_option maxRecDepth 100000
set_option maxHeartbeats 8000000
set_option linter.unusedVariables false
set_option linter.unusedSimpArgs false
namespace Go.Oct.Cry.Fx
open Go.Oct
/-- What a clock shows, and between what its error lies. -/
structure Car where
  sh : Int
  lo : Int
  hi : Int
  deriving Inhabited
def eCar (x : Car) : AV := .agg [.int .i64 x.sh, .int .i64 x.lo, .int .i64 x.hi]
theorem encCar : Enc eCar 3 := ⟨fun _ => rfl, fun _ => rfl, fun _ => rfl, by decide⟩
def okCar (x : Car) : Prop := (0 ≤ x.sh ∧ x.sh ≤ 100000) ∧ -100000 ≤ x.lo ∧ x.lo ≤ x.hi ∧ x.hi ≤ 100000
instance (x : Car) : Decidable (okCar x) := by unfold okCar; infer_instance
@[simp] theorem aidx_car {nl : Bool} {xs : List Car} (q : IntKind) (i : Int) : aidx 3 (vl eCar nl xs) (.int q i) = if 0 ≤ i ∧ i < (xs.length : Int) then some (.vptr [.int .i64 (nth xs i.toNat).sh, .int .i64 (nth xs i.toNat).lo, .int .i64 (nth xs i.toNat).hi] 0) else none :=
  aidx_vl (e := eCar) (fun _ => rfl) q i
theorem IndexFuncC_ok (nl : Bool) (xs : List Car) (hx : xs.length < 2 ^ 62) (g : Nat) (cs ds : List AV) (hg : pl.contains g = false) (hc : cs.all (closed 7) = true) (hd : ds.all (closed 7) = true) (hc8 : cs.all (closed 8) = true) (hd8 : ds.all (closed 8) = true) (P : Car → Bool)
    (h : ∀ j, j < xs.length → ans prog O g (cs ++ eCar (nth xs j) :: ds) = some (.bool (P (nth xs j)))) :
    ∃ n : Int, ans prog O 116 [vl eCar nl xs, .func (.func g) cs ds] = some (.int .i64 n) ∧ (0 ≤ n ↔ ∃ j, j < xs.length ∧ P (nth xs j) = true) ∧ -1 ≤ n := by
  have key : ∀ n : Int, (n = -1 ∧ (∀ j, j < xs.length → P (nth xs j) = false) ∨ (∃ i, n = (i : Nat) ∧ i < xs.length ∧ P (nth xs i) = true ∧ ∀ j, j < i → P (nth xs j) = false)) →
      ans prog O 116 [vl eCar nl xs, .func (.func g) cs ds] = some (.int .i64 n) := by
    intro n hn
    refine fn_of' pl get116 (oo (by decide)) (by simp [hc, hd]) rfl ?_
    simp +contextual (disch := omega) []
    refine lp_count pl xs.length (fun j => [(0, vl eCar nl xs), (1, .func (.func g) cs ds), (7, .int .i64 xs.length), (8, .int .i64 j)]) (fun _ => ⟨0, 0, .leaf⟩) (fun j => ∀ i, i < j → P (nth xs i) = false) (by simp) ?_
    intro j hj hi
    have hg' := hg
    simp at hg'
    simp only [eCar] at h
    simp +contextual (disch := omega) [Und, hg', hc8, hd8, h]
    refine ⟨fun hjl => ⟨fun hp => ?_, fun hp i h1 => ?_⟩, fun hjl => ?_⟩
    · rcases hn with ⟨_, h2⟩ | ⟨i, h1, h2, h3, h4⟩
      · rw [h2 j hjl] at hp; cases hp
      · have : i = j := by
          rcases Nat.lt_trichotomy i j with h5 | h5 | h5
          · rw [hi i h5] at h3; cases h3
          · exact h5
          · rw [h4 j h5] at hp; cases hp
        omega
    · by_cases e : i = j
      · rw [e]; exact hp
      · exact hi i (by omega)
    · rcases hn with ⟨h1, _⟩ | ⟨i, h1, h2, h3, h4⟩
      · omega
      · rw [hi i (by omega)] at h3; cases h3
  by_cases hex : ∃ j, j < xs.length ∧ P (nth xs j) = true
  · have hmin : ∀ m j, j ≤ m → j < xs.length → P (nth xs j) = true → ∃ i, i < xs.length ∧ P (nth xs i) = true ∧ ∀ j, j < i → P (nth xs j) = false := by
      intro m
      induction m with
      | zero => intro j h1 h2 h3; exact ⟨j, h2, h3, fun i hi => by omega⟩
      | succ m ih =>
        intro j h1 h2 h3
        by_cases hb : ∃ i, i < j ∧ P (nth xs i) = true
        · obtain ⟨i, h4, h5⟩ := hb
          exact ih i (by omega) (by omega) h5
        · refine ⟨j, h2, h3, fun i hi => ?_⟩
          cases hq : P (nth xs i) with
          | false => rfl
          | true => exact absurd ⟨i, hi, hq⟩ hb
    obtain ⟨j, h1, h2⟩ := hex
    obtain ⟨i, h3, h4, h5⟩ := hmin j j (Nat.le_refl _) h1 h2
    exact ⟨i, key _ (.inr ⟨i, rfl, h3, h4, h5⟩), ⟨fun _ => ⟨j, h1, h2⟩, fun _ => by omega⟩, by omega⟩
  · refine ⟨-1, key _ (.inl ⟨rfl, fun j hj => ?_⟩), ⟨fun h => by omega, fun h => absurd h hex⟩, by omega⟩
    cases hq : P (nth xs j) with
    | false => rfl
    | true => exact absurd ⟨j, hj, hq⟩ hex
theorem ContainsFuncC_ok (nl : Bool) (xs : List Car) (hx : xs.length < 2 ^ 62) (g : Nat) (cs ds : List AV) (hg : pl.contains g = false) (hc : cs.all (closed 7) = true) (hd : ds.all (closed 7) = true) (hc8 : cs.all (closed 8) = true) (hd8 : ds.all (closed 8) = true) (P : Car → Bool)
    (h : ∀ j, j < xs.length → ans prog O g (cs ++ eCar (nth xs j) :: ds) = some (.bool (P (nth xs j)))) :
    ans prog O 65 [vl eCar nl xs, .func (.func g) cs ds] = some (.bool (decide (∃ j, j < xs.length ∧ P (nth xs j) = true))) := by
  obtain ⟨n, h1, h2, h3⟩ := IndexFuncC_ok nl xs hx g cs ds hg hc hd hc8 hd8 P h
  refine fn_of' pl get65 (oo (by decide)) (by simp [hc, hd]) rfl ?_
  simp +contextual (disch := omega) [h1, hc, hd, h2]
theorem Lon1_ok (x : Car) : ans prog O 66 [eCar x] = some (.bool (!decide (okCar x))) := by
  refine fn_of' pl get66 (oo (by decide)) rfl rfl ?_
  have hsp : ans prog O 63 [.agg [.int .i64 x.lo, .int .i64 x.hi], .int .i64 (-100000), .int .i64 100000] = some (.bool (decide (isSp ⟨x.lo, x.hi⟩ (-100000) 100000))) := spanned_ok ⟨x.lo, x.hi⟩ _ _
  by_cases h1 : 0 ≤ x.sh ∧ x.sh ≤ 100000
  · by_cases h2 : isSp ⟨x.lo, x.hi⟩ (-100000) 100000
    · have h : okCar x := ⟨h1, h2⟩
      rw [decide_eq_true h2] at hsp
      simp (disch := omega) [eCar, eq_true h1, hsp, h, Und, -Bool.exists_bool]
    · have h : ¬ okCar x := fun h => h2 h.2
      rw [decide_eq_false h2] at hsp
      simp (disch := omega) [eCar, eq_true h1, hsp, h, Und, -Bool.exists_bool]
  · have h : ¬ okCar x := fun h => h1 h.1
    simp (disch := omega) [eCar, eq_false h1, h, Und, -Bool.exists_bool]
/-- The longitudes by a clock alone. -/
def win (T : Span) (x : Car) : Span := ⟨T.lo - x.sh + x.lo, T.hi - x.sh + x.hi⟩
def inW (T : Span) (x : Car) (n : Int) : Prop := (win T x).lo ≤ n ∧ n ≤ (win T x).hi
instance (T : Span) (x : Car) (n : Int) : Decidable (inW T x n) := by unfold inW; infer_instance
def okT (T : Span) : Prop := 0 ≤ T.lo ∧ T.lo ≤ T.hi ∧ T.hi ≤ 100000
theorem Lon2_ok (T : Span) (x : Car) (hT : okT T) (hx : okCar x) : ans prog O 67 [eCar x, .vptr [.int .i64 T.lo, .int .i64 T.hi] 0] = some (eSpan (win T x)) := by
  unfold okT at hT
  unfold okCar at hx
  refine fn_of' pl get67 (oo (by decide)) rfl rfl ?_
  simp (disch := omega) [eCar, win, Und, -Bool.exists_bool]
  rfl
theorem SortFunc_call {σ : AH} {o n : Nat} {xs : List Span} (hl : σ.lim ≤ o) (hg : σ.get o = some (.cells (rowOf eSpan xs))) (hn : xs.length = n) (hn1 : 1 ≤ n) (hn2 : n ≤ 12) (hbd : ∀ x ∈ xs, bd x) {K : AV → AH → Prop}
    (hK : ∀ ys σ', Lay o σ σ' ys → ys.Perm xs → srt 0 n ys → K (.tuple []) σ') :
    Call prog O (.fn 68) [.slice (some (o, 0)) n (.op 2), cmpF] σ K := by
  refine @call_of' _ _ pl _ _ _ _ _ _ _ ⟨K⟩ get68 ((oo (by decide)).2 _) rfl ?_
  obtain ⟨l, h1, h2, _⟩ := Len_v n hn1 (by omega)
  simp (disch := omega) [h1, aconv_u64', -Bool.exists_bool]
  refine pdq_small hl hg hn hn2 hbd fun ys σ' g1 g2 g3 => ?_
  simp (disch := omega) [-Bool.exists_bool]
  exact hK ys σ' g1 g2.perm g3
/-! ### Lists of spans that do not touch -/
def inL (L : List Span) (n : Int) : Prop := ∃ s ∈ L, s.lo ≤ n ∧ n ≤ s.hi
structure Canon (L : List Span) : Prop where
  gap : L.Pairwise fun a b => a.hi + 1 < b.lo
  ne : ∀ s ∈ L, s.lo ≤ s.hi
theorem Canon.tail {s : Span} {L : List Span} (h : Canon (s :: L)) : Canon L := ⟨(List.pairwise_cons.1 h.gap).2, fun x hx => h.ne x (List.mem_cons_of_mem _ hx)⟩
theorem Canon.above {s : Span} {L : List Span} (h : Canon (s :: L)) {n : Int} (hn : inL L n) : s.hi + 1 < n := by
  obtain ⟨x, h1, h2, _⟩ := hn
  have := (List.pairwise_cons.1 h.gap).1 x h1
  omega
end Go.Oct.Cry.Fx
