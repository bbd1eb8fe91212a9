/- Logs: steps, their checks, and what holds at a point; the cells of a sea. -/
import Derived.Test.YtddkghgfbhhcdaaDoorOWreSeaT
import Derived.Test.YtddkghgfbhhcdaaDoorOT4
set_option maxRecDepth 100000
set_option maxHeartbeats 4000000
set_option linter.unusedVariables false
set_option linter.unusedSimpArgs false
namespace Go.Oct.Wre.Fx
open Go.Oct
theorem eqf1 {a b : Nat} (h : a < b) : (a = b) = False := by simp; omega
theorem eqf2 {a b : Nat} (h : b < a) : (a = b) = False := by simp; omega
def eStp (s : Stp) : AV := .agg [.int .i64 s.k, .int .i64 s.a, .int .i64 s.b, .int .i64 s.vlo, .int .i64 s.vhi, .int .i64 s.elo, .int .i64 s.ehi, .int .i64 s.nlo, .int .i64 s.nhi, vl eSpan s.cn s.cl]
theorem encStp : Enc eStp 10 := ⟨fun _ => rfl, fun _ => rfl, fun _ => rfl, by decide⟩
@[simp] theorem cells_eStp (s : Stp) : (eStp s).cells = [.int .i64 s.k, .int .i64 s.a, .int .i64 s.b, .int .i64 s.vlo, .int .i64 s.vhi, .int .i64 s.elo, .int .i64 s.ehi, .int .i64 s.nlo, .int .i64 s.nhi, vl eSpan s.cn s.cl] := rfl
theorem flatStp : flatE eStp := fun x c hc k f => by
  simp only [cells_eStp, List.mem_cons, List.not_mem_nil, or_false] at hc
  rcases hc with rfl | rfl | rfl | rfl | rfl | rfl | rfl | rfl | rfl | rfl <;> exact ⟨rfl, rfl⟩
@[simp] theorem aidx_stp {nl : Bool} {xs : List Stp} (q : IntKind) (i : Int) : aidx 10 (vl eStp nl xs) (.int q i) = if 0 ≤ i ∧ i < (xs.length : Int) then some (.vptr [.int .i64 (nth xs i.toNat).k, .int .i64 (nth xs i.toNat).a, .int .i64 (nth xs i.toNat).b, .int .i64 (nth xs i.toNat).vlo, .int .i64 (nth xs i.toNat).vhi, .int .i64 (nth xs i.toNat).elo, .int .i64 (nth xs i.toNat).ehi, .int .i64 (nth xs i.toNat).nlo, .int .i64 (nth xs i.toNat).nhi, vl eSpan (nth xs i.toNat).cn (nth xs i.toNat).cl] 0) else none :=
  aidx_vl (e := eStp) (fun _ => rfl) q i
def seaC (f : Nat → Bool) : List AV := (List.range 3600).map fun n => AV.bool (f n)
theorem seaC_len (f : Nat → Bool) : (seaC f).length = 3600 := by unfold seaC; rw [List.length_map, List.length_range]
theorem seaC_get {f : Nat → Bool} {n : Nat} (h : n < 3600) : (seaC f)[n]? = some (.bool (f n)) := by
  unfold seaC
  rw [List.getElem?_map, List.getElem?_range h]; rfl
theorem seaC_set (f : Nat → Bool) (n : Nat) (b : Bool) : (seaC f).set n (.bool b) = seaC fun m => if m = n then b else f m := by
  unfold seaC
  apply List.ext_getElem?
  intro m
  rw [List.getElem?_set, List.getElem?_map, List.getElem?_map]
  by_cases h : m < 3600
  · rw [List.getElem?_range h]
    by_cases e : n = m
    · subst e; simp [h]
    · have : ¬ m = n := fun h => e h.symm
      simp [e, this]
  · rw [List.getElem?_eq_none (l := List.range 3600) (by rw [List.length_range]; omega)]
    by_cases e : n = m
    · subst e; simp [h]
    · simp [e]
theorem seaC_congr {f g : Nat → Bool} (h : ∀ n, n < 3600 → f n = g n) : seaC f = seaC g := by
  unfold seaC
  exact List.map_congr_left fun n hn => by rw [h n (List.mem_range.1 hn)]
@[simp ↓] theorem sea0 : List.replicate 3600 (AV.bool false) = seaC fun _ => false := by
  unfold seaC
  rw [List.map_const', List.length_range]
theorem eqCells_bools : ∀ (xs ys : List Bool), xs.length = ys.length → eqCells (List.replicate xs.length .bool) (xs.map AV.bool) (ys.map AV.bool) = some (decide (xs = ys))
  | [], [], _ => rfl
  | x :: xs, y :: ys, h => by
    have ih := eqCells_bools xs ys (by simpa using h)
    rw [List.length_cons, List.replicate_succ, List.map_cons, List.map_cons]
    simp only [eqCells, ih]
    cases x <;> cases y <;> simp
def sameSea (f g : Nat → Bool) : Bool := (List.range 3600).all fun n => f n == g n
theorem sameSea_iff {f g : Nat → Bool} : sameSea f g = true ↔ ∀ n, n < 3600 → f n = g n := by
  unfold sameSea
  rw [List.all_eq_true]
  constructor
  · intro h n hn; simpa using h n (List.mem_range.2 hn)
  · intro h n hn; simpa using h n (List.mem_range.1 hn)
theorem seaC_eq (f g : Nat → Bool) : eqCells (List.replicate 3600 .bool) (seaC f) (seaC g) = some (sameSea f g) := by
  have h := eqCells_bools ((List.range 3600).map f) ((List.range 3600).map g) (by rw [List.length_map, List.length_map])
  rw [List.length_map, List.length_range, List.map_map, List.map_map] at h
  unfold seaC
  have e : (AV.bool ∘ f) = fun n => AV.bool (f n) := rfl
  have e2 : (AV.bool ∘ g) = fun n => AV.bool (g n) := rfl
  rw [e, e2] at h
  rw [h]
  congr 1
  rw [Bool.eq_iff_iff, decide_eq_true_eq, sameSea_iff]
  constructor
  · intro h n hn
    have := congrArg (fun l => l[n]?) h
    simp only [List.getElem?_map, List.getElem?_range hn, Option.map_some, Option.some.injEq] at this
    exact this
  · intro h
    exact List.map_congr_left fun n hn => h n (List.mem_range.1 hn)
theorem IndexFuncS_ok (nl : Bool) (xs : List Span) (hx : xs.length < 2 ^ 62) (g : Nat) (cs ds : List AV) (hg : pl.contains g = false) (hc : cs.all (closed 7) = true) (hd : ds.all (closed 7) = true) (hc8 : cs.all (closed 8) = true) (hd8 : ds.all (closed 8) = true) (P : Span → Bool)
    (h : ∀ j, j < xs.length → ans prog O g (cs ++ eSpan (nth xs j) :: ds) = some (.bool (P (nth xs j)))) :
    ∃ n : Int, ans prog O 148 [vl eSpan nl xs, .func (.func g) cs ds] = some (.int .i64 n) ∧ (0 ≤ n ↔ ∃ j, j < xs.length ∧ P (nth xs j) = true) ∧ -1 ≤ n := by
  have key : ∀ n : Int, (n = -1 ∧ (∀ j, j < xs.length → P (nth xs j) = false) ∨ (∃ i, n = (i : Nat) ∧ i < xs.length ∧ P (nth xs i) = true ∧ ∀ j, j < i → P (nth xs j) = false)) →
      ans prog O 148 [vl eSpan nl xs, .func (.func g) cs ds] = some (.int .i64 n) := by
    intro n hn
    refine fn_of' pl get148 (oo (by decide)) (by simp [hc, hd]) rfl ?_
    simp +contextual (disch := omega) []
    refine lp_count pl xs.length (fun j => [(0, vl eSpan nl xs), (1, .func (.func g) cs ds), (7, .int .i64 xs.length), (8, .int .i64 j)]) (fun _ => ⟨0, 0, .leaf⟩) (fun j => ∀ i, i < j → P (nth xs i) = false) (by simp) ?_
    intro j hj hi
    have hg' := hg
    simp at hg'
    simp only [eSpan] at h
    simp +contextual (disch := omega) [Und, hg', hc8, hd8, h]
    refine ⟨fun hjl => ⟨fun hp => ?_, fun hp i h1 => ?_⟩, fun hjl => ?_⟩
    · rcases hn with ⟨_, h2⟩ | ⟨i, h1, h2, h3, h4⟩
      · rw [h2 j hjl] at hp; cases hp
      · have : i = j := by
          rcases Nat.lt_trichotomy i j with h5 | h5 | h5
          · rw [hi i h5] at h3; cases h3
          · exact h5
          · rw [h4 j h5] at hp; cases hp
        omega
    · by_cases e : i = j
      · rw [e]; exact hp
      · exact hi i (by omega)
    · rcases hn with ⟨h1, _⟩ | ⟨i, h1, h2, h3, h4⟩
      · omega
      · rw [hi i (by omega)] at h3; cases h3
  by_cases hex : ∃ j, j < xs.length ∧ P (nth xs j) = true
  · have hmin : ∀ m j, j ≤ m → j < xs.length → P (nth xs j) = true → ∃ i, i < xs.length ∧ P (nth xs i) = true ∧ ∀ j, j < i → P (nth xs j) = false := by
      intro m
      induction m with
      | zero => intro j h1 h2 h3; exact ⟨j, h2, h3, fun i hi => by omega⟩
      | succ m ih =>
        intro j h1 h2 h3
        by_cases hb : ∃ i, i < j ∧ P (nth xs i) = true
        · obtain ⟨i, h4, h5⟩ := hb
          exact ih i (by omega) (by omega) h5
        · refine ⟨j, h2, h3, fun i hi => ?_⟩
          cases hq : P (nth xs i) with
          | false => rfl
          | true => exact absurd ⟨i, hi, hq⟩ hb
    obtain ⟨j, h1, h2⟩ := hex
    obtain ⟨i, h3, h4, h5⟩ := hmin j j (Nat.le_refl _) h1 h2
    exact ⟨i, key _ (.inr ⟨i, rfl, h3, h4, h5⟩), ⟨fun _ => ⟨j, h1, h2⟩, fun _ => by omega⟩, by omega⟩
  · refine ⟨-1, key _ (.inl ⟨rfl, fun j hj => ?_⟩), ⟨fun h => by omega, fun h => absurd h hex⟩, by omega⟩
    cases hq : P (nth xs j) with
    | false => rfl
    | true => exact absurd ⟨j, hj, hq⟩ hex
theorem ContainsFuncS_ok (nl : Bool) (xs : List Span) (hx : xs.length < 2 ^ 62) (g : Nat) (cs ds : List AV) (hg : pl.contains g = false) (hc : cs.all (closed 7) = true) (hd : ds.all (closed 7) = true) (hc8 : cs.all (closed 8) = true) (hd8 : ds.all (closed 8) = true) (P : Span → Bool)
    (h : ∀ j, j < xs.length → ans prog O g (cs ++ eSpan (nth xs j) :: ds) = some (.bool (P (nth xs j)))) :
    ans prog O 135 [vl eSpan nl xs, .func (.func g) cs ds] = some (.bool (decide (∃ j, j < xs.length ∧ P (nth xs j) = true))) := by
  obtain ⟨n, h1, h2, h3⟩ := IndexFuncS_ok nl xs hx g cs ds hg hc hd hc8 hd8 P h
  refine fn_of' pl get135 (oo (by decide)) (by simp [hc, hd]) rfl ?_
  simp +contextual (disch := omega) [h1, hc, hd, h2]
theorem IndexFuncF_ok (nl : Bool) (xs : List Stp) (hx : xs.length < 2 ^ 62) (g : Nat) (cs ds : List AV) (hg : pl.contains g = false) (hc : cs.all (closed 7) = true) (hd : ds.all (closed 7) = true) (hc8 : cs.all (closed 8) = true) (hd8 : ds.all (closed 8) = true) (P : Stp → Bool)
    (h : ∀ j, j < xs.length → ans prog O g (cs ++ eStp (nth xs j) :: ds) = some (.bool (P (nth xs j)))) :
    ∃ n : Int, ans prog O 133 [vl eStp nl xs, .func (.func g) cs ds] = some (.int .i64 n) ∧ (0 ≤ n ↔ ∃ j, j < xs.length ∧ P (nth xs j) = true) ∧ -1 ≤ n := by
  have key : ∀ n : Int, (n = -1 ∧ (∀ j, j < xs.length → P (nth xs j) = false) ∨ (∃ i, n = (i : Nat) ∧ i < xs.length ∧ P (nth xs i) = true ∧ ∀ j, j < i → P (nth xs j) = false)) →
      ans prog O 133 [vl eStp nl xs, .func (.func g) cs ds] = some (.int .i64 n) := by
    intro n hn
    refine fn_of' pl get133 (oo (by decide)) (by simp [hc, hd]) rfl ?_
    simp +contextual (disch := omega) []
    refine lp_count pl xs.length (fun j => [(0, vl eStp nl xs), (1, .func (.func g) cs ds), (7, .int .i64 xs.length), (8, .int .i64 j)]) (fun _ => ⟨0, 0, .leaf⟩) (fun j => ∀ i, i < j → P (nth xs i) = false) (by simp) ?_
    intro j hj hi
    have hg' := hg
    simp at hg'
    simp only [eStp] at h
    simp +contextual (disch := omega) [Und, hg', hc8, hd8, h]
    refine ⟨fun hjl => ⟨fun hp => ?_, fun hp i h1 => ?_⟩, fun hjl => ?_⟩
    · rcases hn with ⟨_, h2⟩ | ⟨i, h1, h2, h3, h4⟩
      · rw [h2 j hjl] at hp; cases hp
      · have : i = j := by
          rcases Nat.lt_trichotomy i j with h5 | h5 | h5
          · rw [hi i h5] at h3; cases h3
          · exact h5
          · rw [h4 j h5] at hp; cases hp
        omega
    · by_cases e : i = j
      · rw [e]; exact hp
      · exact hi i (by omega)
    · rcases hn with ⟨h1, _⟩ | ⟨i, h1, h2, h3, h4⟩
      · omega
      · rw [hi i (by omega)] at h3; cases h3
  by_cases hex : ∃ j, j < xs.length ∧ P (nth xs j) = true
  · have hmin : ∀ m j, j ≤ m → j < xs.length → P (nth xs j) = true → ∃ i, i < xs.length ∧ P (nth xs i) = true ∧ ∀ j, j < i → P (nth xs j) = false := by
      intro m
      induction m with
      | zero => intro j h1 h2 h3; exact ⟨j, h2, h3, fun i hi => by omega⟩
      | succ m ih =>
        intro j h1 h2 h3
        by_cases hb : ∃ i, i < j ∧ P (nth xs i) = true
        · obtain ⟨i, h4, h5⟩ := hb
          exact ih i (by omega) (by omega) h5
        · refine ⟨j, h2, h3, fun i hi => ?_⟩
          cases hq : P (nth xs i) with
          | false => rfl
          | true => exact absurd ⟨i, hi, hq⟩ hb
    obtain ⟨j, h1, h2⟩ := hex
    obtain ⟨i, h3, h4, h5⟩ := hmin j j (Nat.le_refl _) h1 h2
    exact ⟨i, key _ (.inr ⟨i, rfl, h3, h4, h5⟩), ⟨fun _ => ⟨j, h1, h2⟩, fun _ => by omega⟩, by omega⟩
  · refine ⟨-1, key _ (.inl ⟨rfl, fun j hj => ?_⟩), ⟨fun h => by omega, fun h => absurd h hex⟩, by omega⟩
    cases hq : P (nth xs j) with
    | false => rfl
    | true => exact absurd ⟨j, hj, hq⟩ hex
theorem ContainsFuncF_ok (nl : Bool) (xs : List Stp) (hx : xs.length < 2 ^ 62) (g : Nat) (cs ds : List AV) (hg : pl.contains g = false) (hc : cs.all (closed 7) = true) (hd : ds.all (closed 7) = true) (hc8 : cs.all (closed 8) = true) (hd8 : ds.all (closed 8) = true) (P : Stp → Bool)
    (h : ∀ j, j < xs.length → ans prog O g (cs ++ eStp (nth xs j) :: ds) = some (.bool (P (nth xs j)))) :
    ans prog O 108 [vl eStp nl xs, .func (.func g) cs ds] = some (.bool (decide (∃ j, j < xs.length ∧ P (nth xs j) = true))) := by
  obtain ⟨n, h1, h2, h3⟩ := IndexFuncF_ok nl xs hx g cs ds hg hc hd hc8 hd8 P h
  refine fn_of' pl get108 (oo (by decide)) (by simp [hc, hd]) rfl ?_
  simp +contextual (disch := omega) [h1, hc, hd, h2]
theorem inside_ok (lo hi n : Int) : ans prog O 175 [.agg [.int .i64 lo, .int .i64 hi], .int .i64 n] = some (.bool (inI lo hi n)) := by
  refine fn_of' pl get175 (oo (by decide)) rfl rfl ?_
  simp (disch := omega) [inI, -Bool.exists_bool]
def okLine (a b : Int) : Prop := (-20 ≤ a ∧ a ≤ 20) ∧ (-20 ≤ b ∧ b ≤ 20) ∧ (a ≠ 0 ∨ b ≠ 0)
instance (a b : Int) : Decidable (okLine a b) := by unfold okLine; infer_instance
theorem isLine_ok (a b : Int) : ans prog O 134 [.int .i64 a, .int .i64 b] = some (.bool (decide (okLine a b))) := by
  refine fn_of' pl get134 (oo (by decide)) rfl rfl ?_
  by_cases h1 : -20 ≤ a ∧ a ≤ 20
  · by_cases h2 : -20 ≤ b ∧ b ≤ 20
    · by_cases h3 : a = 0
      · by_cases h4 : b = 0
        · have hno : ¬ okLine a b := fun h => by have := h.2.2; omega
          simp (disch := omega) [eq_true h1, eq_true h2, eq_true h3, eq_true h4, hno, Und, -Bool.exists_bool]
        · have hy : okLine a b := ⟨h1, h2, .inr h4⟩
          simp (disch := omega) [eq_true h1, eq_true h2, eq_true h3, h4, hy, Und, -Bool.exists_bool]
      · have hy : okLine a b := ⟨h1, h2, .inl h3⟩
        simp (disch := omega) [eq_true h1, eq_true h2, h3, hy, Und, -Bool.exists_bool]
    · have hno : ¬ okLine a b := fun h => h2 h.2.1
      simp (disch := omega) [eq_true h1, eq_false h2, hno, Und, -Bool.exists_bool]
  · have hno : ¬ okLine a b := fun h => h1 h.1
    simp (disch := omega) [eq_false h1, hno, Und, -Bool.exists_bool]
end Go.Oct.Wre.Fx
