/- What Rate answers, and the specification's. -/
import Derived.Test.YtddkghgfbhhcdaaOCryRat
set_option maxRecDepth 100000
set_option maxHeartbeats 1000000
set_option linter.unusedVariables false
set_option linter.unusedSimpArgs false
namespace Go.Oct.Cry
open Go.Oct
theorem fz_iface (k : Nat) (c : Nat → Option (List AV)) (t : Nat) (v : AV) : fzV (k + 1) c (.iface t v) = .iface t (fzV k c v) := (rfl)
theorem fz_func (k : Nat) (c : Nat → Option (List AV)) (f : Nat) (xs ys : List AV) : fzV (k + 1) c (.func (.func f) xs ys) = .func (.func f) (xs.map (fzV k c)) (ys.map (fzV k c)) := (rfl)
theorem fz_ptr (k : Nat) (c : Nat → Option (List AV)) (i o : Nat) : fzV (k + 1) c (.ptr (some (i, o))) = (match c i with | some cs => .vptr (cs.map fun x => (fzV k c x).na) o | none => .undef) := (rfl)
open Classical in
noncomputable def kOf (T : List Int) (t : Int) : Nat := if h : ∃ k, At T t k then h.choose else 0
theorem kOf_at {T : List Int} (h : okT T) {t : Int} (h1 : nth T 0 ≤ t) (h2 : t ≤ nth T (T.length - 1)) : At T t (kOf T t) := by
  unfold kOf
  have hx := at_ex h h1 h2
  rw [dif_pos hx]
  exact hx.choose_spec
noncomputable def rt (T : List Int) (r : Nat → Int) (t : Int) : Int := rv T r t (kOf T t)
theorem rv_bd {T : List Int} (hs : okT T) {r : Nat → Int} {t : Int} {k : Nat} (hk : At T t k) (hr : ∀ i, i < T.length → -100000 ≤ r i ∧ r i ≤ 100000) : -100000 ≤ rv T r t k ∧ rv T r t k ≤ 100000 := by
  have h1 := hk.lt
  have h2 := hk.le
  unfold rv
  by_cases e : nth T k = t
  · rw [if_pos e]; exact hr k h1
  · rw [if_neg e]
    obtain ⟨h3, h4⟩ := hk.up.resolve_left e
    have r1 := hr k h1
    have r2 := hr (k + 1) h3
    have e1 := Int.mul_le_mul_of_nonneg_right r1.1 (show 0 ≤ nth T (k + 1) - nth T k - (t - nth T k) by omega)
    have e2 := Int.mul_le_mul_of_nonneg_right r1.2 (show 0 ≤ nth T (k + 1) - nth T k - (t - nth T k) by omega)
    have e3 := Int.mul_le_mul_of_nonneg_right r2.1 (show 0 ≤ t - nth T k by omega)
    have e4 := Int.mul_le_mul_of_nonneg_right r2.2 (show 0 ≤ t - nth T k by omega)
    constructor
    · apply Int.le_ediv_of_mul_le (by omega)
      rw [Int.neg_mul]
      rw [Int.neg_mul] at e1 e3
      omega
    · apply Int.le_of_lt_add_one
      apply Int.ediv_lt_of_lt_mul (by omega)
      rw [Int.add_mul]
      omega
theorem rt_bd {T : List Int} (hs : okT T) {r : Nat → Int} {t : Int} (h1 : nth T 0 ≤ t) (h2 : t ≤ nth T (T.length - 1)) (hr : ∀ i, i < T.length → -100000 ≤ r i ∧ r i ≤ 100000) : -100000 ≤ rt T r t ∧ rt T r t ≤ 100000 := rv_bd hs (kOf_at hs h1 h2) hr
@[simp] theorem temps_ok (nT nR : Bool) (T : List Int) (R : List Span) (a e : Span) (h : 1 ≤ T.length) (h2 : T.length ≤ 8) : ans prog O 112 [eClk nT nR T R a e] = some (.agg [.int .i64 (nth T 0), .int .i64 (nth T (T.length - 1))]) := by
  refine fn_of' pl get112 (oo (by decide)) rfl rfl ?_
  simp +contextual (disch := omega) []
  omega
theorem low1_ok (nT nR : Bool) (T : List Int) (R : List Span) (a e : Span) (i : Nat) (h : i < R.length) :
    ans prog O 113 [.int .i64 i, .vptr [vs nT T, vl eSpan nR R, .int .i64 a.lo, .int .i64 a.hi, .int .i64 e.lo, .int .i64 e.hi] 0] = some (.int .i64 (nth R i).lo) := by
  refine fn_of' pl get113 (oo (by decide)) rfl rfl ?_
  simp +contextual (disch := omega) [h]
theorem high1_ok (nT nR : Bool) (T : List Int) (R : List Span) (a e : Span) (i : Nat) (h : i < R.length) :
    ans prog O 114 [.int .i64 i, .vptr [vs nT T, vl eSpan nR R, .int .i64 a.lo, .int .i64 a.hi, .int .i64 e.lo, .int .i64 e.hi] 0] = some (.int .i64 (nth R i).hi) := by
  refine fn_of' pl get114 (oo (by decide)) rfl rfl ?_
  simp +contextual (disch := omega) [h]
@[simp] theorem low_ok (nT nR : Bool) (T : List Int) (R : List Span) (a e : Span) :
    ans prog O 57 [eClk nT nR T R a e] = some (.iface 145 (.agg [vs nT T, .func (.func 113) [] [.vptr [vs nT T, vl eSpan nR R, .int .i64 a.lo, .int .i64 a.hi, .int .i64 e.lo, .int .i64 e.hi] 0]])) := by
  refine fn_of' pl get57 (oo (by decide)) rfl rfl ?_
  simp +contextual (disch := omega) []
  simp [fz_iface, fz_func, fz_ptr]
@[simp] theorem high_ok (nT nR : Bool) (T : List Int) (R : List Span) (a e : Span) :
    ans prog O 58 [eClk nT nR T R a e] = some (.iface 145 (.agg [vs nT T, .func (.func 114) [] [.vptr [vs nT T, vl eSpan nR R, .int .i64 a.lo, .int .i64 a.hi, .int .i64 e.lo, .int .i64 e.hi] 0]])) := by
  refine fn_of' pl get58 (oo (by decide)) rfl rfl ?_
  simp +contextual (disch := omega) []
  simp [fz_iface, fz_func, fz_ptr]
def inR (T : List Int) (t d : Int) : Prop := (nth T 0 ≤ t ∧ t ≤ nth T (T.length - 1)) ∧ 0 ≤ d ∧ d ≤ 59
instance (T : List Int) (t d : Int) : Decidable (inR T t d) := by unfold inR; infer_instance
theorem rows_bd {T : List Int} {R : List Span} {a e : Span} (h : okClk T R a e) : ∀ i, i < T.length → (-100000 ≤ (nth R i).lo ∧ (nth R i).lo ≤ 100000) ∧ (-100000 ≤ (nth R i).hi ∧ (nth R i).hi ≤ 100000) := fun i hi => by
  have := (h.2 i hi).2.2
  unfold isIn at this
  omega
theorem rlow_ok {nT nR : Bool} {T : List Int} {R : List Span} {a e : Span} (h : okClk T R a e) {t : Int} (h1 : nth T 0 ≤ t) (h2 : t ≤ nth T (T.length - 1)) :
    ans prog O 172 [.agg [vs nT T, .func (.func 113) [] [.vptr [vs nT T, vl eSpan nR R, .int .i64 a.lo, .int .i64 a.hi, .int .i64 e.lo, .int .i64 e.hi] 0]], .int .i64 t] = some (.int .i64 (rt T (fun i => (nth R i).lo) t)) :=
  rate_ok nT T _ _ _ t _ (okT_of h) (kOf_at (okT_of h) h1 h2) (by decide) (by simp) (by simp) (fun i hi => (rows_bd h i hi).1) (fun i hi => low1_ok nT nR T R a e i (by have := h.1.2.1; omega))
theorem rhigh_ok {nT nR : Bool} {T : List Int} {R : List Span} {a e : Span} (h : okClk T R a e) {t : Int} (h1 : nth T 0 ≤ t) (h2 : t ≤ nth T (T.length - 1)) :
    ans prog O 172 [.agg [vs nT T, .func (.func 114) [] [.vptr [vs nT T, vl eSpan nR R, .int .i64 a.lo, .int .i64 a.hi, .int .i64 e.lo, .int .i64 e.hi] 0]], .int .i64 t] = some (.int .i64 (rt T (fun i => (nth R i).hi) t)) :=
  rate_ok nT T _ _ _ t _ (okT_of h) (kOf_at (okT_of h) h1 h2) (by decide) (by simp) (by simp) (fun i hi => (rows_bd h i hi).2) (fun i hi => high1_ok nT nR T R a e i (by have := h.1.2.1; omega))
noncomputable def rateS (T : List Int) (R : List Span) (a : Span) (t d : Int) : Span := ⟨rt T (fun i => (nth R i).lo) t + a.lo * d, rt T (fun i => (nth R i).hi) t + a.hi * d⟩
end Go.Oct.Cry
