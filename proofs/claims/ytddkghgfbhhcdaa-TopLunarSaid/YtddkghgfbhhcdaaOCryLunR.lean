/- A sextant that trials made better: no span is wider. -/
import Derived.Test.YtddkghgfbhhcdaaOCryTraT
set_option maxRecDepth 100000
set_option maxHeartbeats 4000000
set_option linter.unusedVariables false
set_option linter.unusedSimpArgs false
namespace Go.Oct.Cry.Sx
open Go.Oct
theorem Read_good (nT nS : Bool) (s : Sext) (n sh : Int) (hT : s.tab.length < 2 ^ 62) (hS : s.sh.length < 2 ^ 62) (hs : okS s) (hr : isRd s n sh) : ans prog O 14 [eSx nT nS s, .agg [.int .i64 n, .int .i64 sh]] = some (.tuple [.agg [.int .i64 (readV s nT n sh).lo, .int .i64 (readV s nT n sh).hi], .int .i64 0]) := by
  have hck := Check_ok nT nS s hT hS
  rw [if_pos hs] at hck
  have hi := isReading_ok nT nS s n sh hs
  rw [decide_eq_true hr] at hi
  have ht := truth_ok nT nS s n sh hs hr
  refine fn_of' pl get14 (oo (by decide)) rfl rfl ?_
  simp (disch := omega) [Und, hck, hi, ht, eSpan, -Bool.exists_bool, -Check_ok]
theorem totS_rel {l l' : List Span} (hl : l'.length = l.length) (h : ∀ j, j < l.length → (nth l j).lo ≤ (nth l' j).lo ∧ (nth l' j).hi ≤ (nth l j).hi) : ∀ j, j ≤ l.length → (totS l j).lo ≤ (totS l' j).lo ∧ (totS l' j).hi ≤ (totS l j).hi
  | 0, _ => by simp [totS]
  | j + 1, hj => by
    have h1 := totS_rel hl h j (by omega)
    have h2 := h j (by omega)
    simp only [totS]
    omega
theorem totS_le {l : List Span} (h : ∀ j, j < l.length → (nth l j).lo ≤ (nth l j).hi) : ∀ j, j ≤ l.length → (totS l j).lo ≤ (totS l j).hi
  | 0, _ => by simp [totS]
  | j + 1, hj => by
    have h1 := totS_le h j (by omega)
    have h2 := h j (by omega)
    simp only [totS]
    omega
theorem mean_mono {x y x' y' d st : Int} (hst : 1 ≤ st) (hd : 0 ≤ d ∧ d < st) (hx : x ≤ x') (hy : y ≤ y') : (x * (st - d) + y * d) / st ≤ (x' * (st - d) + y' * d) / st := by
  have e1 := Int.mul_le_mul_of_nonneg_right hx (show 0 ≤ st - d by omega)
  have e2 := Int.mul_le_mul_of_nonneg_right hy hd.1
  exact Int.ediv_le_ediv (by omega) (by omega)
/-- The sextant with what trials told. -/
abbrev bet (s : Sext) (L : List Span) (a b : Int) : Sext := ⟨s.step, a, b, s.w, L, s.sh⟩
theorem bet_ok {s : Sext} (hs : okS s) {L : List Span} {a b : Int} (hL : okL s L) (h1 : s.il ≤ a) (h2 : a ≤ b) (h3 : b ≤ s.ih) : okS (bet s L a b) := by
  have e := hL.1
  have hi := hs.idx
  refine ⟨hs.step, by show 2 ≤ L.length ∧ L.length ≤ 12; rw [e]; exact hs.len, fun j hj => ?_, by show s.step * ((L.length : Int) - 1) ≤ 504000; rw [e]; exact hs.long, ⟨by show -1800 ≤ a; omega, h2, by show b ≤ 1800; omega⟩, hs.wrong, hs.shl, hs.sh⟩
  have hj : j < L.length := hj
  have := hL.2 j hj
  have h4 := hs.tab j (by omega)
  unfold inM at h4
  show inM 600 (nth L j)
  unfold inM
  omega
theorem tab_rel {s : Sext} (hs : okS s) {L : List Span} (hL : okL s L) {n : Int} (h0 : 0 ≤ n) (h1 : n ≤ s.step * ((s.tab.length : Int) - 1)) : (tabV s.step s.tab n).lo ≤ (tabV s.step L n).lo ∧ (tabV s.step L n).hi ≤ (tabV s.step s.tab n).hi := by
  obtain ⟨⟨r1, r2⟩, ⟨r3, r4⟩, r5⟩ := row_of hs.step.1 h0 h1
  have hl := hL.1
  have a1 := hL.2 (n / s.step).toNat (by omega)
  unfold tabV
  by_cases hz : n % s.step = 0
  · rw [if_pos hz, if_pos hz]; omega
  · have r6 := r5 hz
    have a2 := hL.2 ((n / s.step).toNat + 1) (by omega)
    rw [if_neg hz, if_neg hz]
    exact ⟨mean_mono hs.step.1 ⟨r3, r4⟩ a1.1 a2.1, mean_mono hs.step.1 ⟨r3, r4⟩ a1.2.2 a2.2.2⟩
theorem tab_le {s : Sext} (hs : okS s) {n : Int} (h0 : 0 ≤ n) (h1 : n ≤ s.step * ((s.tab.length : Int) - 1)) : (tabV s.step s.tab n).lo ≤ (tabV s.step s.tab n).hi := by
  obtain ⟨⟨r1, r2⟩, ⟨r3, r4⟩, r5⟩ := row_of hs.step.1 h0 h1
  have a1 := hs.tab (n / s.step).toNat (by omega)
  unfold inM at a1
  unfold tabV
  by_cases hz : n % s.step = 0
  · rw [if_pos hz]; omega
  · have r6 := r5 hz
    have a2 := hs.tab ((n / s.step).toNat + 1) (by omega)
    unfold inM at a2
    rw [if_neg hz]
    exact mean_mono hs.step.1 ⟨r3, r4⟩ a1.2.1 a2.2.1
theorem nth_ap3 {α : Type} [Inhabited α] {l : List α} {x y z : α} {j : Nat} (h : l.length ≤ j) (h2 : j < l.length + 3) : (j = l.length ∧ nth (l ++ [x, y, z]) j = x) ∨ (j = l.length + 1 ∧ nth (l ++ [x, y, z]) j = y) ∨ (j = l.length + 2 ∧ nth (l ++ [x, y, z]) j = z) := by
  have e := nth_append_right (xs := l) (ys := [x, y, z]) h (by simpa using h2)
  have hj : j = l.length ∨ j = l.length + 1 ∨ j = l.length + 2 := by omega
  rcases hj with rfl | rfl | rfl
  · exact .inl ⟨rfl, by rw [e, Nat.sub_self]; rfl⟩
  · exact .inr (.inl ⟨rfl, by rw [e, show l.length + 1 - l.length = 1 by omega]; rfl⟩)
  · exact .inr (.inr ⟨rfl, by rw [e, show l.length + 2 - l.length = 2 by omega]; rfl⟩)
theorem read_rel {s : Sext} (hs : okS s) {L : List Span} {a b : Int} (hL : okL s L) (h1 : s.il ≤ a) (h3 : b ≤ s.ih) {n sh : Int} (hr : isRd s n sh) (nT nT' : Bool) : (readV s nT n sh).lo ≤ (readV (bet s L a b) nT' n sh).lo ∧ (readV (bet s L a b) nT' n sh).hi ≤ (readV s nT n sh).hi := by
  have hlen : (readL (bet s L a b) nT' n sh).length = (readL s nT n sh).length := by simp [readL, read0]
  have ht := tab_rel hs hL hr.1.1 hr.1.2
  unfold readV
  rw [hlen]
  refine totS_rel (by rw [adds_len, adds_len]; exact hlen) (fun j hj => ?_) _ (by rw [adds_len]; exact Nat.le_refl _)
  rw [adds_len] at hj
  rw [adds_nth hj, adds_nth (by omega)]
  unfold readL at hj ⊢
  by_cases e : j < (read0 s sh s.sh.length).length
  · rw [nth_append_left e, nth_append_left (show j < (read0 (bet s L a b) sh (bet s L a b).sh.length).length from e)]
    exact ⟨Int.le_refl _, Int.le_refl _⟩
  · have hj2 : j < (read0 s sh s.sh.length).length + 3 := by simpa using hj
    have hq : (read0 (bet s L a b) sh (bet s L a b).sh.length).length = (read0 s sh s.sh.length).length := rfl
    rcases nth_ap3 (x := Ad.fx ⟨s.il, s.ih⟩) (y := .tb s.step nT s.tab) (z := .fx ⟨n, n⟩) (l := read0 s sh s.sh.length) (by omega) hj2 with ⟨e1, e2⟩ | ⟨e1, e2⟩ | ⟨e1, e2⟩ <;>
    rcases nth_ap3 (x := Ad.fx ⟨a, b⟩) (y := .tb s.step nT' L) (z := .fx ⟨n, n⟩) (l := read0 (bet s L a b) sh (bet s L a b).sh.length) (show (read0 s sh s.sh.length).length ≤ j by omega) hj2 with ⟨f1, f2⟩ | ⟨f1, f2⟩ | ⟨f1, f2⟩
    all_goals
      first
      | (exfalso; omega)
      | (rw [e2, f2]; exact ⟨h1, h3⟩)
      | (rw [e2, f2]; exact ht)
      | (rw [e2, f2]; exact ⟨Int.le_refl _, Int.le_refl _⟩)
theorem read_le {s : Sext} (hs : okS s) {n sh : Int} (hr : isRd s n sh) (nT : Bool) : (readV s nT n sh).lo ≤ (readV s nT n sh).hi := by
  have hw := hs.wrong
  have hi := hs.idx
  unfold readV
  refine totS_le (fun j hj => ?_) _ (by rw [adds_len]; exact Nat.le_refl _)
  rw [adds_len] at hj
  rw [adds_nth hj]
  have hm := nth_mem hj
  generalize nth (readL s nT n sh) j = x at hm ⊢
  unfold readL at hm
  rcases List.mem_append.1 hm with h | h
  · rcases List.mem_cons.1 h with rfl | h
    · show -s.w ≤ s.w; omega
    · have key : ∀ i, i ≤ s.sh.length → ∀ x ∈ shades s.sh sh i, (adV n x).lo ≤ (adV n x).hi := by
        intro i
        induction i with
        | zero => intro _ x hx; cases hx
        | succ i ih =>
          intro hi x hx
          simp only [shades, List.mem_append] at hx
          rcases hx with hx | hx
          · exact ih (by omega) x hx
          · split at hx
            · obtain rfl := List.mem_singleton.1 hx
              have := hs.sh i (by omega)
              unfold inM at this
              exact this.2.1
            · cases hx
      exact key _ (Nat.le_refl _) x h
  · simp only [List.mem_cons, List.not_mem_nil, or_false] at h
    rcases h with rfl | rfl | rfl
    · exact hi.2.1
    · exact tab_le hs hr.1.1 hr.1.2
    · exact Int.le_refl _
end Go.Oct.Cry.Sx
