/- ScrewSteady. -/
import Derived.Test.YtcbiofokeadddaaOScrewPer2
set_option maxRecDepth 100000
set_option linter.unusedVariables false
set_option linter.unusedSimpArgs false
namespace Go.Oct.Screw
open Go.Oct
@[simp] theorem to_ok (a b : Int) : ans prog O 51 [.int .i64 a, .int .i64 b] = some (.agg [.int .i64 a, .int .i64 b]) := by
  refine fn_of' pl get51 (oo (by decide)) rfl rfl ?_
  simp +contextual (disch := omega) []
theorem place_nonneg (xs : List Int) (n : Int) : 0 ≤ place xs n ↔ n ∈ xs := by
  unfold place pfrom
  rw [List.drop_zero]
  split
  · rename_i h
    exact ⟨fun _ => h, fun _ => by omega⟩
  · rename_i h
    exact ⟨fun h2 => by omega, fun h2 => absurd h2 h⟩
theorem place_neg (xs : List Int) (n : Int) : place xs n < 0 ↔ ¬ n ∈ xs := by rw [← place_nonneg]; omega
theorem mem_pers {l : List Span} {n : Nat} {x : Int} : x ∈ pers l n ↔ ∃ p, p < n ∧ isPer l (p + 1) ∧ x = ((p + 1 : Nat) : Int) := by
  unfold pers
  simp only [List.mem_map, List.mem_filter, List.mem_range, decide_eq_true_eq]
  constructor
  · rintro ⟨p, ⟨h1, h2⟩, rfl⟩; exact ⟨p, h1, h2, rfl⟩
  · rintro ⟨p, h1, h2, rfl⟩; exact ⟨p, ⟨h1, h2⟩, rfl⟩
theorem pers_rises (l : List Span) (n : Nat) : Rises (pers l n) (n + 1) (pers l n).length := by
  induction n with
  | zero => intro i hi; simp [pers] at hi
  | succ n ih =>
    rw [pers_succ]
    by_cases h : isPer l (n + 1)
    · rw [if_pos h]
      intro i hi
      simp only [List.length_append, List.length_singleton] at hi
      by_cases e : i < (pers l n).length
      · obtain ⟨⟨h1, h2⟩, h3⟩ := ih i e
        rw [nth_append_left e]
        refine ⟨by omega, fun h0 => ?_⟩
        rw [nth_append_left (by omega)]
        exact h3 h0
      · have he : i = (pers l n).length := by omega
        rw [nth_append_right (by omega) (by simp; omega), he, Nat.sub_self, nth_zero]
        refine ⟨by omega, fun h0 => ?_⟩
        rw [nth_append_left (by omega)]
        obtain ⟨⟨h1, h2⟩, h3⟩ := ih ((pers l n).length - 1) (by omega)
        omega
    · rw [if_neg h, List.append_nil]
      intro i hi
      obtain ⟨⟨h1, h2⟩, h3⟩ := ih i hi
      exact ⟨by omega, h3⟩
theorem isPer_all {l : List Span} (h : ∀ i, i < l.length → okSpan (nth l i)) : isPer l l.length := by
  intro i hi k hk e
  rw [Nat.mod_eq_of_lt hi, Nat.mod_eq_of_lt hk] at e
  subst e
  exact (h i hi).2.1
theorem isPer_mul {l : List Span} {p m : Nat} (h : isPer l p) : isPer l (p * m) := by
  intro i hi k hk e
  refine h i hi k hk ?_
  have h1 := Nat.mod_mod_of_dvd i (Nat.dvd_mul_right p m)
  have h2 := Nat.mod_mod_of_dvd k (Nat.dvd_mul_right p m)
  rw [e] at h1
  omega
/-- Wider spans. -/
def more (bits : List Int) (i : Nat) : Int := nth bits (((i : Int) + 1) % (bits.length : Int)).toNat % 5
def wideAt (l : List Span) (bits : List Int) (i : Nat) : Span := ⟨max (-1000000) ((nth l i).lo - more bits i), min 1000000 ((nth l i).hi + more bits i)⟩
def pick (bits : List Int) (i : Int) : Int := nth bits (i % (bits.length : Int)).toNat
def madeAt (bits : List Int) (p i : Nat) : Span := ⟨pick bits ((i % p : Nat) : Int) % 100 - more bits i, pick bits ((i % p : Nat) : Int) % 100 + pick bits ((i : Int) + 2) % 3⟩
def tab (f : Nat → Span) (n : Nat) : List Span := (List.range n).map f
theorem tab_succ (f : Nat → Span) (n : Nat) : tab f (n + 1) = tab f n ++ [f n] := by
  unfold tab; rw [List.range_succ, List.map_append]; rfl
theorem tab_length (f : Nat → Span) (n : Nat) : (tab f n).length = n := by simp [tab]
theorem tab_nth {f : Nat → Span} {n i : Nat} (h : i < n) : nth (tab f n) i = f i := by
  unfold tab
  rw [nth_map f (by simpa using h), nth_eq (xs := List.range n) (by simpa using h), List.getElem_range]
theorem wide_ok {l : List Span} (bits : List Int) (h : okSpans l) : okSpans (tab (wideAt l bits) l.length) := by
  obtain ⟨h1, h2⟩ := h
  refine ⟨by rw [tab_length]; exact h1, fun i hi => ?_⟩
  rw [tab_length] at hi
  rw [tab_nth hi]
  have := h2 i hi
  have h5 := Int.emod_nonneg (nth bits (((i : Int) + 1) % (bits.length : Int)).toNat) (show (5 : Int) ≠ 0 by omega)
  have h6 := Int.emod_lt_of_pos (nth bits (((i : Int) + 1) % (bits.length : Int)).toNat) (show (0 : Int) < 5 by omega)
  unfold okSpan at this ⊢
  simp only [wideAt, more]
  omega
theorem wide_per {l : List Span} (bits : List Int) {q : Nat} (h : isPer l q) (ho : okSpans l) : isPer (tab (wideAt l bits) l.length) q := by
  intro i hi k hk e
  rw [tab_length] at hi hk
  rw [tab_nth hi, tab_nth hk]
  have h1 := h i hi k hk e
  have h2 := ho.2 i hi
  have h3 := ho.2 k hk
  have h5 := Int.emod_nonneg (nth bits (((i : Int) + 1) % (bits.length : Int)).toNat) (show (5 : Int) ≠ 0 by omega)
  have h6 := Int.emod_nonneg (nth bits (((k : Int) + 1) % (bits.length : Int)).toNat) (show (5 : Int) ≠ 0 by omega)
  unfold okSpan at h2 h3
  simp only [wideAt, more]
  omega
theorem made_ok (bits : List Int) (p : Nat) {n : Nat} (h : 1 ≤ n ∧ n ≤ 64) : okSpans (tab (madeAt bits p) n) := by
  refine ⟨by rw [tab_length]; exact h, fun i hi => ?_⟩
  rw [tab_length] at hi
  rw [tab_nth hi]
  unfold okSpan
  simp only [madeAt, more]
  omega
theorem made_per (bits : List Int) {p : Nat} (n : Nat) : isPer (tab (madeAt bits p) n) p := by
  intro i hi k hk e
  rw [tab_length] at hi hk
  rw [tab_nth hi, tab_nth hk]
  simp only [madeAt, more, e]
  omega
theorem flatSpan : flatE eSpan := fun x c hc k f => by
  simp only [cells_eSpan, List.mem_cons, List.not_mem_nil, or_false] at hc
  rcases hc with rfl | rfl <;> exact ⟨rfl, rfl⟩
theorem ScrewSteady_ok (nl : Bool) (l : List Span) (nb : Bool) (bits : List Int) (hs : Slice eSpan (fun s => i64 s.lo ∧ i64 s.hi) (vl eSpan nl l) nl l) (hs2 : Slice (AV.int .i64) i64 (vs nb bits) nb bits) : ans prog O 13 [vl eSpan nl l, vs nb bits] = some (.bool true) := by
  have hl := hs.len
  have hbl := hs2.len
  refine fn_of' pl get13 (oo (by decide)) rfl rfl ?_
  by_cases h : okSpans l
  · have hres : perRes l = .tuple [vs (pers l l.length).isEmpty (pers l l.length), .int .i64 0] := by unfold perRes; rw [if_pos h]
    obtain ⟨h1, h2⟩ := id h
    have hple := pers_le l l.length
    have hr := pers_rises l l.length
    have hpL : ¬ place (pers l l.length) l.length < 0 := by
      rw [place_neg, Classical.not_not, mem_pers]
      exact ⟨l.length - 1, by omega, by rw [show l.length - 1 + 1 = l.length by omega]; exact isPer_all h2, by omega⟩
    have hp0 : ¬ 0 ≤ place (pers l l.length) 0 := by
      rw [place_nonneg, mem_pers]
      rintro ⟨p, _, _, hp⟩; omega
    simp +contextual (disch := omega) [Periods_ok, hres, hr, hpL, hp0]
    refine ⟨fun hbad => by omega, fun _ => ?_⟩
    have q1 := Int.emod_nonneg (nth bits 0) (show (l.length : Int) ≠ 0 by omega)
    have q2 := Int.emod_lt_of_pos (nth bits 0) (show (0 : Int) < l.length by omega)
    obtain ⟨p, hp⟩ : ∃ p : Nat, (p : Int) = 1 + nth bits 0 % (l.length : Int) := ⟨(1 + nth bits 0 % (l.length : Int)).toNat, by omega⟩
    have hp1 : 1 ≤ p ∧ p ≤ l.length := by omega
    rw [← hp, w64_id p (by omega) (by omega)]
    clear q1 q2 hp
    refine lp_loop pl (fun k fr σ => ∃ j v1 v2, j + k = l.length ∧ fr = ⟨[(0, vl eSpan nl l), (1, vs nb bits), (5, vs (pers l l.length).isEmpty (pers l l.length)), (7, v1), (8, .int .i64 p), (9, v2), (10, .int .i64 j)], []⟩ ∧ σ.lim = 0 ∧
      Buf 0 2 eSpan σ v1 (tab (wideAt l bits) j) ∧ Buf 0 2 eSpan σ v2 (tab (madeAt bits p) j) ∧ ∀ i ∈ obj v1, i ∉ obj v2) ⟨l.length, 0, .vsl true [], .vsl true [], by omega, rfl, rfl, Buf.nil, Buf.nil, fun i h => by cases h⟩ ?_
    rintro k _ σ ⟨j, v1, v2, hj, rfl, hσ, hb1, hb2, hdis⟩
    have hjt : (j : Int).tmod p = ((j % p : Nat) : Int) := rfl
    have hpz : p ≠ 0 := by omega
    simp +contextual (disch := omega) [Und, hjt, hpz, hσ, -Int.natCast_emod]
    refine ⟨fun hjl => ?_, fun hjl => ?_⟩
    · have hok := h2 j hjl
      unfold okSpan at hok
      have m1 := Int.emod_nonneg (nth bits (((j : Int) + 1) % (bits.length : Int)).toNat) (show (5 : Int) ≠ 0 by omega)
      have m2 := Int.emod_lt_of_pos (nth bits (((j : Int) + 1) % (bits.length : Int)).toNat) (show (0 : Int) < 5 by omega)
      rw [w64_id _ (by omega) (by omega), w64_id _ (by omega) (by omega)]
      refine hb1.push encSpan (by omega) (by omega) (wideAt l bits j) (by rw [tab_length]; simp only [topBytes]; omega) rfl fun v1' σ' hb1' hk => ?_
      have hlim := hk.lim
      have hb2' := hb2.stay hk.only (fun i h1 h2 => hdis i h2 h1)
      have n1 := Int.emod_nonneg (nth bits (((j % p : Nat) : Int) % (bits.length : Int)).toNat) (show (100 : Int) ≠ 0 by omega)
      have n2 := Int.emod_lt_of_pos (nth bits (((j % p : Nat) : Int) % (bits.length : Int)).toNat) (show (0 : Int) < 100 by omega)
      simp +contextual (disch := omega) [hjt, hpz, hlim, hσ, -Int.natCast_emod]
      refine hb2'.push encSpan (by omega) (by omega) (madeAt bits p j) (by rw [tab_length]; simp only [topBytes]; omega) rfl fun v2' σ'' hb2'' hk2 => ?_
      have hlim2 := hk2.lim
      have hd1 : ∀ i ∈ obj v1', i ∉ obj v2 := fun i h3 h4 => by
        rcases hk.fresh i h3 with h5 | h5
        · exact hdis i h5 h4
        · have := (hb2.obj_lt i h4).2; omega
      have hb1'' := hb1'.stay hk2.only hd1
      simp +contextual (disch := omega) []
      refine ⟨k - 1, by omega, j + 1, by omega, v1', v2', ⟨rfl, rfl, by omega⟩, by omega, by rw [tab_succ]; exact hb1'', by rw [tab_succ]; exact hb2'', fun i h3 h4 => ?_⟩
      rcases hk2.fresh i h4 with h5 | h5
      · exact hd1 i h3 h5
      · have := (hb1'.obj_lt i h3).2; omega
    · obtain rfl : j = l.length := by omega
      have c1 := Periods_ok (tab (wideAt l bits) l.length).isEmpty (tab (wideAt l bits) l.length) (by rw [tab_length]; omega)
      have c2 := Periods_ok (tab (madeAt bits p) l.length).isEmpty (tab (madeAt bits p) l.length) (by rw [tab_length]; omega)
      have r1 : perRes (tab (wideAt l bits) l.length) = .tuple [vs (pers (tab (wideAt l bits) l.length) l.length).isEmpty (pers (tab (wideAt l bits) l.length) l.length), .int .i64 0] := by
        unfold perRes; rw [if_pos (wide_ok bits h), tab_length]
      have r2 : perRes (tab (madeAt bits p) l.length) = .tuple [vs (pers (tab (madeAt bits p) l.length) l.length).isEmpty (pers (tab (madeAt bits p) l.length) l.length), .int .i64 0] := by
        unfold perRes; rw [if_pos (made_ok bits p h1), tab_length]
      rw [r1] at c1
      rw [r2] at c2
      have l1 := pers_le (tab (wideAt l bits) l.length) l.length
      have l2 := pers_le (tab (madeAt bits p) l.length) l.length
      have hpm : ¬ place (pers (tab (madeAt bits p) l.length) l.length) p < 0 := by
        rw [place_neg, Classical.not_not, mem_pers]
        exact ⟨p - 1, by omega, by rw [show p - 1 + 1 = p by omega]; exact made_per bits _, by omega⟩
      refine hb1.call encSpan flatSpan (by omega) (oo (args := []) (by decide)).1 c1 fun σ' hσ' => ?_
      have hb2' := hb2.stay hσ' (fun i h3 h4 => hdis i h4 h3)
      have hlim := hσ'.lim
      simp +contextual (disch := omega) []
      refine hb2'.call encSpan flatSpan (by omega) (oo (args := []) (by decide)).1 c2 fun σ'' hσ'' => ?_
      simp +contextual (disch := omega) [hpm]
      clear r1 r2 c1 c2
      refine lp_loop pl (fun k fr s => ∃ j : Nat, j + k = (pers l l.length).length ∧ fr = ⟨[(0, vl eSpan nl l), (5, vs (pers l l.length).isEmpty (pers l l.length)), (13, vs (pers (tab (wideAt l bits) l.length) l.length).isEmpty (pers (tab (wideAt l bits) l.length) l.length)), (16, .int .i64 j)], []⟩ ∧ s = σ'') ⟨(pers l l.length).length, 0, by omega, rfl, rfl⟩ ?_
      rintro k _ s ⟨j, hj, rfl, rfl⟩
      have hmem : j < (pers l l.length).length → ∃ q : Nat, q < l.length ∧ isPer l (q + 1) ∧ nth (pers l l.length) j = ((q + 1 : Nat) : Int) := fun hjl => mem_pers.1 (nth_mem hjl)
      have hw : j < (pers l l.length).length → ¬ place (pers (tab (wideAt l bits) l.length) l.length) (nth (pers l l.length) j) < 0 := fun hjl => by
        obtain ⟨q, g1, g2, g3⟩ := hmem hjl
        rw [g3, place_neg, Classical.not_not, mem_pers]
        exact ⟨q, g1, wide_per bits g2 h, rfl⟩
      simp +contextual (disch := omega) [Und, hw]
      intro hjl
      obtain ⟨q, g1, g2, g3⟩ := hmem hjl
      refine lp_loop pl (fun k' fr s' => ∃ m : Nat, (q + 1) * m + k' = 2 * l.length + 2 ∧ 1 ≤ m ∧ fr = ⟨[(0, vl eSpan nl l), (5, vs (pers l l.length).isEmpty (pers l l.length)), (13, vs (pers (tab (wideAt l bits) l.length) l.length).isEmpty (pers (tab (wideAt l bits) l.length) l.length)), (16, .int .i64 j), (17, .int .i64 ((q + 1) * m : Nat))], []⟩ ∧ s' = s) ⟨2 * l.length + 2 - (q + 1), 1, by omega, by omega, by rw [g3, Nat.mul_one], rfl⟩ ?_
      rintro k' _ s' ⟨m, hm, hm1, rfl, rfl⟩
      have hp : (q + 1) * m ≤ l.length → ¬ place (pers l l.length) (((q + 1) * m : Nat) : Int) < 0 := fun hle => by
        rw [place_neg, Classical.not_not, mem_pers]
        have : 1 ≤ (q + 1) * m := Nat.mul_pos (by omega) hm1
        exact ⟨(q + 1) * m - 1, by omega, by rw [show (q + 1) * m - 1 + 1 = (q + 1) * m by omega]; exact isPer_mul g2, by omega⟩
      have hnext : (q + 1) * (m + 1) = (q + 1) * m + (q + 1) := Nat.mul_succ _ _
      generalize (q + 1) * m = M at *
      simp +contextual (disch := omega) [Und, g3, -Int.natCast_add]
      refine ⟨fun hle => ⟨by have := hp hle; omega, fun _ => ⟨hjl, k' - (q + 1), by omega, m + 1, by rw [hnext]; omega, by omega, by rw [← Int.natCast_mul, hnext]; omega⟩⟩, fun hlt => ⟨k - 1, by omega, j + 1, by omega, by omega⟩⟩
  · have hres : perRes l = .tuple [.vsl true [], .int .i64 25] := by unfold perRes; rw [if_neg h]
    simp +contextual (disch := omega) [Periods_ok, hres]
end Go.Oct.Screw
