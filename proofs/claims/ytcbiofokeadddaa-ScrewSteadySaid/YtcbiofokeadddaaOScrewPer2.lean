/- The specification's Periods, and the statement. -/
import Derived.Test.YtcbiofokeadddaaOScrewPer
set_option maxRecDepth 100000
set_option linter.unusedVariables false
set_option linter.unusedSimpArgs false
namespace Go.Oct.Screw
open Go.Oct
/-- Spans a and b of a class go together, both ways. -/
def both (l : List Span) (a b : Nat) : Prop := (nth l a).lo ≤ (nth l b).hi ∧ (nth l b).lo ≤ (nth l a).hi
theorem isPer_both {l : List Span} {p : Nat} : isPer l p ↔ ∀ a, a < l.length → ∀ b, b < l.length → a ≤ b → b % p = a % p → both l a b := by
  constructor
  · intro h a h1 b h2 h3 h4
    exact ⟨h a h1 b h2 h4.symm, h b h2 a h1 h4⟩
  · intro h a h1 b h2 h3
    by_cases hab : a ≤ b
    · exact (h a h1 b h2 hab h3.symm).1
    · exact (h b h2 a h1 (by omega) h3).2
theorem RefPeriods_ok (nl : Bool) (l : List Span) (hl : l.length < 2 ^ 62) : ans prog O 37 [vl eSpan nl l] = some (perRes l) := by
  refine fn_of' pl get37 (oo (by decide)) rfl rfl ?_
  simp +contextual (disch := omega) []
  refine lp_loop pl (fun k fr σ => ∃ j b, j + k = l.length ∧ fr = ⟨[(0, vl eSpan nl l), (4, .bool b), (5, .int .i64 j)], []⟩ ∧ σ = ⟨0, 0, .leaf⟩ ∧ (b = true ↔ (1 ≤ l.length ∧ l.length ≤ 64) ∧ ∀ i, i < j → okSpan (nth l i))) ⟨l.length, 0, decide (1 ≤ (l.length : Int) ∧ (l.length : Int) ≤ 64), by omega, by simp, rfl, by simp; omega⟩ ?_
  rintro k _ _ ⟨j, b, hj, rfl, rfl, hb⟩
  simp +contextual (disch := omega) [Und, -Bool.exists_bool]
  refine ⟨fun hbt hjl => ⟨k - 1, by omega, j + 1, by omega, _, ⟨rfl, by omega⟩, ?_⟩, fun hjl => ⟨fun hbf => ?_, fun hbt => ?_⟩⟩
  · have hd : okSpan (nth l j) ↔ _ := Iff.rfl
    simp only [Bool.and_eq_true, decide_eq_true_eq]
    constructor
    · intro h
      refine ⟨(hb.1 hbt).1, fun i hi => ?_⟩
      by_cases e : i = j
      · subst e; exact h
      · exact (hb.1 hbt).2 i (by omega)
    · intro h; exact h.2 j (by omega)
  · unfold perRes
    have hf : ¬ b = true := by simp [hbf]
    rw [if_neg (fun h => hf (hb.2 ⟨h.1, fun i hi => h.2 i (by omega)⟩))]
  have hjl := hjl hbt
  have h1 := (hb.1 hbt).1
  have hok' : ∀ i, i < l.length → okSpan (nth l i) := fun i hi => (hb.1 hbt).2 i (by omega)
  have hres : perRes l = .tuple [vs (pers l l.length).isEmpty (pers l l.length), .int .i64 0] := by
    unfold perRes
    rw [if_pos ⟨by omega, hok'⟩]
  rw [hres]
  refine lp_loop pl (fun k fr σ => ∃ n v, n + k = l.length ∧ fr = ⟨[(0, vl eSpan nl l), (6, v), (7, .int .i64 ((n : Nat) + 1))], []⟩ ∧ σ.lim = 0 ∧ Buf 0 1 (AV.int .i64) σ v (pers l n)) ⟨l.length, 0, .vsl true [], by simp, by simp, rfl, Buf.nil⟩ ?_
  rintro k _ σ ⟨n, v, hn, rfl, hσ, hbuf⟩
  simp +contextual (disch := omega) [Und, -Bool.exists_bool]
  refine ⟨fun hnl => ?_, fun hnl => by rw [hbuf.fzI, show n = l.length by omega]⟩
  refine lp_loop pl (fun k fr σ' => ∃ i b, i + k = l.length ∧ fr = ⟨[(0, vl eSpan nl l), (6, v), (7, .int .i64 ((n : Nat) + 1)), (8, .bool b), (9, .int .i64 i)], []⟩ ∧ σ' = σ ∧
    (b = true ↔ ∀ a, a < l.length → ∀ c, c < l.length → a ≤ c → c % (n + 1) = a % (n + 1) → a < i → both l a c)) ⟨l.length, 0, true, by simp, by simp, rfl, by simp⟩ ?_
  rintro k2 _ σ' ⟨i, b2, hi, rfl, rfl, hb2⟩
  simp +contextual (disch := omega) [Und, -Bool.exists_bool]
  refine ⟨fun hil => ?_, fun hil => ?_⟩
  · refine lp_loop pl (fun m fr σ'' => ∃ kk b, kk + m = l.length + (n + 1) ∧ i ≤ kk ∧ kk % (n + 1) = i % (n + 1) ∧ fr = ⟨[(0, vl eSpan nl l), (6, v), (7, .int .i64 ((n : Nat) + 1)), (8, .bool b), (9, .int .i64 i), (10, .int .i64 kk)], []⟩ ∧ σ'' = σ' ∧
      (b = true ↔ b2 = true ∧ ∀ c, c < l.length → i ≤ c → c % (n + 1) = i % (n + 1) → c < kk → both l i c)) ⟨l.length + (n + 1) - i, i, b2, by omega, by omega, rfl, by simp, rfl, by simp; intro h c h1 h2 h3 h4; omega⟩ ?_
    rintro m _ σ'' ⟨kk, b3, hm, hik, hmod, rfl, rfl, hb3⟩
    simp +contextual (disch := omega) [Und, -Bool.exists_bool]
    refine ⟨fun hkl => ⟨fun _ => hil, fun _ _ => hil, m - (n + 1), by omega, kk + (n + 1), by omega, by omega, by rw [Nat.add_mod_right, hmod], _, ⟨rfl, by omega⟩, ?_⟩, fun hkl => ⟨k2 - 1, by omega, i + 1, by omega, b3, ⟨rfl, by omega⟩, ?_⟩⟩
    · simp only [Bool.and_eq_true, decide_eq_true_eq]
      constructor
      · rintro ⟨⟨h3, h4⟩, h5⟩
        refine ⟨(hb3.1 h3).1, fun c hc1 hc2 hc3 hc4 => ?_⟩
        by_cases e1 : c < kk
        · exact (hb3.1 h3).2 c hc1 hc2 hc3 e1
        · by_cases e2 : c = kk
          · subst e2; exact ⟨h5, h4⟩
          · exact absurd hc3 (mod_between hmod (by omega) hc4)
      · rintro ⟨h3, h4⟩
        have := h4 kk hkl hik hmod (by omega)
        exact ⟨⟨hb3.2 ⟨h3, fun c hc1 hc2 hc3 hc4 => h4 c hc1 hc2 hc3 (by omega)⟩, this.2⟩, this.1⟩
    · rw [hb3, hb2]
      constructor
      · rintro ⟨h3, h4⟩ a ha c hc hac hm2 ha2
        by_cases e : a = i
        · subst e; exact h4 c hc hac hm2 (by omega)
        · exact h3 a ha c hc hac hm2 (by omega)
      · intro h3
        exact ⟨fun a ha c hc hac hm2 ha2 => h3 a ha c hc hac hm2 (by omega), fun c hc hac hm2 _ => h3 i hil c hc hac hm2 (by omega)⟩
  · have hper : b2 = true ↔ isPer l (n + 1) := by
      rw [hb2, isPer_both]
      exact ⟨fun h a h1 c h2 h3 h4 => h a h1 c h2 h3 h4 (by omega), fun h a h1 c h2 h3 h4 _ => h a h1 c h2 h3 h4⟩
    refine ⟨fun hbt2 => ?_, fun hbf2 => ⟨k - 1, by omega, n + 1, by omega, v, ⟨rfl, by omega⟩, hσ, ?_⟩⟩
    · refine hbuf.push encI (by omega) (by omega) ((n : Int) + 1) ?_ rfl fun v' σ' hb hkeep => ?_
      · have := pers_le l n; simp only [topBytes]; omega
      have hlim := hkeep.lim
      simp +contextual (disch := omega) []
      refine ⟨k - 1, by omega, n + 1, by omega, v', ⟨rfl, by omega⟩, by omega, ?_⟩
      rw [pers_succ, if_pos (hper.1 hbt2)]
      exact hb
    · rw [pers_succ, if_neg (fun h => by simp [hbf2] at hper; exact hper h), List.append_nil]
      exact hbuf
theorem perRes_eq (l : List Span) : ∃ nl xs e, xs.length ≤ l.length ∧ perRes l = .tuple [vs nl xs, .int .i64 e] := by
  unfold perRes
  split
  · exact ⟨_, _, _, pers_le l _, rfl⟩
  · exact ⟨true, [], 25, by simp, rfl⟩
/-- The statement answers. -/
theorem ScrewPeriods_ok (nl : Bool) (l : List Span) (hs : Slice eSpan (fun s => i64 s.lo ∧ i64 s.hi) (vl eSpan nl l) nl l) : ans prog O 6 [vl eSpan nl l] = some (.bool true) := by
  refine fn_of' pl get6 (oo (by decide)) rfl rfl ?_
  have hl := hs.len
  obtain ⟨a, xs, e, hx, hp⟩ := perRes_eq l
  simp +contextual (disch := omega) [Periods_ok, RefPeriods_ok, hp]
end Go.Oct.Screw
