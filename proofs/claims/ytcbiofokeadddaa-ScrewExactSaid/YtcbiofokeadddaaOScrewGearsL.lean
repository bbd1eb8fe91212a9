/- ScrewGears. -/
import Derived.Test.YtcbiofokeadddaaOScrewCutP
set_option maxRecDepth 100000
set_option maxHeartbeats 4000000
set_option linter.unusedVariables false
set_option linter.unusedSimpArgs false
namespace Go.Oct.Screw
open Go.Oct
theorem pitchRes_eq (ws g : List Int) (num den : Int) : ∃ a b e, pitchRes ws g num den = .tuple [.int .i64 a, .int .i64 b, .int .i64 e] := by
  unfold pitchRes
  split
  · split <;> exact ⟨_, _, _, rfl⟩
  · exact ⟨_, _, _, rfl⟩
theorem cutRes_eq (ws : List Int) (ln ld num den : Int) (b : List Int) : ∃ nl r e, cutRes ws ln ld num den b = .tuple [vs nl r, .int .i64 e] ∧ (r = b ∨ r = []) := by
  unfold cutRes
  split
  · split
    · split
      · exact ⟨_, _, _, rfl, .inl rfl⟩
      · exact ⟨true, [], _, rfl, .inr rfl⟩
    · exact ⟨true, [], _, rfl, .inr rfl⟩
  · exact ⟨true, [], _, rfl, .inr rfl⟩
theorem nearRes_eq (ws : List Int) (ln ld num den : Int) (b : List Int) : ∃ nl r e, nearRes ws ln ld num den b = .tuple [vs nl r, .int .i64 e] ∧ (r = b ∨ r = []) := by
  unfold nearRes
  split
  · split
    · exact ⟨_, _, _, rfl, .inl rfl⟩
    · exact ⟨true, [], _, rfl, .inr rfl⟩
  · exact ⟨true, [], _, rfl, .inr rfl⟩
theorem ScrewGears_ok (nl : Bool) (ws : List Int) (ln ld : Int) (ng : Bool) (g : List Int) (num den : Int) (hs : Slice (AV.int .i64) i64 (vs nl ws) nl ws) (_ : i64 ln) (_ : i64 ld) (hs2 : Slice (AV.int .i64) i64 (vs ng g) ng g) (_ : i64 num) (_ : i64 den) :
    ans prog O 3 [.agg [vs nl ws, .int .i64 ln, .int .i64 ld], vs ng g, .agg [.int .i64 num, .int .i64 den]] = some (.bool true) := by
  have hx := hs.len
  have hg := hs2.len
  obtain ⟨b, hb, hbl⟩ : ∃ b : List Int, (okLathe ws ln ld → near ws ln ld num den (gl ws.length) = some (b, far ws ln ld num den b, gO ws ld b)) ∧ b.length ≤ 4 := by
    by_cases hl : okLathe ws ln ld
    · obtain ⟨b, h1, h2⟩ := near_some num den hl
      exact ⟨b, fun _ => h1, by rcases (gl_ok b h2).1 with h | h <;> omega⟩
    · exact ⟨[], fun h => absurd h hl, by simp⟩
  have p1 := Pitch_ok nl ng ws g ln ld (by omega) (by omega)
  have p2 := RefPitch_ok nl ng ws g ln ld (by omega) (by omega)
  obtain ⟨x, y, e, hp⟩ := pitchRes_eq ws g ln ld
  rw [hp] at p1 p2
  have c1 := Cut_ok nl ws ln ld num den (by omega) hb
  have c2 := RefCut_ok nl ws ln ld num den (by omega) hb
  obtain ⟨cn, cr, ce, hc, hcl⟩ := cutRes_eq ws ln ld num den b
  rw [hc] at c1 c2
  have n1 := Nearest_ok nl ws ln ld num den (by omega) hb
  have n2 := RefNearest_ok nl ws ln ld num den (by omega) hb
  obtain ⟨nn, nr, ne, hn, hnl⟩ := nearRes_eq ws ln ld num den b
  rw [hn] at n1 n2
  have l1 : cr.length < 2 ^ 62 := by rcases hcl with rfl | rfl <;> simp <;> omega
  have l2 : nr.length < 2 ^ 62 := by rcases hnl with rfl | rfl <;> simp <;> omega
  have k1 := Check_ok nl ws ln ld (by omega)
  have k2 := RefCheck_ok nl ws ln ld (by omega)
  refine fn_of' pl get3 (oo (by decide)) rfl rfl ?_
  simp +contextual (disch := omega) [p1, p2, c1, c2, n1, n2, k1, k2, l1, l2]
end Go.Oct.Screw
