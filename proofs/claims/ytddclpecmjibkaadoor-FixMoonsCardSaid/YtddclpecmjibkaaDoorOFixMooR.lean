/- The specification's Moon. -/
import Derived.Test.YtddclpecmjibkaaDoorOFixMooW
set_option maxRecDepth 100000
set_option maxHeartbeats 4000000
set_option linter.unusedVariables false
set_option linter.unusedSimpArgs false
namespace Go.Oct.Fix
open Go.Oct
theorem Wider_ok (x : Span) (n : Int) (none : Bool) : ans prog O 89 [.agg [.int .i64 x.lo, .int .i64 x.hi], .int .i64 n, .bool none] = some (.agg [.int .i64 (if none then n else min x.lo n), .int .i64 (if none then n else max x.hi n)]) := by
  refine fn_of' pl get89 (oo (by decide)) rfl rfl ?_
  cases none <;> simp (disch := omega) []
theorem inn_upto {a b s : Span} {st : Option Span} (h : Upto st a.lo) : ∀ q, Upto (inn a b s st q) (a.lo + q)
  | 0 => by simpa [inn] using h
  | q + 1 => (inn_upto h q).stp.mono (by omega)
theorem inn_upto' {a b s : Span} {st : Option Span} (h : Upto st a.lo) (q : Nat) : Upto (inn a b s st (q + 1)) (a.lo + q) := (inn_upto (b := b) (s := s) h q).stp
theorem tab_le {l : List Span} {i : Nat} (hi : i ≤ l.length) (h : ¬ tabTo l i) : ¬ okTab l := fun ho => h ⟨ho.1, fun j hj => ho.2 j (by omega)⟩
theorem out_upto {l : List Span} {s : Span} (ht : okTab l) : ∀ i, i < l.length → Upto (out l s i) (nth l i).lo
  | 0, _ => fun x hx => by cases hx
  | i + 1, hi => by
    have h1 := out_upto (s := s) ht i (by omega)
    have h2 := ((ht.2 (i + 1) hi).2 (by omega)).1
    rw [Nat.add_sub_cancel] at h2
    have h3 := inn_upto' (b := nth l (i + 1)) (s := s) h1 (wid (nth l i) (nth l (i + 1)))
    exact h3.mono (by unfold wid; omega)
theorem MoonR_ok (nl : Bool) (l : List Span) (s : Span) (hx : l.length < 2 ^ 62) : ans prog O 35 [vl eSpan nl l, eSpan s] = some (.tuple [eSpan (moonV l s).1, .int .i64 (moonV l s).2]) := by
  refine fn_of' pl get35 (oo (by decide)) rfl rfl ?_
  have he : eSpan s = .agg [.int .i64 s.lo, .int .i64 s.hi] := rfl
  rw [he]
  by_cases hl : (2 ≤ (l.length : Int) ∧ (l.length : Int) ≤ 12) ∧ isSp s 0 1000000
  · obtain ⟨hlen, hs⟩ := hl
    have hlen2 : l.length ≤ 12 ∧ 2 ≤ l.length := by omega
    have q0 : 0 < l.length := by omega
    have q1 : 1 < l.length := by omega
    have hsp := Spanned_okR s 0 1000000
    rw [decide_eq_true hs] at hsp
    simp (disch := omega) [hlen, hsp, -Spanned_okR, -Bool.exists_bool]
    refine lp_loop pl (fun k fr σ => ∃ (i : Nat) (ok : Bool), i + k = l.length + 1 ∧ fr = ⟨[(0, vl eSpan nl l), (3, .ptr (some (0, 0))), (4, .ptr (some (1, 0))), (6, .bool ok), (7, .int .i64 i)], []⟩ ∧ σ.lim = 0 ∧ σ.next = 2 ∧ i ≤ l.length ∧ (ok = true ↔ tabTo l i) ∧
      σ.get 0 = some (.cells [.int .i64 s.lo, .int .i64 s.hi]) ∧ σ.get 1 = some (.cells [.int .i64 0, .int .i64 0]))
      ⟨l.length + 1, 0, true, by omega, rfl, by simp, by simp, by omega, by simp [tabTo, hlen], by simp, by simp⟩ ?_
    rintro k _ σ ⟨i, ok, hi, rfl, hl0, hn, hil, hok, hg0, hg1⟩
    by_cases hg : ok = true ∧ i < l.length
    · obtain ⟨rfl, hil2⟩ := hg
      have ht := hok.1 rfl
      simp (disch := omega) [Und, hl0, hn, hg0, hg1, hil2, q0, q1, -Bool.exists_bool]
      refine ⟨fun a1 a2 a3 a4 hi0 => ⟨⟨by omega, by omega⟩, fun _ => ⟨by omega, by omega⟩, fun _ _ => by omega, fun _ _ => ⟨by omega, by omega⟩, k - 1, by omega, i + 1, by omega, _, ⟨rfl, by omega⟩, by omega, ?_⟩, fun hc => ⟨k - 1, by omega, i + 1, by omega, _, ⟨rfl, by omega⟩, by omega, ?_⟩⟩
      · simp only [Bool.and_eq_true, decide_eq_true_eq, Bool.not_eq_true', decide_eq_false_iff_not, beq_iff_eq, decide_eq_decide]
        rw [tabTo_succ]
        constructor
        · rintro ⟨⟨b1, b2⟩, b3⟩
          exact ⟨ht, ⟨⟨a1, a2⟩, a3, a4⟩, fun _ => ⟨b1, b2, b3⟩⟩
        · rintro ⟨_, _, b⟩
          obtain ⟨b1, b2, b3⟩ := b hi0
          exact ⟨⟨b1, b2⟩, b3⟩
      · simp only [Bool.and_eq_true, decide_eq_true_eq]
        rw [tabTo_succ]
        constructor
        · rintro ⟨⟨a1, a2⟩, a3, a4⟩
          have := hc a1 a2 a3 a4
          exact ⟨ht, ⟨⟨a1, a2⟩, a3, a4⟩, fun h => by omega⟩
        · rintro ⟨_, ⟨⟨a1, a2⟩, a3, a4⟩, _⟩
          exact ⟨⟨a1, a2⟩, a3, a4⟩
    · cases ok with
      | false =>
        have hn0 : ¬ okTab l := tab_le hil fun h => by simpa using hok.2 h
        have hv : moonV l s = (⟨0, 0⟩, 83) := by unfold moonV; rw [if_neg fun h => hn0 h.1]
        rw [hv]
        simp (disch := omega) [Und, hl0, hn, hg0, hg1, -Bool.exists_bool]
        rfl
      | true =>
        have hil3 : i = l.length := by
          have : ¬ i < l.length := fun h => hg ⟨rfl, h⟩
          omega
        subst hil3
        have ht := hok.1 rfl
        simp (disch := omega) [Und, hl0, hn, hg0, hg1, -Bool.exists_bool]
        refine lp_loop pl (fun k fr σ => ∃ (i : Nat), i + k = l.length - 1 ∧ fr = ⟨[(0, vl eSpan nl l), (3, .ptr (some (0, 0))), (4, .ptr (some (1, 0))), (8, .ptr (some (2, 0))), (9, .bool (out l s i).isNone), (10, .int .i64 ((i : Int) + 1))], []⟩ ∧ σ.lim = 0 ∧ 3 ≤ σ.next ∧
          σ.get 0 = some (.cells [.int .i64 s.lo, .int .i64 s.hi]) ∧ σ.get 1 = some (.cells [.int .i64 0, .int .i64 0]) ∧ σ.get 2 = some (.cells [.int .i64 (mst (out l s i)).lo, .int .i64 (mst (out l s i)).hi]))
          ⟨l.length - 1, 0, by omega, by simp [out], by simpa using hl0, by simp [hn], by simp (disch := omega) [hn, hg0], by simp (disch := omega) [hn, hg1], by simp (disch := omega) [hn, out, mst]⟩ ?_
        clear hg0 hg1 hn hl0 hi hil hok hg
        rintro k _ σ ⟨i, hi, rfl, hl0, hn, hg0, hg1, hg2⟩
        by_cases hil : i < l.length - 1
        · have hr0 := (ht.2 i (by omega)).1
          have hr1 := (ht.2 (i + 1) (by omega)).1
          have hr2 := ((ht.2 (i + 1) (by omega)).2 (by omega)).1
          rw [Nat.add_sub_cancel] at hr2
          have hup := out_upto (s := s) ht i (by omega)
          have q1 : (i : Int) + 1 < l.length := by omega
          have q2 : i < l.length := by omega
          have q3 : i + 1 < l.length := by omega
          have k0 : ¬ 0 = σ.next := by omega
          have k1 : ¬ 1 = σ.next := by omega
          have k2 : ¬ 2 = σ.next := by omega
          have n1 : σ.next < σ.next + 1 + 1 := by omega
          have n2 : σ.next + 1 < σ.next + 1 + 1 := by omega
          have n3 : ¬ σ.next = σ.next + 1 := by omega
          have n4 : ¬ σ.next + 1 = σ.next := by omega
          have z0 : ¬ σ.next = 0 := by omega
          have z1 : ¬ σ.next = 1 := by omega
          have z2 : ¬ σ.next = 2 := by omega
          have q5 : (0 : Int) ≤ (i : Int) + 1 := by omega
          have q6 : ((i : Int) + 1).toNat = i + 1 := by omega
          have q7 : (i : Int) + 1 - 1 = i := by omega
          have q8 : (i : Int) < l.length := by omega
          simp (disch := omega) [Und, hl0, hn, hg0, hg1, hg2, q1, q2, q3, q5, q6, q7, q8, n1, n2, n3, n4, k0, k1, k2, -Bool.exists_bool]
          have hw0 : ((wid (nth l i) (nth l (i + 1)) : Nat) : Int) = (nth l (i + 1)).lo - (nth l i).lo := by unfold wid; omega
          have ho : out l s (i + 1) = inn (nth l i) (nth l (i + 1)) s (out l s i) (wid (nth l i) (nth l (i + 1)) + 1) := rfl
          refine lp_loop pl (fun k2 fr τ => ∃ q : Nat, q + k2 = wid (nth l i) (nth l (i + 1)) + 1 ∧ fr = ⟨[(0, vl eSpan nl l), (3, .ptr (some (0, 0))), (4, .ptr (some (1, 0))), (8, .ptr (some (2, 0))), (9, .bool (inn (nth l i) (nth l (i + 1)) s (out l s i) q).isNone), (10, .int .i64 ((i : Int) + 1)), (11, .ptr (some (σ.next, 0))), (12, .ptr (some (σ.next + 1, 0))), (13, .int .i64 ((nth l (i + 1)).lo - (nth l i).lo)), (14, .int .i64 ((nth l i).lo + q))], []⟩ ∧ τ.lim = 0 ∧ τ.next = σ.next + 1 + 1 ∧
            τ.get 0 = some (.cells [.int .i64 s.lo, .int .i64 s.hi]) ∧ τ.get 1 = some (.cells [.int .i64 0, .int .i64 0]) ∧ τ.get 2 = some (.cells [.int .i64 (mst (inn (nth l i) (nth l (i + 1)) s (out l s i) q)).lo, .int .i64 (mst (inn (nth l i) (nth l (i + 1)) s (out l s i) q)).hi]) ∧
            τ.get σ.next = some (.cells [.int .i64 (nth l i).lo, .int .i64 (nth l i).hi]) ∧ τ.get (σ.next + 1) = some (.cells [.int .i64 (nth l (i + 1)).lo, .int .i64 (nth l (i + 1)).hi]))
            ⟨wid (nth l i) (nth l (i + 1)) + 1, 0, by omega, by simp [inn], by simp, by simp, by simp (disch := omega) [hg0, k0, z0, z1, z2], by simp (disch := omega) [hg1, k1, z0, z1, z2], by simp (disch := omega) [hg2, k2, inn, z0, z1, z2], by simp (disch := omega) [n1, n3], by simp (disch := omega) [n4]⟩ ?_
          generalize ha : nth l i = a at *
          generalize hb : nth l (i + 1) = b at *
          rintro kk _ τ ⟨q, hq, rfl, t0, tn, g0, g1, g2, g3, g4⟩
          have y0 : 0 < σ.next := by omega
          have y1 : 1 < σ.next := by omega
          have y2 : 2 < σ.next := by omega
          have y3 : 1 < σ.next + 1 + 1 := by omega
          have y4 : 2 < σ.next + 1 + 1 := by omega
          by_cases hqw : q ≤ wid a b
          · have e1 : (q : Int) ≤ b.lo - a.lo := by omega
            have p1 := mul_le (a := a.hi) (b := b.lo - (a.lo + q)) (A := 1000000) (B := 100000) (by omega) (by omega) (by omega) (by omega)
            have p2 := mul_le (a := b.hi) (b := a.lo + q - a.lo) (A := 1000000) (B := 100000) (by omega) (by omega) (by omega) (by omega)
            have p3 := mul_le (a := s.lo) (b := b.lo - a.lo) (A := 1000000) (B := 100000) (by unfold isSp at hs; omega) (by unfold isSp at hs; omega) (by omega) (by omega)
            have p4 := mul_le (a := s.hi) (b := b.lo - a.lo) (A := 1000000) (B := 100000) (by unfold isSp at hs; omega) (by unfold isSp at hs; omega) (by omega) (by omega)
            have p5 := mul_le (a := a.hi) (b := b.lo - a.lo) (A := 1000000) (B := 100000) (by omega) (by omega) (by omega) (by omega)
            have pd := dist_alt a b (a.lo + q)
            have pd2 := pd
            unfold dist at pd2
            have e2 : a.lo + (q : Int) ≤ b.lo := by omega
            have m0 : 0 < τ.next := by omega
            have m1 : 1 < τ.next := by omega
            have m2 : 2 < τ.next := by omega
            have es : inn a b s (out l s i) (q + 1) = stp (inn a b s (out l s i) q) a b s (a.lo + q) := rfl
            by_cases hh : hit a b s (a.lo + q)
            · obtain ⟨c1, c2⟩ := id hh
              rw [← pd] at c1 c2
              have c3 := Int.not_lt.2 c1
              have c4 := Int.not_lt.2 c2
              have hw := Wider_ok (mst (inn a b s (out l s i) q)) (a.lo + q) (inn a b s (out l s i) q).isNone
              have es2 := es.trans (stp_wider (inn_upto (b := b) (s := s) hup q) hh)
              simp (disch := omega) [Und, t0, tn, g0, g1, g2, g3, g4, e2, m0, m1, m2, c1, c2, c3, c4, hw, y0, y1, y2, y3, y4, z1, z2, -Bool.exists_bool]
              exact ⟨kk - 1, by omega, q + 1, by omega, ⟨by rw [es2]; rfl, by omega⟩, by rw [es2]; cases inn a b s (out l s i) q <;> simp [mst], by rw [es2]; cases inn a b s (out l s i) q <;> simp [mst]⟩
            · have es2 : inn a b s (out l s i) (q + 1) = inn a b s (out l s i) q := by rw [es]; unfold stp; rw [if_neg hh]
              simp (disch := omega) [Und, t0, tn, g0, g1, g2, g3, g4, e2, m0, m1, m2, y0, y1, y2, y3, y4, -Bool.exists_bool]
              refine ⟨fun c1 c2 => absurd ⟨by rw [← pd]; exact c1, by rw [← pd]; exact c2⟩ hh, fun _ => ⟨kk - 1, by omega, q + 1, by omega, ⟨by rw [es2], by omega⟩, by rw [es2], by rw [es2]⟩⟩
          · obtain rfl : q = wid a b + 1 := by omega
            have e2 : ¬ a.lo + ((wid a b + 1 : Nat) : Int) ≤ b.lo := by omega
            have e3 : ¬ a.lo + (((wid a b : Nat) : Int) + 1) ≤ b.lo := by omega
            simp (disch := omega) [Und, t0, tn, g0, g1, g2, g3, g4, e2, e3, -Bool.exists_bool]
            exact ⟨k - 1, by omega, i + 1, by omega, ⟨by rw [ho], by omega⟩, by omega, by rw [ho], by rw [ho]⟩
        · obtain rfl : i = l.length - 1 := by omega
          have q1 : ((l.length - 1 : Nat) : Int) = (l.length : Int) - 1 := by omega
          have hv : moonV l s = (match out l s (l.length - 1) with | none => (⟨0, 0⟩, 4) | some x => (x, 0)) := by unfold moonV; rw [if_pos ⟨ht, hs⟩]; cases out l s (l.length - 1) <;> rfl
          have y1 : 1 < σ.next := by omega
          have y2 : 2 < σ.next := by omega
          cases hst : out l s (l.length - 1) with
          | none =>
            rw [hst] at hg2 hv
            simp only at hv
            rw [hv]
            simp (disch := omega) [Und, hl0, hn, hg0, hg1, hg2, q1, hst, y1, y2, -Bool.exists_bool]
            rfl
          | some x =>
            rw [hst] at hg2 hv
            simp only at hv
            rw [hv]
            simp (disch := omega) [Und, hl0, hn, hg0, hg1, hg2, q1, hst, mst, y1, y2, -Bool.exists_bool]
            rfl
  · have hv : moonV l s = (⟨0, 0⟩, 83) := by unfold moonV; rw [if_neg fun h => hl ⟨h.1.1, h.2⟩]
    rw [hv]
    by_cases hlen : 2 ≤ (l.length : Int) ∧ (l.length : Int) ≤ 12
    · have hs : ¬ isSp s 0 1000000 := fun h => hl ⟨hlen, h⟩
      have hsp := Spanned_okR s 0 1000000
      rw [decide_eq_false hs] at hsp
      simp (disch := omega) [hlen, hs, hsp, -Spanned_okR, -Bool.exists_bool]
      refine lp_loop pl (fun k fr σ => fr = ⟨[(0, vl eSpan nl l), (3, .ptr (some (0, 0))), (4, .ptr (some (1, 0))), (6, .bool false), (7, .int .i64 0)], []⟩ ∧ σ.lim = 0 ∧ σ.next = 2 ∧ σ.get 1 = some (.cells [.int .i64 0, .int .i64 0])) ⟨0, rfl, by simp, by simp, by simp⟩ ?_
      rintro k _ σ ⟨rfl, hl0, hn, hg1⟩
      simp (disch := omega) [Und, hl0, hn, hg1, -Bool.exists_bool]
      rfl
    · simp (disch := omega) [hlen, -Bool.exists_bool]
      refine lp_loop pl (fun k fr σ => fr = ⟨[(0, vl eSpan nl l), (3, .ptr (some (0, 0))), (4, .ptr (some (1, 0))), (6, .bool false), (7, .int .i64 0)], []⟩ ∧ σ.lim = 0 ∧ σ.next = 2 ∧ σ.get 1 = some (.cells [.int .i64 0, .int .i64 0])) ⟨0, rfl, by simp, by simp, by simp⟩ ?_
      rintro k _ σ ⟨rfl, hl0, hn, hg1⟩
      simp (disch := omega) [Und, hl0, hn, hg1, -Bool.exists_bool]
      rfl
end Go.Oct.Fix
