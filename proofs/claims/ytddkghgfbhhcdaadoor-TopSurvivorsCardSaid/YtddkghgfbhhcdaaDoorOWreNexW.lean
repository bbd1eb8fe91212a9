/- Logs: all points to which a run leads from one, one after the other. -/
import Derived.Test.YtddkghgfbhhcdaaDoorOWreIteW
set_option maxRecDepth 100000
set_option maxHeartbeats 8000000
set_option linter.unusedVariables false
set_option linter.unusedSimpArgs false
namespace Go.Oct.Wre.Fx
open Go.Oct
def bLo (back : Bool) (lo hi : Int) : Int := bif back then -hi else lo
def bHi (back : Bool) (lo hi : Int) : Int := bif back then -lo else hi
def goB (s : Stp) (back : Bool) (p n : Nat) : Bool := bif back then go s n p else go s p n
theorem goB_iff {s : Stp} {back : Bool} {p n : Nat} : goB s back p n = true ↔ (bLo back s.elo s.ehi ≤ ((n / 60 : Nat) : Int) - ((p / 60 : Nat) : Int) ∧ ((n / 60 : Nat) : Int) - ((p / 60 : Nat) : Int) ≤ bHi back s.elo s.ehi) ∧ bLo back s.nlo s.nhi ≤ ((n % 60 : Nat) : Int) - ((p % 60 : Nat) : Int) ∧ ((n % 60 : Nat) : Int) - ((p % 60 : Nat) : Int) ≤ bHi back s.nlo s.nhi := by
  unfold goB go goI bLo bHi
  cases back
  · simp only [cond_false, Bool.and_eq_true, inI_iff]
  · simp only [cond_true, Bool.and_eq_true, inI_iff]
    constructor <;> (rintro ⟨⟨h1, h2⟩, h3, h4⟩; exact ⟨⟨by omega, by omega⟩, by omega, by omega⟩)
def okRun (s : Stp) : Prop := (-60 ≤ s.elo ∧ s.elo ≤ s.ehi ∧ s.ehi ≤ 60) ∧ -60 ≤ s.nlo ∧ s.nlo ≤ s.nhi ∧ s.nhi ≤ 60
theorem next1_ok {b1 b2 b3 l lo lm : Nat} {s : Stp} {back : Bool} {p : Nat} {I : Nat → AH → Prop} {J : AH → Prop} (hs : okRun s) (hp : p < 3600)
    (hI : ∀ n σ, I n σ → σ.get b1 = some (.cells (eStp s).cells) ∧ σ.get b2 = some (.cells [.bool back]) ∧ σ.get b3 = some (.cells [.int .i64 ((p / 60 : Nat) : Int), .int .i64 ((p % 60 : Nat) : Int)]) ∧ lo ≤ σ.next ∧ b1 < lo ∧ b2 < lo ∧ b3 < lo ∧ σ.lim = lm ∧ lm ≤ lo)
    (hpush : ∀ n σ σ', I n σ → Only [] σ σ' → I n σ')
    (hskip : ∀ n σ, I n σ → n < 3600 → goB s back p n = false → I (n + 1) σ)
    (hstep : ∀ n σ, I n σ → n < 3600 → goB s back p n = true → Call prog O (.yield l) [.agg [.int .i64 ((n / 60 : Nat) : Int), .int .i64 ((n % 60 : Nat) : Int)]] σ (fun r σ' => (r = .bool true ∧ I (n + 1) σ' ∧ Touch lo σ σ') ∨ (r = .bool false ∧ J σ')))
    {σ : AH} (h0 : I 0 σ) {K : AV → AH → Prop} (hk : ∀ σ', I 3600 σ' → K (.tuple []) σ') (hj : ∀ σ', J σ' → K (.tuple []) σ') :
    Call prog O (.fn 113) [.func (.yield l) [] [], .ptr (some (b1, 0)), .ptr (some (b2, 0)), .ptr (some (b3, 0))] σ K := by
  refine @call_of' _ _ pl _ _ _ _ _ _ _ ⟨K⟩ get113 ((oo (by decide)).2 _) rfl ?_
  obtain ⟨g1, g2, g3, hlo, l1, l2, l3, hlm, hml0⟩ := hI 0 σ h0
  obtain ⟨⟨s1, s2, s3⟩, s4, s5, s6⟩ := hs
  have p1 : p / 60 ≤ 59 := by omega
  have p2 : p % 60 ≤ 59 := by omega
  obtain ⟨pe, hpe⟩ : ∃ pe : Nat, pe = p / 60 := ⟨_, rfl⟩
  obtain ⟨pn, hpn⟩ : ∃ pn : Nat, pn = p % 60 := ⟨_, rfl⟩
  rw [← hpe] at p1
  rw [← hpn] at p2
  have hgo := fun n => goB_iff (s := s) (back := back) (p := p) (n := n)
  rw [← hpe, ← hpn] at g3
  simp only [← hpe, ← hpn] at hgo hI
  simp only [cells_eStp] at g1 hI
  have k1 : ¬ b1 = σ.next := by omega
  have k2 : ¬ b2 = σ.next := by omega
  have k3 : ¬ b3 = σ.next := by omega
  have k4 : ¬ b1 = σ.next + 1 := by omega
  have k5 : ¬ b2 = σ.next + 1 := by omega
  have k6 : ¬ b3 = σ.next + 1 := by omega
  have m1 : lm ≤ σ.next := by omega
  have m2 : lm ≤ σ.next + 1 := by omega
  have c1 : b1 < σ.next := by omega
  have c2 : b2 < σ.next := by omega
  have c3 : b3 < σ.next := by omega
  have d1 : σ.next < σ.next + 1 + 1 := by omega
  have d2 : σ.next + 1 < σ.next + 1 + 1 := by omega
  have d3 : ¬ σ.next = σ.next + 1 := by omega
  cases hb : back
  · rw [hb] at g2
    simp (disch := omega) [g1, g2, g3, hlm, k1, k2, k3, k4, k5, k6, m1, m2, c1, c2, c3, d1, d2, d3, Und, eqf1, eqf2, -Bool.exists_bool]
    have hg2 : ∀ n, goB s false p n = true ↔ (s.elo ≤ ((n / 60 : Nat) : Int) - (pe : Int) ∧ ((n / 60 : Nat) : Int) - (pe : Int) ≤ s.ehi) ∧ s.nlo ≤ ((n % 60 : Nat) : Int) - (pn : Int) ∧ ((n % 60 : Nat) : Int) - (pn : Int) ≤ s.nhi := fun n => by
      have := hgo n
      rw [hb] at this
      exact this
    have hno : ∀ n, ¬ ((s.elo ≤ ((n / 60 : Nat) : Int) - (pe : Int) ∧ ((n / 60 : Nat) : Int) - (pe : Int) ≤ s.ehi) ∧ s.nlo ≤ ((n % 60 : Nat) : Int) - (pn : Int) ∧ ((n % 60 : Nat) : Int) - (pn : Int) ≤ s.nhi) → goB s false p n = false := fun n h => by
      cases e : goB s false p n with
      | false => rfl
      | true => exact absurd ((hg2 n).1 e) h
    rw [hb] at hI hskip hstep
    generalize hτ : AH.set _ (σ.next + 1) _ = τ
    have t0 : τ.lim = lm := by rw [← hτ]; first | rfl | exact hlm
    have tn : τ.next = σ.next + 2 := by rw [← hτ]; rfl
    have ho : Only [] σ τ := ⟨t0.trans hlm.symm, by omega, fun z hz _ => by
      have y1 : ¬ z = σ.next := by omega
      have y2 : ¬ z = σ.next + 1 := by omega
      rw [← hτ]; simp (disch := omega) [y1, y2]⟩
    have tg5 : τ.get σ.next = some (.cells [.int .i64 (s.elo), .int .i64 (s.ehi)]) := by
      rw [← hτ]; simp (disch := omega) [d1, d2, d3]
    have tg6 : τ.get (σ.next + 1) = some (.cells [.int .i64 (s.nlo), .int .i64 (s.nhi)]) := by
      rw [← hτ]; simp (disch := omega) [d1, d2, d3]
    have hi0 := hpush 0 σ τ h0 ho
    obtain ⟨e0, he0⟩ : ∃ e0 : Nat, max 0 ((pe : Int) + s.elo) = e0 := ⟨(max 0 ((pe : Int) + s.elo)).toNat, by omega⟩
    obtain ⟨f0, hf0⟩ : ∃ f0 : Nat, max 0 ((pn : Int) + s.nlo) = f0 := ⟨(max 0 ((pn : Int) + s.nlo)).toNat, by omega⟩
    have he0b : e0 ≤ 119 := by omega
    have hf0b : f0 ≤ 119 := by omega
    have hs0 : I (min (60 * e0) 3600) τ := by
      have := skips hskip (σ := τ) (d := min (60 * e0) 3600) (a := 0) (by omega) hi0 fun n _ h2 => hno n fun h => by
        have h3 : n / 60 < e0 := by omega
        omega
      rwa [Nat.zero_add] at this
    clear hτ
    refine lp_loop pl (fun k fr υ => ∃ e : Nat, e + k = 200 ∧ e0 ≤ e ∧ fr = ⟨[(0, .func (.yield l) [] []), (3, .ptr (some (b3, 0))), (5, .ptr (some (σ.next, 0))), (6, .ptr (some (σ.next + 1, 0))), (7, .int .i64 e)], []⟩ ∧ I (min (60 * e) 3600) υ ∧ τ.next ≤ υ.next ∧ υ.get σ.next = some (.cells [.int .i64 (s.elo), .int .i64 (s.ehi)]) ∧ υ.get (σ.next + 1) = some (.cells [.int .i64 (s.nlo), .int .i64 (s.nhi)]))
      ⟨200 - e0, e0, by omega, by omega, by rw [he0], hs0, Nat.le_refl _, tg5, tg6⟩ ?_
    rintro k _ υ ⟨e, hek, hee, rfl, hie, vn, vg5, vg6⟩
    obtain ⟨r1, r2, r3, r4, r5, r6, r7, r8, r9⟩ := hI _ υ hie
    have v5 := AH.get_lt vg5
    have v6 := AH.get_lt vg6
    by_cases hel : (e : Int) ≤ 59 ∧ (e : Int) ≤ (pe : Int) + s.ehi
    · obtain ⟨he1, he2⟩ := hel
      have he3 : (e : Int) ≤ min 59 ((pe : Int) + s.ehi) := by omega
      simp (disch := omega) [r3, vg5, vg6, v5, v6, r8, he1, he2, he3, Und, eqf1, eqf2, -Bool.exists_bool]
      have hmin : min (60 * e) 3600 = 60 * e := by omega
      rw [hmin] at hie
      have hs1 : I (60 * e + min f0 60) υ := skips hskip (σ := υ) (d := min f0 60) (a := 60 * e) (by omega) hie fun n h1 h2 => hno n fun h => by
        have h3 : n % 60 = n - 60 * e := by omega
        omega
      refine lp_loop pl (fun k fr ω => ∃ n : Nat, n + k = 200 ∧ f0 ≤ n ∧ fr = ⟨[(0, .func (.yield l) [] []), (3, .ptr (some (b3, 0))), (5, .ptr (some (σ.next, 0))), (6, .ptr (some (σ.next + 1, 0))), (7, .int .i64 e), (8, .int .i64 n)], []⟩ ∧ I (60 * e + min n 60) ω ∧ τ.next ≤ ω.next ∧ ω.get σ.next = some (.cells [.int .i64 (s.elo), .int .i64 (s.ehi)]) ∧ ω.get (σ.next + 1) = some (.cells [.int .i64 (s.nlo), .int .i64 (s.nhi)]))
        ⟨200 - f0, f0, by omega, by omega, by rw [hf0], hs1, vn, vg5, vg6⟩ ?_
      rintro k2 _ ω ⟨n, hnk, hnn, rfl, hin, wn, wg5, wg6⟩
      obtain ⟨q1, q2, q3, q4, q5, q6, q7, q8, q9⟩ := hI _ ω hin
      have w5 := AH.get_lt wg5
      have w6 := AH.get_lt wg6
      by_cases hnl : (n : Int) ≤ 59 ∧ (n : Int) ≤ (pn : Int) + s.nhi
      · obtain ⟨hn1, hn2⟩ := hnl
        have hn3 : (n : Int) ≤ min 59 ((pn : Int) + s.nhi) := by omega
        have hmn : min n 60 = n := by omega
        rw [hmn] at hin
        have hm : 60 * e + n < 3600 := by omega
        have z1 : ((60 * e + n) / 60 : Nat) = e := by omega
        have z2 : ((60 * e + n) % 60 : Nat) = n := by omega
        have hgt : goB s false p (60 * e + n) = true := (hg2 _).2 (by rw [z1, z2]; omega)
        have hst := hstep _ ω hin hm hgt
        rw [z1, z2] at hst
        simp (disch := omega) [q3, wg5, wg6, w5, w6, q8, hn1, hn2, hn3, Und, eqf1, eqf2, -Bool.exists_bool]
        refine hst.mono ?_
        rintro r σ' (⟨rfl, hi2, htc⟩ | ⟨rfl, hjj⟩)
        · simp (disch := omega) [Und, -Bool.exists_bool]
          have tnx := htc.next
          exact ⟨k2 - 1, by omega, n + 1, by omega, by omega, by omega, by rw [show min (n + 1) 60 = n + 1 by omega, ← Nat.add_assoc]; exact hi2, by omega, (htc.get _ (by omega) w5).trans wg5, (htc.get _ (by omega) w6).trans wg6⟩
        · simp (disch := omega) [Und, -Bool.exists_bool]
          exact hj _ hjj
      · have hn3 : ¬ (n : Int) ≤ min 59 ((pn : Int) + s.nhi) := by omega
        simp (disch := omega) [q3, wg5, wg6, w5, w6, q8, eq_false hn3, Und, eqf1, eqf2, -Bool.exists_bool]
        have hs2 : I (60 * e + min n 60 + (60 - min n 60)) ω := skips hskip (σ := ω) (d := 60 - min n 60) (a := 60 * e + min n 60) (by omega) hin fun m h1 h2 => hno m fun h => by
          have h3 : m % 60 = m - 60 * e := by omega
          omega
        exact ⟨k - 1, by omega, e + 1, by omega, by omega, by omega, by rw [show min (60 * (e + 1)) 3600 = 60 * e + min n 60 + (60 - min n 60) by omega]; exact hs2, by omega⟩
    · have he3 : ¬ (e : Int) ≤ min 59 ((pe : Int) + s.ehi) := by omega
      simp (disch := omega) [r3, vg5, vg6, v5, v6, r8, eq_false he3, Und, eqf1, eqf2, -Bool.exists_bool]
      have hs2 : I (min (60 * e) 3600 + (3600 - min (60 * e) 3600)) υ := skips hskip (σ := υ) (d := 3600 - min (60 * e) 3600) (a := min (60 * e) 3600) (by omega) hie fun m h1 h2 => hno m fun h => by
        have h3 : e ≤ m / 60 := by omega
        omega
      rw [show min (60 * e) 3600 + (3600 - min (60 * e) 3600) = 3600 by omega] at hs2
      exact hk υ hs2
  · rw [hb] at g2
    simp (disch := omega) [g1, g2, g3, hlm, k1, k2, k3, k4, k5, k6, m1, m2, c1, c2, c3, d1, d2, d3, Und, eqf1, eqf2, -Bool.exists_bool]
    have hg2 : ∀ n, goB s true p n = true ↔ (-s.ehi ≤ ((n / 60 : Nat) : Int) - (pe : Int) ∧ ((n / 60 : Nat) : Int) - (pe : Int) ≤ -s.elo) ∧ -s.nhi ≤ ((n % 60 : Nat) : Int) - (pn : Int) ∧ ((n % 60 : Nat) : Int) - (pn : Int) ≤ -s.nlo := fun n => by
      have := hgo n
      rw [hb] at this
      exact this
    have hno : ∀ n, ¬ ((-s.ehi ≤ ((n / 60 : Nat) : Int) - (pe : Int) ∧ ((n / 60 : Nat) : Int) - (pe : Int) ≤ -s.elo) ∧ -s.nhi ≤ ((n % 60 : Nat) : Int) - (pn : Int) ∧ ((n % 60 : Nat) : Int) - (pn : Int) ≤ -s.nlo) → goB s true p n = false := fun n h => by
      cases e : goB s true p n with
      | false => rfl
      | true => exact absurd ((hg2 n).1 e) h
    rw [hb] at hI hskip hstep
    generalize hτ : AH.set _ (σ.next + 1) _ = τ
    have t0 : τ.lim = lm := by rw [← hτ]; first | rfl | exact hlm
    have tn : τ.next = σ.next + 2 := by rw [← hτ]; rfl
    have ho : Only [] σ τ := ⟨t0.trans hlm.symm, by omega, fun z hz _ => by
      have y1 : ¬ z = σ.next := by omega
      have y2 : ¬ z = σ.next + 1 := by omega
      rw [← hτ]; simp (disch := omega) [y1, y2]⟩
    have tg5 : τ.get σ.next = some (.cells [.int .i64 (-s.ehi), .int .i64 (-s.elo)]) := by
      rw [← hτ]; simp (disch := omega) [d1, d2, d3]
    have tg6 : τ.get (σ.next + 1) = some (.cells [.int .i64 (-s.nhi), .int .i64 (-s.nlo)]) := by
      rw [← hτ]; simp (disch := omega) [d1, d2, d3]
    have hi0 := hpush 0 σ τ h0 ho
    obtain ⟨e0, he0⟩ : ∃ e0 : Nat, max 0 ((pe : Int) + -s.ehi) = e0 := ⟨(max 0 ((pe : Int) + -s.ehi)).toNat, by omega⟩
    obtain ⟨f0, hf0⟩ : ∃ f0 : Nat, max 0 ((pn : Int) + -s.nhi) = f0 := ⟨(max 0 ((pn : Int) + -s.nhi)).toNat, by omega⟩
    have he0b : e0 ≤ 119 := by omega
    have hf0b : f0 ≤ 119 := by omega
    have hs0 : I (min (60 * e0) 3600) τ := by
      have := skips hskip (σ := τ) (d := min (60 * e0) 3600) (a := 0) (by omega) hi0 fun n _ h2 => hno n fun h => by
        have h3 : n / 60 < e0 := by omega
        omega
      rwa [Nat.zero_add] at this
    clear hτ
    refine lp_loop pl (fun k fr υ => ∃ e : Nat, e + k = 200 ∧ e0 ≤ e ∧ fr = ⟨[(0, .func (.yield l) [] []), (3, .ptr (some (b3, 0))), (5, .ptr (some (σ.next, 0))), (6, .ptr (some (σ.next + 1, 0))), (7, .int .i64 e)], []⟩ ∧ I (min (60 * e) 3600) υ ∧ τ.next ≤ υ.next ∧ υ.get σ.next = some (.cells [.int .i64 (-s.ehi), .int .i64 (-s.elo)]) ∧ υ.get (σ.next + 1) = some (.cells [.int .i64 (-s.nhi), .int .i64 (-s.nlo)]))
      ⟨200 - e0, e0, by omega, by omega, by rw [he0], hs0, Nat.le_refl _, tg5, tg6⟩ ?_
    rintro k _ υ ⟨e, hek, hee, rfl, hie, vn, vg5, vg6⟩
    obtain ⟨r1, r2, r3, r4, r5, r6, r7, r8, r9⟩ := hI _ υ hie
    have v5 := AH.get_lt vg5
    have v6 := AH.get_lt vg6
    by_cases hel : (e : Int) ≤ 59 ∧ (e : Int) ≤ (pe : Int) + -s.elo
    · obtain ⟨he1, he2⟩ := hel
      have he3 : (e : Int) ≤ min 59 ((pe : Int) + -s.elo) := by omega
      simp (disch := omega) [r3, vg5, vg6, v5, v6, r8, he1, he2, he3, Und, eqf1, eqf2, -Bool.exists_bool]
      have hmin : min (60 * e) 3600 = 60 * e := by omega
      rw [hmin] at hie
      have hs1 : I (60 * e + min f0 60) υ := skips hskip (σ := υ) (d := min f0 60) (a := 60 * e) (by omega) hie fun n h1 h2 => hno n fun h => by
        have h3 : n % 60 = n - 60 * e := by omega
        omega
      refine lp_loop pl (fun k fr ω => ∃ n : Nat, n + k = 200 ∧ f0 ≤ n ∧ fr = ⟨[(0, .func (.yield l) [] []), (3, .ptr (some (b3, 0))), (5, .ptr (some (σ.next, 0))), (6, .ptr (some (σ.next + 1, 0))), (7, .int .i64 e), (8, .int .i64 n)], []⟩ ∧ I (60 * e + min n 60) ω ∧ τ.next ≤ ω.next ∧ ω.get σ.next = some (.cells [.int .i64 (-s.ehi), .int .i64 (-s.elo)]) ∧ ω.get (σ.next + 1) = some (.cells [.int .i64 (-s.nhi), .int .i64 (-s.nlo)]))
        ⟨200 - f0, f0, by omega, by omega, by rw [hf0], hs1, vn, vg5, vg6⟩ ?_
      rintro k2 _ ω ⟨n, hnk, hnn, rfl, hin, wn, wg5, wg6⟩
      obtain ⟨q1, q2, q3, q4, q5, q6, q7, q8, q9⟩ := hI _ ω hin
      have w5 := AH.get_lt wg5
      have w6 := AH.get_lt wg6
      by_cases hnl : (n : Int) ≤ 59 ∧ (n : Int) ≤ (pn : Int) + -s.nlo
      · obtain ⟨hn1, hn2⟩ := hnl
        have hn3 : (n : Int) ≤ min 59 ((pn : Int) + -s.nlo) := by omega
        have hmn : min n 60 = n := by omega
        rw [hmn] at hin
        have hm : 60 * e + n < 3600 := by omega
        have z1 : ((60 * e + n) / 60 : Nat) = e := by omega
        have z2 : ((60 * e + n) % 60 : Nat) = n := by omega
        have hgt : goB s true p (60 * e + n) = true := (hg2 _).2 (by rw [z1, z2]; omega)
        have hst := hstep _ ω hin hm hgt
        rw [z1, z2] at hst
        simp (disch := omega) [q3, wg5, wg6, w5, w6, q8, hn1, hn2, hn3, Und, eqf1, eqf2, -Bool.exists_bool]
        refine hst.mono ?_
        rintro r σ' (⟨rfl, hi2, htc⟩ | ⟨rfl, hjj⟩)
        · simp (disch := omega) [Und, -Bool.exists_bool]
          have tnx := htc.next
          exact ⟨k2 - 1, by omega, n + 1, by omega, by omega, by omega, by rw [show min (n + 1) 60 = n + 1 by omega, ← Nat.add_assoc]; exact hi2, by omega, (htc.get _ (by omega) w5).trans wg5, (htc.get _ (by omega) w6).trans wg6⟩
        · simp (disch := omega) [Und, -Bool.exists_bool]
          exact hj _ hjj
      · have hn3 : ¬ (n : Int) ≤ min 59 ((pn : Int) + -s.nlo) := by omega
        simp (disch := omega) [q3, wg5, wg6, w5, w6, q8, eq_false hn3, Und, eqf1, eqf2, -Bool.exists_bool]
        have hs2 : I (60 * e + min n 60 + (60 - min n 60)) ω := skips hskip (σ := ω) (d := 60 - min n 60) (a := 60 * e + min n 60) (by omega) hin fun m h1 h2 => hno m fun h => by
          have h3 : m % 60 = m - 60 * e := by omega
          omega
        exact ⟨k - 1, by omega, e + 1, by omega, by omega, by omega, by rw [show min (60 * (e + 1)) 3600 = 60 * e + min n 60 + (60 - min n 60) by omega]; exact hs2, by omega⟩
    · have he3 : ¬ (e : Int) ≤ min 59 ((pe : Int) + -s.elo) := by omega
      simp (disch := omega) [r3, vg5, vg6, v5, v6, r8, eq_false he3, Und, eqf1, eqf2, -Bool.exists_bool]
      have hs2 : I (min (60 * e) 3600 + (3600 - min (60 * e) 3600)) υ := skips hskip (σ := υ) (d := 3600 - min (60 * e) 3600) (a := min (60 * e) 3600) (by omega) hie fun m h1 h2 => hno m fun h => by
        have h3 : e ≤ m / 60 := by omega
        omega
      rw [show min (60 * e) 3600 + (3600 - min (60 * e) 3600) = 3600 by omega] at hs2
      exact hk υ hs2
end Go.Oct.Wre.Fx
