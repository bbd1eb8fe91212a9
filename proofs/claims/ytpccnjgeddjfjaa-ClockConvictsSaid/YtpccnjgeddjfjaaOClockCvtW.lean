/- A watch that numbers choose. -/
import Derived.Test.YtpccnjgeddjfjaaOClockWtR
import Derived.Test.YtpccnjgeddjfjaaOClockChz
set_option maxRecDepth 100000
set_option maxHeartbeats 1000000
set_option linter.unusedVariables false
set_option linter.unusedSimpArgs false
namespace Go.Oct.Clock
open Go.Oct
/-- What chooses a watch: the rates, how wrong comparisons are, who jumps, how far, the numbers. -/
structure Cw where
  r0 : Span
  r1 : Span
  r2 : Span
  wr : Int
  who : Nat
  jp : Int
  b : List Int
def Cw.rt (c : Cw) (k : Nat) : Span := if k = 0 then c.r0 else if k = 1 then c.r1 else c.r2
def okC (c : Cw) : Prop := (0 ≤ c.wr ∧ c.wr ≤ 1000) ∧ c.who < 3 ∧ (-5000000 ≤ c.jp ∧ c.jp ≤ 5000000) ∧ rtOK c.r0 ∧ rtOK c.r1 ∧ rtOK c.r2
def Cw.days (c : Cw) : Nat := (2 + pick c.b 0 % 8).toNat
def Cw.on (c : Cw) : Nat := (1 + pick c.b 1 % ((c.days : Int) - 1)).toNat
/-- What a day adds to a clock's error. -/
def Cw.ch (c : Cw) (k d : Nat) : Int := chz (c.rt k).lo (c.rt k).hi (pick c.b (3 * (d : Int) + k))
def Cw.st (c : Cw) (k d : Nat) : Int := if d = 0 then 0 else c.ch k d + if k = c.who ∧ d = c.on then c.jp else 0
/-- A clock's error before a day. -/
def Cw.eB (c : Cw) (k : Nat) : Nat → Int
  | 0 => 0
  | d + 1 => c.eB k d + c.st k d
def Cw.f (c : Cw) (d : Nat) : Int := c.eB 0 (d + 1) - c.eB 1 (d + 1) + chz (-c.wr) c.wr (pick c.b ((d : Int) + 2))
def Cw.s (c : Cw) (d : Nat) : Int := c.eB 1 (d + 1) - c.eB 2 (d + 1) + chz (-c.wr) c.wr (pick c.b ((d : Int) + 5))
def Cw.F (c : Cw) (n : Nat) : List Int := (List.range n).map c.f
def Cw.S (c : Cw) (n : Nat) : List Int := (List.range n).map c.s
def Cw.w (c : Cw) : Wt := ⟨c.F c.days, c.S c.days, c.wr, c.r0, c.r1, c.r2⟩
theorem F_succ (c : Cw) (n : Nat) : c.F (n + 1) = c.F n ++ [c.f n] := by simp [Cw.F, List.range_succ]
theorem S_succ (c : Cw) (n : Nat) : c.S (n + 1) = c.S n ++ [c.s n] := by simp [Cw.S, List.range_succ]
@[simp] theorem F_len (c : Cw) (n : Nat) : (c.F n).length = n := by simp [Cw.F]
@[simp] theorem S_len (c : Cw) (n : Nat) : (c.S n).length = n := by simp [Cw.S]
theorem rtC {c : Cw} (h : okC c) (k : Nat) : rtOK (c.rt k) := by
  unfold Cw.rt
  split
  · exact h.2.2.2.1
  · split
    · exact h.2.2.2.2.1
    · exact h.2.2.2.2.2
theorem ch_bd {c : Cw} (h : okC c) (k d : Nat) : (c.rt k).lo ≤ c.ch k d ∧ c.ch k d ≤ (c.rt k).hi := by
  have := rtC h k
  unfold rtOK at this
  exact chz_in (by omega)
theorem st_bd {c : Cw} (h : okC c) (k d : Nat) : -5100000 ≤ c.st k d ∧ c.st k d ≤ 5100000 := by
  have h1 := ch_bd h k d
  have h2 := rtC h k
  have h3 := h.2.2.1
  unfold rtOK at h2
  unfold Cw.st
  split
  · omega
  · split <;> omega
theorem eB_bd {c : Cw} (h : okC c) (k : Nat) : ∀ d : Nat, -(5100000 * (d : Int)) ≤ c.eB k d ∧ c.eB k d ≤ 5100000 * (d : Int)
  | 0 => by show _ ≤ (0 : Int) ∧ (0 : Int) ≤ _; omega
  | d + 1 => by
    have h1 := eB_bd h k d
    have h2 := st_bd h k d
    show _ ≤ c.eB k d + c.st k d ∧ c.eB k d + c.st k d ≤ _
    push_cast
    omega
theorem days_bd (c : Cw) : 2 ≤ c.days ∧ c.days ≤ 9 := by
  unfold Cw.days
  omega
theorem days_eq (c : Cw) : (c.days : Int) = 2 + pick c.b 0 % 8 := by
  unfold Cw.days
  omega
theorem on_eq (c : Cw) : (c.on : Int) = 1 + pick c.b 1 % ((c.days : Int) - 1) := by
  have := days_bd c
  have h1 := Int.emod_nonneg (pick c.b 1) (show (c.days : Int) - 1 ≠ 0 by omega)
  unfold Cw.on
  omega
theorem on_bd (c : Cw) : 1 ≤ c.on ∧ c.on < c.days := by
  have := days_bd c
  have h1 := Int.emod_nonneg (pick c.b 1) (show (c.days : Int) - 1 ≠ 0 by omega)
  have h2 := Int.emod_lt_of_pos (pick c.b 1) (show 0 < (c.days : Int) - 1 by omega)
  have := on_eq c
  omega
theorem buf_celC {lo : Nat} {σ : AH} {v : AV} {L : List Int} (h : Buf lo 1 (AV.int .i64) σ v L) : v.cells = [v] ∧ v.dfd = true ∧ v.one = true := by
  rcases h with ⟨rfl, _⟩ | ⟨i, rfl, _⟩
  · exact ⟨rfl, rfl, rfl⟩
  · exact ⟨rfl, rfl, rfl⟩
theorem under_zero {σ : AH} (h : σ.lim = 0) : σ.under 0 = σ := by
  cases σ
  simp only at h
  subst h
  rfl
theorem compared_ok {c : Cw} (h : okC c) (nb : Bool) (hb : c.b.length < 2 ^ 62) :
    ans prog O 42 [.agg [.int .i64 c.r0.lo, .int .i64 c.r0.hi, .int .i64 c.r1.lo, .int .i64 c.r1.hi, .int .i64 c.r2.lo, .int .i64 c.r2.hi], .int .i64 c.wr, .int .i64 c.who, .int .i64 c.jp, vs nb c.b] = some (.agg (cWt false false c.w)) := by
  have hd := days_bd c
  have hde := days_eq c
  have ho := on_bd c
  have hoe := on_eq c
  have hP : ∀ n : Int, ans prog O 38 [vs nb c.b, .int .i64 n] = some (.int .i64 (pick c.b n)) := fun n => Pick_ok nb c.b n hb
  obtain ⟨hwr, hwho, hjp, hr0, hr1, hr2⟩ := h
  have hok : okC c := ⟨hwr, hwho, hjp, hr0, hr1, hr2⟩
  have hr0' := hr0; have hr1' := hr1; have hr2' := hr2
  unfold rtOK at hr0' hr1' hr2'
  refine fn_of' pl get42 (oo (by decide)) rfl rfl ?_
  simp (disch := omega) [hP, ← hde, ← hoe, -Pick_ok, -Bool.exists_bool]
  refine lp_loop pl (fun k fr τ => ∃ (d : Nat) (v1 v2 : AV), d + k = c.days ∧ fr = ⟨[(1, .int .i64 c.wr), (2, .int .i64 c.who), (3, .int .i64 c.jp), (4, vs nb c.b), (5, .ptr (some (0, 0))), (10, .ptr (some (1, 0))), (11, .ptr (some (2, 0))), (12, .int .i64 c.days), (13, .int .i64 c.on), (14, .slice (some (3, 0)) 3 (.ex 3)), (15, .int .i64 d)], []⟩ ∧
      τ.lim = 0 ∧ 4 ≤ τ.next ∧ τ.get 0 = some (.cells [.int .i64 c.r0.lo, .int .i64 c.r0.hi, .int .i64 c.r1.lo, .int .i64 c.r1.hi, .int .i64 c.r2.lo, .int .i64 c.r2.hi]) ∧ τ.get 1 = some (.cells [.vsl true [], .vsl true [], .int .i64 0, .int .i64 0, .int .i64 0, .int .i64 0, .int .i64 0, .int .i64 0, .int .i64 0]) ∧
      τ.get 2 = some (.cells [v1, v2, .int .i64 c.wr, .int .i64 c.r0.lo, .int .i64 c.r0.hi, .int .i64 c.r1.lo, .int .i64 c.r1.hi, .int .i64 c.r2.lo, .int .i64 c.r2.hi]) ∧ τ.get 3 = some (.cells [.int .i64 (c.eB 0 d), .int .i64 (c.eB 1 d), .int .i64 (c.eB 2 d)]) ∧
      Buf 4 1 (AV.int .i64) τ v1 (c.F d) ∧ Buf 4 1 (AV.int .i64) τ v2 (c.S d) ∧ (∀ i ∈ obj v1, i ∉ obj v2))
    ⟨c.days, 0, .vsl true [], .vsl true [], by omega, rfl, rfl, by simp, by simp, by simp, by simp, by simp; exact ⟨rfl, rfl, rfl⟩, Buf.nil, Buf.nil, fun i h => by cases h⟩ ?_
  rintro k _ τ ⟨d, v1, v2, hdk, rfl, t0, tn, g0, g1, g2, g3, hb1, hb2, hdis⟩
  by_cases hdd : d < c.days
  · simp (disch := omega) [Und, t0, hdd, -Bool.exists_bool]
    refine lp_loop pl (fun k2 fr ρ => ∃ (q : Nat), q + k2 = 3 ∧ fr = ⟨[(1, .int .i64 c.wr), (2, .int .i64 c.who), (3, .int .i64 c.jp), (4, vs nb c.b), (5, .ptr (some (0, 0))), (10, .ptr (some (1, 0))), (11, .ptr (some (2, 0))), (12, .int .i64 c.days), (13, .int .i64 c.on), (14, .slice (some (3, 0)) 3 (.ex 3)), (15, .int .i64 d), (16, .int .i64 q)], []⟩ ∧
        ρ.lim = 0 ∧ ρ.next = τ.next ∧ (∀ i, i ≠ 3 → ρ.get i = τ.get i) ∧ (d = 0 → q = 0) ∧ ρ.get 3 = some (.cells [.int .i64 (if 0 < q then c.eB 0 (d + 1) else c.eB 0 d), .int .i64 (if 1 < q then c.eB 1 (d + 1) else c.eB 1 d), .int .i64 (if 2 < q then c.eB 2 (d + 1) else c.eB 2 d)]))
      ⟨3, 0, by omega, rfl, t0, rfl, fun _ _ => rfl, fun _ => rfl, by simpa using g3⟩ ?_
    rintro k2 _ ρ ⟨q, hq, rfl, p0, pn, pg, pz, p3⟩
    have e0 := (pg 0 (by omega)).trans g0
    have e1 := (pg 1 (by omega)).trans g1
    have e2 := (pg 2 (by omega)).trans g2
    by_cases hgo : q < 3 ∧ 0 < d
    · obtain ⟨hq3, hd0⟩ := hgo
      have hb0 := eB_bd hok 0 d
      have hb1' := eB_bd hok 1 d
      have hb2' := eB_bd hok 2 d
      have c0 := ch_bd hok 0 d
      have c1 := ch_bd hok 1 d
      have c2 := ch_bd hok 2 d
      obtain rfl | rfl | rfl : q = 0 ∨ q = 1 ∨ q = 2 := by omega
      · have hch : chz c.r0.lo c.r0.hi (pick c.b (3 * (d : Int))) = c.ch 0 d := by simp [Cw.ch, Cw.rt]
        have cb : c.r0.lo ≤ c.ch 0 d ∧ c.ch 0 d ≤ c.r0.hi := ch_bd hok 0 d
        have hbq := eB_bd hok 0 d
        have m3 := AH.get_lt p3
        have m0 := AH.get_lt e0
        have wa : w64 (c.eB 0 d + c.ch 0 d) = c.eB 0 d + c.ch 0 d := w64_id _ (by omega) (by omega)
        have wb : w64 (c.eB 0 d + c.ch 0 d + c.jp) = c.eB 0 d + c.ch 0 d + c.jp := w64_id _ (by omega) (by omega)
        by_cases hwq : c.who = 0
        · have xw : ((0 : Int) = (c.who : Int)) = True := eq_true (by omega)
          by_cases hdo : d = c.on
          · have xd : ((d : Int) = (c.on : Int)) = True := eq_true (by omega)
            have hst : c.eB 0 (d + 1) = c.eB 0 d + c.ch 0 d + c.jp := by
              show c.eB 0 d + c.st 0 d = _
              unfold Cw.st
              rw [if_neg (by omega), if_pos ⟨by omega, hdo⟩]
              omega
            simp (disch := omega) [Und, p0, hd0, e0, e1, e2, p3, m0, m3, hP, hch, xw, xd, wa, wb, -Pick_ok, -Bool.exists_bool]
            exact ⟨k2 - 1, by omega, 1, by omega, rfl, pn, (fun i hi => by rw [if_neg hi, if_neg hi]; exact pg i hi), (fun h => by omega), by rw [if_pos (by omega), hst], (fun h => by omega), (fun h => by omega)⟩
          · have xd : ((d : Int) = (c.on : Int)) = False := eq_false (by omega)
            have hst : c.eB 0 (d + 1) = c.eB 0 d + c.ch 0 d := by
              show c.eB 0 d + c.st 0 d = _
              unfold Cw.st
              rw [if_neg (by omega), if_neg (by omega)]
              omega
            simp (disch := omega) [Und, p0, hd0, e0, e1, e2, p3, m0, m3, hP, hch, xw, xd, wa, -Pick_ok, -Bool.exists_bool]
            exact ⟨k2 - 1, by omega, 1, by omega, rfl, pn, (fun i hi => by rw [if_neg hi]; exact pg i hi), (fun h => by omega), by rw [if_pos (by omega), hst], (fun h => by omega), (fun h => by omega)⟩
        · have xw : ((0 : Int) = (c.who : Int)) = False := eq_false (by omega)
          have hst : c.eB 0 (d + 1) = c.eB 0 d + c.ch 0 d := by
            show c.eB 0 d + c.st 0 d = _
            unfold Cw.st
            rw [if_neg (by omega), if_neg (by omega)]
            omega
          simp (disch := omega) [Und, p0, hd0, e0, e1, e2, p3, m0, m3, hP, hch, xw, wa, -Pick_ok, -Bool.exists_bool]
          exact ⟨k2 - 1, by omega, 1, by omega, rfl, pn, (fun i hi => by rw [if_neg hi]; exact pg i hi), (fun h => by omega), by rw [if_pos (by omega), hst], (fun h => by omega), (fun h => by omega)⟩
      · have hch : chz c.r1.lo c.r1.hi (pick c.b (3 * (d : Int) + 1)) = c.ch 1 d := rfl
        have cb : c.r1.lo ≤ c.ch 1 d ∧ c.ch 1 d ≤ c.r1.hi := ch_bd hok 1 d
        have hbq := eB_bd hok 1 d
        have m3 := AH.get_lt p3
        have m0 := AH.get_lt e0
        have wa : w64 (c.eB 1 d + c.ch 1 d) = c.eB 1 d + c.ch 1 d := w64_id _ (by omega) (by omega)
        have wb : w64 (c.eB 1 d + c.ch 1 d + c.jp) = c.eB 1 d + c.ch 1 d + c.jp := w64_id _ (by omega) (by omega)
        by_cases hwq : c.who = 1
        · have xw : ((1 : Int) = (c.who : Int)) = True := eq_true (by omega)
          by_cases hdo : d = c.on
          · have xd : ((d : Int) = (c.on : Int)) = True := eq_true (by omega)
            have hst : c.eB 1 (d + 1) = c.eB 1 d + c.ch 1 d + c.jp := by
              show c.eB 1 d + c.st 1 d = _
              unfold Cw.st
              rw [if_neg (by omega), if_pos ⟨by omega, hdo⟩]
              omega
            simp (disch := omega) [Und, p0, hd0, e0, e1, e2, p3, m0, m3, hP, hch, xw, xd, wa, wb, -Pick_ok, -Bool.exists_bool]
            exact ⟨k2 - 1, by omega, 2, by omega, rfl, pn, (fun i hi => by rw [if_neg hi, if_neg hi]; exact pg i hi), (fun h => by omega), (fun h => by omega), by rw [if_pos (by omega), hst], (fun h => by omega)⟩
          · have xd : ((d : Int) = (c.on : Int)) = False := eq_false (by omega)
            have hst : c.eB 1 (d + 1) = c.eB 1 d + c.ch 1 d := by
              show c.eB 1 d + c.st 1 d = _
              unfold Cw.st
              rw [if_neg (by omega), if_neg (by omega)]
              omega
            simp (disch := omega) [Und, p0, hd0, e0, e1, e2, p3, m0, m3, hP, hch, xw, xd, wa, -Pick_ok, -Bool.exists_bool]
            exact ⟨k2 - 1, by omega, 2, by omega, rfl, pn, (fun i hi => by rw [if_neg hi]; exact pg i hi), (fun h => by omega), (fun h => by omega), by rw [if_pos (by omega), hst], (fun h => by omega)⟩
        · have xw : ((1 : Int) = (c.who : Int)) = False := eq_false (by omega)
          have hst : c.eB 1 (d + 1) = c.eB 1 d + c.ch 1 d := by
            show c.eB 1 d + c.st 1 d = _
            unfold Cw.st
            rw [if_neg (by omega), if_neg (by omega)]
            omega
          simp (disch := omega) [Und, p0, hd0, e0, e1, e2, p3, m0, m3, hP, hch, xw, wa, -Pick_ok, -Bool.exists_bool]
          exact ⟨k2 - 1, by omega, 2, by omega, rfl, pn, (fun i hi => by rw [if_neg hi]; exact pg i hi), (fun h => by omega), (fun h => by omega), by rw [if_pos (by omega), hst], (fun h => by omega)⟩
      · have hch : chz c.r2.lo c.r2.hi (pick c.b (3 * (d : Int) + 2)) = c.ch 2 d := rfl
        have cb : c.r2.lo ≤ c.ch 2 d ∧ c.ch 2 d ≤ c.r2.hi := ch_bd hok 2 d
        have hbq := eB_bd hok 2 d
        have m3 := AH.get_lt p3
        have m0 := AH.get_lt e0
        have wa : w64 (c.eB 2 d + c.ch 2 d) = c.eB 2 d + c.ch 2 d := w64_id _ (by omega) (by omega)
        have wb : w64 (c.eB 2 d + c.ch 2 d + c.jp) = c.eB 2 d + c.ch 2 d + c.jp := w64_id _ (by omega) (by omega)
        by_cases hwq : c.who = 2
        · have xw : ((2 : Int) = (c.who : Int)) = True := eq_true (by omega)
          by_cases hdo : d = c.on
          · have xd : ((d : Int) = (c.on : Int)) = True := eq_true (by omega)
            have hst : c.eB 2 (d + 1) = c.eB 2 d + c.ch 2 d + c.jp := by
              show c.eB 2 d + c.st 2 d = _
              unfold Cw.st
              rw [if_neg (by omega), if_pos ⟨by omega, hdo⟩]
              omega
            simp (disch := omega) [Und, p0, hd0, e0, e1, e2, p3, m0, m3, hP, hch, xw, xd, wa, wb, -Pick_ok, -Bool.exists_bool]
            exact ⟨k2 - 1, by omega, 3, by omega, rfl, pn, (fun i hi => by rw [if_neg hi, if_neg hi]; exact pg i hi), (fun h => by omega), (fun h => by omega), (fun h => by omega), by rw [if_pos (by omega), hst]⟩
          · have xd : ((d : Int) = (c.on : Int)) = False := eq_false (by omega)
            have hst : c.eB 2 (d + 1) = c.eB 2 d + c.ch 2 d := by
              show c.eB 2 d + c.st 2 d = _
              unfold Cw.st
              rw [if_neg (by omega), if_neg (by omega)]
              omega
            simp (disch := omega) [Und, p0, hd0, e0, e1, e2, p3, m0, m3, hP, hch, xw, xd, wa, -Pick_ok, -Bool.exists_bool]
            exact ⟨k2 - 1, by omega, 3, by omega, rfl, pn, (fun i hi => by rw [if_neg hi]; exact pg i hi), (fun h => by omega), (fun h => by omega), (fun h => by omega), by rw [if_pos (by omega), hst]⟩
        · have xw : ((2 : Int) = (c.who : Int)) = False := eq_false (by omega)
          have hst : c.eB 2 (d + 1) = c.eB 2 d + c.ch 2 d := by
            show c.eB 2 d + c.st 2 d = _
            unfold Cw.st
            rw [if_neg (by omega), if_neg (by omega)]
            omega
          simp (disch := omega) [Und, p0, hd0, e0, e1, e2, p3, m0, m3, hP, hch, xw, wa, -Pick_ok, -Bool.exists_bool]
          exact ⟨k2 - 1, by omega, 3, by omega, rfl, pn, (fun i hi => by rw [if_neg hi]; exact pg i hi), (fun h => by omega), (fun h => by omega), (fun h => by omega), by rw [if_pos (by omega), hst]⟩
    · have hcell : ρ.get 3 = some (.cells [.int .i64 (c.eB 0 (d + 1)), .int .i64 (c.eB 1 (d + 1)), .int .i64 (c.eB 2 (d + 1))]) := by
        rw [p3]
        by_cases h0 : d = 0
        · obtain rfl := pz h0
          subst h0
          rfl
        · obtain rfl : q = 3 := by omega
          rfl
      have hb0 := eB_bd hok 0 (d + 1)
      have hb1' := eB_bd hok 1 (d + 1)
      have hb2' := eB_bd hok 2 (d + 1)
      have hc1 := chz_in (l := -c.wr) (h := c.wr) (n := pick c.b ((d : Int) + 2)) (by omega)
      have hc2 := chz_in (l := -c.wr) (h := c.wr) (n := pick c.b ((d : Int) + 5)) (by omega)
      have m0 := AH.get_lt e0
      have m2 := AH.get_lt e2
      have m3 := AH.get_lt hcell
      push_cast at hb0 hb1' hb2'
      have hu := under_zero p0
      have B1 : Buf 4 1 (AV.int .i64) ρ v1 (c.F d) := hb1.keep fun i hi _ => pg i (by omega)
      have B2 : Buf 4 1 (AV.int .i64) ρ v2 (c.S d) := hb2.keep fun i hi _ => pg i (by omega)
      have hf : c.f d = c.eB 0 (d + 1) - c.eB 1 (d + 1) + chz (-c.wr) c.wr (pick c.b ((d : Int) + 2)) := rfl
      have hs : c.s d = c.eB 1 (d + 1) - c.eB 2 (d + 1) + chz (-c.wr) c.wr (pick c.b ((d : Int) + 5)) := rfl
      by_cases hq3 : q < 3
      · have hd0 : ¬ 0 < d := fun h => hgo ⟨hq3, h⟩
        have hq3' : (q : Int) < 3 := by omega
        simp (disch := omega) [Und, p0, hq3', hd0, e2, hcell, m2, m3, hP, hu, -Pick_ok, -Bool.exists_bool]
        rw [← hf]
        refine B1.push encI (by omega) (by omega) (c.f d) (by rw [F_len]; simp only [topBytes]; omega) rfl fun u1 σ1 h1 z1 => ?_
        have y0 : σ1.lim = 0 := z1.lim.trans p0
        have y2 := (z1.get 2 (by omega)).trans e2
        have y3 := (z1.get 3 (by omega)).trans hcell
        have n2 := AH.get_lt y2
        have n3 := AH.get_lt y3
        have zn := z1.next
        obtain ⟨w1, w2, w3⟩ := buf_celC h1
        simp (disch := omega) [y0, y2, y3, n2, n3, w1, w2, w3, hP, -Pick_ok, -Bool.exists_bool]
        rw [← hs]
        generalize hσ : σ1.set 2 (AObj.cells [u1, v2, AV.int IntKind.i64 c.wr, AV.int IntKind.i64 c.r0.lo, AV.int IntKind.i64 c.r0.hi, AV.int IntKind.i64 c.r1.lo, AV.int IntKind.i64 c.r1.hi, AV.int IntKind.i64 c.r2.lo, AV.int IntKind.i64 c.r2.hi]) = σ2
        have t20 : σ2.lim = 0 := by rw [← hσ]; exact y0
        have t2n : σ2.next = σ1.next := by rw [← hσ]; rfl
        have t22 : σ2.get 2 = some (AObj.cells [u1, v2, AV.int IntKind.i64 c.wr, AV.int IntKind.i64 c.r0.lo, AV.int IntKind.i64 c.r0.hi, AV.int IntKind.i64 c.r1.lo, AV.int IntKind.i64 c.r1.hi, AV.int IntKind.i64 c.r2.lo, AV.int IntKind.i64 c.r2.hi]) := by rw [← hσ, AH.get_set_same _ _ _ n2]
        have t2o : ∀ i, i ≠ 2 → σ2.get i = σ1.get i := fun i hi => by rw [← hσ, AH.get_set_other _ _ _ _ hi]
        have hv2 := B2.stay z1.only fun i hi hc => hdis i hc hi
        have hv2' : Buf 4 1 (AV.int .i64) σ2 v2 (c.S d) := hv2.keep fun i hi _ => t2o i (by omega)
        have h1' : Buf 4 1 (AV.int .i64) σ2 u1 (c.F d ++ [c.f d]) := h1.keep fun i hi _ => t2o i (by omega)
        have dis1 : ∀ i ∈ obj u1, i ∉ obj v2 := fun i hi hc => by
          rcases z1.fresh i hi with h | h
          · exact hdis i h hc
          · have := (B2.obj_lt i hc).2; omega
        rw [under_zero t20, ← t2n]
        refine hv2'.push (bytes := 8) encI (by omega) (by omega) (c.s d) (by rw [S_len]; simp only [topBytes]; omega) rfl fun u2 σ3 h2 z2 => ?_
        have x0 : σ3.lim = 0 := z2.lim.trans t20
        have x2 := (z2.get 2 (by omega)).trans t22
        have x3 := ((z2.get 3 (by omega)).trans (t2o 3 (by omega))).trans y3
        have x9 := ((z2.get 0 (by omega)).trans (t2o 0 (by omega))).trans ((z1.get 0 (by omega)).trans e0)
        have x1 := ((z2.get 1 (by omega)).trans (t2o 1 (by omega))).trans ((z1.get 1 (by omega)).trans e1)
        have o2 := AH.get_lt x2
        have o3 := AH.get_lt x3
        have zn2 := z2.next
        obtain ⟨k1, k2', k3⟩ := buf_celC h2
        have hu1 : Buf 4 1 (AV.int .i64) σ3 u1 (c.F d ++ [c.f d]) := h1'.stay z2.only dis1
        have dis2 : ∀ i ∈ obj u1, i ∉ obj u2 := fun i hi hc => by
          rcases z2.fresh i hc with h | h
          · exact dis1 i hi h
          · have := (h1'.obj_lt i hi).2; omega
        simp (disch := omega) [x0, x2, x3, o2, o3, k1, k2', k3, -Bool.exists_bool]
        refine ⟨k - 1, by omega, d + 1, by omega, by omega, by omega, x9, x1, u1, u2, ⟨rfl, rfl⟩, ⟨rfl, rfl, rfl⟩, ?_, ?_, dis2⟩
        · rw [F_succ]
          exact hu1.keep fun i hi _ => AH.get_set_other _ _ _ _ (by omega)
        · rw [S_succ]
          exact h2.keep fun i hi _ => AH.get_set_other _ _ _ _ (by omega)
      · have hq3' : ¬ (q : Int) < 3 := by omega
        simp (disch := omega) [Und, p0, hq3', e2, hcell, m2, m3, hP, hu, -Pick_ok, -Bool.exists_bool]
        rw [← hf]
        refine B1.push encI (by omega) (by omega) (c.f d) (by rw [F_len]; simp only [topBytes]; omega) rfl fun u1 σ1 h1 z1 => ?_
        have y0 : σ1.lim = 0 := z1.lim.trans p0
        have y2 := (z1.get 2 (by omega)).trans e2
        have y3 := (z1.get 3 (by omega)).trans hcell
        have n2 := AH.get_lt y2
        have n3 := AH.get_lt y3
        have zn := z1.next
        obtain ⟨w1, w2, w3⟩ := buf_celC h1
        simp (disch := omega) [y0, y2, y3, n2, n3, w1, w2, w3, hP, -Pick_ok, -Bool.exists_bool]
        rw [← hs]
        generalize hσ : σ1.set 2 (AObj.cells [u1, v2, AV.int IntKind.i64 c.wr, AV.int IntKind.i64 c.r0.lo, AV.int IntKind.i64 c.r0.hi, AV.int IntKind.i64 c.r1.lo, AV.int IntKind.i64 c.r1.hi, AV.int IntKind.i64 c.r2.lo, AV.int IntKind.i64 c.r2.hi]) = σ2
        have t20 : σ2.lim = 0 := by rw [← hσ]; exact y0
        have t2n : σ2.next = σ1.next := by rw [← hσ]; rfl
        have t22 : σ2.get 2 = some (AObj.cells [u1, v2, AV.int IntKind.i64 c.wr, AV.int IntKind.i64 c.r0.lo, AV.int IntKind.i64 c.r0.hi, AV.int IntKind.i64 c.r1.lo, AV.int IntKind.i64 c.r1.hi, AV.int IntKind.i64 c.r2.lo, AV.int IntKind.i64 c.r2.hi]) := by rw [← hσ, AH.get_set_same _ _ _ n2]
        have t2o : ∀ i, i ≠ 2 → σ2.get i = σ1.get i := fun i hi => by rw [← hσ, AH.get_set_other _ _ _ _ hi]
        have hv2 := B2.stay z1.only fun i hi hc => hdis i hc hi
        have hv2' : Buf 4 1 (AV.int .i64) σ2 v2 (c.S d) := hv2.keep fun i hi _ => t2o i (by omega)
        have h1' : Buf 4 1 (AV.int .i64) σ2 u1 (c.F d ++ [c.f d]) := h1.keep fun i hi _ => t2o i (by omega)
        have dis1 : ∀ i ∈ obj u1, i ∉ obj v2 := fun i hi hc => by
          rcases z1.fresh i hi with h | h
          · exact hdis i h hc
          · have := (B2.obj_lt i hc).2; omega
        rw [under_zero t20, ← t2n]
        refine hv2'.push (bytes := 8) encI (by omega) (by omega) (c.s d) (by rw [S_len]; simp only [topBytes]; omega) rfl fun u2 σ3 h2 z2 => ?_
        have x0 : σ3.lim = 0 := z2.lim.trans t20
        have x2 := (z2.get 2 (by omega)).trans t22
        have x3 := ((z2.get 3 (by omega)).trans (t2o 3 (by omega))).trans y3
        have x9 := ((z2.get 0 (by omega)).trans (t2o 0 (by omega))).trans ((z1.get 0 (by omega)).trans e0)
        have x1 := ((z2.get 1 (by omega)).trans (t2o 1 (by omega))).trans ((z1.get 1 (by omega)).trans e1)
        have o2 := AH.get_lt x2
        have o3 := AH.get_lt x3
        have zn2 := z2.next
        obtain ⟨k1, k2', k3⟩ := buf_celC h2
        have hu1 : Buf 4 1 (AV.int .i64) σ3 u1 (c.F d ++ [c.f d]) := h1'.stay z2.only dis1
        have dis2 : ∀ i ∈ obj u1, i ∉ obj u2 := fun i hi hc => by
          rcases z2.fresh i hc with h | h
          · exact dis1 i hi h
          · have := (h1'.obj_lt i hi).2; omega
        simp (disch := omega) [x0, x2, x3, o2, o3, k1, k2', k3, -Bool.exists_bool]
        refine ⟨k - 1, by omega, d + 1, by omega, by omega, by omega, x9, x1, u1, u2, ⟨rfl, rfl⟩, ⟨rfl, rfl, rfl⟩, ?_, ?_, dis2⟩
        · rw [F_succ]
          exact hu1.keep fun i hi _ => AH.get_set_other _ _ _ _ (by omega)
        · rw [S_succ]
          exact h2.keep fun i hi _ => AH.get_set_other _ _ _ _ (by omega)
  · obtain rfl : d = c.days := by omega
    have m1 := AH.get_lt g1
    have m2 := AH.get_lt g2
    obtain ⟨a1, a2, a3⟩ := buf_celC hb1
    obtain ⟨b1, b2, b3⟩ := buf_celC hb2
    simp (disch := omega) [Und, t0, g1, g2, m1, m2, a1, a2, a3, b1, b2, b3, -Bool.exists_bool]
    generalize hσ : τ.set 1 _ = σ'
    have f1 : Buf 4 1 (AV.int .i64) σ' v1 (c.F c.days) := hb1.keep fun i hi _ => by rw [← hσ, AH.get_set_other _ _ _ _ (by omega)]
    have f2 : Buf 4 1 (AV.int .i64) σ' v2 (c.S c.days) := hb2.keep fun i hi _ => by rw [← hσ, AH.get_set_other _ _ _ _ (by omega)]
    have e1 := f1.fzI 5
    have e2 := f2.fzI 5
    have n1 : (c.F c.days).isEmpty = false := by
      cases hx : c.F c.days with
      | nil => have := F_len c c.days; rw [hx] at this; simp at this; omega
      | cons => rfl
    have n2 : (c.S c.days).isEmpty = false := by
      cases hx : c.S c.days with
      | nil => have := S_len c c.days; rw [hx] at this; simp at this; omega
      | cons => rfl
    rw [n1] at e1
    rw [n2] at e2
    rw [e1, e2]
    rfl
end Go.Oct.Clock
