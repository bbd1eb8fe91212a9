/- Watches, plain: what a jump leaves. -/
import Derived.Test.YtpccnjgeddjfjaaOClockCvtW
import Derived.Test.YtpccnjgeddjfjaaOClockLonP
set_option maxRecDepth 100000
set_option maxHeartbeats 1000000
set_option linter.unusedVariables false
set_option linter.unusedSimpArgs false
namespace Go.Oct.Clock
open Go.Oct
theorem nth_F (c : Cw) {n d : Nat} (h : d < n) : nth (c.F n) d = c.f d := by
  unfold Cw.F
  rw [nth_map _ (by simpa using h)]
  congr 1
  simp [nth, h]
theorem nth_S (c : Cw) {n d : Nat} (h : d < n) : nth (c.S n) d = c.s d := by
  unfold Cw.S
  rw [nth_map _ (by simpa using h)]
  congr 1
  simp [nth, h]
theorem w_ok {c : Cw} (h : okC c) : okWt c.w := by
  have hd := days_bd c
  refine ⟨⟨?_, ?_, h.1⟩, fun i hi => ?_, h.2.2.2⟩
  · show 2 ≤ ((c.F c.days).length : Int) ∧ ((c.F c.days).length : Int) ≤ 20
    rw [F_len]; omega
  · show ((c.S c.days).length : Int) = (c.F c.days).length
    rw [F_len, S_len]
  · have hi' : i < c.days := by have : i < (c.F c.days).length := hi; simpa using this
    have b0 := eB_bd h 0 (i + 1)
    have b1 := eB_bd h 1 (i + 1)
    have b2 := eB_bd h 2 (i + 1)
    have hwr := h.1
    have c1 := chz_in (l := -c.wr) (h := c.wr) (n := pick c.b ((i : Int) + 2)) (by omega)
    have c2 := chz_in (l := -c.wr) (h := c.wr) (n := pick c.b ((i : Int) + 5)) (by omega)
    push_cast at b0 b1 b2
    show inB (nth (c.F c.days) i) ∧ inB (nth (c.S c.days) i)
    rw [nth_F c hi', nth_S c hi']
    unfold inB Cw.f Cw.s
    omega
theorem w_days (c : Cw) : c.w.F.length = c.days := F_len c c.days
/-- The errors that were are kept by the bounds, but for who jumped. -/
theorem was {c : Cw} (h : okC c) {J n : Nat} (hn : n ≤ c.days) (hj : jmp J c.who = true ∨ c.jp = 0 ∨ n ≤ c.on) : canBe c.w J n := by
  have hwr := h.1
  refine ⟨fun k d => c.eB k (d + 1), fun d hd => ?_, fun d hd => ?_, fun d k h0 hd hk hjk => ?_⟩
  · have c1 := chz_in (l := -c.wr) (h := c.wr) (n := pick c.b ((d : Int) + 2)) (by omega)
    show nth (c.F c.days) d - c.wr ≤ c.eB 0 (d + 1) - c.eB 1 (d + 1) ∧ c.eB 0 (d + 1) - c.eB 1 (d + 1) ≤ nth (c.F c.days) d + c.wr
    rw [nth_F c (by omega)]
    unfold Cw.f
    omega
  · have c1 := chz_in (l := -c.wr) (h := c.wr) (n := pick c.b ((d : Int) + 5)) (by omega)
    show nth (c.S c.days) d - c.wr ≤ c.eB 1 (d + 1) - c.eB 2 (d + 1) ∧ c.eB 1 (d + 1) - c.eB 2 (d + 1) ≤ nth (c.S c.days) d + c.wr
    rw [nth_S c (by omega)]
    unfold Cw.s
    omega
  · obtain ⟨e, rfl⟩ : ∃ e, d = e + 1 := ⟨d - 1, by omega⟩
    have hc := ch_bd h k (e + 1)
    have hst : c.st k (e + 1) = c.ch k (e + 1) := by
      unfold Cw.st
      rw [if_neg (by omega)]
      by_cases hx : k = c.who ∧ e + 1 = c.on
      · rw [if_pos hx]
        obtain ⟨rfl, hx⟩ := hx
        rcases hj with hj | hj | hj
        · rw [hj] at hjk; cases hjk
        · omega
        · omega
      · rw [if_neg hx]; omega
    show (c.w.rt k).lo ≤ c.eB k (e + 1 + 1) - c.eB k (e + 1 - 1 + 1) ∧ c.eB k (e + 1 + 1) - c.eB k (e + 1 - 1 + 1) ≤ (c.w.rt k).hi
    have e1 : c.eB k (e + 1 + 1) = c.eB k (e + 1) + c.st k (e + 1) := rfl
    have e2 : c.w.rt k = c.rt k := rfl
    rw [e1, hst, e2, show e + 1 - 1 + 1 = e + 1 by omega]
    omega
/-- How far a jump can be explained. -/
theorem jump_bd {c : Cw} (h : okC c) (hc : canBe c.w 0 c.days) : max c.jp (-c.jp) ≤ (c.rt c.who).hi - (c.rt c.who).lo + (c.rt ((c.who + 1) % 3)).hi - (c.rt ((c.who + 1) % 3)).lo + 8 * c.wr := by
  obtain ⟨z, hz⟩ := hc
  have hd := days_bd c
  obtain ⟨o1, o2⟩ := on_bd c
  obtain ⟨e, he⟩ : ∃ e, c.on = e + 1 := ⟨c.on - 1, by omega⟩
  have hwr := h.1
  have f1 := hz.first (e + 1) (by omega)
  have f2 := hz.first e (by omega)
  have s1 := hz.second (e + 1) (by omega)
  have s2 := hz.second e (by omega)
  change nth (c.F c.days) (e + 1) - c.wr ≤ _ ∧ _ ≤ nth (c.F c.days) (e + 1) + c.wr at f1
  change nth (c.F c.days) e - c.wr ≤ _ ∧ _ ≤ nth (c.F c.days) e + c.wr at f2
  change nth (c.S c.days) (e + 1) - c.wr ≤ _ ∧ _ ≤ nth (c.S c.days) (e + 1) + c.wr at s1
  change nth (c.S c.days) e - c.wr ≤ _ ∧ _ ≤ nth (c.S c.days) e + c.wr at s2
  rw [nth_F c (by omega)] at f1 f2
  rw [nth_S c (by omega)] at s1 s2
  have a0 : (c.rt 0).lo ≤ z 0 (e + 1) - z 0 e ∧ z 0 (e + 1) - z 0 e ≤ (c.rt 0).hi := hz.rate (e + 1) 0 (by omega) (by omega) (by omega) rfl
  have a1 : (c.rt 1).lo ≤ z 1 (e + 1) - z 1 e ∧ z 1 (e + 1) - z 1 e ≤ (c.rt 1).hi := hz.rate (e + 1) 1 (by omega) (by omega) (by omega) rfl
  have a2 : (c.rt 2).lo ≤ z 2 (e + 1) - z 2 e ∧ z 2 (e + 1) - z 2 e ≤ (c.rt 2).hi := hz.rate (e + 1) 2 (by omega) (by omega) (by omega) rfl
  have b0 := ch_bd h 0 (e + 1)
  have b1 := ch_bd h 1 (e + 1)
  have b2 := ch_bd h 2 (e + 1)
  have g1 := chz_in (l := -c.wr) (h := c.wr) (n := pick c.b (((e + 1 : Nat) : Int) + 2)) (by omega)
  have g2 := chz_in (l := -c.wr) (h := c.wr) (n := pick c.b ((e : Int) + 2)) (by omega)
  have g3 := chz_in (l := -c.wr) (h := c.wr) (n := pick c.b (((e + 1 : Nat) : Int) + 5)) (by omega)
  have g4 := chz_in (l := -c.wr) (h := c.wr) (n := pick c.b ((e : Int) + 5)) (by omega)
  have u : ∀ k, c.eB k (e + 1 + 1) = c.eB k (e + 1) + (c.ch k (e + 1) + if k = c.who then c.jp else 0) := fun k => by
    show c.eB k (e + 1) + c.st k (e + 1) = _
    unfold Cw.st
    rw [if_neg (by omega)]
    by_cases hk : k = c.who
    · rw [if_pos ⟨hk, he.symm⟩, if_pos hk]
    · rw [if_neg (fun h => hk h.1), if_neg hk]
  have u0 := u 0
  have u1 := u 1
  have u2 := u 2
  unfold Cw.f at f1 f2
  unfold Cw.s at s1 s2
  obtain hw | hw | hw : c.who = 0 ∨ c.who = 1 ∨ c.who = 2 := by have := h.2.1; omega
  · rw [hw] at u0 u1 u2 ⊢
    simp only [if_true, show ¬ (1 : Nat) = 0 by omega, show ¬ (2 : Nat) = 0 by omega, if_false] at u0 u1 u2
    show _ ≤ (c.rt 0).hi - (c.rt 0).lo + (c.rt 1).hi - (c.rt 1).lo + 8 * c.wr
    omega
  · rw [hw] at u0 u1 u2 ⊢
    simp only [if_true, show ¬ (0 : Nat) = 1 by omega, show ¬ (2 : Nat) = 1 by omega, if_false] at u0 u1 u2
    show _ ≤ (c.rt 1).hi - (c.rt 1).lo + (c.rt 2).hi - (c.rt 2).lo + 8 * c.wr
    omega
  · rw [hw] at u0 u1 u2 ⊢
    simp only [if_true, show ¬ (0 : Nat) = 2 by omega, show ¬ (1 : Nat) = 2 by omega, if_false] at u0 u1 u2
    show _ ≤ (c.rt 2).hi - (c.rt 2).lo + (c.rt 0).hi - (c.rt 0).lo + 8 * c.wr
    omega
theorem pc_ne : ∀ t : Nat, t < 8 → 0 < t → pc t ≠ 0 := by decide
theorem jl0 {w : Wt} (h : canBe w 0 w.F.length) : jl w 0 8 = [0] := by
  have key : ∀ s, s < 8 → jl w 0 (s + 1) = [0] := fun s => by
    induction s with
    | zero =>
      intro _
      rw [jl_yes ⟨by decide, h⟩]
      rfl
    | succ s ih =>
      intro hs
      rw [jl_no fun h => pc_ne (s + 1) hs (by omega) h.1]
      exact ih (by omega)
  exact key 7 (by omega)
theorem calm {w : Wt} (h : canBe w 0 w.F.length) : JumpOf w [0] ∧ SinceOf w 0 4 :=
  ⟨⟨0, by omega, (jl0 h).symm, by simp, fun m' h => by omega⟩, .inr ⟨rfl, rfl, fun i hi => can_mono h (by omega)⟩⟩
theorem pc_who : ∀ k : Nat, k < 3 → pc (2 ^ k) = 1 ∧ 2 ^ k < 8 := by decide
theorem jmp_who (k : Nat) : jmp (2 ^ k) k = true := by
  unfold jmp
  rw [Nat.div_self (Nat.pow_pos (by omega))]
  rfl
/-- If one must have jumped, it is among those that are named, and was on the day or before. -/
theorem one_jumped {c : Cw} (h : okC c) {L : List Int} (hL : JumpOf c.w L) {d e : Int} (hd : SinceOf c.w d e) (hn : ¬ canBe c.w 0 c.days) : ((2 ^ c.who : Nat) : Int) ∈ L ∧ e = 0 ∧ (c.on : Int) ≤ d ∧ d ≤ (c.days : Int) - 1 := by
  have hw := w_ok h
  have hwd := w_days c
  have hon := on_bd c
  constructor
  · obtain ⟨m, m1, m2, m3, m4⟩ := hL
    obtain ⟨p1, p2⟩ := pc_who c.who h.2.1
    have hin : ((2 ^ c.who : Nat) : Int) ∈ jl c.w 1 8 := (jl_mem 8).2 ⟨2 ^ c.who, p2, rfl, p1, was h (by omega) (.inl (jmp_who _))⟩
    have hm1 : m = 1 := by
      apply Classical.byContradiction
      intro hc
      by_cases h0 : m = 0
      · subst h0
        obtain ⟨t, t1, t2, t3, t4⟩ := (jl_mem 8).1 (nth_mem (show 0 < (jl c.w 0 8).length by rw [← m2]; exact List.length_pos_iff.2 m3))
        have := pc_zero t t1 t3
        subst this
        rw [hwd] at t4
        exact hn t4
      · rw [m4 1 (by omega)] at hin
        cases hin
    subst hm1
    rw [m2]
    exact hin
  · rcases hd with ⟨n, n1, rfl, rfl, n2, n3⟩ | ⟨_, _, n3⟩
    · refine ⟨rfl, ?_, by omega⟩
      apply Classical.byContradiction
      intro hc
      exact n2 (was h (by omega) (.inr (.inr (by omega))))
    · exfalso
      have := n3 (c.days - 1) (by omega)
      rw [show c.days - 1 + 1 = c.days by omega] at this
      exact hn this
end Go.Oct.Clock
