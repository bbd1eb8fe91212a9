/- Watches: the program's Jumped and Since. -/
import Derived.Test.YtpccnjgeddjfjaaOClockWtC
set_option maxRecDepth 100000
set_option maxHeartbeats 1000000
set_option linter.unusedVariables false
set_option linter.unusedSimpArgs false
namespace Go.Oct.Clock
open Go.Oct
theorem shr_u (s k : Nat) (h : k ≤ 63) : abin .shr (.int .i64 (s : Int)) (.int .u64 (k : Int)) = some (.int .i64 ((s / 2 ^ k : Nat) : Int)) := by
  have e : min ((k : Int).toNat) (IntKind.bits .i64) = k := by rw [Int.toNat_natCast]; exact Nat.min_eq_left (by show k ≤ 64; omega)
  have e2 : (s : Int).fdiv (2 ^ k) = ((s / 2 ^ k : Nat) : Int) := by
    rw [Int.fdiv_eq_ediv_of_nonneg _ (Int.le_of_lt (Int.pow_pos (by decide)))]
    simp
  simp only [abin, e]
  rw [if_neg (by omega), e2]
theorem abound_self (n m : Nat) : abound n m (some (.int .i64 n)) = some n := by
  simp [abound]
theorem sl_all {i n : Nat} : aslS 1 (.slice (some (i, 0)) n (.op 1)) none (some (.int .i64 n)) (some (.int .i64 n)) = some (.slice (some (i, 0)) n (.ex n)) := by
  have e : (ACap.op 1).sure n = n := rfl
  have e2 : (ACap.op 1).less 1 0 (some n) = some (.ex n) := rfl
  simp only [aslS, e, abounds, abound_self]
  simp [abound, e2]
theorem buf_cel {lo : Nat} {σ : AH} {v : AV} {L : List Int} (h : Buf lo 1 (AV.int .i64) σ v L) : v.cells = [v] ∧ v.dfd = true ∧ v.one = true := by
  rcases h with ⟨rfl, _⟩ | ⟨i, rfl, _⟩
  · exact ⟨rfl, rfl, rfl⟩
  · exact ⟨rfl, rfl, rfl⟩
theorem jmp1_call {nF nS : Bool} {w : Wt} (hw : okWt w) {m p o mp : Nat} {σ : AH} {K : AV → AH → Prop} (hl0 : σ.lim = 0) (hp : σ.get p = some (.cells (c11 nF nS w mp))) (ho : σ.get o = some (.cells [.vsl true []])) (hop : o ≠ p) (hom : o ≠ mp) (hmp : σ.get mp = some (.map (mapM w.F.length 3 0) (3 * w.F.length)))
    (hK : ∀ v σ', σ'.lim = 0 → σ.next ≤ σ'.next → (∀ i, i < σ.next → i ≠ o → σ'.get i = σ.get i) → σ'.get o = some (.cells [v]) → Buf σ.next 1 (AV.int .i64) σ' v (jl w m 8) → K (.tuple []) σ') :
    Call prog O (.fn 76) [.int .i64 m, .ptr (some (p, 0)), .ptr (some (o, 0))] σ K := by
  have h20 := hw.1.1
  have hpl := AH.get_lt hp
  have hol := AH.get_lt ho
  have hml := AH.get_lt hmp
  refine @call_of' _ _ pl _ _ _ _ _ _ _ ⟨K⟩ get76 ((oo (by decide)).2 _) rfl ?_
  simp (disch := omega) [-Bool.exists_bool]
  refine lp_loop pl (fun k fr τ => ∃ (s : Nat) (v : AV), s + k = 8 ∧ fr = ⟨[(0, .int .i64 m), (1, .ptr (some (p, 0))), (2, .ptr (some (o, 0))), (5, .int .i64 s)], []⟩ ∧ τ.lim = 0 ∧ σ.next ≤ τ.next ∧ (∀ i, i < σ.next → i ≠ o → τ.get i = σ.get i) ∧ τ.get o = some (.cells [v]) ∧ Buf σ.next 1 (AV.int .i64) τ v (jl w m s))
    ⟨8, 0, .vsl true [], by omega, rfl, hl0, Nat.le_refl _, fun _ _ _ => rfl, ho, Buf.nil⟩ ?_
  rintro k _ τ ⟨s, v, hs, rfl, t0, tn, tg, to, hb⟩
  have gp := (tg p hpl (fun h => hop h.symm)).trans hp
  have gm := (tg mp hml (fun h => hom h.symm)).trans hmp
  have l0 := AH.get_lt gp
  have l1 := AH.get_lt to
  by_cases hs8 : s < 8
  · have hs8' : (s : Int) < 8 := by omega
    have a1 : abin .and (.int .i64 (s : Int)) (.int .i64 1) = some (.int .i64 ((s % 2 : Nat) : Int)) := abin_and1' s (by omega)
    have a2 : abin .shr (.int .i64 (s : Int)) (.int .u64 1) = some (.int .i64 ((s / 2 : Nat) : Int)) := shr_u s 1 (by omega)
    have a3 : abin .and (.int .i64 ((s / 2 : Nat) : Int)) (.int .i64 1) = some (.int .i64 ((s / 2 % 2 : Nat) : Int)) := abin_and1' (s / 2) (by omega)
    have a4 : abin .shr (.int .i64 (s : Int)) (.int .u64 2) = some (.int .i64 ((s / 4 : Nat) : Int)) := shr_u s 2 (by omega)
    have hpc : pc s = s % 2 + s / 2 % 2 + s / 4 := by unfold pc; omega
    have hjl := jl_len w m s
    generalize hq1 : s % 2 = q1 at *
    generalize hq2 : s / 2 = q2 at *
    generalize hq3 : q2 % 2 = q3 at *
    generalize hq4 : s / 4 = q4 at *
    have b1 : w64 ((q1 : Int) + q3) = ((q1 + q3 : Nat) : Int) := by rw [w64_id _ (by omega) (by omega)]; omega
    by_cases c1 : pc s = m
    · have c1' : (q1 : Int) + q3 + q4 = m := by omega
      simp (disch := omega) [Und, t0, hs8', a1, a2, a3, a4, c1', gp, l0, c11, -Bool.exists_bool]
      refine can_call (nF := nF) (nS := nS) (mp := mp) hw (Nat.le_refl _) (by omega) hs8 t0 gm fun b hbb ρ r0 rn rg => ?_
      have gp' := (rg p l0).trans gp
      have to' := (rg o l1).trans to
      have hb2 : Buf σ.next 1 (AV.int .i64) ρ v (jl w m s) := hb.keep fun i _ hi => rg i hi
      have k1 := AH.get_lt to'
      cases b with
      | true =>
        have hst := jl_yes ⟨c1, hbb.1 rfl⟩
        simp (disch := omega) [Und, r0, to', k1, -Bool.exists_bool]
        refine hb2.push encI (by omega) (by omega) (s : Int) (by simp only [topBytes]; omega) rfl fun v' τ' h3 h4 => ?_
        have zl := h4.lim
        have zn := h4.next
        have zo := (h4.get o (by omega)).trans to'
        have zm := AH.get_lt zo
        obtain ⟨hv1, hv2, hv3⟩ := buf_cel h3
        have tl : τ'.lim = 0 := by omega
        simp (disch := omega) [tl, zo, zm, hv1, hv2, hv3, -Bool.exists_bool]
        refine ⟨k - 1, by omega, s + 1, by omega, by omega, by omega, fun i hi hio => ?_, ?_⟩
        · rw [if_neg hio, h4.get i (by omega), rg i (by omega)]
          exact tg i hi hio
        · rw [hst]
          exact h3.keep fun i hi _ => by rw [AH.get_set_other _ _ _ _ (by omega)]
      | false =>
        have hst := jl_no (w := w) (m := m) (s := s) fun h => by have := hbb.2 h.2; cases this
        simp (disch := omega) [Und, r0, -Bool.exists_bool]
        exact ⟨k - 1, by omega, s + 1, by omega, by omega, by omega, (fun i hi hio => (rg i (by omega)).trans (tg i hi hio)), v, to', by rw [hst]; exact hb2⟩
    · have c1' : ¬ (q1 : Int) + q3 + q4 = m := by omega
      have hst := jl_no (w := w) (m := m) (s := s) fun h => c1 h.1
      simp (disch := omega) [Und, t0, hs8', a1, a2, a3, a4, c1', gp, l0, -Bool.exists_bool]
      exact ⟨k - 1, by omega, s + 1, by omega, by omega, tn, tg, v, to, by rw [hst]; exact hb⟩
  · obtain rfl : s = 8 := by omega
    simp (disch := omega) [Und, t0, -Bool.exists_bool]
    exact hK v τ t0 tn tg to hb
theorem JumpedP_ok {nF nS : Bool} {w : Wt} (hw : okWt w) : ∃ v, (∃ (nl : Bool) (L : List Int), v = .tuple [vs nl L, .int .i64 0] ∧ JumpOf w L) ∧ ans prog O 28 [.agg (cWt nF nS w)] = some v := by
  have h20 := hw.1.1
  have hSl := hw.1.2.1
  refine fn_ex pl _ get28 (oo (by decide)) rfl rfl ?_
  simp (disch := omega) [cWt, -Bool.exists_bool]
  refine watched_call (by omega) (by omega) rfl (fun _ σ mp s0 sn sg hle hmp => ?_) (fun h => absurd hw h)
  have hml := AH.get_lt hmp
  simp (disch := omega) [cWt, s0, -Bool.exists_bool]
  refine lp_loop pl (fun k fr τ => ∃ (m : Nat) (v : AV) (L : List Int), m + k = 4 ∧ fr = ⟨[(6, .ptr (some (σ.next + 1, 0))), (7, .func (.func 76) [] [.ptr (some (σ.next, 0)), .ptr (some (σ.next + 1, 0))]), (8, .int .i64 m)], []⟩ ∧ τ.lim = 0 ∧ σ.next + 2 ≤ τ.next ∧ τ.get mp = some (.map (mapM w.F.length 3 0) (3 * w.F.length)) ∧ τ.get σ.next = some (.cells (c11 nF nS w mp)) ∧ τ.get (σ.next + 1) = some (.cells [v]) ∧ Buf (σ.next + 2) 1 (AV.int .i64) τ v L ∧
      (m = 0 → L = []) ∧ (∀ m', m = m' + 1 → L = jl w m' 8) ∧ ∀ m', m' + 1 < m → jl w m' 8 = [])
    ⟨4, 0, .vsl true [], [], by omega, rfl, s0, by simp, by simp (disch := omega) [eqF1, eqF2, hmp], by simp (disch := omega) [eqF1, eqF2, c11], by simp (disch := omega) [eqF1, eqF2], Buf.nil, fun _ => rfl, (fun m' h => by omega), (fun m' h => by omega)⟩ ?_
  rintro k _ τ ⟨m, v, L, hm, rfl, t0, tn, tm, tg, to, hb, hL0, hL1, hL2⟩
  have l0 := AH.get_lt to
  have l1 := AH.get_lt tg
  have l2 := AH.get_lt tm
  by_cases hL : L = []
  · have hall : ∀ m', m' < m → jl w m' 8 = [] := fun m' h => by
      by_cases e : m = m' + 1
      · rw [← hL1 m' e]; exact hL
      · exact hL2 m' (by omega)
    have hm3 : m ≤ 3 := by
      apply Classical.byContradiction
      intro hc
      exact jl7 hw (hall 3 (by omega))
    subst hL
    obtain rfl : v = .vsl true [] := by
      rcases hb with ⟨h, _⟩ | ⟨i, _, _, _, h⟩
      · exact h
      · exact absurd rfl h
    simp (disch := omega) [Und, t0, to, l0, -Bool.exists_bool]
    refine jmp1_call (nF := nF) (nS := nS) (mp := mp) hw t0 tg to (by omega) (by omega) tm fun v' ρ r0 rn rg ro rb => ?_
    simp (disch := omega) [Und, r0, -Bool.exists_bool]
    exact ⟨k - 1, by omega, m + 1, by omega, by omega, by omega, by rw [rg mp l2 (by omega)]; exact tm, by rw [rg σ.next l1 (by omega)]; exact tg, v', ro, jl w m 8, buf_lower rb (by omega), (fun h => by omega), (fun m' h => by rw [show m' = m from by omega]), fun m' h => hall m' (by omega)⟩
  · obtain ⟨m', rfl⟩ : ∃ m', m = m' + 1 := ⟨m - 1, by have : m ≠ 0 := fun h => hL (hL0 h); omega⟩
    have hL1' := hL1 m' rfl
    rcases hb with ⟨_, h⟩ | ⟨i, rfl, hi, hg, _⟩
    · exact absurd h hL
    · have hsl := sl_all (i := i) (n := L.length)
      have hlen : 0 < L.length := List.length_pos_iff.2 hL
      have hne : ¬ L.length = 0 := by omega
      have hl := jl_len w m' 8
      simp (disch := omega) [Und, t0, to, l0, hne, hL, hsl, -Bool.exists_bool]
      exact ⟨false, L, fz_whole encI flatI (by simp [hg]) (.inr rfl) 5, m', by omega, hL1', hL, fun x hx => hL2 x (by omega)⟩
theorem SinceP_ok {nF nS : Bool} {w : Wt} (hw : okWt w) : ∃ v, (∃ d e : Int, v = .tuple [.int .i64 d, .int .i64 e] ∧ SinceOf w d e) ∧ ans prog O 30 [.agg (cWt nF nS w)] = some v := by
  have h20 := hw.1.1
  have hSl := hw.1.2.1
  refine fn_ex pl _ get30 (oo (by decide)) rfl rfl ?_
  simp (disch := omega) [cWt, -Bool.exists_bool]
  refine watched_call (by omega) (by omega) rfl (fun _ σ mp s0 sn sg hle hmp => ?_) (fun h => absurd hw h)
  have hml := AH.get_lt hmp
  simp (disch := omega) [cWt, s0, -Bool.exists_bool]
  refine lp_loop pl (fun k fr τ => ∃ d : Nat, d + k = w.F.length ∧ fr = ⟨[(4, .ptr (some (σ.next, 0))), (16, .int .i64 w.F.length), (17, .int .i64 d)], []⟩ ∧ τ.lim = 0 ∧ τ.get mp = some (.map (mapM w.F.length 3 0) (3 * w.F.length)) ∧ τ.get σ.next = some (.cells (c11 nF nS w mp)) ∧ ∀ i, i < d → canBe w 0 (i + 1))
    ⟨w.F.length, 0, by omega, rfl, s0, by simp (disch := omega) [eqF1, eqF2, hmp], by simp (disch := omega) [eqF1, eqF2, c11], fun i h => by omega⟩ ?_
  rintro k _ τ ⟨d, hd, rfl, t0, tm, tg, hall⟩
  have l1 := AH.get_lt tg
  have l2 := AH.get_lt tm
  by_cases hdl : d < w.F.length
  · simp (disch := omega) [Und, t0, tg, l1, c11, hdl, -Bool.exists_bool]
    refine can_call (nF := nF) (nS := nS) (mp := mp) (n := d + 1) (J := 0) hw (by omega) (by omega) (by omega) t0 tm fun b hbb ρ r0 rn rg => ?_
    cases b with
    | true =>
      simp (disch := omega) [Und, r0, -Bool.exists_bool]
      exact ⟨k - 1, by omega, d + 1, by omega, by omega, (rg mp l2).trans tm, (rg σ.next l1).trans tg, fun i hi => by
        by_cases e : i = d
        · subst e; exact hbb.1 rfl
        · exact hall i (by omega)⟩
    | false =>
      have hcb : ¬ canBe w 0 (d + 1) := fun h => by have := hbb.2 h; cases this
      simp (disch := omega) [Und, r0, -Bool.exists_bool]
      exact ⟨d, 0, ⟨rfl, rfl⟩, .inl ⟨d, hdl, rfl, rfl, hcb, hall⟩⟩
  · obtain rfl : d = w.F.length := by omega
    simp (disch := omega) [Und, t0, -Bool.exists_bool]
    exact ⟨0, 4, ⟨rfl, rfl⟩, .inr ⟨rfl, rfl, hall⟩⟩
end Go.Oct.Clock
