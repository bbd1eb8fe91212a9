/- Watches: the program's rules. -/
import Derived.Test.YtpccnjgeddjfjaaOClockWtW
set_option maxRecDepth 100000
set_option maxHeartbeats 1000000
set_option linter.unusedVariables false
set_option linter.unusedSimpArgs false
namespace Go.Oct.Clock
open Go.Oct
/-- A rule: one clock and day, another one, and how much more. -/
structure Rl where
  a1 : Nat
  a2 : Nat
  b1 : Nat
  b2 : Nat
  more : Int
  deriving Inhabited
def eRl (x : Rl) : AV := .agg [.int .i64 x.a1, .int .i64 x.a2, .int .i64 x.b1, .int .i64 x.b2, .int .i64 x.more]
theorem encRl : Enc eRl 5 := ⟨fun _ => rfl, fun _ => rfl, fun _ => rfl, by decide⟩
theorem flatRl : flatE eRl := fun x c hc k f => by
  simp only [eRl, cells_agg, List.mem_cons, List.not_mem_nil, or_false] at hc
  rcases hc with rfl | rfl | rfl | rfl | rfl <;> exact ⟨rfl, rfl⟩
def toC (x : Rl) : Cn := ⟨νP x.a1 x.a2, νP x.b1 x.b2, x.more⟩
def rwi (a1 a2 b1 b2 : Nat) (lo hi : Int) : List Rl := [⟨a1, a2, b1, b2, hi⟩, ⟨b1, b2, a1, a2, -lo⟩]
theorem rwi_map (a1 a2 b1 b2 : Nat) (lo hi : Int) : (rwi a1 a2 b1 b2 lo hi).map toC = wi (νP a1 a2) (νP b1 b2) lo hi := rfl
def inRl (n : Nat) (x : Rl) : Prop := (x.a1 < 3 ∧ x.a2 < n) ∧ x.b1 < 3 ∧ x.b2 < n
theorem rwi_in {n a1 a2 b1 b2 : Nat} {lo hi : Int} (h1 : a1 < 3) (h2 : a2 < n) (h3 : b1 < 3) (h4 : b2 < n) : ∀ x ∈ rwi a1 a2 b1 b2 lo hi, inRl n x := fun x hx => by
  simp only [rwi, List.mem_cons, List.not_mem_nil, or_false] at hx
  rcases hx with rfl | rfl
  · exact ⟨⟨h1, h2⟩, h3, h4⟩
  · exact ⟨⟨h3, h4⟩, h1, h2⟩
theorem apart_ok (a1 a2 b1 b2 : Nat) (lo hi : Int) (hne : ¬ (a1 = b1 ∧ a2 = b2)) (h1 : -2000000000 ≤ lo) (h2 : lo ≤ 2000000000) :
    ans prog O 109 [.agg [.int .i64 a1, .int .i64 a2], .agg [.int .i64 b1, .int .i64 b2], .agg [.int .i64 lo, .int .i64 hi]] = some (vl eRl false (rwi a1 a2 b1 b2 lo hi)) := by
  refine fn_of' pl get109 (oo (by decide)) rfl rfl ?_
  simp (disch := omega) []
  refine ⟨fun h => by omega, fun _ => ?_⟩
  exact fz_whole encRl flatRl (xs := rwi a1 a2 b1 b2 lo hi) (c := .ex 2) (by simp; rfl) (.inr rfl) 6
theorem rules1_call {nF nS : Bool} {w : Wt} {mp p : Nat} {σ : AH} {K : AV → AH → Prop} (n : Int) (hn : inB n) (hw : 0 ≤ w.wr ∧ w.wr ≤ 1000) (hl0 : σ.lim = 0) (hg : σ.get p = some (.cells (c11 nF nS w mp)))
    (hK : ∀ σ', σ'.lim = 0 → σ.next ≤ σ'.next → (∀ i, i < σ.next → σ'.get i = σ.get i) → K (.agg [.int .i64 (n - w.wr), .int .i64 (n + w.wr)]) σ') : Call prog O (.fn 108) [.int .i64 n, .ptr (some (p, 0))] σ K := by
  unfold inB at hn
  have hp := AH.get_lt hg
  refine @call_of' _ _ pl _ _ _ _ _ _ _ ⟨K⟩ get108 ((oo (by decide)).2 _) rfl ?_
  simp (disch := omega) [hl0, hg, hp, c11, eqF1, eqF2, -Bool.exists_bool]
  exact hK _ hl0 (by simp) fun i hi => by rw [AH.get_set_other _ _ _ _ (by omega), AH.get_push_old _ _ _ (by omega)]
theorem appRl {lo : Nat} {σ : AH} {v : AV} {xs ys : List Rl} {nl : Bool} (h : Buf lo 5 eRl σ v xs) (hlim : σ.lim ≤ lo) (hlo : lo ≤ σ.next) (hsz : xs.length + ys.length ≤ 1000) {k : AV → AH → Prop}
    (hk : ∀ v' σ', Buf lo 5 eRl σ' v' (xs ++ ys) → Grew lo v v' σ σ' → k v' σ') : OptK2 (aappend 5 40 v (vl eRl nl ys) σ) k :=
  h.app encRl hlim hlo (vl_src (σ := σ) encRl nl ys).1 (vl_src (σ := σ) encRl nl ys).2 (by simp only [topBytes]; omega) hk
/-- The rules so far. -/
def RlTo (n : Nat) (C : List Cn) (R : List Rl) : Prop := R.map toC = C ∧ ∀ x ∈ R, inRl n x
theorem RlTo.app {n : Nat} {C : List Cn} {R : List Rl} {a1 a2 b1 b2 : Nat} {lo hi : Int} (h : RlTo n C R) (h1 : a1 < 3) (h2 : a2 < n) (h3 : b1 < 3) (h4 : b2 < n) : RlTo n (C ++ wi (νP a1 a2) (νP b1 b2) lo hi) (R ++ rwi a1 a2 b1 b2 lo hi) := by
  refine ⟨by rw [List.map_append, h.1, rwi_map], fun x hx => ?_⟩
  rcases List.mem_append.1 hx with hx | hx
  · exact h.2 x hx
  · exact rwi_in h1 h2 h3 h4 x hx
theorem RlTo.len {n : Nat} {C : List Cn} {R : List Rl} (h : RlTo n C R) : R.length = C.length := by rw [← h.1, List.length_map]
theorem buf_lower {lo lo' z : Nat} {α : Type} {e : α → AV} {σ : AH} {v : AV} {xs : List α} (h : Buf lo z e σ v xs) (hl : lo' ≤ lo) : Buf lo' z e σ v xs := by
  rcases h with h | ⟨i, h1, h2, h3, h4⟩
  · exact .inl h
  · exact .inr ⟨i, h1, by omega, h3, h4⟩
theorem abin_and1' (q : Nat) (h : q < 2 ^ 63) : abin .and (.int .i64 (q : Int)) (.int .i64 1) = some (.int .i64 ((q % 2 : Nat) : Int)) := by
  simp only [abin, if_true]
  have e1 : (BitVec.ofInt (IntKind.bits .i64) (q : Int)).toNat = q := by
    show (BitVec.ofInt 64 (q : Int)).toNat = q
    rw [BitVec.ofInt_natCast, BitVec.toNat_ofNat]
    exact Nat.mod_eq_of_lt (by omega)
  have e2 : (BitVec.ofInt (IntKind.bits .i64) (1 : Int)).toNat = 1 := rfl
  rw [BitVec.toNat_and, e1, e2, Nat.and_one_is_mod]
  have : q % 2 = 0 ∨ q % 2 = 1 := by omega
  rcases this with h | h <;> rw [h] <;> rfl
theorem rules_call {nF nS : Bool} {w : Wt} {mp : Nat} (hw : okWt w) {n J : Nat} (hn : n ≤ w.F.length) (hJ : J < 8) {σ : AH} {K : AV → AH → Prop} (hl0 : σ.lim = 0)
    (hK : ∀ v R σ', σ'.lim = 0 → σ.next ≤ σ'.next → (∀ i, i < σ.next → σ'.get i = σ.get i) → Buf σ.next 5 eRl σ' v R → RlTo n (daysL νP w J n) R → K v σ') :
    Call prog O (.fn 93) [.agg (c11 nF nS w mp), .int .i64 n, .int .i64 J] σ K := by
  have h20 := hw.1.1
  have hSl := hw.1.2.1
  have hwr := hw.1.2.2
  refine @call_of' _ _ pl _ _ _ _ _ _ _ ⟨K⟩ get93 ((oo (by decide)).2 _) rfl ?_
  simp (disch := omega) [c11, hl0, eqF1, eqF2, -Bool.exists_bool]
  refine lp_loop pl (fun k fr τ => ∃ (d : Nat) (v : AV) (R : List Rl), d + k = n ∧ fr = ⟨[(2, .int .i64 J), (3, .ptr (some (σ.next, 0))), (7, .func (.func 108) [] [.ptr (some (σ.next, 0))]), (8, v), (12, .int .i64 n), (13, .int .i64 d)], []⟩ ∧
      τ.lim = 0 ∧ σ.next + 1 ≤ τ.next ∧ (∀ i, i < σ.next → τ.get i = σ.get i) ∧ τ.get σ.next = some (.cells (c11 nF nS w mp)) ∧ Buf (σ.next + 1) 5 eRl τ v R ∧ RlTo n (daysL νP w J d) R)
    ⟨n, 0, .vsl true [], [], by omega, rfl, hl0, by simp, fun i hi => by simp (disch := omega) [eqF1, eqF2], by simp [c11], Buf.nil, rfl, fun x hx => by cases hx⟩ ?_
  rintro k _ τ ⟨d, v, R, hd, rfl, t0, tn, tg, g0, hb, hR⟩
  have m0 := AH.get_lt g0
  by_cases hdn : d < n
  · have hdF : d < w.F.length := by omega
    have hdS : d < w.S.length := by omega
    obtain ⟨iF, iS⟩ := hw.2.1 d hdF
    have hF' := iF
    have hS' := iS
    unfold inB at hF' hS'
    have hdl := days_len νP w J d
    have hRl := hR.len
    have a1 : ans prog O 109 [.agg [.int .i64 0, .int .i64 d], .agg [.int .i64 1, .int .i64 d], .agg [.int .i64 (nth w.F d - w.wr), .int .i64 (nth w.F d + w.wr)]] = some (vl eRl false (rwi 0 d 1 d (nth w.F d - w.wr) (nth w.F d + w.wr))) := apart_ok 0 d 1 d (nth w.F d - w.wr) (nth w.F d + w.wr) (by omega) (by omega) (by omega)
    have a2 : ans prog O 109 [.agg [.int .i64 1, .int .i64 d], .agg [.int .i64 2, .int .i64 d], .agg [.int .i64 (nth w.S d - w.wr), .int .i64 (nth w.S d + w.wr)]] = some (vl eRl false (rwi 1 d 2 d (nth w.S d - w.wr) (nth w.S d + w.wr))) := apart_ok 1 d 2 d (nth w.S d - w.wr) (nth w.S d + w.wr) (by omega) (by omega) (by omega)
    simp (disch := omega) [Und, t0, hdn, g0, m0, c11, hdF, -Bool.exists_bool]
    refine rules1_call (nF := nF) (nS := nS) (w := w) (mp := mp) (nth w.F d) iF hwr t0 g0 fun σ1 s0 sn sg => ?_
    have e0 := (sg σ.next m0).trans g0
    have e1 := AH.get_lt e0
    have hb1 : Buf (σ.next + 1) 5 eRl σ1 v R := hb.keep fun i _ hi => sg i hi
    simp (disch := omega) [Und, s0, a1, e0, e1, c11, -Bool.exists_bool]
    refine appRl hb1 (by omega) (by omega) (by simp only [rwi, List.length_cons, List.length_nil]; omega) fun v1 σ2 B2 z2 => ?_
    have R1 := hR.app (lo := nth w.F d - w.wr) (hi := nth w.F d + w.wr) (show 0 < 3 by omega) hdn (show 1 < 3 by omega) hdn
    have z2l := z2.lim
    have z2n := z2.next
    have f0 := (z2.get σ.next (by omega)).trans e0
    have f1 := AH.get_lt f0
    have l2 : σ2.lim = 0 := by omega
    simp (disch := omega) [Und, l2, hdS, f0, f1, c11, -Bool.exists_bool]
    refine rules1_call (nF := nF) (nS := nS) (w := w) (mp := mp) (nth w.S d) iS hwr l2 f0 fun σ3 s0' sn' sg' => ?_
    have g0' := (sg' σ.next f1).trans f0
    have g1' := AH.get_lt g0'
    have hb3 : Buf (σ.next + 1) 5 eRl σ3 v1 _ := B2.keep fun i _ hi => sg' i hi
    simp (disch := omega) [Und, s0', a2, g0', g1', c11, -Bool.exists_bool]
    refine appRl hb3 (by omega) (by omega) (by simp only [rwi, List.length_append, List.length_cons, List.length_nil]; omega) fun v2 σ4 B4 z4 => ?_
    have R2 := R1.app (lo := nth w.S d - w.wr) (hi := nth w.S d + w.wr) (show 1 < 3 by omega) hdn (show 2 < 3 by omega) hdn
    have z4l := z4.lim
    have z4n := z4.next
    have k0 := (z4.get σ.next (by omega)).trans g0'
    have l4 : σ4.lim = 0 := by omega
    have old4 : ∀ i, i < σ.next → σ4.get i = σ.get i := fun i hi => by
      rw [z4.get i (by omega), sg' i (by omega), z2.get i (by omega), sg i (by omega)]
      exact tg i hi
    simp (disch := omega) [Und, l4, -Bool.exists_bool]
    refine lp_loop pl (fun k2 fr ρ => ∃ (q : Nat) (u : AV) (Q : List Rl), q + k2 = 3 ∧ fr = ⟨[(2, .int .i64 J), (3, .ptr (some (σ.next, 0))), (7, .func (.func 108) [] [.ptr (some (σ.next, 0))]), (8, u), (9, .int .i64 d), (12, .int .i64 n), (13, .int .i64 d), (46, .int .i64 q)], []⟩ ∧
        ρ.lim = 0 ∧ σ.next + 1 ≤ ρ.next ∧ (∀ i, i < σ.next → ρ.get i = σ.get i) ∧ ρ.get σ.next = some (.cells (c11 nF nS w mp)) ∧ Buf (σ.next + 1) 5 eRl ρ u Q ∧ RlTo n (daysL νP w J d ++ wi (νP 0 d) (νP 1 d) (nth w.F d - w.wr) (nth w.F d + w.wr) ++ wi (νP 1 d) (νP 2 d) (nth w.S d - w.wr) (nth w.S d + w.wr) ++ ratesL νP w J d q) Q)
      ⟨3, 0, v2, _, by omega, rfl, l4, by omega, old4, k0, B4, by simpa [ratesL] using R2⟩ ?_
    rintro k2 _ ρ ⟨q, u, Q, hq, rfl, q0, qn, qg, p0, hbu, hQ⟩
    have p1 := AH.get_lt p0
    have hQl := hQ.len
    have hrl := rates_len νP w J d q
    by_cases hq3 : q < 3
    · have hq3' : (q : Int) < 3 := by omega
      have hsh := abin_shr J q (by omega)
      have hle : J / 2 ^ q < 2 ^ 63 := Nat.lt_of_le_of_lt (Nat.div_le_self ..) (by omega)
      have han := abin_and1' (J / 2 ^ q) hle
      have hst : ratesL νP w J d (q + 1) = ratesL νP w J d q ++ if d = 0 ∨ jmp J q = true then [] else wi (νP q d) (νP q (d - 1)) (w.rt q).lo (w.rt q).hi := rfl
      by_cases hgo : 0 < d ∧ J / 2 ^ q % 2 = 0
      · obtain ⟨hd0, hj0⟩ := hgo
        have hj : jmp J q = false := by unfold jmp; exact decide_eq_false (by omega)
        rw [hj, if_neg (by simp; omega)] at hst
        rw [hj0] at han
        have hro := rt_ok hw q
        unfold rtOK at hro
        have a3 := apart_ok q d q (d - 1) (w.rt q).lo (w.rt q).hi (by omega) (by omega) (by omega)
        rw [show ((d - 1 : Nat) : Int) = (d : Int) - 1 by omega] at a3
        have key : ∀ z : Int, z = q → abin .shr (.int .i64 (J : Int)) (.int .i64 z) = some (.int .i64 ((J / 2 ^ q : Nat) : Int)) ∧ ans prog O 109 [.agg [.int .i64 z, .int .i64 d], .agg [.int .i64 z, .int .i64 ((d : Int) - 1)], .agg [.int .i64 (w.rt q).lo, .int .i64 (w.rt q).hi]] = some (vl eRl false (rwi q d q (d - 1) (w.rt q).lo (w.rt q).hi)) := by
          rintro _ rfl
          exact ⟨hsh, a3⟩
        have R3 := hQ.app (lo := (w.rt q).lo) (hi := (w.rt q).hi) hq3 hdn hq3 (show d - 1 < n by omega)
        rw [List.append_assoc, ← hst] at R3
        have fin : ∀ (z : Int), z = (q : Int) + 1 → ∀ (u' : AV) (ρ' : AH), Buf (σ.next + 1) 5 eRl ρ' u' (Q ++ rwi q d q (d - 1) (w.rt q).lo (w.rt q).hi) → Grew (σ.next + 1) u u' ρ ρ' →
            ∃ j, j < k2 ∧ ∃ q_1, q_1 + j = 3 ∧ ∃ x, (u' = x ∧ z = (q_1 : Nat)) ∧ ρ'.lim = 0 ∧ σ.next + 1 ≤ ρ'.next ∧ (∀ i, i < σ.next → ρ'.get i = σ.get i) ∧ ρ'.get σ.next = some (.cells (c11 nF nS w mp)) ∧ ∃ x_1, Buf (σ.next + 1) 5 eRl ρ' x x_1 ∧
              RlTo n (daysL νP w J d ++ (wi (νP 0 d) (νP 1 d) (nth w.F d - w.wr) (nth w.F d + w.wr) ++ (wi (νP 1 d) (νP 2 d) (nth w.S d - w.wr) (nth w.S d + w.wr) ++ ratesL νP w J d q_1))) x_1 := fun z hz u' ρ' hB hg => by
          have gl := hg.lim
          have gn := hg.next
          exact ⟨k2 - 1, by omega, q + 1, by omega, u', ⟨rfl, by omega⟩, by omega, by omega, (fun i hi => (hg.get i (by omega)).trans (qg i hi)), (hg.get σ.next (by omega)).trans p0, _, hB, by simpa using R3⟩
        have hsz : Q.length + (rwi q d q (d - 1) (w.rt q).lo (w.rt q).hi).length ≤ 1000 := by
          simp only [wi, List.length_append, List.length_cons, List.length_nil] at hQl
          simp only [rwi, List.length_cons, List.length_nil]
          omega
        have happ := fun {k} => appRl (nl := false) (k := k) hbu (by omega) (by omega) hsz
        clear hst hsh a3 R3
        obtain rfl | rfl | rfl : q = 0 ∨ q = 1 ∨ q = 2 := by omega
        · obtain ⟨k1, k2'⟩ := key 0 rfl
          rw [Nat.pow_zero, Nat.div_one] at han k1
          have k3 : ans prog O 109 [.agg [.int .i64 0, .int .i64 d], .agg [.int .i64 0, .int .i64 ((d : Int) - 1)], .agg [.int .i64 w.r0.lo, .int .i64 w.r0.hi]] = some (vl eRl false (rwi 0 d 0 (d - 1) (w.rt 0).lo (w.rt 0).hi)) := k2'
          simp (disch := omega) [Und, q0, hd0, k1, han, p0, p1, c11, k3, -Bool.exists_bool, -Int.natCast_ediv, -Int.natCast_pow, -Int.natCast_emod]
          refine happ fun u' ρ' hB hg => ?_
          simp (disch := omega) [-Bool.exists_bool]
          exact fin 1 rfl u' ρ' hB hg
        · obtain ⟨k1, k2'⟩ := key 1 rfl
          have k3 : ans prog O 109 [.agg [.int .i64 1, .int .i64 d], .agg [.int .i64 1, .int .i64 ((d : Int) - 1)], .agg [.int .i64 w.r1.lo, .int .i64 w.r1.hi]] = some (vl eRl false (rwi 1 d 1 (d - 1) (w.rt 1).lo (w.rt 1).hi)) := k2'
          simp (disch := omega) [Und, q0, hd0, k1, han, p0, p1, c11, k3, -Bool.exists_bool, -Int.natCast_ediv, -Int.natCast_pow, -Int.natCast_emod]
          refine happ fun u' ρ' hB hg => ?_
          simp (disch := omega) [-Bool.exists_bool]
          exact fin 2 rfl u' ρ' hB hg
        · obtain ⟨k1, k2'⟩ := key 2 rfl
          have k3 : ans prog O 109 [.agg [.int .i64 2, .int .i64 d], .agg [.int .i64 2, .int .i64 ((d : Int) - 1)], .agg [.int .i64 w.r2.lo, .int .i64 w.r2.hi]] = some (vl eRl false (rwi 2 d 2 (d - 1) (w.rt 2).lo (w.rt 2).hi)) := k2'
          simp (disch := omega) [Und, q0, hd0, k1, han, p0, p1, c11, k3, -Bool.exists_bool, -Int.natCast_ediv, -Int.natCast_pow, -Int.natCast_emod]
          refine happ fun u' ρ' hB hg => ?_
          simp (disch := omega) [-Bool.exists_bool]
          exact fin 3 rfl u' ρ' hB hg
      · have hst' : ratesL νP w J d (q + 1) = ratesL νP w J d q := by
          rw [hst]
          by_cases h0 : d = 0
          · rw [if_pos (.inl h0), List.append_nil]
          · have : J / 2 ^ q % 2 = 1 := by
              have : ¬ J / 2 ^ q % 2 = 0 := fun h => hgo ⟨by omega, h⟩
              omega
            rw [if_pos (.inr (by unfold jmp; exact decide_eq_true this)), List.append_nil]
        by_cases h0 : 0 < d
        · have hj1 : J / 2 ^ q % 2 = 1 := by
            have : ¬ J / 2 ^ q % 2 = 0 := fun h => hgo ⟨h0, h⟩
            omega
          rw [hj1] at han
          simp (disch := omega) [Und, q0, hq3', h0, hsh, han, -Bool.exists_bool, -Int.natCast_ediv, -Int.natCast_pow, -Int.natCast_emod]
          exact ⟨k2 - 1, by omega, q + 1, by omega, u, ⟨rfl, by omega⟩, qn, qg, p0, Q, hbu, by rw [hst']; simpa using hQ⟩
        · simp (disch := omega) [Und, q0, hq3', h0, -Bool.exists_bool]
          exact ⟨k2 - 1, by omega, q + 1, by omega, u, ⟨rfl, by omega⟩, qn, qg, p0, Q, hbu, by rw [hst']; simpa using hQ⟩
    · obtain rfl : q = 3 := by omega
      have hend : daysL νP w J (d + 1) = daysL νP w J d ++ wi (νP 0 d) (νP 1 d) (nth w.F d - w.wr) (nth w.F d + w.wr) ++ wi (νP 1 d) (νP 2 d) (nth w.S d - w.wr) (nth w.S d + w.wr) ++ ratesL νP w J d 3 := by
        show daysL νP w J d ++ dayL νP w J d = _
        unfold dayL
        simp
      simp (disch := omega) [Und, q0, -Bool.exists_bool]
      exact ⟨k - 1, by omega, d + 1, by omega, u, ⟨rfl, by omega⟩, qn, qg, p0, Q, hbu, by rw [hend]; exact hQ⟩
  · obtain rfl : d = n := by omega
    simp (disch := omega) [Und, t0, -Bool.exists_bool]
    exact hK v R τ t0 (by omega) tg (buf_lower hb (by omega)) hR
end Go.Oct.Clock
