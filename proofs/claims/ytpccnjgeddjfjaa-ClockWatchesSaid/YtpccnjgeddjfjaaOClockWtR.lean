/- Watches: can one be? The specification's. -/
import Derived.Test.YtpccnjgeddjfjaaOClockWtP
import Derived.Test.YtpccnjgeddjfjaaOClockDays
import Derived.Test.YtpccnjgeddjfjaaOT4
set_option maxRecDepth 100000
set_option maxHeartbeats 1000000
set_option linter.unusedVariables false
set_option linter.unusedSimpArgs false
namespace Go.Oct.Clock
open Go.Oct
def cWt (nF nS : Bool) (w : Wt) : List AV := [vs nF w.F, vs nS w.S, .int .i64 w.wr, .int .i64 w.r0.lo, .int .i64 w.r0.hi, .int .i64 w.r1.lo, .int .i64 w.r1.hi, .int .i64 w.r2.lo, .int .i64 w.r2.hi]
def eBd (c : Cn) : AV := .agg [.int .i64 c.to, .int .i64 c.fr, .int .i64 c.more]
theorem encBd : Enc eBd 3 := ⟨fun _ => rfl, fun _ => rfl, fun _ => rfl, by decide⟩
theorem flatBd : flatE eBd := fun x c hc k f => by
  simp only [eBd, cells_agg, List.mem_cons, List.not_mem_nil, or_false] at hc
  rcases hc with rfl | rfl | rfl <;> exact ⟨rfl, rfl⟩
theorem around_ok (n wr : Int) (h1 : inB n) (h2 : 0 ≤ wr ∧ wr ≤ 1000) : ans prog O 95 [.int .i64 n, .int .i64 wr] = some (.agg [.int .i64 (n - wr), .int .i64 (n + wr)]) := by
  unfold inB at h1
  refine fn_of' pl get95 (oo (by decide)) rfl rfl ?_
  simp (disch := omega) []
theorem withinR_ok (a b : Nat) (lo hi : Int) (ha : a < 1000) (hb : b < 1000) (h1 : -2000000000 ≤ lo) (h2 : lo ≤ 2000000000) : ans prog O 94 [.int .i64 a, .int .i64 b, .agg [.int .i64 lo, .int .i64 hi]] = some (vl eBd false (wi a b lo hi)) := by
  refine fn_of' pl get94 (oo (by decide)) rfl rfl ?_
  simp (disch := omega) []
  exact fz_whole encBd flatBd (xs := wi a b lo hi) (c := .ex 2) (by simp; rfl) (.inr rfl) 6
theorem abin_shr (s k : Nat) (h : k ≤ 63) : abin .shr (.int .i64 (s : Int)) (.int .i64 (k : Int)) = some (.int .i64 ((s / 2 ^ k : Nat) : Int)) := by
  have e : min ((k : Int).toNat) (IntKind.bits .i64) = k := by rw [Int.toNat_natCast]; exact Nat.min_eq_left (by show k ≤ 64; omega)
  have e2 : (s : Int).fdiv (2 ^ k) = ((s / 2 ^ k : Nat) : Int) := by
    rw [Int.fdiv_eq_ediv_of_nonneg _ (Int.le_of_lt (Int.pow_pos (by decide)))]
    simp
  simp only [abin, e]
  rw [if_neg (by omega), e2]
theorem Bit_ok (s k : Nat) (h : k ≤ 62) : ans prog O 80 [.int .i64 (s : Int), .int .i64 (k : Int)] = some (.bool (decide (s / 2 ^ k % 2 = 1))) := by
  refine fn_of' pl get80 (oo (by decide)) rfl rfl ?_
  simp (disch := omega) [abin_shr, -Int.natCast_ediv, -Int.natCast_pow]
  generalize s / 2 ^ k = q
  rw [Int.tmod_eq_emod_of_nonneg (by omega)]
  omega
theorem appBd {lo : Nat} {σ : AH} {v : AV} {xs ys : List Cn} {nl : Bool} (h : Buf lo 3 eBd σ v xs) (hlim : σ.lim ≤ lo) (hlo : lo ≤ σ.next) (hsz : xs.length + ys.length ≤ 1000) {k : AV → AH → Prop}
    (hk : ∀ v' σ', Buf lo 3 eBd σ' v' (xs ++ ys) → Grew lo v v' σ σ' → k v' σ') : OptK2 (aappend 3 24 v (vl eBd nl ys) σ) k :=
  h.app encBd hlim hlo (vl_src (σ := σ) encBd nl ys).1 (vl_src (σ := σ) encBd nl ys).2 (by simp only [topBytes]; omega) hk
/-- So many numbers, as cells. -/
def tabI (b : Nat → Int) (n : Nat) : List AV := (List.range n).map fun v : Nat => .int .i64 (b v)
@[simp] theorem tabI_len (b : Nat → Int) (n : Nat) : (tabI b n).length = n := by simp [tabI]
theorem tabI_get {b : Nat → Int} {n v : Nat} (h : v < n) : (tabI b n)[v]? = some (.int .i64 (b v)) := by simp [tabI, h]
theorem tabI_set {b : Nat → Int} {n v : Nat} {x : Int} (h : v < n) : (tabI b n).set v (.int .i64 x) = tabI (fun u => if u = v then x else b u) n := by
  apply List.ext_getElem
  · simp
  · intro i h1 h2
    simp at h1 h2
    rw [List.getElem_set]
    by_cases e : v = i
    · subst e; simp [tabI]
    · have : ¬ i = v := fun h => e h.symm
      simp [tabI, e, this]
theorem tabI_zero (n : Nat) : zcells [AV.int .i64 0] n = tabI (fun _ => 0) n := by
  simp only [zcells, tabI]
  apply List.ext_getElem
  · simp
  · intro i h1 h2; simp
theorem rates_zero (ν : Nat → Nat → Nat) (w : Wt) (J : Nat) : ∀ n, ratesL ν w J 0 n = []
  | 0 => rfl
  | n + 1 => by
    simp [ratesL, rates_zero ν w J n]
theorem CanR_ok {nF nS : Bool} {w : Wt} (hw : okWt w) {n J : Nat} (hn : n ≤ w.F.length) (hn1 : 1 ≤ n) (hJ : J < 8) : ∃ v, (∃ b : Bool, v = .bool b ∧ (b = true ↔ canBe w J n)) ∧ ans prog O 79 [.agg (cWt nF nS w), .int .i64 n, .int .i64 J] = some v := by
  have h20 := hw.1.1
  have hSl := hw.1.2.1
  have hwr := hw.1.2.2
  refine fn_ex pl _ get79 (oo (by decide)) rfl rfl ?_
  simp (disch := omega) [cWt, -Bool.exists_bool]
  refine lp_loop pl (fun k fr σ => ∃ (d : Nat) (v : AV), d + k = n ∧ fr = ⟨[(1, .int .i64 n), (2, .int .i64 J), (3, .ptr (some (0, 0))), (7, v), (8, .int .i64 d)], []⟩ ∧ σ.lim = 0 ∧ 1 ≤ σ.next ∧ σ.get 0 = some (.cells (cWt nF nS w)) ∧ Buf 1 3 eBd σ v (daysL νS w J d))
    ⟨n, 0, .vsl true [], by omega, rfl, by simp, by simp, by simp [cWt], Buf.nil⟩ ?_
  rintro k _ σ ⟨d, v, hd, rfl, hl0, hnx, g0, hb⟩
  have m0 := AH.get_lt g0
  by_cases hdn : d < n
  · have hdF : d < w.F.length := by omega
    have hdS : d < w.S.length := by omega
    obtain ⟨iF, iS⟩ := hw.2.1 d hdF
    have a1 := around_ok (nth w.F d) w.wr iF hwr
    have a2 := around_ok (nth w.S d) w.wr iS hwr
    have hF' := iF
    have hS' := iS
    unfold inB at hF' hS'
    have w1 := withinR_ok (νS 0 d) (νS 1 d) (nth w.F d - w.wr) (nth w.F d + w.wr) (by unfold νS; omega) (by unfold νS; omega) (by omega) (by omega)
    have w2 := withinR_ok (νS 1 d) (νS 2 d) (nth w.S d - w.wr) (nth w.S d + w.wr) (by unfold νS; omega) (by unfold νS; omega) (by omega) (by omega)
    have n0 : ((νS 0 d : Nat) : Int) = 3 * d := by unfold νS; omega
    have n1 : ((νS 1 d : Nat) : Int) = 3 * d + 1 := by unfold νS; omega
    have n2 : ((νS 2 d : Nat) : Int) = 3 * d + 2 := by unfold νS; omega
    rw [n0, n1] at w1
    rw [n1, n2] at w2
    simp (disch := omega) [Und, hl0, hdn, g0, cWt, m0, hdF, hdS, a1, a2, w1, w2, -Bool.exists_bool]
    have hdl := days_len νS w J d
    refine appBd hb (by omega) (by omega) (by simp only [wi, List.length_cons, List.length_nil]; omega) fun u1 σ1 B1 z1 => ?_
    have t1l := z1.lim
    have t1n := z1.next
    have e0 := (z1.get 0 (by omega)).trans g0
    have m1 := AH.get_lt e0
    simp (disch := omega) [Und, hl0, hdn, e0, cWt, m1, hdF, hdS, a1, a2, w1, w2, -Bool.exists_bool]
    refine appBd B1 (by omega) (by omega) (by simp only [wi, List.length_append, List.length_cons, List.length_nil]; omega) fun u2 σ2 B2 z2 => ?_
    have t2l := z2.lim
    have t2n := z2.next
    have f0 := (z2.get 0 (by omega)).trans e0
    have hl2 : σ2.lim = 0 := by omega
    simp (disch := omega) [Und, hl2, -Bool.exists_bool]
    refine lp_loop pl (fun k2 fr τ => ∃ (q : Nat) (u : AV), q + k2 = 3 ∧ fr = ⟨[(1, .int .i64 n), (2, .int .i64 J), (3, .ptr (some (0, 0))), (7, u), (8, .int .i64 d), (9, .int .i64 q)], []⟩ ∧ τ.lim = 0 ∧ 1 ≤ τ.next ∧ τ.get 0 = some (.cells (cWt nF nS w)) ∧ (d = 0 → q = 0) ∧
        Buf 1 3 eBd τ u (daysL νS w J d ++ wi (νS 0 d) (νS 1 d) (nth w.F d - w.wr) (nth w.F d + w.wr) ++ wi (νS 1 d) (νS 2 d) (nth w.S d - w.wr) (nth w.S d + w.wr) ++ ratesL νS w J d q))
      ⟨3, 0, u2, by omega, rfl, hl2, by omega, f0, fun _ => rfl, by simpa [ratesL] using B2⟩ ?_
    rintro k2 _ τ ⟨q, u, hq, rfl, q0, qn, qg, hdz, hbu⟩
    have m2 := AH.get_lt qg
    by_cases hgo : q < 3 ∧ 0 < d
    · obtain ⟨hq3, hd0⟩ := hgo
      have hbit := Bit_ok J q (by omega)
      have hst : ratesL νS w J d (q + 1) = ratesL νS w J d q ++ if d = 0 ∨ jmp J q = true then [] else wi (νS q d) (νS q (d - 1)) (w.rt q).lo (w.rt q).hi := rfl
      have hjm : jmp J q = decide (J / 2 ^ q % 2 = 1) := rfl
      rw [← hjm] at hbit
      cases hj : jmp J q with
      | true =>
        rw [hj] at hbit
        rw [hj, if_pos (.inr rfl), List.append_nil] at hst
        have hq3' : (q : Int) < 3 := by omega
        simp (disch := omega) [Und, q0, hq3', hd0, hbit, -Bool.exists_bool]
        exact ⟨k2 - 1, by omega, q + 1, by omega, u, ⟨rfl, by omega⟩, qn, qg, fun h => by omega, by rw [hst]; simpa using hbu⟩
      | false =>
        rw [hj] at hbit
        rw [hj, if_neg (by simp; omega)] at hst
        have hrl := rates_len νS w J d q
        have hro := rt_ok hw q
        unfold rtOK at hro
        have w3 := withinR_ok (νS q d) (νS q (d - 1)) (w.rt q).lo (w.rt q).hi (by unfold νS; omega) (by unfold νS; omega) (by omega) (by omega)
        have n3 : ((νS q d : Nat) : Int) = 3 * d + q := by unfold νS; omega
        have n4 : ((νS q (d - 1) : Nat) : Int) = 3 * d - 3 + q := by unfold νS; omega
        rw [n3, n4] at w3
        have fin : ∀ (z : Int), z = (q : Int) + 1 → ∀ (u' : AV) (τ' : AH), Buf 1 3 eBd τ' u' ((daysL νS w J d ++ wi (νS 0 d) (νS 1 d) (nth w.F d - w.wr) (nth w.F d + w.wr) ++ wi (νS 1 d) (νS 2 d) (nth w.S d - w.wr) (nth w.S d + w.wr) ++ ratesL νS w J d q) ++ wi (νS q d) (νS q (d - 1)) (w.rt q).lo (w.rt q).hi) → Grew 1 u u' τ τ' →
            ∃ j, j < k2 ∧ ∃ q_1, q_1 + j = 3 ∧ ∃ x, (u' = x ∧ z = (q_1 : Nat)) ∧ τ'.lim = 0 ∧ 1 ≤ τ'.next ∧ τ'.get 0 = some (.cells (cWt nF nS w)) ∧ (d = 0 → q_1 = 0) ∧ Buf 1 3 eBd τ' x (daysL νS w J d ++ (wi (νS 0 d) (νS 1 d) (nth w.F d - w.wr) (nth w.F d + w.wr) ++ (wi (νS 1 d) (νS 2 d) (nth w.S d - w.wr) (nth w.S d + w.wr) ++ ratesL νS w J d q_1))) := fun z hz1 u' τ' hB hz => by
          have zl := hz.lim
          have zn := hz.next
          exact ⟨k2 - 1, by omega, q + 1, by omega, u', ⟨rfl, by omega⟩, by omega, by omega, (hz.get 0 (by omega)).trans qg, fun h => by omega, by rw [hst]; simpa using hB⟩
        have hsz : (daysL νS w J d ++ wi (νS 0 d) (νS 1 d) (nth w.F d - w.wr) (nth w.F d + w.wr) ++ wi (νS 1 d) (νS 2 d) (nth w.S d - w.wr) (nth w.S d + w.wr) ++ ratesL νS w J d q).length + (wi (νS q d) (νS q (d - 1)) (w.rt q).lo (w.rt q).hi).length ≤ 1000 := by
          simp only [wi, List.length_append, List.length_cons, List.length_nil]; omega
        have happ := fun {k} => appBd (nl := false) (k := k) hbu (by omega) qn hsz
        have key : ∀ z : Int, z = q → ans prog O 80 [.int .i64 J, .int .i64 z] = some (.bool false) ∧ ans prog O 94 [.int .i64 (3 * d + z), .int .i64 (3 * d - 3 + z), .agg [.int .i64 (w.rt q).lo, .int .i64 (w.rt q).hi]] = some (vl eBd false (wi (νS q d) (νS q (d - 1)) (w.rt q).lo (w.rt q).hi)) := by
          rintro _ rfl
          exact ⟨hbit, w3⟩
        clear hst n3 n4 hbit w3
        obtain rfl | rfl | rfl : q = 0 ∨ q = 1 ∨ q = 2 := by omega
        · obtain ⟨hbit', w3'⟩ := key 0 rfl
          have w4 : ans prog O 94 [.int .i64 (3 * d), .int .i64 (3 * d - 3), .agg [.int .i64 w.r0.lo, .int .i64 w.r0.hi]] = some (vl eBd false (wi (νS 0 d) (νS 0 (d - 1)) (w.rt 0).lo (w.rt 0).hi)) := by
            rw [Int.add_zero, Int.add_zero] at w3'
            exact w3'
          simp (disch := omega) [Und, q0, hd0, hbit', qg, cWt, m2, w4, -Bool.exists_bool]
          refine happ fun u' τ' hB hz => ?_
          simp (disch := omega) [-Bool.exists_bool]
          exact fin 1 rfl u' τ' hB hz
        · obtain ⟨hbit', w3'⟩ := key 1 rfl
          have w4 : ans prog O 94 [.int .i64 (3 * d + 1), .int .i64 (3 * d - 3 + 1), .agg [.int .i64 w.r1.lo, .int .i64 w.r1.hi]] = some (vl eBd false (wi (νS 1 d) (νS 1 (d - 1)) (w.rt 1).lo (w.rt 1).hi)) := w3'
          simp (disch := omega) [Und, q0, hd0, hbit', qg, cWt, m2, w4, -Bool.exists_bool]
          refine happ fun u' τ' hB hz => ?_
          simp (disch := omega) [-Bool.exists_bool]
          exact fin 2 rfl u' τ' hB hz
        · obtain ⟨hbit', w3'⟩ := key 2 rfl
          have w4 : ans prog O 94 [.int .i64 (3 * d + 2), .int .i64 (3 * d - 3 + 2), .agg [.int .i64 w.r2.lo, .int .i64 w.r2.hi]] = some (vl eBd false (wi (νS 2 d) (νS 2 (d - 1)) (w.rt 2).lo (w.rt 2).hi)) := w3'
          simp (disch := omega) [Und, q0, hd0, hbit', qg, cWt, m2, w4, -Bool.exists_bool]
          refine happ fun u' τ' hB hz => ?_
          simp (disch := omega) [-Bool.exists_bool]
          exact fin 3 rfl u' τ' hB hz
    · have hend : daysL νS w J (d + 1) = daysL νS w J d ++ wi (νS 0 d) (νS 1 d) (nth w.F d - w.wr) (nth w.F d + w.wr) ++ wi (νS 1 d) (νS 2 d) (nth w.S d - w.wr) (nth w.S d + w.wr) ++ ratesL νS w J d q := by
        show daysL νS w J d ++ dayL νS w J d = _
        have e3 : ratesL νS w J d 3 = ratesL νS w J d q := by
          by_cases h0 : d = 0
          · subst h0
            rw [rates_zero, rates_zero]
          · rw [show q = 3 by omega]
        unfold dayL
        rw [e3]
        simp
      by_cases hq3 : q < 3
      · have hd0 : ¬ 0 < d := fun h => hgo ⟨hq3, h⟩
        have hq3' : (q : Int) < 3 := by omega
        simp (disch := omega) [Und, q0, hq3', hd0, -Bool.exists_bool]
        exact ⟨k - 1, by omega, d + 1, by omega, u, ⟨rfl, by omega⟩, qn, qg, by rw [hend]; exact hbu⟩
      · have hq3' : ¬ (q : Int) < 3 := by omega
        simp (disch := omega) [Und, q0, hq3', -Bool.exists_bool]
        exact ⟨k - 1, by omega, d + 1, by omega, u, ⟨rfl, by omega⟩, qn, qg, by rw [hend]; exact hbu⟩
  · obtain rfl : d = n := by omega
    have hgd : ∀ c ∈ daysL νS w J d, goodC (3 * d) c := days_good hw d hn fun k e hk he => by unfold νS; omega
    have hlen := days_len νS w J d
    have hrest := rest_iff (C := daysL νS w J d) (V := 3 * d) fun c hc => ⟨(hgd c hc).1, (hgd c hc).2.1⟩
    rw [canS] at hrest
    have hne : daysL νS w J d ≠ [] := by
      obtain ⟨e, rfl⟩ : ∃ e, d = e + 1 := ⟨d - 1, by omega⟩
      simp [daysL, dayL, wi]
    rcases hb with ⟨_, h⟩ | ⟨a, rfl, a1, a2, _⟩
    · exact absurd h hne
    have a3 := AH.get_lt a2
    have htn : (3 * (d : Int)).toNat = 3 * d := by omega
    simp (disch := omega) [Und, hl0, htn, -Bool.exists_bool]
    refine ⟨⟨by omega, by simp only [topBytes]; omega, by simp only [topBytes]; omega⟩, ?_⟩
    generalize hC : daysL νS w J d = C at *
    have hrl := rowOf_length encBd C
    refine lp_loop pl (fun k fr τ => ∃ r : Nat, r + k = 3 * d + 1 ∧ fr = ⟨[(1, .int .i64 d), (7, .slice (some (a, 0)) C.length (.op 3)), (10, .slice (some (σ.next, 0)) (3 * d) (.ex (3 * d))), (11, .int .i64 r)], []⟩ ∧ τ.lim = 0 ∧ τ.get a = some (.cells (rowOf eBd C)) ∧ τ.get σ.next = some (.cells (tabI (bk C r) (3 * d))) ∧ ∀ r', r' < r → ¬ ∀ v, bk C (r' + 1) v = bk C r' v)
      ⟨3 * d + 1, 0, by omega, rfl, hl0, by rw [AH.get_push_old _ _ _ (by omega)]; exact a2, by rw [AH.get_push_new, tabI_zero]; rfl, fun r' h => by omega⟩ ?_
    rintro k _ τ ⟨r, hr, rfl, q0, qa, qp, hno⟩
    by_cases hrn : r ≤ 3 * d
    · have hrn' : (r : Int) ≤ 3 * d := by omega
      simp (disch := omega) [Und, q0, hrn', -Bool.exists_bool]
      refine lp_loop pl (fun k2 fr τ => ∃ (q : Nat) (mv : Bool), q + k2 = C.length ∧ fr = ⟨[(1, .int .i64 d), (7, .slice (some (a, 0)) C.length (.op 3)), (10, .slice (some (σ.next, 0)) (3 * d) (.ex (3 * d))), (11, .int .i64 r), (12, .bool mv), (13, .int .i64 q)], []⟩ ∧ τ.lim = 0 ∧ τ.get a = some (.cells (rowOf eBd C)) ∧ τ.get σ.next = some (.cells (tabI (partR C (bk C r) q) (3 * d))) ∧
          (mv = false → ∀ v, partR C (bk C r) q v = bk C r v) ∧ (mv = true → ∃ v, partR C (bk C r) q v < bk C r v))
        ⟨C.length, 0, false, by omega, rfl, q0, qa, qp, fun _ _ => rfl, fun h => by cases h⟩ ?_
      clear q0 qa qp
      rintro k2 _ τ ⟨q, mv, hq, rfl, q0, qa, qp, hm0, hm1⟩
      have l1 := AH.get_lt qa
      have l2 := AH.get_lt qp
      by_cases hql : q < C.length
      · obtain ⟨c1, c2, c3, c4⟩ := hgd _ (nth_mem hql)
        have x0 := row_cell encBd (xs := C) (j := q) (c := 0) hql (by omega)
        have x1 := row_cell encBd (xs := C) (j := q) (c := 1) hql (by omega)
        have x2 := row_cell encBd (xs := C) (j := q) (c := 2) hql (by omega)
        have y0 : (eBd (nth C q)).cells[0]? = some (.int .i64 (nth C q).to) := rfl
        have y1 : (eBd (nth C q)).cells[1]? = some (.int .i64 (nth C q).fr) := rfl
        have y2 : (eBd (nth C q)).cells[2]? = some (.int .i64 (nth C q).more) := rfl
        rw [y0, Nat.add_zero] at x0
        rw [y1] at x1
        rw [y2] at x2
        have hst := partR_succ (C := C) (b := bk C r) hql
        have hlb := partR_lb (C := C) (V := 3 * d) hgd (bk_lb hgd (by omega) r) q (by omega)
        have hle := partR_le C (bk C r) q
        have hub := fun v => Int.le_trans (partR_le C (bk C r) q v) (bk_bd C r v)
        have tf := tabI_get (b := partR C (bk C r) q) c2
        have tt := tabI_get (b := partR C (bk C r) q) c1
        have lf := hlb (nth C q).fr
        have uf := hub (nth C q).fr
        generalize hb : partR C (bk C r) q = b at *
        have hw64 : w64 (b (nth C q).fr + (nth C q).more) = b (nth C q).fr + (nth C q).more := w64_id _ (by omega) (by omega)
        have tse := tabI_set (b := b) (n := 3 * d) (x := b (nth C q).fr + (nth C q).more) c1
        by_cases hlt : b (nth C q).fr + (nth C q).more < b (nth C q).to
        · simp (disch := omega) [Und, q0, qa, qp, l1, l2, hql, x0, x1, x2, tf, tt, hw64, hrl, c1, c2, hlt, -Bool.exists_bool, -List.map_set, -getElem?_pos]
          have hrel : rel b (nth C q) = fun u => if u = (nth C q).to then b (nth C q).fr + (nth C q).more else b u := by
            funext u
            unfold rel
            split
            · omega
            · rfl
          refine ⟨by omega, by omega, by omega, by omega, by omega, by omega, by omega, by omega, by omega, by omega, k2 - 1, by omega, q + 1, by omega, true, ⟨rfl, by omega⟩, (fun h => by omega), by rw [tse, hst, hrel], (fun h => by cases h), fun _ => ⟨(nth C q).to, ?_⟩⟩
          rw [hst, hrel]
          show (if (nth C q).to = (nth C q).to then _ else _) < _
          rw [if_pos rfl]
          have := hle (nth C q).to
          omega
        · simp (disch := omega) [Und, q0, qa, qp, l1, l2, hql, x0, x1, x2, tf, tt, hw64, hrl, c1, c2, hlt, -Bool.exists_bool, -List.map_set, -getElem?_pos]
          have hrel : rel b (nth C q) = b := by
            funext u
            unfold rel
            split
            · rename_i e; subst e; omega
            · rfl
          rw [hrel] at hst
          exact ⟨by omega, by omega, by omega, by omega, by omega, by omega, by omega, k2 - 1, by omega, q + 1, by omega, mv, ⟨rfl, by omega⟩, by rw [hst], by rw [hst]; exact hm0, by rw [hst]; exact hm1⟩
      · obtain rfl : q = C.length := by omega
        have hbk : partR C (bk C r) C.length = bk C (r + 1) := by unfold partR; rw [List.take_length]; rfl
        rw [hbk] at qp hm0 hm1
        cases mv with
        | false =>
          have := hrest.2 ⟨r, hrn, hm0 rfl⟩
          simp (disch := omega) [Und, q0, -Bool.exists_bool]
          exact this
        | true =>
          obtain ⟨v, hv⟩ := hm1 rfl
          simp (disch := omega) [Und, q0, -Bool.exists_bool]
          refine ⟨k - 1, by omega, r + 1, by omega, by omega, qa, qp, fun r' hr' => ?_⟩
          by_cases e : r' = r
          · subst e
            exact ⟨v, by omega⟩
          · apply Classical.byContradiction
            intro hc
            exact hno r' (by omega) fun v => Classical.byContradiction fun h => hc ⟨v, h⟩
    · have hcan : ¬ canBe w J d := fun h => by
        obtain ⟨r', r1, r2⟩ := hrest.1 h
        exact hno r' (by omega) r2
      have hrn' : ¬ (r : Int) ≤ 3 * d := by omega
      simp (disch := omega) [Und, q0, hrn', -Bool.exists_bool]
      exact hcan
end Go.Oct.Clock
