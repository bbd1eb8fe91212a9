/- FixThree: it answers true at all arguments. -/
import Derived.Test.YtddclpecmjibkaaDoorOFixMorL
set_option maxRecDepth 100000
set_option maxHeartbeats 8000000
set_option linter.unusedVariables false
set_option linter.unusedSimpArgs false
namespace Go.Oct.Fix
open Go.Oct
/-- Three clocks, one of which shows anything. -/
def ownC (m : Nat) (s : Span) (e a : Int) (i : Nat) : Span := if i = m then s else ⟨e - a, e + s.lo % 4⟩
def longS (cl : List Span) : Stp := ⟨3, 0, 0, 0, 0, 0, 0, 0, 0, false, cl⟩
def clL (m : Nat) (s0 s1 s2 : Span) (e a : Int) : List Span := [ownC m s0 e a 0, ownC m s1 e a 1, ownC m s2 e a 2]
def shm (m : Nat) (s0 s1 s2 : Span) : Span := if m = 0 then s0 else if m = 1 then s1 else s2
theorem own_in {m i : Nat} {s : Span} {e a : Int} (h : i ≠ m) (ha : 0 ≤ a ∧ a < 4) : inI (ownC m s e a i).lo (ownC m s e a i).hi e = true := by
  unfold ownC
  rw [if_neg h, inI_iff]
  simp only
  omega
theorem clL_two {m : Nat} {s0 s1 s2 : Span} {e a : Int} (hm : m < 3) (ha : 0 ≤ a ∧ a < 4) : 2 ≤ clk (clL m s0 s1 s2 e a) e := by
  unfold clk clL
  have h : ∀ i s, i ≠ m → inI (ownC m s e a i).lo (ownC m s e a i).hi e = true := fun i s h => own_in h ha
  rcases (show m = 0 ∨ m = 1 ∨ m = 2 by omega) with rfl | rfl | rfl
  · simp only [List.filter, h 1 s1 (by decide), h 2 s2 (by decide)]
    split <;> simp
  · simp only [List.filter, h 0 s0 (by decide), h 2 s2 (by decide)]
    split <;> simp
  · simp only [List.filter, h 0 s0 (by decide), h 1 s1 (by decide)]
    split <;> simp
theorem okX {m : Nat} {s0 s1 s2 : Span} {e a : Int} (hm : m < 3) (he : 0 ≤ e ∧ e ≤ 59) (ha : 0 ≤ a ∧ a < 4) : okStp (longS (clL m s0 s1 s2 e a)) ↔ isSp (shm m s0 s1 s2) (-10000) 10000 := by
  have hown : ∀ i s, i ≠ m → isSp (ownC m s e a i) (-10000) 10000 := fun i s h => by
    unfold ownC isSp
    rw [if_neg h]
    simp only
    omega
  have hm' : nth (clL m s0 s1 s2 e a) m = shm m s0 s1 s2 := by
    rcases (show m = 0 ∨ m = 1 ∨ m = 2 by omega) with rfl | rfl | rfl <;> rfl
  constructor
  · rintro (h | h | h)
    · exact absurd h.1 (by show ¬ (3 : Int) = 1; decide)
    · exact absurd h.1 (by show ¬ (3 : Int) = 2; decide)
    · have := h.2.2.2.2.2 m hm
      rw [← hm']
      exact this
  · intro h
    refine .inr (.inr ⟨rfl, ⟨rfl, rfl⟩, ⟨rfl, rfl⟩, ⟨⟨rfl, rfl⟩, rfl, rfl⟩, rfl, fun j hj => ?_⟩)
    by_cases e1 : j = m
    · rw [e1]
      show isSp (nth (clL m s0 s1 s2 e a) m) _ _
      rw [hm']; exact h
    · rcases (show j = 0 ∨ j = 1 ∨ j = 2 by omega) with rfl | rfl | rfl
      · exact hown 0 s0 e1
      · exact hown 1 s1 e1
      · exact hown 2 s2 e1
/-- A step whose clocks are in an object. -/
def eX (x : Stp × Option Nat) : AV := .agg [.int .i64 x.1.k, .int .i64 x.1.a, .int .i64 x.1.b, .int .i64 x.1.vlo, .int .i64 x.1.vhi, .int .i64 x.1.elo, .int .i64 x.1.ehi, .int .i64 x.1.nlo, .int .i64 x.1.nhi, match x.2 with | none => vl eSpan x.1.cn x.1.cl | some o => .slice (some (o, 0)) x.1.cl.length (.op 2)]
theorem encX : Enc eX 10 := ⟨fun _ => rfl, fun ⟨_, o⟩ => by cases o <;> rfl, fun _ => rfl, by decide⟩
theorem rowX (S : List Stp) : rowOf eX (S.map fun s => (s, none)) = rowOf eStp S := by
  unfold rowOf
  rw [List.flatMap_map]
  rfl
theorem log_snapX {E N : Span} {S : List Stp} {x : Stp} {σ : AH} {o o2 : Nat} {c : ACap} (hcel : σ.cel o = some (rowOf eX ((S.map fun s => (s, none)) ++ [(x, some o2)]))) (h2 : σ.cel o2 = some (rowOf eSpan x.cl)) (hc : c = .op 10 ∨ c = .ex (S.length + 1)) (hx : x.cn = false) : Snap σ (.agg [.int .i64 E.lo, .int .i64 E.hi, .int .i64 N.lo, .int .i64 N.hi, .slice (some (o, 0)) (S.length + 1) c]) [o, o2] (eLog E N false (S ++ [x])) := by
  rw [rowOf_append, rowX] at hcel
  refine ⟨?_, fun T hT => ?_⟩
  · show [AV.int .i64 E.lo, .int .i64 E.hi, .int .i64 N.lo, .int .i64 N.hi, .slice (some (o, 0)) (S.length + 1) c].flatMap (idsV 7 σ.cel) = [o, o2]
    have e2 : idsV 6 σ.cel (.slice (some (o2, 0)) x.cl.length (.op 2)) = [o2] := by
      show (match σ.cel o2 with | some cs => o2 :: cs.flatMap (idsV 5 σ.cel) | none => []) = _
      rw [h2]
      have : (rowOf eSpan x.cl).flatMap (idsV 5 σ.cel) = [] := by
        rw [List.flatMap_eq_nil_iff]
        intro y hy
        exact (flat_row flatSp x.cl y hy 4 _).1
      simp [this]
    have e : idsV 7 σ.cel (.slice (some (o, 0)) (S.length + 1) c) = [o, o2] := by
      show (match σ.cel o with | some cs => o :: cs.flatMap (idsV 6 σ.cel) | none => []) = _
      rw [hcel]
      have : (rowOf eStp S).flatMap (idsV 6 σ.cel) = [] := by
        rw [List.flatMap_eq_nil_iff]
        intro y hy
        exact (flat_row flatStp S y hy 5 _).1
      have h3 : (rowOf eX [(x, some o2)]).flatMap (idsV 6 σ.cel) = [o2] := by
        show ([] ++ ([] ++ ([] ++ ([] ++ ([] ++ ([] ++ ([] ++ ([] ++ ([] ++ (idsV 6 σ.cel (.slice (some (o2, 0)) x.cl.length (.op 2)) ++ [])))))))))) = [o2]
        rw [e2]; rfl
      simp [List.flatMap_append, this, h3]
    simp only [List.flatMap_cons, List.flatMap_nil, e]
    rfl
  · have hce : σ.celOf T o = some (rowOf eStp S ++ rowOf eX [(x, some o2)]) := by
      unfold AH.celOf
      rw [if_pos (by simpa using hT o (by simp)), hcel]
    have hce2 : σ.celOf T o2 = some (rowOf eSpan x.cl) := by
      unfold AH.celOf
      rw [if_pos (by simpa using hT o2 (by simp)), h2]
    have hcl := fz_whole encSpan flatSp (f := σ.celOf T) (o := o2) (xs := x.cl) (c := .op 2) hce2 (.inl rfl) 4
    have hm : (rowOf eStp S ++ rowOf eX [(x, some o2)]).map (fun c => (fzV 6 (σ.celOf T) c).na) = rowOf eStp (S ++ [x]) := by
      rw [List.map_append, rowOf_append]
      congr 1
      · exact (List.map_congr_left (g := id) fun c hc => (flat_row flatStp S c hc 5 _).2).trans (List.map_id _)
      · show [_, _, _, _, _, _, _, _, _, (fzV 6 (σ.celOf T) (.slice (some (o2, 0)) x.cl.length (.op 2))).na] = _
        rw [hcl, ← hx]
        rfl
    have hfz : fzV 7 (σ.celOf T) (.slice (some (o, 0)) (S.length + 1) c) = vl eStp false (S ++ [x]) := by
      show (match σ.celOf T o with
        | some cs => if 0 ≤ cs.length then
            match ACap.cellsOf (S.length + 1) (cs.length - 0) c with
            | some z => AV.vsl false (chunks z (S.length + 1) ((cs.drop 0).map fun x => (fzV 6 (σ.celOf T) x).na))
            | none => .undef
          else .undef
        | none => .undef) = _
      rw [hce]
      have hll : (rowOf eStp S ++ rowOf eX [(x, some o2)]).length = (S.length + 1) * 10 := by
        rw [List.length_append, rowOf_length encStp, rowOf_length encX, List.length_singleton]; omega
      simp only [Nat.zero_le, if_true, List.drop_zero, hm, Nat.sub_zero]
      have fin : chunks 10 (S.length + 1) (rowOf eStp (S ++ [x])) = (S ++ [x]).map eStp := by
        have := chunks_rowOf encStp (S ++ [x])
        rwa [List.length_append, List.length_singleton] at this
      rcases hc with rfl | rfl
      · simp only [ACap.cellsOf, hll, Nat.le_refl, if_true, fin]; rfl
      · simp only [ACap.cellsOf]
        rw [if_neg (by omega), hll, Nat.mul_div_cancel_left 10 (by omega), if_pos ⟨Nat.mul_comm 10 _, Nat.le_refl _⟩]
        simp only [fin]; rfl
    show AV.agg [AV.int .i64 E.lo, AV.int .i64 E.hi, AV.int .i64 N.lo, AV.int .i64 N.hi, fzV 7 (σ.celOf T) (.slice (some (o, 0)) (S.length + 1) c)] = _
    rw [hfz]
    rfl
theorem FixThree_law (E N : Span) (nS : Bool) (S : List Stp) (nt : Bool) (t : List Span) (s0 s1 s2 : Span) (n0 n1 : Int) (hz : szLog S) (ht : t.length < 2 ^ 62) : ans prog O 12 [eLog E N nS S, vl eSpan nt t, .agg [.int .i64 s0.lo, .int .i64 s0.hi, .int .i64 s1.lo, .int .i64 s1.hi, .int .i64 s2.lo, .int .i64 s2.hi], .agg [.int .i64 n0, .int .i64 n1]] = some (.bool true) := by
  have htr := True_ok E N nS S nt t hz ht
  unfold eLog at htr
  refine fn_of' pl get12 (oo (by decide)) rfl rfl ?_
  by_cases hok : okLog E N S
  · unfold trueV at htr
    rw [if_pos hok] at htr
    by_cases ht : TrueT E N S t
    · rw [decide_eq_true ht] at htr
      by_cases h12 : 12 ≤ (S.length : Int)
      · simp (disch := omega) [eLog, htr, h12, Und, -Bool.exists_bool]
      · have hlen := ht.len
        have h0 : 0 < t.length := by omega
        have q1 : ((t.length : Int) - 1).toNat = (rns S).length := by omega
        have q2 : (t.length : Int) - 1 < t.length := by omega
        have q3 : (0 : Int) ≤ (t.length : Int) - 1 := by omega
        have q4 : ¬ (t.length : Int) = 0 := by omega
        simp (disch := omega) [eLog, htr, h12, q1, q2, q3, q4, Und, -Bool.exists_bool]
        obtain ⟨⟨u1, u2⟩, u3⟩ := ht.sea (rns S).length (Nat.le_refl _)
        have htn : t ≠ [] := fun h => by rw [h] at h0; exact absurd h0 (by decide)
        refine fun _ => ⟨by omega, ?_⟩
        obtain ⟨m, hm⟩ : ∃ m : Nat, n0 % 3 = m := ⟨(n0 % 3).toNat, by omega⟩
        have hm3 : m < 3 := by omega
        obtain ⟨a, ha⟩ : ∃ a, n1 % 4 = a := ⟨_, rfl⟩
        have ha0 : 0 ≤ a ∧ a < 4 := by omega
        obtain ⟨e, he⟩ : ∃ e, (nth t (rns S).length).lo = e := ⟨_, rfl⟩
        obtain ⟨f, hf⟩ : ∃ f, (nth t (rns S).length).hi = f := ⟨_, rfl⟩
        rw [he] at u1 u2
        rw [he, hf]
        generalize hσ : AH.set _ 3 _ = σ0
        have z0 : σ0.lim = 0 := by rw [← hσ]; rfl
        have zn : σ0.next = 4 := by rw [← hσ]; rfl
        have g0 : σ0.get 0 = some (.cells [.int .i64 E.lo, .int .i64 E.hi, .int .i64 N.lo, .int .i64 N.hi, vl eStp nS S]) := by rw [← hσ]; simp
        have g1 : σ0.get 1 = some (.cells [.int .i64 s0.lo, .int .i64 s0.hi, .int .i64 s1.lo, .int .i64 s1.hi, .int .i64 s2.lo, .int .i64 s2.hi]) := by rw [← hσ]; simp
        have g2 : σ0.get 2 = some (.cells [.int .i64 n0, .int .i64 n1]) := by rw [← hσ]; simp
        have g3 : σ0.get 3 = some (.cells [.int .i64 e, .int .i64 f]) := by rw [← hσ]; simp
        clear hσ
        refine lp_loop pl (fun k fr σ => ∃ i v, i + k = 3 ∧ fr = ⟨[(4, .ptr (some (0, 0))), (6, .ptr (some (1, 0))), (7, .ptr (some (2, 0))), (11, .ptr (some (3, 0))), (12, v), (13, .int .i64 i)], []⟩ ∧ σ.lim = 0 ∧ 4 ≤ σ.next ∧ (∀ z, z < 4 → σ.get z = σ0.get z) ∧ Buf 4 2 eSpan σ v ((clL m s0 s1 s2 e a).take i))
          ⟨3, 0, _, by omega, rfl, z0, by omega, fun z _ => rfl, Buf.nil⟩ ?_
        rintro k _ σ ⟨i, v, hi, rfl, t0, tn, tg, hb⟩
        have b0 := (tg 0 (by omega)).trans g0
        have b1 := (tg 1 (by omega)).trans g1
        have b2 := (tg 2 (by omega)).trans g2
        have b3 := (tg 3 (by omega)).trans g3
        have l0 := AH.get_lt b0
        have l1 := AH.get_lt b1
        have l2 := AH.get_lt b2
        have l3 := AH.get_lt b3
        have n0' : ¬ 0 = σ.next := by omega
        have n1' : ¬ 1 = σ.next := by omega
        have n2' : ¬ 2 = σ.next := by omega
        have n3' : ¬ 3 = σ.next := by omega
        have next : ∀ (τ : AH) (s : Span), i < 3 → nth (clL m s0 s1 s2 e a) i = s → τ.lim = 0 → σ.next < τ.next → (∀ z, z < σ.next → τ.get z = σ.get z) → ∀ (K : AV → AH → Prop), (∀ v' τ', τ'.lim = 0 → 4 ≤ τ'.next → (∀ z, z < 4 → τ'.get z = σ0.get z) → Buf 4 2 eSpan τ' v' ((clL m s0 s1 s2 e a).take (i + 1)) → K v' τ') → OptK2 (aappend 2 16 v (.slice (some (τ.next, 0)) 1 (.ex 1)) (τ.push (.cells [.int .i64 s.lo, .int .i64 s.hi]))) K := by
          intro τ s hi3 hs h1 h2 h3 K hK
          have hlen : ((clL m s0 s1 s2 e a).take i).length = i := by rw [List.length_take]; show min i 3 = i; omega
          refine (hb.keep fun z _ hz => h3 z hz).push encSpan (by omega) (by omega) s (by simp only [topBytes]; omega) (cs := [.int .i64 s.lo, .int .i64 s.hi]) rfl fun v' τ' k1 k2 => hK v' τ' (k2.lim.trans h1) (by have := k2.next; omega) (fun z hz => ?_) ?_
          · rw [k2.get z (by omega), h3 z (by omega), tg z hz]
          · rw [← hs, ← take_succ_nth (show i < (clL m s0 s1 s2 e a).length from hi3)] at k1; exact k1
        rcases (show i = 0 ∨ i = 1 ∨ i = 2 ∨ i = 3 by omega) with rfl | rfl | rfl | rfl
        · by_cases hm0 : m = 0
          · subst hm0
            simp (disch := omega) [Und, eqf1, eqf2, t0, tn, b0, b1, b2, b3, l0, l1, l2, l3, n0', n1', n2', n3', hm, ha, -Bool.exists_bool]
            refine next _ s0 (by omega) rfl (by exact t0) (by exact Nat.lt_succ_self _) (fun z hz => by rw [AH.get_set_other _ _ _ _ (by omega), AH.get_push_old _ _ _ (by omega)]) _ fun v' τ' w1 w2 w3 w4 => ?_
            simp (disch := omega) [-Bool.exists_bool]
            exact ⟨k - 1, by omega, 1, by omega, _, ⟨rfl, rfl⟩, w1, w2, w3, w4⟩
          · have hm0' : ¬ (0 : Int) = m := by omega
            simp (disch := omega) [Und, eqf1, eqf2, t0, tn, b0, b1, b2, b3, l0, l1, l2, l3, n0', n1', n2', n3', hm, ha, hm0', -Bool.exists_bool]
            refine ⟨by omega, next _ ⟨e - a, e + s0.lo % 4⟩ (by omega) (by show ownC m s0 e a 0 = _; unfold ownC; rw [if_neg (by omega)]) (by rfl) (by exact Nat.lt_succ_self _) (fun z hz => by
              rw [AH.get_set_other _ _ _ _ (by omega)]
              show AH.get (AH.set (AH.push σ _) σ.next _) z = _
              rw [AH.get_set_other _ _ _ _ (by omega), AH.get_push_old _ _ _ (by omega)]) _ fun v' τ' w1 w2 w3 w4 => ?_⟩
            simp (disch := omega) [-Bool.exists_bool]
            exact ⟨k - 1, by omega, 1, by omega, _, ⟨rfl, rfl⟩, w1, w2, w3, w4⟩
        · by_cases hm0 : m = 1
          · subst hm0
            simp (disch := omega) [Und, eqf1, eqf2, t0, tn, b0, b1, b2, b3, l0, l1, l2, l3, n0', n1', n2', n3', hm, ha, -Bool.exists_bool]
            refine next _ s1 (by omega) rfl (by exact t0) (by exact Nat.lt_succ_self _) (fun z hz => by rw [AH.get_set_other _ _ _ _ (by omega), AH.get_push_old _ _ _ (by omega)]) _ fun v' τ' w1 w2 w3 w4 => ?_
            simp (disch := omega) [-Bool.exists_bool]
            exact ⟨k - 1, by omega, 2, by omega, _, ⟨rfl, rfl⟩, w1, w2, w3, w4⟩
          · have hm0' : ¬ (1 : Int) = m := by omega
            simp (disch := omega) [Und, eqf1, eqf2, t0, tn, b0, b1, b2, b3, l0, l1, l2, l3, n0', n1', n2', n3', hm, ha, hm0', -Bool.exists_bool]
            refine ⟨by omega, next _ ⟨e - a, e + s1.lo % 4⟩ (by omega) (by show ownC m s1 e a 1 = _; unfold ownC; rw [if_neg (by omega)]) (by rfl) (by exact Nat.lt_succ_self _) (fun z hz => by
              rw [AH.get_set_other _ _ _ _ (by omega)]
              show AH.get (AH.set (AH.push σ _) σ.next _) z = _
              rw [AH.get_set_other _ _ _ _ (by omega), AH.get_push_old _ _ _ (by omega)]) _ fun v' τ' w1 w2 w3 w4 => ?_⟩
            simp (disch := omega) [-Bool.exists_bool]
            exact ⟨k - 1, by omega, 2, by omega, _, ⟨rfl, rfl⟩, w1, w2, w3, w4⟩
        · by_cases hm0 : m = 2
          · subst hm0
            simp (disch := omega) [Und, eqf1, eqf2, t0, tn, b0, b1, b2, b3, l0, l1, l2, l3, n0', n1', n2', n3', hm, ha, -Bool.exists_bool]
            refine next _ s2 (by omega) rfl (by exact t0) (by exact Nat.lt_succ_self _) (fun z hz => by rw [AH.get_set_other _ _ _ _ (by omega), AH.get_push_old _ _ _ (by omega)]) _ fun v' τ' w1 w2 w3 w4 => ?_
            simp (disch := omega) [-Bool.exists_bool]
            exact ⟨k - 1, by omega, 3, by omega, _, ⟨rfl, rfl⟩, w1, w2, w3, w4⟩
          · have hm0' : ¬ (2 : Int) = m := by omega
            simp (disch := omega) [Und, eqf1, eqf2, t0, tn, b0, b1, b2, b3, l0, l1, l2, l3, n0', n1', n2', n3', hm, ha, hm0', -Bool.exists_bool]
            refine ⟨by omega, next _ ⟨e - a, e + s2.lo % 4⟩ (by omega) (by show ownC m s2 e a 2 = _; unfold ownC; rw [if_neg (by omega)]) (by rfl) (by exact Nat.lt_succ_self _) (fun z hz => by
              rw [AH.get_set_other _ _ _ _ (by omega)]
              show AH.get (AH.set (AH.push σ _) σ.next _) z = _
              rw [AH.get_set_other _ _ _ _ (by omega), AH.get_push_old _ _ _ (by omega)]) _ fun v' τ' w1 w2 w3 w4 => ?_⟩
            simp (disch := omega) [-Bool.exists_bool]
            exact ⟨k - 1, by omega, 3, by omega, _, ⟨rfl, rfl⟩, w1, w2, w3, w4⟩
        · have hb3 : Buf 4 2 eSpan σ v (clL m s0 s1 s2 e a) := hb
          obtain ⟨o2, rfl, o24, og2⟩ : ∃ o2, v = .slice (some (o2, 0)) 3 (.op 2) ∧ 4 ≤ o2 ∧ σ.get o2 = some (.cells (rowOf eSpan (clL m s0 s1 s2 e a))) := by
            rcases hb3 with ⟨_, h⟩ | ⟨i, h1, h2, h3, _⟩
            · cases h
            · exact ⟨i, h1, h2, h3⟩
          have lo2 := AH.get_lt og2
          simp (disch := omega) [Und, eqf1, eqf2, t0, tn, b0, b1, b2, b3, l0, l1, l2, l3, -Bool.exists_bool]
          generalize hυ : AH.push (AH.set (AH.push σ _) σ.next _) _ = υ
          have r0 : υ.lim = 0 := by rw [← hυ]; exact t0
          have rn : υ.next = σ.next + 2 := by rw [← hυ]; rfl
          have rg : ∀ z, z < σ.next → υ.get z = σ.get z := fun z hz => by rw [← hυ, AH.get_push_old _ _ _ (by show z ≠ σ.next + 1; omega), AH.get_set_other _ _ _ _ (by omega), AH.get_push_old _ _ _ (by omega)]
          have rs : υ.get σ.next = some (.cells [.int .i64 E.lo, .int .i64 E.hi, .int .i64 N.lo, .int .i64 N.hi, vl eStp nS S]) := by rw [← hυ]; simp
          have rl : υ.get (σ.next + 1) = some (.cells []) := by rw [← hυ]; exact AH.get_push_new _ _
          clear hυ
          refine lit0_app (lo := σ.next + 1) (ys := S) (e := eStp) encStp (Nat.le_refl _) (by omega) rl (vl_src encStp nS S) (by simp only [topBytes]; omega) fun w σ1 w1 w2 w3 => ?_
          have x0 : σ1.lim = 0 := w2.lim.trans r0
          have xn := w2.next
          have xg : ∀ z, z < σ.next + 2 → σ1.get z = υ.get z := fun z hz => w2.get z (by omega) (by simp)
          simp (disch := omega) [Und, x0, -Bool.exists_bool]
          have w1' : Whole (σ.next + 1) 10 eX σ1 w (S.map fun s => (s, none)) := by
            obtain ⟨o, c, rfl, o3, g, hc⟩ := w1
            exact ⟨o, c, by rw [List.length_map], o3, by rw [rowX]; exact g, by rw [List.length_map]; exact hc⟩
          refine w1'.push encX (by omega) (by omega) (longS (clL m s0 s1 s2 e a), some o2) (by simp only [topBytes, List.length_map]; omega) rfl fun w2' τ h2 g2 => ?_
          have v0 := g2.lim.trans x0
          have vn := g2.next
          have vg : ∀ z, z < σ.next + 1 → τ.get z = υ.get z := fun z hz => (g2.get z hz).trans (xg z (by omega))
          have vs := (vg σ.next (by omega)).trans rs
          have vo := ((vg o2 (by omega)).trans (rg o2 (by omega))).trans og2
          have v1 := ((vg 1 (by omega)).trans (rg 1 (by omega))).trans b1
          have v2 := ((vg 2 (by omega)).trans (rg 2 (by omega))).trans b2
          have v3 := ((vg 3 (by omega)).trans (rg 3 (by omega))).trans b3
          have lv1 := AH.get_lt v1
          have lv2 := AH.get_lt v2
          have lv3 := AH.get_lt v3
          have lvs := AH.get_lt vs
          obtain ⟨o, c, rfl, o3, og, oc⟩ := h2
          simp (disch := omega) [Und, eqf1, eqf2, v0, vs, lvs, -Bool.exists_bool]
          generalize hτ : AH.set τ σ.next _ = τ2
          have y0 : τ2.lim = 0 := by rw [← hτ]; exact v0
          have yg : ∀ z, z ≠ σ.next → τ2.get z = τ.get z := fun z hz => by rw [← hτ, AH.get_set_other _ _ _ _ (by omega)]
          clear hτ
          have yo := (yg o (by omega)).trans og
          have yo2 := (yg o2 (by omega)).trans vo
          have y1 := (yg 1 (by omega)).trans v1
          have y2 := (yg 2 (by omega)).trans v2
          have y3 := (yg 3 (by omega)).trans v3
          rw [List.length_append, List.length_map, List.length_singleton] at oc
          have hwh := Where_ok E N false (S ++ [longS (clL m s0 s1 s2 e a)]) (by
            refine ⟨by simp; omega, fun j hj => ?_⟩
            rw [List.length_append, List.length_singleton] at hj
            by_cases e : j < S.length
            · rw [nth_pre e]; exact hz.2 j e
            · have : j = S.length := by omega
              rw [this, nth_app_hi]; show 3 < 2 ^ 62; decide)
          refine pc_ro (.cons (log_snapX (AH.cel_get yo) (AH.cel_get yo2) oc rfl) .nil) (fun h => by cases h) (by simp) (oo (args := []) (by decide)).1 (fun z hz => by rw [y0]; omega) hwh fun τ3 oo3 ce3 => ?_
          have p0 := oo3.lim.trans y0
          have pn := oo3.next
          have pg : ∀ z, z < 4 → τ3.get z = τ2.get z := fun z hz => oo3.get z (by have := AH.get_lt y3; omega) (by simp; omega)
          have p1 := (pg 1 (by omega)).trans y1
          have p2 := (pg 2 (by omega)).trans y2
          have p3 := (pg 3 (by omega)).trans y3
          have lp1 := AH.get_lt p1
          have lp2 := AH.get_lt p2
          have lp3 := AH.get_lt p3
          unfold whereV
          have hokS : okLog E N (S ++ [longS (clL m s0 s1 s2 e a)]) ↔ isSp (shm m s0 s1 s2) (-10000) 10000 := by
            rw [okLog_more, okX hm3 ⟨u1, u2⟩ ha0]
            exact ⟨fun h => h.2.2, fun h => ⟨hok, by omega, h⟩⟩
          by_cases hsp : isSp (shm m s0 s1 s2) (-10000) 10000
          · rw [if_pos (hokS.2 hsp)]
            have hx2 : (longS (clL m s0 s1 s2 e a)).k ≠ 2 := by show (3 : Int) ≠ 2; decide
            have htm : TrueT E N (S ++ [longS (clL m s0 s1 s2 e a)]) t := (true_more hx2).2 ⟨ht, by
              rw [he]
              show decide (2 ≤ clk (clL m s0 s1 s2 e a) e) = true
              exact decide_eq_true (clL_two hm3 ha0)⟩
            have hsea := ht.sea (rns S).length (Nat.le_refl _)
            have hmem : (⟨e, f⟩ : Span) ∈ ptsL (canR E N (S ++ [longS (clL m s0 s1 s2 e a)])) := by
              refine ptsL_mem.2 ⟨ix (nth t (rns S).length), ix_lt hsea, ?_, ?_⟩
              · have hrl : (rns (S ++ [longS (clL m s0 s1 s2 e a)])).length = (rns S).length := by rw [rns_more hx2]
                rw [← hrl]
                exact can_of htm _ (Nat.le_refl _)
              · rw [pt_ix hsea, ← he, ← hf]
            have hne : ptsL (canR E N (S ++ [longS (clL m s0 s1 s2 e a)])) ≠ [] := fun h => by rw [h] at hmem; cases hmem
            rw [if_neg hne]
            have ham := among_ok false (ptsL (canR E N (S ++ [longS (clL m s0 s1 s2 e a)]))) e f (by have := ptsTo_len (canR E N (S ++ [longS (clL m s0 s1 s2 e a)])) 3600; unfold ptsL; omega)
            rw [decide_eq_true hmem] at ham
            simp (disch := omega) [Und, eqf1, eqf2, p0, p1, p2, p3, lp1, lp2, lp3, ham, -Bool.exists_bool]
          · rw [if_neg (fun h => hsp (hokS.1 h))]
            rcases (show m = 0 ∨ m = 1 ∨ m = 2 by omega) with rfl | rfl | rfl
            · simp (disch := omega) [Und, eqf1, eqf2, p0, p1, p2, p3, lp1, lp2, lp3, hm, -Bool.exists_bool]
              have hq : ¬ isSp s0 (-10000) 10000 := hsp
              unfold isSp at hq
              omega
            · simp (disch := omega) [Und, eqf1, eqf2, p0, p1, p2, p3, lp1, lp2, lp3, hm, -Bool.exists_bool]
              have hq : ¬ isSp s1 (-10000) 10000 := hsp
              unfold isSp at hq
              omega
            · simp (disch := omega) [Und, eqf1, eqf2, p0, p1, p2, p3, lp1, lp2, lp3, hm, -Bool.exists_bool]
              have hq : ¬ isSp s2 (-10000) 10000 := hsp
              unfold isSp at hq
              omega
    · rw [decide_eq_false ht] at htr
      simp (disch := omega) [eLog, htr, Und, -Bool.exists_bool]
  · unfold trueV at htr
    rw [if_neg hok] at htr
    simp (disch := omega) [eLog, htr, Und, -Bool.exists_bool]
theorem FixThree_ok (E N : Span) (nS : Bool) (S : List Stp) (nt : Bool) (t : List Span) (s0 s1 s2 : Span) (n0 n1 : Int) (hs : Slice eStp stpOK (vl eStp nS S) nS S) (hE : i64 E.lo ∧ i64 E.hi) (hN : i64 N.lo ∧ i64 N.hi) (ht : Slice eSpan (fun s => i64 s.lo ∧ i64 s.hi) (vl eSpan nt t) nt t) (h0 : i64 s0.lo ∧ i64 s0.hi) (h1 : i64 s1.lo ∧ i64 s1.hi) (h2 : i64 s2.lo ∧ i64 s2.hi) (hn0 : i64 n0) (hn1 : i64 n1) :
    ans prog O 12 [eLog E N nS S, vl eSpan nt t, .agg [.int .i64 s0.lo, .int .i64 s0.hi, .int .i64 s1.lo, .int .i64 s1.hi, .int .i64 s2.lo, .int .i64 s2.hi], .agg [.int .i64 n0, .int .i64 n1]] = some (.bool true) :=
  FixThree_law E N nS S nt t s0 s1 s2 n0 n1 (szLog_of hs) (by have := ht.len; omega)
end Go.Oct.Fix
