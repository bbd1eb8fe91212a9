/- ClockSteady: the law. -/
import Derived.Test.YtpccnjgeddjfjaaOClockEntB
set_option maxRecDepth 100000
set_option maxHeartbeats 1000000
set_option linter.unusedVariables false
set_option linter.unusedSimpArgs false
namespace Go.Oct.Clock
open Go.Oct
theorem valB {α : Type} {lo z : Nat} {en : α → AV} {σ : AH} {v : AV} {xs : List α} (h : Buf lo z en σ v xs) : v.dfd = true ∧ v.cells = [v] ∧ v.one = true := by
  rcases h with ⟨rfl, _⟩ | ⟨i, rfl, _⟩ <;> exact ⟨rfl, rfl, rfl⟩
/-- Three lists of clocks in new memory, apart from one another. -/
structure S3 (l : List Ent) (c : Int) (i : Nat) (σ : AH) (v1 v2 v3 : AV) (x1 x2 x3 : List ER) : Prop where
  b1 : EntB σ v1 x1
  b2 : EntB σ v2 x2
  b3 : EntB σ v3 x3
  d12 : ∀ j ∈ ownE v1 x1, j ∉ ownE v2 x2
  d13 : ∀ j ∈ ownE v1 x1, j ∉ ownE v3 x3
  d23 : ∀ j ∈ ownE v2 x2, j ∉ ownE v3 x3
  m1 : x1.map entE = mapE (growW c) (l.take i)
  m2 : x2.map entE = mapE List.reverse (l.take i)
  m3 : x3.map entE = mapE negW (l.take i)
theorem S3.len {l : List Ent} {c : Int} {i : Nat} {σ : AH} {v1 v2 v3 : AV} {x1 x2 x3 : List ER} (h : S3 l c i σ v1 v2 v3 x1 x2 x3) (hi : i ≤ l.length) : x1.length = i ∧ x2.length = i ∧ x3.length = i := by
  have a1 := congrArg List.length h.m1
  have a2 := congrArg List.length h.m2
  have a3 := congrArg List.length h.m3
  simp only [List.length_map, mapE_len, List.length_take] at a1 a2 a3
  omega
theorem S3.keep {l : List Ent} {c : Int} {i : Nat} {σ σ' : AH} {v1 v2 v3 : AV} {x1 x2 x3 : List ER} (h : S3 l c i σ v1 v2 v3 x1 x2 x3) (hk : ∀ j, j < σ.next → σ'.get j = σ.get j) : S3 l c i σ' v1 v2 v3 x1 x2 x3 :=
  ⟨h.b1.keep fun j hj => hk j (h.b1.lt j hj), h.b2.keep fun j hj => hk j (h.b2.lt j hj), h.b3.keep fun j hj => hk j (h.b3.lt j hj), h.d12, h.d13, h.d23, h.m1, h.m2, h.m3⟩
theorem mapE_snoc {f : List Int → List Int} {l : List Ent} {i : Nat} (h : i < l.length) : mapE f (l.take (i + 1)) = mapE f (l.take i) ++ [⟨(nth l i).name, false, f (nth l i).weeks⟩] := by
  unfold mapE
  rw [take_succ_nth h, List.map_append]
  rfl
def smallTo (l : List Ent) (c : Int) (i q : Nat) : Prop := (∀ a, a < i → ∀ k, k < (nth l a).weeks.length → nth (nth l a).weeks k + c ≤ 100000) ∧ ∀ k, k < q → nth (nth l i).weeks k + c ≤ 100000
noncomputable def Xw (c : Int) (w : List Int) (q : Nat) : Nat → List Int := fun k => if k = 0 then (growW c w).take q else if k = 1 then w.reverse.take q else (negW w).take q
theorem EntB.closed {σ : AH} {v : AV} {xs : List ER} (h : EntB σ v xs) (hc : closed 8 v = true) : vl eEnt xs.isEmpty (xs.map entE) = v := by
  rcases h.1 with ⟨rfl, rfl⟩ | ⟨i, rfl, _⟩
  · rfl
  · simp at hc
theorem bufRow {lo : Nat} {σ : AH} {v : AV} {xs : List Int} (h : Buf lo 1 (AV.int .i64) σ v xs) (hne : xs ≠ []) : ∃ i, v = .slice (some (i, 0)) xs.length (.op 1) ∧ lo ≤ i ∧ σ.get i = some (.cells (rowI xs)) := by
  rcases h with ⟨_, h⟩ | ⟨i, h1, h2, h3, _⟩
  · exact absurd h hne
  · exact ⟨i, h1, h2, h3⟩
theorem xw_succ {c : Int} {w : List Int} {q : Nat} (h : q < w.length) (k : Nat) : Xw c w (q + 1) k = Xw c w q k ++ [if k = 0 then nth w q + c else if k = 1 then nth w (w.length - 1 - q) else -nth w q] := by
  unfold Xw
  split
  · rw [take_succ_nth (by rw [grow_len]; exact h), grow_nth h]
  · split
    · rw [take_succ_nth (by simpa using h), nth_rev h]
    · rw [take_succ_nth (by rw [neg_len]; exact h), neg_nth h]
theorem ClockSteady_ok (nl : Bool) (l : List Ent) (more : Int) {x : AV} (h : Slice eEnt entOK x nl l) (_ : i64 more) : ans prog O 11 [vl eEnt nl l, .int .i64 more] = some (.bool true) := by
  have hf := fits_of h
  have h1 := Rank_ok nl l hf
  refine fn_of' pl get11 (oo (by decide)) rfl rfl ?_
  by_cases hb : okTri l
  · have hv : rankV l = (ints (ordR l l.length), nums l l.length, 0) := by unfold rankV; rw [if_pos hb]; rfl
    rw [hv] at h1
    have hll := hb.1
    have nln := nums_len l l.length
    have hnn : ∀ i, i < l.length → nth (nums l l.length) i = numV (nth l i).weeks := fun i hi => nums_nth hi
    have hc0 := Int.emod_nonneg more (b := 1000) (by omega)
    have hc1 := Int.emod_lt_of_pos more (b := 1000) (by omega)
    generalize hcc : more % 1000 = c at hc0 hc1
    generalize hns : nums l l.length = ns at h1 nln hnn
    simp (disch := omega) [h1, hll, nln, hcc, -Bool.exists_bool]
    refine lp_loop pl (fun k fr σ => ∃ (i : Nat) (v1 v2 v3 : AV) (x1 x2 x3 : List ER) (sm : Bool), i + k = l.length ∧ fr = ⟨[(0, vl eEnt nl l), (6, vs ns.isEmpty ns), (8, v1), (9, v2), (10, v3), (11, .int .i64 c), (12, .bool sm), (13, .int .i64 i)], []⟩ ∧ σ.lim = 0 ∧ S3 l c i σ v1 v2 v3 x1 x2 x3 ∧ (sm = true → smallTo l c i 0))
      ⟨l.length, 0, .vsl true [], .vsl true [], .vsl true [], [], [], [], true, by omega, rfl, rfl, ⟨EntB.nil, EntB.nil, EntB.nil, (fun j hj => by cases hj), (fun j hj => by cases hj), (fun j hj => by cases hj), rfl, rfl, rfl⟩, fun _ => ⟨fun a ha => by omega, fun k hk => by omega⟩⟩ ?_
    rintro k _ σ ⟨i, v1, v2, v3, x1, x2, x3, sm, hi, rfl, hl0, hS, hsm⟩
    by_cases hil : i < l.length
    · have hlt1 : ¬ σ.next + 1 < σ.next := by omega
      have hlt2 : ¬ σ.next + 1 + 1 < σ.next := by omega
      have hlt3 : ¬ σ.next + 1 + 1 = σ.next := by omega
      simp (disch := omega) [Und, hl0, hil, hlt1, hlt2, hlt3, -Bool.exists_bool]
      generalize hτ : AH.set _ _ _ = τ0
      have q0 : τ0.lim = 0 := by rw [← hτ]; rfl
      have qn : τ0.next = σ.next + 3 := by rw [← hτ]; rfl
      have qg : ∀ j, j < σ.next → τ0.get j = σ.get j := fun j hj => by
        rw [← hτ]
        simp (disch := omega) []
        rw [if_neg (by omega), if_neg (by omega), if_neg (by omega), if_neg (by omega), if_neg (by omega), if_neg (by omega)]
      have g1 : τ0.get σ.next = some (.cells [.str (nth l i).name, .vsl true []]) := by rw [← hτ]; simp (disch := omega) [show ¬ σ.next = σ.next + 1 + 1 by omega, show ¬ σ.next = σ.next + 1 by omega, show ¬ σ.next + 1 = σ.next + 1 + 1 by omega, show σ.next < σ.next + 1 + 1 + 1 by omega]
      have g2 : τ0.get (σ.next + 1) = some (.cells [.str (nth l i).name, .vsl true []]) := by rw [← hτ]; simp (disch := omega) [show ¬ σ.next = σ.next + 1 + 1 by omega, show ¬ σ.next = σ.next + 1 by omega, show ¬ σ.next + 1 = σ.next + 1 + 1 by omega, show σ.next < σ.next + 1 + 1 + 1 by omega]
      have g3 : τ0.get (σ.next + 1 + 1) = some (.cells [.str (nth l i).name, .vsl true []]) := by rw [← hτ]; simp (disch := omega) [show ¬ σ.next = σ.next + 1 + 1 by omega, show ¬ σ.next = σ.next + 1 by omega, show ¬ σ.next + 1 = σ.next + 1 + 1 by omega, show σ.next < σ.next + 1 + 1 + 1 by omega]
      clear hτ
      have hwk := tri_weeks hb hil
      have hwl := hwk.1
      refine lp_loop pl (fun k2 fr τ => ∃ (q : Nat) (V : Nat → AV) (al sm : Bool), q + k2 = (nth l i).weeks.length ∧ fr = ⟨[(0, vl eEnt nl l), (6, vs ns.isEmpty ns), (8, v1), (9, v2), (10, v3), (11, .int .i64 c), (12, .bool sm), (13, .int .i64 i), (14, .ptr (some (σ.next, 0))), (15, .ptr (some (σ.next + 1, 0))), (16, .ptr (some (σ.next + 1 + 1, 0))), (17, .bool al), (18, .int .i64 q)], []⟩ ∧
          τ.lim = 0 ∧ σ.next + 3 ≤ τ.next ∧ (∀ j, j < σ.next → τ.get j = σ.get j) ∧ τ.get σ.next = some (.cells [.str (nth l i).name, V 0]) ∧ τ.get (σ.next + 1) = some (.cells [.str (nth l i).name, V 1]) ∧ τ.get (σ.next + 1 + 1) = some (.cells [.str (nth l i).name, V 2]) ∧
          BufN 3 (σ.next + 3) τ V (Xw c (nth l i).weeks q) ∧ (al = true ↔ ∀ a, a < q → nth (nth l i).weeks a = nth (nth l i).weeks 0) ∧ (sm = true → smallTo l c i q))
        ⟨(nth l i).weeks.length, 0, fun _ => .vsl true [], true, sm, by omega, rfl, q0, by omega, qg, g1, g2, g3, ⟨fun k hk => .inl ⟨rfl, by simp [Xw]⟩, fun _ _ _ _ _ j hj => by simp [obj] at hj⟩, ⟨fun _ a ha => by omega, fun _ => rfl⟩, hsm⟩ ?_
      clear q0 qn qg g1 g2 g3
      rintro k2 _ τ ⟨q, V, al, sm, hq, rfl, q0, qn, qg, g1, g2, g3, hB, hal, hsm⟩
      have m1 := AH.get_lt g1
      have m2 := AH.get_lt g2
      have m3 := AH.get_lt g3
      by_cases hqw : q < (nth l i).weeks.length
      · have bq := hwk.2 q hqw
        have hX : ∀ k, k < 3 → (Xw c (nth l i).weeks q k).length = q := fun k hk => by
          unfold Xw growW negW
          split
          · simp; omega
          · split
            · simp; omega
            · simp; omega
        have sz : ∀ k, k < 3 → ((Xw c (nth l i).weeks q k).length + 1) * 8 ≤ topBytes := fun k hk => by rw [hX k hk]; simp only [topBytes]; omega
        have hob : ∀ k, k < 3 → ∀ j ∈ obj (V k), σ.next + 3 ≤ j ∧ j < τ.next := fun k hk j hj => (hB.buf k hk).obj_lt j hj
        have hn0 := xw_succ (c := c) hqw 0
        have hn1 := xw_succ (c := c) hqw 1
        have hn2 := xw_succ (c := c) hqw 2
        simp at hn0 hn1 hn2
        have hix : ((nth l i).weeks.length : Int) - 1 - q = ((nth l i).weeks.length - 1 - q : Nat) := by omega
        simp (disch := omega) [Und, q0, qn, g1, g2, g3, m1, m2, m3, hil, hqw, -Bool.exists_bool]
        refine (hB.buf 0 (by omega)).apk encI (by omega) (by simp; omega) (by simp) (fun j hj => ⟨(hob 0 (by omega) j hj).2, by simp⟩) (nth (nth l i).weeks q + c) (sz 0 (by omega)) rfl fun u1 σ1 s1 c1 z1 hs1 => ?_
        have B1 := hB.put c1 z1 (by omega)
        have t1n := z1.next
        have t1l := z1.lim
        have ns1 : ∀ j, j < σ.next + 3 → j ∉ s1 := fun j hj hin => by
          rcases hs1 j hin with h | h
          · simp at h
          · have := (hob 0 (by omega) j h).1; omega
        have e1 := (z1.get σ.next (by omega)).trans g1
        have e2 := (z1.get (σ.next + 1) (by omega)).trans g2
        have e3 := (z1.get (σ.next + 1 + 1) (by omega)).trans g3
        have nb1 := ns1 (σ.next + 1) (by omega)
        have nb2 := ns1 (σ.next + 1 + 1) (by omega)
        simp (disch := omega) [Und, q0, qn, e1, e2, e3, m1, m2, m3, hil, hqw, nb1, nb2, hix, -Bool.exists_bool]
        refine ⟨by omega, ?_⟩
        refine (B1.buf 1 (by omega)).apk encI (by omega) (by simp; omega) (by simp; omega) (fun j hj => ⟨(hob 1 (by omega) j hj).2, by have := (hob 1 (by omega) j hj).1; simp; omega⟩) (nth (nth l i).weeks ((nth l i).weeks.length - 1 - q)) (sz 1 (by omega)) rfl fun u2 σ2 s2 c2 z2 hs2 => ?_
        have B2 := B1.put c2 z2 (by omega)
        have t2n := z2.next
        have t2l := z2.lim
        have ns2 : ∀ j, j < σ.next + 3 → j ∉ s2 := fun j hj hin => by
          rcases hs2 j hin with h | h
          · exact ns1 j hj h
          · have := (hob 1 (by omega) j h).1; omega
        have f1 := (z2.get σ.next (by omega)).trans e1
        have f2 := (z2.get (σ.next + 1) (by omega)).trans e2
        have f3 := (z2.get (σ.next + 1 + 1) (by omega)).trans e3
        have nb3 := ns2 (σ.next + 1 + 1) (by omega)
        simp (disch := omega) [Und, q0, qn, f1, f2, f3, m1, m2, m3, hil, hqw, nb3, -Bool.exists_bool]
        refine (B2.buf 2 (by omega)).pushT encI (by omega) (by omega) (-nth (nth l i).weeks q) (sz 2 (by omega)) rfl fun u3 σ3 c3 z3 => ?_
        have B3 := B2.put c3 z3 (by omega)
        have t3n := z3.next
        have t3l := z3.lim
        have p1 := (z3.get σ.next (by omega)).trans f1
        have p2 := (z3.get (σ.next + 1) (by omega)).trans f2
        have p3 := (z3.get (σ.next + 1 + 1) (by omega)).trans f3
        have k1 := AH.get_lt p1
        have k2' := AH.get_lt p2
        have k3' := AH.get_lt p3
        have l0 : σ3.lim = 0 := by omega
        obtain ⟨w1, w2, w3⟩ := valB c1
        obtain ⟨y1, y2, y3⟩ := valB c2
        obtain ⟨a1, a2, a3⟩ := valB c3
        simp (disch := omega) [Und, l0, p1, p2, p3, k1, k2', k3', w1, w2, w3, y1, y2, y3, a1, a2, a3, hil, hqw, hlt3, -Bool.exists_bool]
        generalize hτ4 : AH.set _ _ _ = τ4
        have r0 : τ4.lim = 0 := by rw [← hτ4]; exact l0
        have rn : τ4.next = σ3.next := by rw [← hτ4]; rfl
        have rg : ∀ j, j ≠ σ.next → j ≠ σ.next + 1 → j ≠ σ.next + 1 + 1 → τ4.get j = σ3.get j := fun j d1 d2 d3 => by
          rw [← hτ4, AH.get_set_other _ _ _ _ (by omega), AH.get_set_other _ _ _ _ (by omega), AH.get_set_other _ _ _ _ (by omega)]
        have r1 : τ4.get σ.next = some (.cells [.str (nth l i).name, u1]) := by
          rw [← hτ4, AH.get_set_other _ _ _ _ (by omega), AH.get_set_other _ _ _ _ (by omega)]; simp [k1]
        have r2 : τ4.get (σ.next + 1) = some (.cells [.str (nth l i).name, u2]) := by
          rw [← hτ4, AH.get_set_other _ _ _ _ (by omega)]; simp [k2']
        have r3 : τ4.get (σ.next + 1 + 1) = some (.cells [.str (nth l i).name, u3]) := by
          rw [← hτ4]; simp [k3']
        have rlow : ∀ j, j < σ.next → τ4.get j = σ.get j := fun j hj => by
          rw [rg j (by omega) (by omega) (by omega), z3.get j (by omega), z2.get j (by omega), z1.get j (by omega)]
          exact qg j hj
        have B4 := B3.stay (σ' := τ4) fun j h1 _ => rg j (by omega) (by omega) (by omega)
        clear hτ4
        have B5 : BufN 3 (σ.next + 3) τ4 (fun k => if k = 0 then u1 else if k = 1 then u2 else u3) (Xw c (nth l i).weeks (q + 1)) := B4.congr (fun k hk => by
            obtain rfl | rfl | rfl : k = 0 ∨ k = 1 ∨ k = 2 := by omega
            · simp
            · simp
            · simp) fun k hk => by
            obtain rfl | rfl | rfl : k = 0 ∨ k = 1 ∨ k = 2 := by omega
            · simpa using hn0
            · simpa using hn1
            · simpa using hn2
        have al1 : ∀ al' : Bool, al' = (al && decide (nth (nth l i).weeks q = nth (nth l i).weeks 0)) → (al' = true ↔ ∀ a, a < q + 1 → nth (nth l i).weeks a = nth (nth l i).weeks 0) := fun al' e => by
          rw [e, Bool.and_eq_true, hal, decide_eq_true_eq]
          constructor
          · rintro ⟨e1, e2⟩ a ha
            by_cases e3 : a = q
            · rw [e3]; exact e2
            · exact e1 a (by omega)
          · intro e1
            exact ⟨fun a ha => e1 a (by omega), e1 q (by omega)⟩
        have sm1 : ∀ sm' : Bool, sm' = (sm && decide (nth (nth l i).weeks q + c ≤ 100000)) → sm' = true → smallTo l c i (q + 1) := fun sm' e e0 => by
          rw [e, Bool.and_eq_true, decide_eq_true_eq] at e0
          obtain ⟨e1, e2⟩ := hsm e0.1
          refine ⟨e1, fun a ha => ?_⟩
          by_cases e3 : a = q
          · rw [e3]; exact e0.2
          · exact e2 a (by omega)
        have rl2 : ∀ j, j < σ.next → σ3.get j = σ.get j := fun j hj => by
          rw [z3.get j (by omega), z2.get j (by omega), z1.get j (by omega)]
          exact qg j hj
        by_cases d1 : nth (nth l i).weeks q + c ≤ 100000 <;> by_cases d2 : nth (nth l i).weeks q = nth (nth l i).weeks 0 <;> cases sm <;> cases al
        all_goals
          have d3 := d1
          try rw [d2] at d3
          simp (disch := omega) [Und, r0, hil, hqw, d1, d2, d3, -Bool.exists_bool]
          first
          | exact ⟨k2 - 1, by omega, q + 1, by omega, (fun k => if k = 0 then u1 else if k = 1 then u2 else u3), _, _, ⟨rfl, rfl, by omega⟩, by omega, (fun j hj => by rw [if_neg (by omega), if_neg (by omega), if_neg (by omega)]; exact rl2 j hj), by rw [if_neg (by omega)]; rfl, rfl, rfl, B5, al1 _ (by simp [d2]), sm1 _ (by simp [d1, d3])⟩
          | exact ⟨by omega, k2 - 1, by omega, q + 1, by omega, (fun k => if k = 0 then u1 else if k = 1 then u2 else u3), _, _, ⟨rfl, rfl, by omega⟩, by omega, (fun j hj => by rw [if_neg (by omega), if_neg (by omega), if_neg (by omega)]; exact rl2 j hj), by rw [if_neg (by omega)]; rfl, rfl, rfl, B5, al1 _ (by simp [d2]), sm1 _ (by simp [d1, d3])⟩
      · obtain rfl : q = (nth l i).weeks.length := by omega
        have hz := num_zero (w := (nth l i).weeks) (by omega)
        have hni := hnn i hil
        have heq : al = decide (nth ns i = 0) := by
          rw [Bool.eq_iff_iff, hal, decide_eq_true_eq, hni, hz]
        simp (disch := omega) [Und, q0, hil, -Bool.exists_bool]
        refine ⟨by omega, heq, fun _ => ?_⟩
        have hS' := hS.keep qg
        have hlen := hS.len (by omega)
        have X0 : Xw c (nth l i).weeks (nth l i).weeks.length 0 = growW c (nth l i).weeks := List.take_of_length_le (by rw [grow_len]; exact Nat.le_refl _)
        have X1 : Xw c (nth l i).weeks (nth l i).weeks.length 1 = (nth l i).weeks.reverse := List.take_of_length_le (by rw [List.length_reverse]; exact Nat.le_refl _)
        have X2 : Xw c (nth l i).weeks (nth l i).weeks.length 2 = negW (nth l i).weeks := List.take_of_length_le (by rw [neg_len]; exact Nat.le_refl _)
        have b0 := hB.buf 0 (by omega)
        have b1 := hB.buf 1 (by omega)
        have b2 := hB.buf 2 (by omega)
        rw [X0] at b0
        rw [X1] at b1
        rw [X2] at b2
        obtain ⟨a0, hV0, n0, r0⟩ := bufRow b0 (fun e => by have := grow_len c (nth l i).weeks; rw [e] at this; simp at this; omega)
        obtain ⟨a1, hV1, n1, r1⟩ := bufRow b1 (fun e => by have := congrArg List.length e; rw [List.length_reverse, List.length_nil] at this; omega)
        obtain ⟨a2, hV2, n2, r2⟩ := bufRow b2 (fun e => by have := neg_len (nth l i).weeks; rw [e] at this; simp at this; omega)
        have u0 := AH.get_lt r0
        have u1 := AH.get_lt r1
        have u2 := AH.get_lt r2
        have o1 : ∀ j ∈ ownE v1 x1, j < σ.next := hS.b1.lt
        have o2 : ∀ j ∈ ownE v2 x2, j < σ.next := hS.b2.lt
        have o3 : ∀ j ∈ ownE v3 x3, j < σ.next := hS.b3.lt
        have ob1 : ∀ j ∈ obj v1, j ∈ ownE v1 x1 := fun j hj => List.mem_append_left _ hj
        have ob2 : ∀ j ∈ obj v2, j ∈ ownE v2 x2 := fun j hj => List.mem_append_left _ hj
        have ob3 : ∀ j ∈ obj v3, j ∈ ownE v3 x3 := fun j hj => List.mem_append_left _ hj
        have d01 : a0 ≠ a1 := fun e => hB.dis 0 1 (by omega) (by omega) (by omega) a0 (by rw [hV0]; simp [obj]) (by rw [hV1, e]; simp [obj])
        have d02 : a0 ≠ a2 := fun e => hB.dis 0 2 (by omega) (by omega) (by omega) a0 (by rw [hV0]; simp [obj]) (by rw [hV2, e]; simp [obj])
        have d12 : a1 ≠ a2 := fun e => hB.dis 1 2 (by omega) (by omega) (by omega) a1 (by rw [hV1]; simp [obj]) (by rw [hV2, e]; simp [obj])
        simp (disch := omega) [Und, q0, g1, g2, g3, m1, m2, m3, -Bool.exists_bool]
        rw [hV0]
        refine hS'.b1.apk q0 r0 (fun hj => by have := o1 _ hj; omega) (by simp) (fun j hj => ⟨by have := o1 j (ob1 j hj); show j < τ.next; omega, by simp⟩) (by rw [hlen.1]; simp only [topBytes]; omega) fun w1 σ1 s1 E1 z1 hs1 => ?_
        have t1n := z1.next
        have t1l := z1.lim
        have k1 : ∀ j, j < τ.next → j ∉ obj v1 → σ1.get j = τ.get j := fun j h1 h2 => z1.only.get j h1 h2
        have nb1 : σ.next + 1 ∉ s1 := fun hin => by
          rcases hs1 _ hin with h | h
          · simp at h
          · have := o1 _ (ob1 _ h); omega
        have e2 := (k1 (σ.next + 1) (by omega) fun h => by have := o1 _ (ob1 _ h); omega).trans g2
        have e3 := (k1 (σ.next + 1 + 1) (by omega) fun h => by have := o1 _ (ob1 _ h); omega).trans g3
        simp (disch := omega) [Und, q0, e2, e3, m2, m3, nb1, -Bool.exists_bool]
        rw [hV1]
        have F2 : EntB σ1 v2 x2 := hS'.b2.keep fun j hj => k1 j (by have := o2 j hj; omega) fun h => hS.d12 j (ob1 j h) hj
        have G1 : σ1.get a1 = _ := (k1 a1 u1 fun h => by have := o1 _ (ob1 _ h); omega).trans r1
        refine F2.apk (by omega) G1 (fun hj => by have := o2 _ hj; omega) (by simpa using t1n) (fun j hj => ⟨by have := o2 j (ob2 j hj); show j < τ.next; omega, by have := o2 j (ob2 j hj); simp; omega⟩) (by rw [hlen.2.1]; simp only [topBytes]; omega) fun w2 σ2 s2 E2 z2 hs2 => ?_
        have t2n := z2.next
        have t2l := z2.lim
        have k2' : ∀ j, j < σ1.next → j ∉ obj v2 → σ2.get j = σ1.get j := fun j h1 h2 => z2.only.get j h1 h2
        have nb2 : σ.next + 1 + 1 ∉ s2 := fun hin => by
          rcases hs2 _ hin with h | h
          · rcases hs1 _ h with h | h
            · simp at h
            · have := o1 _ (ob1 _ h); omega
          · have := o2 _ (ob2 _ h); omega
        have f3 := (k2' (σ.next + 1 + 1) (by omega) fun h => by have := o2 _ (ob2 _ h); omega).trans e3
        simp (disch := omega) [Und, q0, f3, m3, nb2, -Bool.exists_bool]
        rw [hV2]
        have F3 : EntB σ2 v3 x3 := (hS'.b3.keep (σ' := σ1) fun j hj => k1 j (by have := o3 j hj; omega) fun h => hS.d13 j (ob1 j h) hj).keep fun j hj => k2' j (by have := o3 j hj; omega) fun h => hS.d23 j (ob2 j h) hj
        have G2 : σ2.get a2 = _ := (k2' a2 (by omega) fun h => by have := o2 _ (ob2 _ h); omega).trans ((k1 a2 u2 fun h => by have := o1 _ (ob1 _ h); omega).trans r2)
        refine F3.pushT (by omega) G2 (fun hj => by have := o3 _ hj; omega) (by rw [hlen.2.2]; simp only [topBytes]; omega) fun w3 σ3 E3 z3 => ?_
        have t3n := z3.next
        have t3l := z3.lim
        have k3' : ∀ j, j < σ2.next → j ∉ obj v3 → σ3.get j = σ2.get j := fun j h1 h2 => z3.only.get j h1 h2
        have W1 := own_grow (x := (a0, (nth l i).name, growW c (nth l i).weeks)) (xs := x1) z1
        have W2 := own_grow (x := (a1, (nth l i).name, (nth l i).weeks.reverse)) (xs := x2) z2
        have W3 := own_grow (x := (a2, (nth l i).name, negW (nth l i).weeks)) (xs := x3) z3
        have L1 := E1.lt
        have L2 := E2.lt
        have D1 : EntB σ3 w1 (x1 ++ [(a0, (nth l i).name, growW c (nth l i).weeks)]) := (E1.keep (σ' := σ2) fun j hj => k2' j (L1 j hj) fun h => by
            have := o2 _ (ob2 _ h)
            rcases W1 j hj with h1 | h1 | h1
            · exact hS.d12 j h1 (ob2 j h)
            · have h1 : j = a0 := h1
              omega
            · omega).keep fun j hj => k3' j (by have := L1 j hj; omega) fun h => by
            have := o3 _ (ob3 _ h)
            rcases W1 j hj with h1 | h1 | h1
            · exact hS.d13 j h1 (ob3 j h)
            · have h1 : j = a0 := h1
              omega
            · omega
        have D2 : EntB σ3 w2 (x2 ++ [(a1, (nth l i).name, (nth l i).weeks.reverse)]) := E2.keep fun j hj => k3' j (L2 j hj) fun h => by
            have := o3 _ (ob3 _ h)
            rcases W2 j hj with h1 | h1 | h1
            · exact hS.d23 j h1 (ob3 j h)
            · have h1 : j = a1 := h1
              omega
            · omega
        have hS3 : S3 l c (i + 1) σ3 w1 w2 w3 (x1 ++ [(a0, (nth l i).name, growW c (nth l i).weeks)]) (x2 ++ [(a1, (nth l i).name, (nth l i).weeks.reverse)]) (x3 ++ [(a2, (nth l i).name, negW (nth l i).weeks)]) := by
          refine ⟨D1, D2, E3, fun j h1 h2 => ?_, fun j h1 h2 => ?_, fun j h1 h2 => ?_, ?_, ?_, ?_⟩
          · have := L1 j h1
            rcases W1 j h1 with p1 | p1 | p1 <;> rcases W2 j h2 with p2 | p2 | p2
            · exact hS.d12 j p1 p2
            · have p2 : j = a1 := p2
              have := o1 j p1; omega
            · omega
            · have p1 : j = a0 := p1
              have := o2 j p2; omega
            · have p1 : j = a0 := p1
              have p2 : j = a1 := p2
              exact d01 (p1.symm.trans p2)
            · omega
            · have := o2 j p2; omega
            · have p2 : j = a1 := p2
              omega
            · omega
          · have := L1 j h1
            rcases W1 j h1 with p1 | p1 | p1 <;> rcases W3 j h2 with p2 | p2 | p2
            · exact hS.d13 j p1 p2
            · have p2 : j = a2 := p2
              have := o1 j p1; omega
            · omega
            · have p1 : j = a0 := p1
              have := o3 j p2; omega
            · have p1 : j = a0 := p1
              have p2 : j = a2 := p2
              exact d02 (p1.symm.trans p2)
            · omega
            · have := o3 j p2; omega
            · have p2 : j = a2 := p2
              omega
            · omega
          · have := L2 j h1
            rcases W2 j h1 with p1 | p1 | p1 <;> rcases W3 j h2 with p2 | p2 | p2
            · exact hS.d23 j p1 p2
            · have p2 : j = a2 := p2
              have := o2 j p1; omega
            · omega
            · have p1 : j = a1 := p1
              have := o3 j p2; omega
            · have p1 : j = a1 := p1
              have p2 : j = a2 := p2
              exact d12 (p1.symm.trans p2)
            · omega
            · have := o3 j p2; omega
            · have p2 : j = a2 := p2
              omega
            · omega
          · rw [List.map_append, hS.m1, mapE_snoc hil]; rfl
          · rw [List.map_append, hS.m2, mapE_snoc hil]; rfl
          · rw [List.map_append, hS.m3, mapE_snoc hil]; rfl
        have hsm2 : sm = true → smallTo l c (i + 1) 0 := fun e => by
          obtain ⟨e1, e2⟩ := hsm e
          refine ⟨fun a ha => ?_, fun a ha => by omega⟩
          by_cases e3 : a = i
          · rw [e3]; exact e2
          · exact e1 a (by omega)
        simp (disch := omega) [Und, -Bool.exists_bool]
        exact ⟨k - 1, by omega, i + 1, by omega, w1, w2, w3, _, _, _, sm, ⟨rfl, rfl, rfl, rfl, by omega⟩, by omega, hS3, hsm2⟩
    · obtain rfl : i = l.length := by omega
      have E1 := hS.m1
      have E2 := hS.m2
      have E3 := hS.m3
      rw [List.take_length] at E1 E2 E3
      obtain ⟨len1, len2, len3⟩ := hS.len (Nat.le_refl _)
      have hfit : ∀ f : List Int → List Int, (∀ w : List Int, (f w).length = w.length) → fits (mapE f l) := fun f hf2 => ⟨by rw [mapE_len]; exact hf.1, fun a ha => by
        rw [mapE_len] at ha
        rw [mapE_nth ha]
        show (f (nth l a).weeks).length < 2 ^ 62
        rw [hf2]
        exact hf.2 a ha⟩
      have R1 := Rank_ok x1.isEmpty (mapE (growW c) l) (hfit _ (grow_len c))
      have R2 := Rank_ok x2.isEmpty (mapE List.reverse l) (hfit _ fun w => List.length_reverse)
      have R3 := Rank_ok x3.isEmpty (mapE negW l) (hfit _ neg_len)
      have hwl : ∀ a, a < l.length → 1 ≤ (nth l a).weeks.length := fun a ha => by have := (tri_weeks hb ha).1; omega
      have T2 : okTri (mapE List.reverse l) := mapE_tri hb (fun a _ => List.length_reverse) fun a ha q hq => by
        have hw := (tri_weeks hb ha).2 ((nth l a).weeks.length - 1 - q) (by omega)
        rw [nth_rev hq]
        exact hw
      have T3 : okTri (mapE negW l) := mapE_tri hb (fun a _ => neg_len _) fun a ha q hq => by
        have hw := (tri_weeks hb ha).2 q hq
        rw [neg_nth hq]
        unfold inW
        omega
      have T1 : sm = true → okTri (mapE (growW c) l) := fun e => mapE_tri hb (fun a _ => grow_len c _) fun a ha q hq => by
        have hw := (tri_weeks hb ha).2 q hq
        have hs := (hsm e).1 a ha q hq
        rw [grow_nth hq]
        unfold inW
        omega
      have V : ∀ f : List Int → List Int, okTri (mapE f l) → (∀ a, a < l.length → numV (f (nth l a).weeks) = numV (nth l a).weeks) → (rankV (mapE f l)).2.1 = ns ∧ (rankV (mapE f l)).2.2 = 0 := fun f hT hN => by
        unfold rankV
        rw [if_pos hT, mapE_len, mapE_nums hN, hns]
        exact ⟨rfl, rfl⟩
      obtain ⟨N2, Z2⟩ := V _ T2 fun a ha => num_rev (hwl a ha)
      obtain ⟨N3, Z3⟩ := V _ T3 fun a ha => num_neg (hwl a ha)
      have V1 : sm = true → (rankV (mapE (growW c) l)).2.1 = ns ∧ (rankV (mapE (growW c) l)).2.2 = 0 := fun e => V _ (T1 e) fun a ha => num_grow c (hwl a ha)
      have hlen1 := (rankV_len _ (hfit _ (grow_len c))).2
      rw [N2, Z2] at R2
      rw [N3, Z3] at R3
      rw [← E2] at R2
      rw [← E3] at R3
      generalize (rankV (mapE (growW c) l)).2.2 = er at *
      generalize (rankV (mapE (growW c) l)).2.1 = nr at *
      rw [← E1] at R1
      simp (disch := omega) [Und, hl0, -Bool.exists_bool]
      refine pc_kill (.cons hS.b1.snap .nil) (fun h => by rw [hS.b1.closed h]) (by simp) (oo (args := []) (by decide)).1 (fun i _ => by omega) R1 fun σ1 o1 => ?_
      have l1 : σ1.lim = 0 := o1.lim.trans hl0
      have B2 : EntB σ1 v2 x2 := hS.b2.keep fun j hj => o1.get j (hS.b2.lt j hj) fun h => hS.d12 j (by simpa using h) hj
      have B3 : EntB σ1 v3 x3 := hS.b3.keep fun j hj => o1.get j (hS.b3.lt j hj) fun h => hS.d13 j (by simpa using h) hj
      simp (disch := omega) [Und, l1, -Bool.exists_bool]
      refine pc_kill (.cons B2.snap .nil) (fun h => by rw [B2.closed h]) (by simp) (oo (args := []) (by decide)).1 (fun i _ => by omega) R2 fun σ2 o2 => ?_
      have l2 : σ2.lim = 0 := o2.lim.trans l1
      have C3 : EntB σ2 v3 x3 := B3.keep fun j hj => o2.get j (B3.lt j hj) fun h => hS.d23 j (by simpa using h) hj
      simp (disch := omega) [Und, l2, -Bool.exists_bool]
      refine pc_kill (.cons C3.snap .nil) (fun h => by rw [C3.closed h]) (by simp) (oo (args := []) (by decide)).1 (fun i _ => by omega) R3 fun σ3 o3 => ?_
      have l3 : σ3.lim = 0 := o3.lim.trans l2
      cases sm with
      | true =>
        obtain ⟨e1, e2⟩ := V1 rfl
        subst e1 e2
        simp (disch := omega) [Und, l3, -Bool.exists_bool]
      | false =>
        simp (disch := omega) [Und, l3, -Bool.exists_bool]
  · have hv : rankV l = ([], [], 72) := by unfold rankV; rw [if_neg hb]
    rw [hv] at h1
    simp (disch := omega) [h1]
end Go.Oct.Clock
