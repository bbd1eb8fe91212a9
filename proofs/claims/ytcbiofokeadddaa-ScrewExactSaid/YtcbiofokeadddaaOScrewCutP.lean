/- Cut, in the program: the walk. -/
import Derived.Test.YtcbiofokeadddaaOScrewCut
set_option maxRecDepth 100000
set_option maxHeartbeats 4000000
set_option linter.unusedVariables false
set_option linter.unusedSimpArgs false
namespace Go.Oct.Screw
open Go.Oct
/-- What is known in a round. -/
structure CInv (nl : Bool) (ws : List Int) (ln ld : Int) (a b : Nat) (env : Env) (σ : AH) : Prop where
  lim : σ.lim = 0
  next : 7 ≤ σ.next
  want : σ.get 1 = some (.cells [.int .i64 a, .int .i64 b])
  lathe : σ.get 2 = some (.cells [vs nl ws, .int .i64 ln, .int .i64 ld])
  mp : σ.get 3 = some (.map [] 0)
  cell : σ.get 4 = some (.cells [.map (some 3)])
  mark : σ.get 5 = some .dfr
  loop : σ.get 6 = some (.loop 19 0 env .ready none 5)
theorem CInv.stay {nl : Bool} {ws : List Int} {ln ld : Int} {a b : Nat} {env : Env} {σ σ' : AH} (h : CInv nl ws ln ld a b env σ) (ho : Only [] σ σ') : CInv nl ws ln ld a b env σ' := by
  obtain ⟨h1, h2, h3, h4, h5, h6, h7, h8⟩ := h
  have hg : ∀ k, k < σ.next → σ'.get k = σ.get k := fun k hk => ho.get k hk (by simp)
  exact ⟨by rw [ho.lim, h1], Nat.le_trans h2 ho.next, by rw [hg _ (by omega)]; exact h3, by rw [hg _ (by omega)]; exact h4, by rw [hg _ (by omega)]; exact h5, by rw [hg _ (by omega)]; exact h6, by rw [hg _ (by omega)]; exact h7, by rw [hg _ (by omega)]; exact h8⟩
/-- What is known when one was found. -/
structure CDone (a b : Nat) (g : List Int) (σ : AH) : Prop where
  lim : σ.lim = 0
  next : 7 ≤ σ.next
  want : σ.get 1 = some (.cells [.int .i64 a, .int .i64 b])
  mp : ∃ v, σ.get 3 = some (.map [(.agg [.int .i64 a, .int .i64 b], v, 0)] 1) ∧ Whole 7 1 (AV.int .i64) σ v g
  cell : σ.get 4 = some (.cells [.map (some 3)])
  mark : σ.get 5 = some .dfr
  loop : ∃ env, σ.get 6 = some (.loop 19 0 env .done (some (.exit 0)) 5)
theorem mapUpd_new {σ : AH} {i c : Nat} (h : σ.get i = some (.map [] c)) (hl : σ.lim ≤ i) (p q : Int) (v : AV) : amapUpd true [.int, .int] (.map (some i)) (.agg [.int .i64 p, .int .i64 q]) v σ = some (.undef, σ.set i (.map [(.agg [.int .i64 p, .int .i64 q], v, c)] (c + 1))) := by
  simp [amapUpd, h, hl, keyEq, findE]
theorem Cut_step {nl : Bool} {ws : List Int} {ln ld : Int} {a b : Nat} {fn : AV} (hl : okLathe ws ln ld) {env : Env} (henv : env = [(6, .vsl true []), (7, .int .i64 0), (9, .ptr (some (1, 0))), (10, .ptr (some (2, 0))), (11, .ptr (some (4, 0))), (33, fn)])
    (g : List Int) (v : AV) (σ : AH) (hi : CInv nl ws ln ld a b env σ) (hg : okGears ws.length g) (hv : Whole 7 1 (AV.int .i64) σ v g) {x y : Nat} (hx : gE ws ln g = x) (hy : gO ws ld g = y) :
    Call prog O (.yield 6) [v] σ fun r σ' => Touch 7 σ σ' ∧ (r = .bool true ∧ CInv nl ws ln ld a b env σ' ∧ ¬ (x / Nat.gcd x y = a ∧ y / Nat.gcd x y = b) ∨ r = .bool false ∧ CDone a b g σ' ∧ (x / Nat.gcd x y = a ∧ y / Nat.gcd x y = b)) := by
  obtain ⟨h1, h2, h3, h4, h5, h6, h7, h8⟩ := hi
  have hc : ans prog O 56 [eL nl ws ln ld, vs false g] = some (.agg [.int .i64 (gE ws ln g), .int .i64 (gO ws ld g)]) := cuts_ok nl false ws g ln ld hl hg
  obtain ⟨⟨g1, g1'⟩, g2, g3⟩ := g_bd hl hg
  rw [hx, hy] at hc
  have hlow := lowest_ok x y (by omega) (by omega) (by omega)
  generalize x / Nat.gcd x y = p at *
  generalize y / Nat.gcd x y = q at *
  have hob : Only [6] σ (σ.set 6 (.loop 19 0 env .busy none 5)) := Only.set (List.mem_singleton.2 rfl) _
  have hvb := hv.stay hob (fun i hi hj => by have := (hv.obj_lt i hi).1; simp at hj; omega)
  refine yield_of' pl h8 get19 rfl rfl (by omega) rfl ?_
  subst henv
  simp +contextual (disch := omega) [ak_of h8, h1, h3, h4]
  refine pc_scal (.cons ⟨rfl, fun _ _ => rfl⟩ (.cons (hvb.view.snap encI flatI) .nil)) (fun h => by rw [hv.view.closed] at h; simp at h) (by simp) (oo (args := []) (by decide)).1 hc rfl ?_
  have m1 : ¬ 1 = σ.next := by omega
  have m2 : ¬ 2 = σ.next := by omega
  have m3 : ¬ 3 = σ.next := by omega
  have m4 : ¬ 4 = σ.next := by omega
  have m5 : ¬ 5 = σ.next := by omega
  have m6 : ¬ 6 = σ.next := by omega
  have n6 : ¬ σ.next = 6 := by omega
  have n3 : ¬ σ.next = 3 := by omega
  have n4 : ¬ σ.next = 4 := by omega
  have hlp : 0 < σ.next + 1 := by omega
  by_cases hpq : p = a ∧ q = b
  · obtain ⟨rfl, rfl⟩ := hpq
    simp +contextual (disch := omega) [h1, h3, h4, h5, h6, hlow, ahop_mapUpd, m1, m2, m3, m4, m5, m6, n6, n3, n4]
    rw [mapUpd_new (c := 0) (by simp [m3, h5]) (by show σ.lim ≤ 3; omega)]
    simp +contextual (disch := omega) []
    refine bd_exit (by simp [m6]; exact ⟨by omega, rfl, rfl, rfl, rfl, rfl, rfl⟩) ⟨⟨rfl, Nat.le_succ _, fun k h7 h8 => ?_⟩, ?_⟩
    · have k3 : ¬ k = 3 := by omega
      have k6 : ¬ k = 6 := by omega
      simp [k3, k6]
      rw [if_neg (by omega), if_neg (by omega)]
    · refine ⟨rfl, ⟨h1, by show 7 ≤ σ.next + 1; omega, by simp [m1, h3], ⟨v, by rw [get_setH, if_neg (by omega)]; exact AH.get_set_same _ _ _ (show 3 < σ.next + 1 by omega), ?_⟩, by simp [m4, h6], by simp [m5, h7], ⟨_, AH.get_set_same _ _ _ (show 6 < σ.next + 1 by omega)⟩⟩⟩
      obtain ⟨i, c, rfl, w2, w3, w4⟩ := hv
      have hin := AH.get_lt w3
      have k3 : ¬ i = 3 := by omega
      have k6 : ¬ i = 6 := by omega
      refine ⟨i, c, rfl, w2, ?_, w4⟩
      simp [k3, k6]
      rw [if_neg (by omega), if_neg (by omega)]
      exact w3
  · have hdec : (decide ((p : Int) = a) && decide ((q : Int) = b)) = false := by simp; omega
    simp +contextual (disch := omega) [h1, h3, h4, h5, h6, hlow, hdec, m1, m2, m3, m4, m5, m6, n6, n3, n4]
    refine bd_normal (by rw [AH.get_set_other _ _ _ _ m6, AH.get_push_old (σ.set 6 _) _ 6 (fun e => m6 e)]; exact AH.get_set_same _ _ _ (by omega)) ⟨⟨rfl, Nat.le_succ _, fun k h7 h8 => ?_⟩, .inl ⟨rfl, ⟨h1, by show 7 ≤ σ.next + 1; omega, by simp [m1, h3], by simp [m2, h4], by simp [m3, h5], by simp [m4, h6], by simp [m5, h7], AH.get_set_same _ _ _ (show 6 < σ.next + 1 by omega)⟩, fun h => fun h' => hpq ⟨h, h'⟩⟩⟩
    have k6 : ¬ k = 6 := by omega
    simp [k6]
    rw [if_neg (by omega), if_neg (by omega)]
theorem Cut_ok (nl : Bool) (ws : List Int) (ln ld num den : Int) (hx : ws.length < 2 ^ 62) {b : List Int} (hb : okLathe ws ln ld → near ws ln ld num den (gl ws.length) = some (b, far ws ln ld num den b, gO ws ld b)) : ans prog O 19 [eL nl ws ln ld, .int .i64 num, .int .i64 den] = some (cutRes ws ln ld num den b) := by
  by_cases hl : okLathe ws ln ld
  · by_cases h2 : (1 ≤ num ∧ num ≤ 1000) ∧ 1 ≤ den ∧ den ≤ 1000
    · obtain ⟨nn, rfl⟩ := Int.eq_ofNat_of_zero_le (show 0 ≤ num by omega)
      obtain ⟨dd, rfl⟩ := Int.eq_ofNat_of_zero_le (show 0 ≤ den by omega)
      have hlow := lowest_ok nn dd (by omega) (by omega) (by omega)
      have hw10 : ws.length ≤ 10 := by have := hl.1.1; omega
      have hstep : ∀ L g v σ, (CInv nl ws ln ld (nn / Nat.gcd nn dd) (dd / Nat.gcd nn dd) [(6, .vsl true []), (7, .int .i64 0), (9, .ptr (some (1, 0))), (10, .ptr (some (2, 0))), (11, .ptr (some (4, 0))), (33, .func (.func 64) [eL nl ws ln ld] [])] σ ∧ ∀ x ∈ L, okGears ws.length x ∧ far ws ln ld nn dd x ≠ 0) → 7 ≤ σ.next → σ.lim ≤ 7 → okGears ws.length g → Pre (gl ws.length) (L ++ [g]) → Whole 7 1 (AV.int .i64) σ v g →
          Call prog O (.yield 6) [v] σ fun r σ' => Touch 7 σ σ' ∧ (r = .bool true ∧ (CInv nl ws ln ld (nn / Nat.gcd nn dd) (dd / Nat.gcd nn dd) [(6, .vsl true []), (7, .int .i64 0), (9, .ptr (some (1, 0))), (10, .ptr (some (2, 0))), (11, .ptr (some (4, 0))), (33, .func (.func 64) [eL nl ws ln ld] [])] σ' ∧ ∀ x ∈ L ++ [g], okGears ws.length x ∧ far ws ln ld nn dd x ≠ 0) ∨
            r = .bool false ∧ CDone (nn / Nat.gcd nn dd) (dd / Nat.gcd nn dd) b σ' ∧ far ws ln ld nn dd b = 0) := by
        intro L g v σ i1 i2 i3 i4 i5 i6
        obtain ⟨x, y, ex, ey, _⟩ := pEO_nat hl i4
        have hfz := far_zero nn dd hl i4 (by omega) (by omega) (x := x) (y := y) ex ey
        refine (Cut_step hl rfl g v σ i1.1 i4 i6 ex ey).mono ?_
        rintro r σ' ⟨t1, ⟨rfl, t2, t3⟩ | ⟨rfl, t2, t3⟩⟩
        · exact ⟨t1, .inl ⟨rfl, t2, fun x hx => by rcases List.mem_append.1 hx with h | h; exact i1.2 x h; obtain rfl := List.mem_singleton.1 h; exact ⟨i4, fun h => t3 (hfz.1 h)⟩⟩⟩
        · have h0 := hfz.2 t3
          obtain ⟨R, hR⟩ := i5
          have hR2 : ∀ x ∈ R, okGears ws.length x := fun x hx => gl_ok x (by rw [hR]; exact List.mem_append_right _ hx)
          have e1 := near_exact hl h2.1 h2.2 (fun x hx => (i1.2 x hx).1) i4 (fun x hx => (i1.2 x hx).2) h0
          have e2 := near_stays hl h2.1 h2.2 i4 R (L ++ [g]) hR2 e1
          rw [← hR, hb hl] at e2
          obtain rfl : b = g := congrArg Prod.fst (Option.some.inj e2)
          exact ⟨t1, .inr ⟨rfl, t2, h0⟩⟩
      generalize hA : nn / Nat.gcd nn dd = A at *
      generalize hB : dd / Nat.gcd nn dd = B at *
      refine fn_of' pl get19 (oo (by decide)) rfl rfl ?_
      simp +contextual (disch := omega) [hl, h2, hlow]
      refine rg_of (h := 64) (xs := [eL nl ws ln ld]) (ys := []) rfl ?_
      refine (gears_ok (lo := 7) (l := 6) (nl := nl) (ws := ws) (num := ln) (den := ld) _ (fun σ => CDone A B b σ ∧ far ws ln ld nn dd b = 0) (fun L σ σ' i1 i2 => ⟨i1.1.stay i2, i1.2⟩) hstep hw10 rfl _ rfl (Nat.zero_le _) ⟨⟨rfl, Nat.le_refl _, by simp, by simp, by simp, by simp, by simp, by simp⟩, fun x hx => by cases hx⟩).mono ?_
      rintro _ σ2 (⟨⟨l1, l2, l3, l4, l5, l6, l7, l8⟩, hno⟩ | ⟨⟨l1, l2, l3, ⟨v, l4, l5⟩, l6, l7, ⟨env, l8⟩⟩, h0⟩)
      · have hG : ext ws.length [] 2 ++ ext ws.length [] 4 = gl ws.length := rfl
        rw [hG] at hno
        have hbm : b ∈ gl ws.length := by
          have := near_ok ws ln ld nn dd (gl ws.length)
          rw [hb hl] at this
          exact this.1
        have h3 := (hno b hbm).2
        have hres : cutRes ws ln ld nn dd b = .tuple [.vsl true [], .int .i64 4] := by unfold cutRes; rw [if_pos hl, if_pos h2, if_neg h3]
        rw [hres]
        refine ⟨_, _, _, _, _, _, l8, by simp, by omega, ?_⟩
        simp +contextual (disch := omega) [l3, l6, l5, ahop_lookup, alookup, keyEq, findE]
        rw [retK_mark (by simp [l7]) (by show σ2.lim ≤ 5; omega)]
        simp +contextual (disch := omega) []
      · have hres : cutRes ws ln ld nn dd b = .tuple [vs false b, .int .i64 0] := by unfold cutRes; rw [if_pos hl, if_pos h2, if_pos h0]
        rw [hres]
        refine ⟨_, _, _, _, _, _, l8, by simp, by omega, ?_⟩
        have hlen := l5.len
        obtain ⟨i, hi7, hsl, hget⟩ := trim_ok l5
        simp +contextual (disch := omega) [l3, l6, l4, ahop_lookup, alookup, keyEq, findE, hlen, hsl]
        have hi5 : ¬ i = 5 := by omega
        have hi6 : ¬ i = 6 := by omega
        rw [retK_mark (by simp [l7]) (by show σ2.lim ≤ 5; omega)]
        simp +contextual (disch := omega) []
        have hcel : ((σ2.set 6 (.loop 19 0 env .exhausted (some (.exit 0)) 5)).set 5 .dead).cel i = some (rowI b) := by
          simp [hi5, hi6, hget]
        exact fz_row hcel 5
    · have hres : cutRes ws ln ld num den b = .tuple [.vsl true [], .int .i64 21] := by unfold cutRes; rw [if_pos hl, if_neg h2]
      rw [hres]
      refine fn_of' pl get19 (oo (by decide)) rfl rfl ?_
      simp +contextual (disch := omega) [hl, h2]
  · have hres : cutRes ws ln ld num den b = .tuple [.vsl true [], .int .i64 20] := by unfold cutRes; rw [if_neg hl]
    rw [hres]
    refine fn_of' pl get19 (oo (by decide)) rfl rfl ?_
    simp +contextual (disch := omega) [hl]
end Go.Oct.Screw
