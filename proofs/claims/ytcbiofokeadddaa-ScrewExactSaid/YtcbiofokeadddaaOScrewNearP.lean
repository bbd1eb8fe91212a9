/- The nearest gears, in the program. -/
import Derived.Test.YtcbiofokeadddaaOScrewNear
set_option maxRecDepth 100000
set_option maxHeartbeats 4000000
set_option linter.unusedVariables false
set_option linter.unusedSimpArgs false
namespace Go.Oct.Screw
open Go.Oct
theorem whole_under {α : Type} {e : α → AV} {z lo k : Nat} {σ : AH} {v : AV} {xs : List α} (h : Whole lo z e σ v xs) : Whole lo z e (σ.under k) v xs := by
  obtain ⟨i, c, rfl, h2, h3, h4⟩ := h
  exact ⟨i, c, rfl, h2, h3, h4⟩
/-- What is known in a round. -/
structure NInv (nl : Bool) (ws : List Int) (ln ld num den : Int) (env : Env) (L : List (List Int)) (σ : AH) : Prop where
  lim : σ.lim = 0
  next : 7 ≤ σ.next
  want : σ.get 1 = some (.cells [.int .i64 num, .int .i64 den])
  lathe : σ.get 2 = some (.cells [vs nl ws, .int .i64 ln, .int .i64 ld])
  mark : σ.get 5 = some .dfr
  loop : σ.get 6 = some (.loop 22 0 env .ready none 5)
  best : (L = [] ∧ σ.get 3 = some (.cells [.vsl true []]) ∧ σ.get 4 = some (.cells [.int .i64 0, .int .i64 0])) ∨ ∃ b o u v, near ws ln ld num den L = some (b, o, u) ∧ σ.get 3 = some (.cells [v]) ∧ σ.get 4 = some (.cells [.int .i64 o, .int .i64 u]) ∧ Whole 7 1 (AV.int .i64) σ v b
theorem NInv.stay {nl : Bool} {ws : List Int} {ln ld num den : Int} {env : Env} {L : List (List Int)} {σ σ' : AH} (h : NInv nl ws ln ld num den env L σ) (ho : Only [] σ σ') : NInv nl ws ln ld num den env L σ' := by
  obtain ⟨h1, h2, h3, h4, h5, h6, h7⟩ := h
  have hg : ∀ k, k < σ.next → σ'.get k = σ.get k := fun k hk => ho.get k hk (by simp)
  refine ⟨by rw [ho.lim, h1], Nat.le_trans h2 ho.next, by rw [hg _ (by omega)]; exact h3, by rw [hg _ (by omega)]; exact h4, by rw [hg _ (by omega)]; exact h5, by rw [hg _ (by omega)]; exact h6, ?_⟩
  rw [hg 3 (by omega), hg 4 (by omega)]
  rcases h7 with h | ⟨b, o, u, v, a1, a2, a3, a4⟩
  · exact .inl h
  · exact .inr ⟨b, o, u, v, a1, a2, a3, a4.stay ho (by simp)⟩
theorem NInv.fin {nl : Bool} {ws : List Int} {ln ld num den : Int} {env : Env} {L : List (List Int)} {g b : List Int} {o u : Int} {v : AV} {σ σ' : AH} {fr : Fr} {st : LoopState} {pd : Option AEx} (l0 : σ.lim = 0) (l1 : σ'.lim = 0) (n0 : 7 ≤ σ.next) (n1 : σ.next ≤ σ'.next)
    (g1 : σ'.get 1 = some (.cells [.int .i64 num, .int .i64 den])) (g2 : σ'.get 2 = some (.cells [vs nl ws, .int .i64 ln, .int .i64 ld])) (g5 : σ'.get 5 = some .dfr) (g6 : σ'.get 6 = some (.loop 22 0 env st pd 5)) (hk : ∀ k, 7 ≤ k → k < σ.next → σ'.get k = σ.get k)
    (hn : near ws ln ld num den (L ++ [g]) = some (b, o, u)) (g3 : σ'.get 3 = some (.cells [v])) (g4 : σ'.get 4 = some (.cells [.int .i64 o, .int .i64 u])) (hw : Whole 7 1 (AV.int .i64) σ v b) :
    Bd 6 (fun r σ' => Touch 7 σ σ' ∧ r = .bool true ∧ NInv nl ws ln ld num den env (L ++ [g]) σ') .normal fr σ' := by
  have hget : ∀ k, k ≠ 6 → (σ'.set 6 (.loop 22 0 env .ready none 5)).get k = σ'.get k := fun k hk => by rw [get_setH, if_neg hk]
  refine bd_normal g6 ⟨⟨by show σ'.lim = σ.lim; omega, n1, fun k h1 h2 => by rw [hget k (by omega)]; exact hk k h1 h2⟩, rfl, ⟨l1, by show 7 ≤ σ'.next; omega, by rw [hget 1 (by omega)]; exact g1, by rw [hget 2 (by omega)]; exact g2, by rw [hget 5 (by omega)]; exact g5, by rw [get_setH, if_pos rfl, if_pos (by omega)], .inr ⟨b, o, u, v, hn, by rw [hget 3 (by omega)]; exact g3, by rw [hget 4 (by omega)]; exact g4, ?_⟩⟩⟩
  obtain ⟨i, c, rfl, h2, h3, h4⟩ := hw
  exact ⟨i, c, rfl, h2, by rw [hget i (by omega), hk i h2 (AH.get_lt h3)]; exact h3, h4⟩
theorem Nearest_step {nl : Bool} {ws : List Int} {ln ld num den : Int} {fn : AV} (hl : okLathe ws ln ld) (hn : 1 ≤ num ∧ num ≤ 1000) (hd : 1 ≤ den ∧ den ≤ 1000) {env : Env} (henv : env = [(6, .vsl true []), (7, .int .i64 0), (9, .ptr (some (1, 0))), (10, .ptr (some (2, 0))), (11, .ptr (some (3, 0))), (12, .ptr (some (4, 0))), (29, fn)])
    (L : List (List Int)) (g : List Int) (v : AV) (σ : AH) (hi : NInv nl ws ln ld num den env L σ) (hLm : ∀ x ∈ L, okGears ws.length x) (hg : okGears ws.length g) (hv : Whole 7 1 (AV.int .i64) σ v g) :
    Call prog O (.yield 6) [v] σ fun r σ' => Touch 7 σ σ' ∧ (r = .bool true ∧ NInv nl ws ln ld num den env (L ++ [g]) σ' ∨ r = .bool false ∧ False) := by
  obtain ⟨h1, h2, h3, h4, h5, h6, h7⟩ := hi
  have hc : ans prog O 56 [eL nl ws ln ld, vs false g] = some (.agg [.int .i64 (gE ws ln g), .int .i64 (gO ws ld g)]) := cuts_ok nl false ws g ln ld hl hg
  have hfar : far ws ln ld num den g = max (gE ws ln g * den - num * gO ws ld g) (-(gE ws ln g * den - num * gO ws ld g)) := rfl
  obtain ⟨f1, f2, f3, f4⟩ := far_bd hl hg hn hd
  obtain ⟨g1, g2, g3⟩ := g_bd hl hg
  have hoff := off_ok (gE ws ln g) (gO ws ld g) num den (by omega) (by omega) (by omega) (by omega)
  refine yield_of' pl h6 get22 rfl rfl (by omega) rfl ?_
  subst henv
  simp +contextual (disch := omega) [ak_of h6, h1, h3, h4]
  have hob : Only [6] σ (σ.set 6 (.loop 22 0 [(6, .vsl true []), (7, .int .i64 0), (9, .ptr (some (1, 0))), (10, .ptr (some (2, 0))), (11, .ptr (some (3, 0))), (12, .ptr (some (4, 0))), (29, fn)] .busy none 5)) := Only.set (List.mem_singleton.2 rfl) _
  have hvb := hv.stay hob (fun i hi hj => by have := (hv.obj_lt i hi).1; simp at hj; omega)
  refine pc_scal (.cons ⟨rfl, fun _ _ => rfl⟩ (.cons ((whole_under hvb).view.snap encI flatI) .nil)) (fun h => by rw [hv.view.closed] at h; simp at h) (by simp) (oo (args := []) (by decide)).1 hc rfl ?_
  have m1 : ¬ 1 = σ.next := by omega
  have m2 : ¬ 2 = σ.next := by omega
  have m3 : ¬ 3 = σ.next := by omega
  have m4 : ¬ 4 = σ.next := by omega
  have m5 : ¬ 5 = σ.next := by omega
  have m6 : ¬ 6 = σ.next := by omega
  have n6 : ¬ σ.next = 6 := by omega
  have n3 : ¬ σ.next = 3 := by omega
  have n4 : ¬ σ.next = 4 := by omega
  obtain ⟨hvc, hvd, hvo⟩ : v.cells = [v] ∧ v.dfd = true ∧ v.one = true := by obtain ⟨i, c, rfl, _⟩ := id hv; exact ⟨rfl, rfl, rfl⟩
  have hk7 : ∀ k, 7 ≤ k → ¬ k = 6 ∧ ¬ k = 3 ∧ ¬ k = 4 := fun k h => by omega
  rcases h7 with ⟨hL, b3, b4⟩ | ⟨b, o, u, v', hb, b3, b4, hw⟩
  · simp +contextual (disch := omega) [h1, h3, h4, hoff, b3, b4, m1, m2, m3, m4, m5, m6, n6, n3, n4]
    simp only [hvc, hvd, hvo]
    refine ⟨by omega, ⟨trivial, rfl, by simp [hvo]⟩, ?_⟩
    refine NInv.fin (b := g) (o := far ws ln ld num den g) (u := gO ws ld g) h1 rfl h2 (Nat.le_succ _) (by simp [m1, h3]) (by simp [m2, h4]) (by simp [m5, h5]) (by simp [m6]; exact ⟨by omega, rfl, rfl⟩) (fun k h7 h8 => by obtain ⟨a, b, c⟩ := hk7 k h7; simp [a, b, c]; rw [if_neg (by omega), if_neg (by omega)]) ?_ (by simp [m3]; omega) (by simp [m4, hfar]; omega) hv
    subst hL
    rw [List.nil_append]
    rfl
  · have hnil : isNil .slice v' = some false := by obtain ⟨i, c, rfl, _⟩ := hw; rfl
    have hno := near_ok ws ln ld num den L
    rw [hb] at hno
    obtain ⟨k1, rfl, rfl⟩ := hno
    have hokb := hLm b k1
    obtain ⟨e1, e2, e3, e4⟩ := far_bd hl hokb hn hd
    obtain ⟨d1, d2, d3⟩ := g_bd hl hokb
    have p1 := mulB f3 f4 (show 0 ≤ gO ws ld b by omega) d3
    have p2 := mulB e3 e4 (show 0 ≤ gO ws ld g by omega) g3
    have hless := pless_ok (far ws ln ld num den g) (gO ws ld g) (far ws ln ld num den b) (gO ws ld b) p1.1 (by omega) p2.1 (by omega)
    rw [← hfar] at hoff
    simp +contextual (disch := omega) [h1, h3, h4, hoff, b3, b4, hnil, hless, m1, m2, m3, m4, m5, m6, n6, n3, n4]
    simp only [hvc, hvd, hvo]
    refine ⟨fun hlt => ⟨by omega, ⟨trivial, rfl, by simp [hvo]⟩, ?_⟩, fun hge => ?_⟩
    · refine NInv.fin (b := g) (o := far ws ln ld num den g) (u := gO ws ld g) h1 rfl h2 (Nat.le_succ _) (by simp [m1, h3]) (by simp [m2, h4]) (by simp [m5, h5]) (by simp [m6]; exact ⟨by omega, rfl, rfl⟩) (fun k h7 h8 => by obtain ⟨a, b, c⟩ := hk7 k h7; simp [a, b, c]; rw [if_neg (by omega), if_neg (by omega)]) ?_ (by simp [m3]; omega) (by simp [m4]; omega) hv
      rw [near_add, hb]; simp only [nstep]; rw [if_pos hlt]
    · refine NInv.fin h1 rfl h2 (Nat.le_succ _) (by simp [m1, h3]) (by simp [m2, h4]) (by simp [m5, h5]) (by simp [m6]; exact ⟨by omega, rfl, rfl⟩) (fun k h7 h8 => by obtain ⟨a, b, c⟩ := hk7 k h7; simp [a]; rw [if_neg (by omega), if_neg (by omega)]) ?_ (by simp [m3]; exact b3) (by simp [m4]; exact b4) hw
      rw [near_add, hb]; simp only [nstep]; rw [if_neg (by omega)]
/-- v[:len(v):len(v)] -/
theorem trim_ok {lo : Nat} {σ : AH} {v : AV} {g : List Int} (h : Whole lo 1 (AV.int .i64) σ v g) : ∃ i, lo ≤ i ∧ aslS 1 v none (some (.int .i64 g.length)) (some (.int .i64 g.length)) = some (.slice (some (i, 0)) g.length (.ex g.length)) ∧ σ.get i = some (.cells (rowI g)) := by
  obtain ⟨i, c, rfl, h2, h3, h4⟩ := h
  refine ⟨i, h2, ?_, h3⟩
  have hs : c.sure g.length = g.length := by rcases h4 with rfl | rfl <;> rfl
  have hle : c.less 1 0 (some g.length) = some (.ex g.length) := by rcases h4 with rfl | rfl <;> simp [ACap.less]
  simp only [aslS, hs, abounds_hm]
  rw [if_pos (by omega), if_pos (by omega)]
  simp only [Int.toNat_natCast, hle, Option.map_some, Nat.zero_mul, Nat.add_zero, Nat.sub_zero]
theorem Nearest_ok (nl : Bool) (ws : List Int) (ln ld num den : Int) (hx : ws.length < 2 ^ 62) {b : List Int} (hb : okLathe ws ln ld → near ws ln ld num den (gl ws.length) = some (b, far ws ln ld num den b, gO ws ld b)) : ans prog O 22 [eL nl ws ln ld, .int .i64 num, .int .i64 den] = some (nearRes ws ln ld num den b) := by
  by_cases hl : okLathe ws ln ld
  · by_cases h2 : (1 ≤ num ∧ num ≤ 1000) ∧ 1 ≤ den ∧ den ≤ 1000
    · have hres : nearRes ws ln ld num den b = .tuple [vs false b, .int .i64 0] := by unfold nearRes; rw [if_pos hl, if_pos h2]
      rw [hres]
      refine fn_of' pl get22 (oo (by decide)) rfl rfl ?_
      simp +contextual (disch := omega) [hl, h2]
      refine rg_of (h := 64) (xs := [eL nl ws ln ld]) (ys := []) rfl ?_
      have hw10 : ws.length ≤ 10 := by have := hl.1.1; omega
      have hstep : ∀ L g v σ, (NInv nl ws ln ld num den [(6, .vsl true []), (7, .int .i64 0), (9, .ptr (some (1, 0))), (10, .ptr (some (2, 0))), (11, .ptr (some (3, 0))), (12, .ptr (some (4, 0))), (29, .func (.func 64) [eL nl ws ln ld] [])] L σ ∧ ∀ x ∈ L, okGears ws.length x) → 7 ≤ σ.next → σ.lim ≤ 7 → okGears ws.length g → Pre (gl ws.length) (L ++ [g]) → Whole 7 1 (AV.int .i64) σ v g →
          Call prog O (.yield 6) [v] σ fun r σ' => Touch 7 σ σ' ∧ (r = .bool true ∧ (NInv nl ws ln ld num den [(6, .vsl true []), (7, .int .i64 0), (9, .ptr (some (1, 0))), (10, .ptr (some (2, 0))), (11, .ptr (some (3, 0))), (12, .ptr (some (4, 0))), (29, .func (.func 64) [eL nl ws ln ld] [])] (L ++ [g]) σ' ∧ ∀ x ∈ L ++ [g], okGears ws.length x) ∨ r = .bool false ∧ False) := by
        intro L g v σ i1 i2 i3 i4 _ i5
        refine (Nearest_step hl h2.1 h2.2 rfl L g v σ i1.1 i1.2 i4 i5).mono ?_
        rintro r σ' ⟨t1, ⟨rfl, t2⟩ | ⟨_, t2⟩⟩
        · exact ⟨t1, .inl ⟨rfl, t2, fun x hx => by rcases List.mem_append.1 hx with h | h; exact i1.2 x h; obtain rfl := List.mem_singleton.1 h; exact i4⟩⟩
        · exact t2.elim
      refine (gears_ok (lo := 7) (l := 6) (nl := nl) (ws := ws) (num := ln) (den := ld) _ (fun _ => False) (fun L σ σ' i1 i2 => ⟨i1.1.stay i2, i1.2⟩) hstep hw10 rfl _ rfl (Nat.zero_le _) ⟨⟨rfl, Nat.le_refl _, by simp, by simp, by simp, by simp, .inl ⟨rfl, by simp, by simp⟩⟩, fun x hx => by cases hx⟩).mono ?_
      rintro _ σ2 (⟨hi, _⟩ | hf)
      · obtain ⟨l1, l2, l3, l4, l5, l6, l7⟩ := hi
        refine ⟨_, _, _, _, _, _, l6, by simp, by omega, ?_⟩
        have hG : ext ws.length [] 2 ++ ext ws.length [] 4 = gl ws.length := rfl
        rw [hG, hb hl] at l7
        rcases l7 with ⟨hL, _⟩ | ⟨b', o, u, v, e1, e2, e3, e4⟩
        · obtain ⟨g, r, e⟩ := gl_ne (n := ws.length) (by have := hl.1.1; omega)
          rw [hL] at e; cases e
        · cases e1
          have hlen := e4.len
          obtain ⟨i, hi7, hsl, hget⟩ := trim_ok e4
          simp +contextual (disch := omega) [e2, hlen, hsl]
          have hi5 : ¬ i = 5 := by omega
          have hi6 : ¬ i = 6 := by omega
          rw [retK_mark (by simp [l5]) (by show σ2.lim ≤ 5; omega)]
          simp +contextual (disch := omega) []
          have hcel : ((σ2.set 6 (.loop 22 0 [(6, .vsl true []), (7, .int .i64 0), (9, .ptr (some (1, 0))), (10, .ptr (some (2, 0))), (11, .ptr (some (3, 0))), (12, .ptr (some (4, 0))), (29, .func (.func 64) [eL nl ws ln ld] [])] .exhausted none 5)).set 5 .dead).cel i = some (rowI b) := by
            simp [hi5, hi6, hget]
          have := fz_row hcel 5
          exact this
      · exact hf.elim
    · have hres : nearRes ws ln ld num den b = .tuple [.vsl true [], .int .i64 21] := by unfold nearRes; rw [if_pos hl, if_neg h2]
      rw [hres]
      refine fn_of' pl get22 (oo (by decide)) rfl rfl ?_
      simp +contextual (disch := omega) [hl, h2]
  · have hres : nearRes ws ln ld num den b = .tuple [.vsl true [], .int .i64 20] := by unfold nearRes; rw [if_neg hl]
    rw [hres]
    refine fn_of' pl get22 (oo (by decide)) rfl rfl ?_
    simp +contextual (disch := omega) [hl]
end Go.Oct.Screw
