/- What Restore does with a reading. -/
import Derived.Test.YtddkghgfbhhcdaaGreatDoorOLogRdg
set_option maxRecDepth 100000
set_option maxHeartbeats 8000000
set_option linter.unusedVariables false
set_option linter.unusedSimpArgs false
namespace Go.Oct.Log
open Go.Oct
theorem w64_succ (n : Int) : w64 (w64 n + 1) = w64 (n + 1) := by
  rw [w64_wrap, w64_wrap, w64_wrap]
  simp only [IntKind.wrap, IntKind.bits, IntKind.signed]
  simp
  omega
abbrev envR (P : Nat) : Env := [(2, .vsl true []), (3, .ptr (some (0, 0))), (4, .int .i64 0), (5, .ptr (some (P, 0))), (6, .ptr (some (P + 2, 0))), (7, .ptr (some (P + 3, 0))), (36, .func (.func 52) [] [.ptr (some (P + 4, 0))])]
abbrev stR (P : Nat) : List Nat := [0, P + 1, P + 3, P + 6]
/-- Which digits were seen. -/
def seenB (N : Nat) (Y : List (List Int)) (B : List Bool) : Prop := B.length = N * 10 ∧ ∀ k d : Nat, k < N → d < 10 → (nth B (k * 10 + d) = true ↔ ∃ y ∈ Y, nth y k = d)
structure RI (N P : Nat) (Y : List (List Int)) (σ : AH) : Prop where
  lim : σ.lim = 0
  nx : P + 7 ≤ σ.next
  num : σ.get 0 = some (.cells [.int .i64 (w64 Y.length)])
  last : ∃ sv, σ.get (P + 3) = some (.cells [sv]) ∧ (Y = [] → sv = .vsl true []) ∧ ∀ y, Y.getLast? = some y → YV (P + 7) σ sv y
  can : ∃ B, σ.get (P + 1) = some (.cells (B.map AV.bool)) ∧ seenB N Y B
  row : σ.get (P + 2) = some (.cells [.slice (some (P + 1, 0)) N (.ex N)])
  loop : σ.get (P + 6) = some (.loop 7 0 (envR P) .ready none (P + 5))
theorem YV.stay {lo : Nat} {σ σ' : AH} {v : AV} {y : List Int} (h : YV lo σ v y) (hO : ∀ z, lo ≤ z → z < σ.next → σ'.get z = σ.get z) : YV lo σ' v y := by
  rcases h with h | ⟨o, h1, h2, h3, h4⟩
  · exact .inl h
  · exact .inr ⟨o, h1, h2, (hO o h2 (AH.get_lt h3)).trans h3, h4⟩
theorem RI.keep {N P m : Nat} (hm : 0 < m ∧ m < P) {Y : List (List Int)} {σ σ' : AH} (h : RI N P Y σ) (hO : Only [m] σ σ') : RI N P Y σ' := by
  have hn := hO.next
  have hg : ∀ z, z < σ.next → z ≠ m → σ'.get z = σ.get z := fun z h1 h2 => hO.get z h1 (by simp [h2])
  have hx := h.nx
  obtain ⟨sv, s1, s2, s3⟩ := h.last
  obtain ⟨B, b1, b2⟩ := h.can
  exact ⟨hO.lim.trans h.lim, by omega, (hg 0 (by omega) (by omega)).trans h.num, ⟨sv, (hg _ (by omega) (by omega)).trans s1, s2, fun y hy => (s3 y hy).stay fun z z1 z2 => hg z z2 (by omega)⟩, ⟨B, (hg _ (by omega) (by omega)).trans b1, b2⟩, (hg _ (by omega) (by omega)).trans h.row, (hg _ (by omega) (by omega)).trans h.loop⟩
theorem seen_step {N : Nat} {Y : List (List Int)} {y : List Int} {B : List Bool} {j : Nat} (hB : B.length = N * 10 ∧ ∀ k d : Nat, k < N → d < 10 → (nth B (k * 10 + d) = true ↔ (∃ y ∈ Y, nth y k = d) ∨ (k < j ∧ nth y k = d))) (hj : j < N) {q : Nat} (hq : nth y j = q) (hq2 : q < 10) :
    (B.set (j * 10 + q) true).length = N * 10 ∧ ∀ k d : Nat, k < N → d < 10 → (nth (B.set (j * 10 + q) true) (k * 10 + d) = true ↔ (∃ y ∈ Y, nth y k = d) ∨ (k < j + 1 ∧ nth y k = d)) := by
  refine ⟨by rw [List.length_set]; exact hB.1, fun k d hk hd => ?_⟩
  rw [nth_set (by rw [hB.1]; omega)]
  by_cases e : k * 10 + d = j * 10 + q
  · rw [if_pos e]
    have e1 : k = j := by omega
    have e2 : d = q := by omega
    subst e1 e2
    exact ⟨fun _ => .inr ⟨by omega, hq⟩, fun _ => rfl⟩
  · rw [if_neg e, hB.2 k d hk hd]
    constructor
    · rintro (h | ⟨h1, h2⟩)
      · exact .inl h
      · exact .inr ⟨by omega, h2⟩
    · rintro (h | ⟨h1, h2⟩)
      · exact .inl h
      · by_cases ek : k = j
        · subst ek
          rw [hq] at h2
          exact absurd (by omega : k * 10 + d = k * 10 + q) e
        · exact .inr ⟨by omega, h2⟩
theorem eatR {N P m : Nat} (hN : N ≤ 5) (hm : 0 < m ∧ m < P) : Eats (fun _ => False) (stR P) N (P + 7) m (P + 6) (RI N P) := by
  refine ⟨fun s hs => ?_, fun Y σ σ' h hO => h.keep hm hO, fun Y y σ v h hy hv h0 hlo => ?_⟩
  · simp at hs; omega
  have gl := h.loop
  obtain ⟨sv, s1, s2, s3⟩ := h.last
  obtain ⟨B, b1, b2⟩ := h.can
  have g0 := h.num
  have g2 := h.row
  refine yield_of' pl gl get7 rfl rfl (by omega) rfl ?_
  have hnx := h.nx
  have k0 : 0 < σ.next := by omega
  have k3 : P + 3 < σ.next := by omega
  have hyl := hy.1
  have hln : alen v = some (.int .i64 N) := by
    rcases hv with ⟨rfl, e⟩ | ⟨o, rfl, _⟩
    · subst e; rw [← hyl]; rfl
    · rw [← hyl]; rfl
  have h1 : v.dfd = true ∧ v.cells = [v] ∧ v.one = true := by
    rcases hv with ⟨rfl, e⟩ | ⟨o, rfl, _⟩ <;> exact ⟨rfl, rfl, rfl⟩
  have k4 : ¬ P + 3 = P + 6 := by omega
  have k5 : ¬ 0 = P + 6 := by omega
  have k6 : ¬ P + 3 = 0 := by omega
  simp (disch := omega) [ak_of gl, h0, g0, s1, k0, k3, k4, k5, k6, hln, h1.1, h1.2.1, h1.2.2, w64_succ, eqf1, eqf2, -Bool.exists_bool]
  generalize hβ : AH.set (AH.set (AH.set σ _ _) 0 _) (P + 3) _ = β
  have βl : β.lim = 0 := by rw [← hβ]; exact h0
  have βn : β.next = σ.next := by rw [← hβ]; rfl
  have β0 : β.get 0 = some (.cells [.int .i64 (w64 (Y.length + 1))]) := by rw [← hβ, AH.get_set_other _ _ _ _ (by omega)]; exact AH.get_set_same _ _ _ (by show 0 < σ.next; omega)
  have β3 : β.get (P + 3) = some (.cells [v]) := by rw [← hβ]; exact AH.get_set_same _ _ _ k3
  have β6 : β.get (P + 6) = some (.loop 7 0 (envR P) .busy none (P + 5)) := by rw [← hβ, AH.get_set_other _ _ _ _ (by omega), AH.get_set_other _ _ _ _ (by omega)]; exact AH.get_set_same _ _ _ (by show P + 6 < σ.next; omega)
  have βo : ∀ z, z ≠ 0 → z ≠ P + 3 → z ≠ P + 6 → β.get z = σ.get z := fun z z1 z2 z3 => by rw [← hβ, AH.get_set_other _ _ _ _ z2, AH.get_set_other _ _ _ _ z1, AH.get_set_other _ _ _ _ z3]
  clear hβ
  refine lp_loop pl (fun r fr ω => ∃ (j : Nat) (B' : List Bool), j + r = N ∧ fr = ⟨[(6, .ptr (some (P + 2, 0))), (41, v), (42, .int .i64 N), (43, .int .i64 j)], []⟩ ∧ ω.lim = 0 ∧ ω.next = β.next ∧ ω.get (P + 1) = some (.cells (B'.map AV.bool)) ∧
      (B'.length = N * 10 ∧ ∀ k d : Nat, k < N → d < 10 → (nth B' (k * 10 + d) = true ↔ (∃ y ∈ Y, nth y k = d) ∨ (k < j ∧ nth y k = d))) ∧ ∀ z, z ≠ P + 1 → ω.get z = β.get z)
    ⟨N, 0, B, by omega, rfl, βl, rfl, (βo _ (by omega) (by omega) (by omega)).trans b1, ⟨b2.1, fun k d hk hd => (b2.2 k d hk hd).trans ⟨.inl, fun h => h.elim id fun h => absurd h.1 (by omega)⟩⟩, fun _ _ => rfl⟩ ?_
  rintro r _ ω ⟨j, B', hj, rfl, ωl, ωn, ω1, hB', ωo⟩
  by_cases hjl : j < N
  · obtain ⟨o, rfl, o1, o2, o3⟩ : ∃ o, v = .slice (some (o, 0)) y.length (.ex y.length) ∧ P + 7 ≤ o ∧ σ.get o = some (.cells (rowOf (AV.int .i64) y)) ∧ y ≠ [] := by
      rcases hv with ⟨_, e⟩ | h
      · subst e; rw [← hyl] at hjl; simp at hjl
      · exact h
    have ol := AH.get_lt o2
    have ωv := (ωo o (by omega)).trans ((βo o (by omega) (by omega) (by omega)).trans o2)
    have ω2 := (ωo (P + 2) (by omega)).trans ((βo (P + 2) (by omega) (by omega) (by omega)).trans g2)
    have hd := hy.2 j hjl
    obtain ⟨q, hq⟩ : ∃ q : Nat, nth y j = q := ⟨(nth y j).toNat, by omega⟩
    have hq10 : q < 10 := by omega
    have hri := row_int (q := .i64) (xs := y) (j := j) (by omega)
    rw [hq] at hri
    have hri2 : ∀ h : j < (rowOf (AV.int .i64) y).length, (rowOf (AV.int .i64) y)[j] = .int .i64 q := fun h => (List.getElem?_eq_some_iff.1 hri).2
    have hrl : (rowOf (AV.int .i64) y).length = y.length := by rw [rowOf_length encI]; omega
    have w1 : o < ω.next := by omega
    have w2 : P + 2 < ω.next := by omega
    have w3 : P + 1 < ω.next := by omega
    have w4 : j * 10 + q < N * 10 := by omega
    have w5 : (j : Int) < N := by omega
    have w6 : (q : Int) < 10 := by omega
    have hbl : (B'.map AV.bool).length = N * 10 := by rw [List.length_map]; exact hB'.1
    simp (disch := omega) [Und, hjl, ωl, ωv, ω2, ω1, w1, w2, w3, w4, w5, w6, hyl, hri, hri2, hrl, hbl, -Bool.exists_bool]
    refine ⟨by omega, by omega, r - 1, by omega, j + 1, by omega, by omega, ωn, B'.set (j * 10 + q) true, by rw [List.map_set], seen_step hB' hjl hq hq10, fun z hz => ?_⟩
    rw [if_neg hz]
    exact ωo z hz
  · obtain rfl : j = N := by omega
    simp (disch := omega) [Und, -Bool.exists_bool]
    refine bd_normal (f := 7) (i := 0) (env := envR P) (st := .busy) (pd := none) (d := P + 5) ((ωo _ (by omega)).trans β6) ⟨rfl, ⟨?_, ?_, fun z hz hs _ => ?_⟩, ?_⟩
    · show ω.lim = σ.lim; omega
    · show σ.next ≤ ω.next; omega
    · simp at hs
      rw [AH.get_set_other _ _ _ _ (by omega), ωo z (by omega)]
      exact βo z (by omega) (by omega) (by omega)
    · have hs : ∀ z, z ≠ P + 6 → (ω.set (P + 6) (.loop 7 0 (envR P) .ready none (P + 5))).get z = ω.get z := fun z hz => AH.get_set_other _ _ _ _ hz
      refine ⟨by show ω.lim = 0; omega, by show P + 7 ≤ ω.next; omega, ?_, ⟨v, ?_, fun e => by simp at e, fun y' hy' => ?_⟩, ⟨B', ?_, hB'.1, fun k d hk hd => ?_⟩, ?_, ?_⟩
      · rw [hs _ (by omega), ωo _ (by omega), β0, List.length_append, List.length_singleton]; rfl
      · rw [hs _ (by omega), ωo _ (by omega), β3]
      · simp at hy'
        subst hy'
        exact hv.stay fun z z1 z2 => by rw [hs _ (by omega), ωo _ (by omega)]; exact βo z (by omega) (by omega) (by omega)
      · rw [hs _ (by omega), ω1]
      · rw [hB'.2 k d hk hd]
        constructor
        · rintro (⟨y', h1, h2⟩ | ⟨_, h2⟩)
          · exact ⟨y', List.mem_append_left _ h1, h2⟩
          · exact ⟨y, by simp, h2⟩
        · rintro ⟨y', h1, h2⟩
          rcases List.mem_append.1 h1 with h1 | h1
          · exact .inl ⟨y', h1, h2⟩
          · obtain rfl := List.mem_singleton.1 h1
            exact .inr ⟨hk, h2⟩
      · rw [hs _ (by omega), ωo _ (by omega)]
        exact (βo (P + 2) (by omega) (by omega) (by omega)).trans g2
      · exact AH.get_set_same _ _ _ (by show P + 6 < ω.next; omega)
/-- There are not many readings. -/
def code : List Int → Nat
  | [] => 0
  | x :: l => x.toNat + 10 * code l
def d09 (l : List Int) : Prop := ∀ x ∈ l, 0 ≤ x ∧ x ≤ 9
theorem okY.d09 {N : Nat} {y : List Int} (h : okY N y) : d09 y := fun x hx => by
  obtain ⟨j, hj, rfl⟩ := mem_nth.1 hx
  exact h.2 j (by rw [← h.1]; exact hj)
theorem code_lt : ∀ {l : List Int}, d09 l → code l < 10 ^ l.length
  | [], _ => by simp [code]
  | x :: l, h => by
    have h1 := code_lt (l := l) fun y hy => h y (List.mem_cons_of_mem _ hy)
    have h2 := h x (List.mem_cons_self ..)
    rw [code, List.length_cons, Nat.pow_succ]
    omega
theorem code_inj : ∀ {a b : List Int}, d09 a → d09 b → a.length = b.length → code a = code b → a = b
  | [], [], _, _, _, _ => rfl
  | [], _ :: _, _, _, h, _ => by simp at h
  | _ :: _, [], _, _, h, _ => by simp at h
  | x :: a, y :: b, ha, hb, hl, h => by
    have h1 := ha x (List.mem_cons_self ..)
    have h2 := hb y (List.mem_cons_self ..)
    simp only [code] at h
    have e1 : x = y := by omega
    have e2 : code a = code b := by omega
    rw [e1, code_inj (fun z hz => ha z (List.mem_cons_of_mem _ hz)) (fun z hz => hb z (List.mem_cons_of_mem _ hz)) (by simpa using hl) e2]
theorem len_injOn {α : Type} {f : α → Nat} : ∀ {l : List α} {m : List Nat}, (∀ a ∈ l, ∀ b ∈ l, f a = f b → a = b) → l.Nodup → (∀ a ∈ l, f a ∈ m) → l.length ≤ m.length
  | [], m, _, _, _ => Nat.zero_le _
  | a :: l, m, hf, hn, h => by
    rw [List.nodup_cons] at hn
    have ha := h a (List.mem_cons_self ..)
    have ih := len_injOn (f := f) (l := l) (m := m.erase (f a)) (fun x hx y hy => hf x (List.mem_cons_of_mem _ hx) y (List.mem_cons_of_mem _ hy)) hn.2 fun b hb => (List.mem_erase_of_ne (fun e => hn.1 (by
      rw [← hf _ (List.mem_cons_of_mem _ hb) _ (List.mem_cons_self ..) e]; exact hb))).2 (h b (List.mem_cons_of_mem _ hb))
    rw [List.length_erase_of_mem ha] at ih
    have := List.length_pos_of_mem ha
    rw [List.length_cons]
    omega
theorem count_bd {N : Nat} (hN : N ≤ 5) {Y : List (List Int)} (hn : Y.Nodup) (h : ∀ y ∈ Y, okY N y) : Y.length ≤ 100000 := by
  have h1 := len_injOn (f := code) (l := Y) (m := List.range (10 ^ N)) (fun a ha b hb e => code_inj (h a ha).d09 (h b hb).d09 (by rw [(h a ha).1, (h b hb).1]) e) hn fun a ha => List.mem_range.2 (by
    have := code_lt (h a ha).d09
    rwa [(h a ha).1] at this)
  rw [List.length_range] at h1
  exact Nat.le_trans h1 (Nat.pow_le_pow_right (by decide) hN)
end Go.Oct.Log
