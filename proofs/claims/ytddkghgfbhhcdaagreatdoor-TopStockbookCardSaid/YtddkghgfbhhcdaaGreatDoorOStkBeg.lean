/- From which day on a plan can begin: the program's answer. -/
import Derived.Test.YtddkghgfbhhcdaaGreatDoorOStkSto
set_option maxRecDepth 100000
set_option maxHeartbeats 8000000
set_option linter.unusedVariables false
set_option linter.unusedSimpArgs false
namespace Go.Oct.Stk.Sh
open Go.Oct
def wsum (l : List Pc) (m : Nat) (xs : List Int) : Int := (xs.map fun x => am m (nth l x.toNat)).sum
theorem wsum_app (l : List Pc) (m : Nat) (xs ys : List Int) : wsum l m (xs ++ ys) = wsum l m xs + wsum l m ys := by unfold wsum; simp
theorem wsum_one (l : List Pc) (m : Nat) (x : Int) : wsum l m [x] = am m (nth l x.toNat) := by unfold wsum; simp
theorem am_bd {l : List Pc} (ho : okOrd l) {m : Nat} {x : Int} (hx : 0 ≤ x ∧ x ≤ (l.length : Int) - 1) : 0 ≤ am m (nth l x.toNat) ∧ am m (nth l x.toNat) ≤ 10000 := by
  have := (ho.2 x.toNat (by omega)).2
  unfold am; split <;> omega
theorem wsum_bd {l : List Pc} (ho : okOrd l) {m : Nat} : ∀ {xs : List Int}, (∀ x ∈ xs, 0 ≤ x ∧ x ≤ (l.length : Int) - 1) → 0 ≤ wsum l m xs ∧ wsum l m xs ≤ 10000 * xs.length
  | [], _ => by simp [wsum]
  | x :: xs, h => by
    have h1 := wsum_bd ho (m := m) (xs := xs) fun y hy => h y (List.mem_cons_of_mem _ hy)
    have h2 := am_bd ho (m := m) (h x (List.mem_cons_self ..))
    have e : wsum l m (x :: xs) = am m (nth l x.toNat) + wsum l m xs := by unfold wsum; simp
    rw [e, List.length_cons]
    omega
/-- How many lots the pieces of so many days take. -/
def kd (l : List Pc) (s : St) (P : Plan) (m d : Nat) : Nat := kk m s (wsum l m (flat P d))
theorem kk_zero {m : Nat} {s : St} (h : okSt s) : kk m s 0 = 0 := by
  have h1 := kk_iff h (m := m) (w := 0) (k := 0) (Nat.zero_le _)
  have h2 := cm_bd h (m := m) (b := 0) (Nat.zero_le _)
  omega
theorem kd_zero {l : List Pc} {s : St} {P : Plan} {m : Nat} (h : okSt s) : kd l s P m 0 = 0 := by unfold kd; exact kk_zero h
theorem kd_mono {l : List Pc} {men : Int} {s : St} {P : Plan} {m d : Nat} (ho : okOrd l) (hp : okPlan l men P) (hd : d < P.length) : kd l s P m d ≤ kd l s P m (d + 1) := by
  apply kk_mono
  simp only [flat]
  rw [wsum_app]
  have := (wsum_bd ho (m := m) (xs := row P d) fun x hx => rises_in (hp.day d hd).2 (by rw [List.take_length]; exact hx) (Nat.le_refl _)).1
  omega
/-- The latest of the days that some pieces ask for. -/
structure Bmax (l : List Pc) (s : St) (P : Plan) (D : Nat → Nat → Prop) (B : Int) : Prop where
  nn : 0 ≤ B
  hi : B ≤ 100000
  ge : ∀ m d, D m d → 0 < kd l s P m (d + 1) → dK s (kd l s P m (d + 1)) - d ≤ B
  at_ : B = 0 ∨ ∃ m d, D m d ∧ 0 < kd l s P m (d + 1) ∧ B = dK s (kd l s P m (d + 1)) - d
theorem Bmax.congr {l : List Pc} {s : St} {P : Plan} {D E : Nat → Nat → Prop} {B : Int} (h : Bmax l s P D B) (he : ∀ m d, D m d ↔ E m d) : Bmax l s P E B := by
  have : D = E := funext fun m => funext fun d => propext (he m d)
  rw [← this]; exact h
theorem Bmax.uniq {l : List Pc} {s : St} {P : Plan} {D : Nat → Nat → Prop} {B C : Int} (h : Bmax l s P D B) (k : Bmax l s P D C) : B = C := by
  have le : ∀ {B C : Int}, Bmax l s P D B → Bmax l s P D C → B ≤ C := fun {B C} h k => by
    rcases h.at_ with e | ⟨m, d, h1, h2, h3⟩
    · rw [e]; exact k.nn
    · have := k.ge m d h1 h2; omega
  exact Int.le_antisymm (le h k) (le k h)
theorem Bmax.step {l : List Pc} {s : St} {P : Plan} {D : Nat → Nat → Prop} {B : Int} {m d : Nat} (hs : okSt s) (h : Bmax l s P D B) (hn : kd l s P m (d + 1) ≤ s.L.length) : Bmax l s P (fun m' d' => D m' d' ∨ (m' = m ∧ d' = d)) (if 0 < kd l s P m (d + 1) then max B (dK s (kd l s P m (d + 1)) - d) else B) := by
  have hb := dK_bd hs hn
  by_cases hk : 0 < kd l s P m (d + 1)
  · rw [if_pos hk]
    refine ⟨by have := h.nn; omega, by have := h.hi; omega, ?_, ?_⟩
    · rintro m' d' (h1 | ⟨rfl, rfl⟩) h2
      · have := h.ge m' d' h1 h2; omega
      · omega
    · by_cases hm : dK s (kd l s P m (d + 1)) - d ≤ B
      · rw [Int.max_eq_left hm]
        rcases h.at_ with e | ⟨m', d', h1, h2, h3⟩
        · exact .inl e
        · exact .inr ⟨m', d', .inl h1, h2, h3⟩
      · rw [Int.max_eq_right (by omega)]
        exact .inr ⟨m, d, .inr ⟨rfl, rfl⟩, hk, rfl⟩
  · rw [if_neg hk]
    refine ⟨h.nn, h.hi, ?_, ?_⟩
    · rintro m' d' (h1 | ⟨rfl, rfl⟩) h2
      · exact h.ge m' d' h1 h2
      · exact absurd h2 hk
    · rcases h.at_ with e | ⟨m', d', h1, h2, h3⟩
      · exact .inl e
      · exact .inr ⟨m', d', .inl h1, h2, h3⟩
theorem Bmax.none (l : List Pc) (s : St) (P : Plan) : Bmax l s P (fun _ _ => False) 0 := ⟨Int.le_refl _, by omega, fun _ _ h => h.elim, .inl rfl⟩
/-- What Begins tells. -/
inductive BegV (l : List Pc) (men : Int) (P : Plan) (s : St) : Int → Int → Prop
  | ask (h : askV l men ≠ 0) : BegV l men P s 0 (askV l men)
  | plan (h : askV l men = 0) (hp : ¬ okPlan l men P) : BegV l men P s 0 102
  | store (h : askV l men = 0) (hp : okPlan l men P) (hs : ¬ okSt s) : BegV l men P s 0 103
  | none (h : askV l men = 0) (hp : okPlan l men P) (hs : okSt s) (m d : Nat) (hm : m < 2) (hd : d < P.length) (hk : s.L.length < kd l s P m (d + 1)) : BegV l men P s 0 4
  | ok (h : askV l men = 0) (hp : okPlan l men P) (hs : okSt s) (hk : ∀ m d, m < 2 → d < P.length → kd l s P m (d + 1) ≤ s.L.length) (B : Int) (hB : Bmax l s P (fun m d => m < 2 ∧ d < P.length) B) : BegV l men P s B 0
theorem begV_ex (l : List Pc) (men : Int) (P : Plan) (s : St) : ∃ b e, BegV l men P s b e := by
  by_cases h : askV l men = 0
  · by_cases hp : okPlan l men P
    · by_cases hs : okSt s
      · by_cases hk : ∀ m d, m < 2 → d < P.length → kd l s P m (d + 1) ≤ s.L.length
        · have : ∀ n, n ≤ P.length → ∃ B, Bmax l s P (fun m d => m < 2 ∧ d < n) B := by
            intro n
            induction n with
            | zero => intro _; exact ⟨0, (Bmax.none l s P).congr fun m d => ⟨fun h => h.elim, fun h => by omega⟩⟩
            | succ n ih =>
              intro hn
              obtain ⟨B, hB⟩ := ih (by omega)
              refine ⟨_, ((hB.step (m := 0) (d := n) hs (hk 0 n (by omega) (by omega))).step (m := 1) (d := n) hs (hk 1 n (by omega) (by omega))).congr fun m d => ?_⟩
              constructor
              · rintro ((h | ⟨rfl, rfl⟩) | ⟨rfl, rfl⟩) <;> omega
              · rintro ⟨h1, h2⟩
                by_cases e : d = n
                · subst e
                  by_cases e2 : m = 0
                  · exact .inl (.inr ⟨e2, rfl⟩)
                  · exact .inr ⟨by omega, rfl⟩
                · exact .inl (.inl ⟨h1, by omega⟩)
          obtain ⟨B, hB⟩ := this P.length (Nat.le_refl _)
          exact ⟨_, _, .ok h hp hs hk B hB⟩
        · have : ∃ m d, m < 2 ∧ d < P.length ∧ s.L.length < kd l s P m (d + 1) := by
            apply Classical.byContradiction
            intro hc
            exact hk fun m d h1 h2 => Nat.le_of_not_lt fun h3 => hc ⟨m, d, h1, h2, h3⟩
          obtain ⟨m, d, h1, h2, h3⟩ := this
          exact ⟨_, _, .none h hp hs m d h1 h2 h3⟩
      · exact ⟨_, _, .store h hp hs⟩
    · exact ⟨_, _, .plan h hp⟩
  · exact ⟨_, _, .ask h⟩
theorem BegV.bad {l : List Pc} {men : Int} {P : Plan} {s : St} {b e : Int} (hv : BegV l men P s b e) (h : askV l men = 0) (hp : okPlan l men P) (hs : okSt s) {m d : Nat} (hm : m < 2) (hd : d < P.length) (hk : s.L.length < kd l s P m (d + 1)) : b = 0 ∧ e = 4 := by
  rcases hv with h1 | ⟨_, h1⟩ | ⟨_, _, h1⟩ | ⟨_, _, _, _, _, _, _, _⟩ | ⟨_, _, _, h1, _, _⟩
  · exact absurd h h1
  · exact absurd hp h1
  · exact absurd hs h1
  · exact ⟨rfl, rfl⟩
  · have := h1 m d hm hd; omega
theorem BegV.good {l : List Pc} {men : Int} {P : Plan} {s : St} {b e : Int} (hv : BegV l men P s b e) (h : askV l men = 0) (hp : okPlan l men P) (hs : okSt s) (hk : ∀ m d, m < 2 → d < P.length → kd l s P m (d + 1) ≤ s.L.length) {B : Int} (hB : Bmax l s P (fun m d => m < 2 ∧ d < P.length) B) : b = B ∧ e = 0 := by
  rcases hv with h1 | ⟨_, h1⟩ | ⟨_, _, h1⟩ | ⟨_, _, _, m, d, h1, h2, h3⟩ | ⟨_, _, _, h1, _, h2⟩
  · exact absurd h h1
  · exact absurd hp h1
  · exact absurd hs h1
  · have := hk m d h1 h2; omega
  · exact ⟨h2.uniq hB, rfl⟩
theorem askV_zero {l : List Pc} {men : Int} (h : askV l men = 0) : okOrd l ∧ 1 ≤ men ∧ men ≤ 12 := by
  unfold askV at h
  have ho : okOrd l := Decidable.byContradiction fun hn => by rw [if_neg hn] at h; omega
  rw [if_pos ho] at h
  exact ⟨ho, Decidable.byContradiction fun hn => by rw [if_neg hn] at h; omega⟩
/-! ### The program's -/
def tk (m : Nat) : Nat := if m = 0 then 185 else 190
def fi (m : Nat) : Nat := if m = 0 then 188 else 191
def co (m : Nat) : Nat := if m = 0 then 189 else 192
theorem two {m : Nat} (h : m < 2) : m = 0 ∨ m = 1 := by omega
theorem tk_ok {m : Nat} (h : m < 2) (x : P5) : ans prog O (tk m) [.agg [.int .i64 x.p.into, .int .i64 x.p.br, .int .i64 x.p.iv, .int .i64 x.ix, .int .i64 x.lv]] = some (.int .i64 (am m x.p)) := by
  rcases two h with rfl | rfl
  · refine fn_of' pl get185 (oo (by decide)) rfl rfl ?_
    simp (disch := omega) [am]
  · refine fn_of' pl get190 (oo (by decide)) rfl rfl ?_
    simp (disch := omega) [am]
theorem fi_ok {m : Nat} (h : m < 2) (n : Bool) (s : St) : ans prog O (fi m) [.agg [.int .i64 s.b, .int .i64 s.v, vl ePc n s.L]] = some (.int .i64 (fs m s)) := by
  rcases two h with rfl | rfl
  · refine fn_of' pl get188 (oo (by decide)) rfl rfl ?_
    simp (disch := omega) [fs]
  · refine fn_of' pl get191 (oo (by decide)) rfl rfl ?_
    simp (disch := omega) [fs]
theorem co_ok {m : Nat} (h : m < 2) (x : Pc) : ans prog O (co m) [.agg [.int .i64 x.into, .int .i64 x.br, .int .i64 x.iv]] = some (.int .i64 (am m x)) := by
  rcases two h with rfl | rfl
  · refine fn_of' pl get189 (oo (by decide)) rfl rfl ?_
    simp (disch := omega) [am]
  · refine fn_of' pl get192 (oo (by decide)) rfl rfl ?_
    simp (disch := omega) [am]
abbrev six : List AV := [.func (.func 185) [] [], .func (.func 188) [] [], .func (.func 189) [] [], .func (.func 190) [] [], .func (.func 191) [] [], .func (.func 192) [] []]
theorem six_at {m : Nat} (h : m < 2) : aidxV true 2 3 (.agg six) (.int .i64 m) = some (.agg [.func (.func (tk m)) [] [], .func (.func (fi m)) [] [], .func (.func (co m)) [] []]) := by
  rcases two h with rfl | rfl <;> rfl
end Go.Oct.Stk.Sh
