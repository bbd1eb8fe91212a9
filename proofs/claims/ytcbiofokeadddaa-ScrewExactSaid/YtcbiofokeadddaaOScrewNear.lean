/- The nearest gears: the reference, and the program. -/
import Derived.Test.YtcbiofokeadddaaOScrewAllG
set_option maxRecDepth 100000
set_option maxHeartbeats 4000000
set_option linter.unusedVariables false
set_option linter.unusedSimpArgs false
namespace Go.Oct.Screw
open Go.Oct
def gE (ws : List Int) (ln : Int) (g : List Int) : Int := pE ws g ln (g.length / 2)
def gO (ws : List Int) (ld : Int) (g : List Int) : Int := pO ws g ld (g.length / 2)
/-- By how much the pitch of gears differs, times both denominators. -/
def far (ws : List Int) (ln ld num den : Int) (g : List Int) : Int := max (gE ws ln g * den - num * gO ws ld g) (-(gE ws ln g * den - num * gO ws ld g))
abbrev Nst := Option (List Int × Int × Int)
def nstep (ws : List Int) (ln ld num den : Int) (st : Nst) (g : List Int) : Nst := match st with
  | none => some (g, far ws ln ld num den g, gO ws ld g)
  | some (b, o, u) => if far ws ln ld num den g * u < o * gO ws ld g then some (g, far ws ln ld num den g, gO ws ld g) else some (b, o, u)
def near (ws : List Int) (ln ld num den : Int) (L : List (List Int)) : Nst := L.foldl (nstep ws ln ld num den) none
theorem near_add (ws : List Int) (ln ld num den : Int) (L : List (List Int)) (g : List Int) : near ws ln ld num den (L ++ [g]) = nstep ws ln ld num den (near ws ln ld num den L) g := by
  unfold near; rw [List.foldl_append]; rfl
/-- All gears are such. -/
theorem ext_dist {n : Nat} : ∀ (m : Nat) (g : List Int), dist n g → ∀ x ∈ ext n g m, dist n x ∧ x.length = g.length + m
  | 0, g, h, x, hx => by
    obtain rfl := List.mem_singleton.1 hx
    exact ⟨h, rfl⟩
  | m + 1, g, h, x, hx => by
    obtain ⟨w, hw, hx⟩ := List.mem_flatMap.1 hx
    have hw := List.mem_range.1 hw
    by_cases hm : (w : Int) ∈ g
    · rw [if_pos hm] at hx; cases hx
    · rw [if_neg hm] at hx
      obtain ⟨h1, h2⟩ := ext_dist m _ (dist_add h hw hm) x hx
      exact ⟨h1, by rw [h2]; simp; omega⟩
def gl (n : Nat) : List (List Int) := ext n [] 2 ++ ext n [] 4
theorem gl_ok {n : Nat} : ∀ x ∈ gl n, okGears n x := fun x hx => by
  have hd0 : dist n [] := fun i hi => by simp at hi
  rcases List.mem_append.1 hx with h | h
  · obtain ⟨h1, h2⟩ := ext_dist 2 [] hd0 x h; exact ⟨.inl h2, h1⟩
  · obtain ⟨h1, h2⟩ := ext_dist 4 [] hd0 x h; exact ⟨.inr h2, h1⟩
theorem g_bd {ws g : List Int} {ln ld : Int} (hl : okLathe ws ln ld) (hg : okGears ws.length g) : (1 ≤ gE ws ln g ∧ gE ws ln g ≤ 40000000) ∧ 1 ≤ gO ws ld g ∧ gO ws ld g ≤ 40000000 := by
  obtain ⟨x, y, e1, e2, h1, h2, h3, h4⟩ := pEO_nat hl hg
  unfold gE gO
  omega
theorem mulB {a b A B : Int} (h1 : 0 ≤ a) (h2 : a ≤ A) (h3 : 0 ≤ b) (h4 : b ≤ B) : 0 ≤ a * b ∧ a * b ≤ A * B :=
  ⟨Int.mul_nonneg h1 h3, Int.mul_le_mul h2 h4 h3 (by omega)⟩
theorem far_bd {ws g : List Int} {ln ld num den : Int} (hl : okLathe ws ln ld) (hg : okGears ws.length g) (hn : 1 ≤ num ∧ num ≤ 1000) (hd : 1 ≤ den ∧ den ≤ 1000) :
    (0 ≤ gE ws ln g * den ∧ gE ws ln g * den ≤ 40000000000) ∧ (0 ≤ num * gO ws ld g ∧ num * gO ws ld g ≤ 40000000000) ∧ 0 ≤ far ws ln ld num den g ∧ far ws ln ld num den g ≤ 40000000000 := by
  obtain ⟨⟨h1, h2⟩, h3, h4⟩ := g_bd hl hg
  have a1 := mulB (a := gE ws ln g) (b := den) (A := 40000000) (B := 1000) (by omega) h2 (by omega) hd.2
  have a2 := mulB (a := num) (b := gO ws ld g) (A := 1000) (B := 40000000) (by omega) hn.2 (by omega) h4
  unfold far
  omega
/-- What is found so far is of the list. -/
def nOK (ws : List Int) (ln ld num den : Int) (L : List (List Int)) (st : Nst) : Prop := match st with
  | none => L = []
  | some (b, o, u) => b ∈ L ∧ o = far ws ln ld num den b ∧ u = gO ws ld b
theorem nOK_step {ws : List Int} {ln ld num den : Int} {L : List (List Int)} {st : Nst} (h : nOK ws ln ld num den L st) (g : List Int) : nOK ws ln ld num den (L ++ [g]) (nstep ws ln ld num den st g) := by
  cases st with
  | none => simp [nstep, nOK]
  | some x =>
    obtain ⟨b, o, u⟩ := x
    simp only [nstep]
    split
    · simp [nOK]
    · exact ⟨List.mem_append_left _ h.1, h.2⟩
theorem near_mem (ws : List Int) (ln ld num den : Int) : ∀ (R L : List (List Int)), nOK ws ln ld num den L (near ws ln ld num den L) → nOK ws ln ld num den (L ++ R) (near ws ln ld num den (L ++ R))
  | [], L, h => by rw [List.append_nil]; exact h
  | g :: R, L, h => by
    have := near_mem ws ln ld num den R (L ++ [g]) (by rw [near_add]; exact nOK_step h g)
    rw [List.append_assoc] at this
    exact this
theorem near_ok (ws : List Int) (ln ld num den : Int) (L : List (List Int)) : nOK ws ln ld num den L (near ws ln ld num den L) := near_mem ws ln ld num den L [] rfl
theorem gl_ne {n : Nat} (h : 2 ≤ n) : ∃ g r, gl n = g :: r := by
  have h1 : ext n [] 2 ≠ [] := by
    intro he
    have : [(0 : Int), 1] ∈ ext n [] 2 := by
      refine List.mem_flatMap.2 ⟨0, List.mem_range.2 (by omega), ?_⟩
      rw [if_neg (by simp)]
      refine List.mem_flatMap.2 ⟨1, List.mem_range.2 (by omega), ?_⟩
      rw [if_neg (by simp)]
      simp [ext]
    rw [he] at this
    cases this
  cases he : gl n with
  | nil => unfold gl at he; exact absurd (List.append_eq_nil_iff.1 he).1 h1
  | cons g r => exact ⟨g, r, rfl⟩
theorem wanted_ok (nl : Bool) (ws : List Int) (ln ld num den : Int) (hx : ws.length < 2 ^ 62) : ans prog O 65 [eL nl ws ln ld, .int .i64 num, .int .i64 den] = some (.int .i64 (if okLathe ws ln ld then (if (1 ≤ num ∧ num ≤ 1000) ∧ 1 ≤ den ∧ den ≤ 1000 then 0 else 21) else 20)) := by
  refine fn_of' pl get65 (oo (by decide)) rfl rfl ?_
  by_cases h : okLathe ws ln ld
  · by_cases h2 : (1 ≤ num ∧ num ≤ 1000) ∧ 1 ≤ den ∧ den ≤ 1000
    · simp +contextual (disch := omega) [h, h2]
      try omega
    · simp +contextual (disch := omega) [h, h2]
      try omega
  · simp +contextual (disch := omega) [h]
theorem nearest_ok (nl : Bool) (ws : List Int) (ln ld num den : Int) (hl : okLathe ws ln ld) (hn : 1 ≤ num ∧ num ≤ 1000) (hd : 1 ≤ den ∧ den ≤ 1000) {b : List Int} {o u : Int} (hb : near ws ln ld num den (gl ws.length) = some (b, o, u)) :
    ans prog O 66 [eL nl ws ln ld, .int .i64 num, .int .i64 den] = some (.tuple [vs false b, .bool (decide (o = 0))]) := by
  refine fn_of' pl get66 (oo (by decide)) rfl rfl ?_
  have hall := all_ok nl ws ln ld hl
  simp +contextual (disch := omega) [hall]
  have hG : ext ws.length [] 2 ++ ext ws.length [] 4 = gl ws.length := rfl
  rw [← List.map_append, hG] at *
  have hgl : (gl ws.length).length ≤ 11000 := by
    unfold gl
    have h1 := ext_len (n := ws.length) (by have := hl.1.1; omega) 2 []
    have h2 := ext_len (n := ws.length) (by have := hl.1.1; omega) 4 []
    rw [List.length_append]; omega
  have hok : ∀ j, j < (gl ws.length).length → okGears ws.length (nth (gl ws.length) j) := fun j hj => gl_ok _ (nth_mem hj)
  have hne : 0 < (gl ws.length).length := by
    obtain ⟨g, r, e⟩ := gl_ne (n := ws.length) (by have := hl.1.1; omega)
    rw [e]; simp
  generalize gl ws.length = G at *
  refine lp_loop pl (fun k fr σ => ∃ (j : Nat) (bv : AV) (ov un : Int), j + k = G.length ∧ fr = ⟨[(1, .int .i64 num), (2, .int .i64 den), (3, .ptr (some (0, 0))), (8, bv), (9, .int .i64 ov), (10, .int .i64 un), (11, vl eRow false (G.map fun x => (false, x))), (12, .int .i64 j)], []⟩ ∧ σ = (⟨0, 0, .leaf⟩ : AH).push (.cells [vs nl ws, .int .i64 ln, .int .i64 ld]) ∧
    (j = 0 ∧ bv = .vsl true [] ∧ ov = 0 ∧ un = 1 ∨ 0 < j ∧ ∃ b, near ws ln ld num den (G.take j) = some (b, ov, un) ∧ bv = vs false b)) ⟨G.length, 0, _, _, _, by omega, rfl, rfl, .inl ⟨rfl, rfl, rfl, rfl⟩⟩ ?_
  rintro k _ _ ⟨j, bv, ov, un, hj, rfl, rfl, hst⟩
  have hnth : j < G.length → nth (G.map fun x => (false, x)) j = (false, nth G j) := fun h => nth_map _ h
  have hpit : j < G.length → ans prog O 59 [eL nl ws ln ld, vs false (nth G j)] = some (.tuple [.int .i64 (gE ws ln (nth G j)), .int .i64 (gO ws ld (nth G j))]) := fun h => pitch_ok nl false ws _ ln ld hl (hok j h)
  by_cases hjl : j < G.length
  · obtain ⟨f1, f2, f3, f4⟩ := far_bd hl (hok j hjl) hn hd
    obtain ⟨g1, g2, g3⟩ := g_bd hl (hok j hjl)
    have hfar : far ws ln ld num den (nth G j) = max (gE ws ln (nth G j) * den - num * gO ws ld (nth G j)) (-(gE ws ln (nth G j) * den - num * gO ws ld (nth G j))) := rfl
    have htk : G.take (j + 1) = G.take j ++ [nth G j] := take_succ_nth hjl
    have hp := hpit hjl
    have hnt := hnth hjl
    rcases hst with ⟨rfl, rfl, rfl, rfl⟩ | ⟨hj0, b', hb', rfl⟩
    · simp +contextual (disch := omega) [Und, hnt, hp, hjl]
      refine ⟨k - 1, by omega, 1, by omega, _, _, _, ⟨rfl, rfl, rfl, by omega⟩, .inr ⟨by omega, nth G 0, ?_, rfl⟩⟩
      have : G.take 1 = [nth G 0] := by rw [show (1 : Nat) = 0 + 1 from rfl, take_succ_nth hjl]; simp
      rw [this]
      rfl
    · have hm := near_ok ws ln ld num den (G.take j)
      rw [hb'] at hm
      obtain ⟨m1, rfl, rfl⟩ := hm
      have hokb : okGears ws.length b' := by
        obtain ⟨i, hi, rfl⟩ := mem_nth.1 m1
        rw [List.length_take] at hi
        rw [nth_take (by omega) (by omega)]
        exact hok i (by omega)
      obtain ⟨e1, e2, e3, e4⟩ := far_bd hl hokb hn hd
      obtain ⟨d1, d2, d3⟩ := g_bd hl hokb
      have hlen : b'.length ≠ 0 := by rcases hokb.1 with h | h <;> omega
      have hbe : ¬ b' = [] := fun e => by rw [e] at hlen; simp at hlen
      have p1 := mulB f3 f4 (show 0 ≤ gO ws ld b' by omega) d3
      have p2 := mulB e3 e4 (show 0 ≤ gO ws ld (nth G j) by omega) g3
      simp +contextual (disch := omega) [Und, hnt, hp, hjl, hlen, hbe]
      rw [← hfar, w64_id _ (by omega) (by omega)]
      refine ⟨fun hlt => ⟨k - 1, by omega, j + 1, by omega, _, _, _, ⟨rfl, rfl, rfl, by omega⟩, .inr ⟨by omega, nth G j, ?_, rfl⟩⟩, fun hge => ⟨k - 1, by omega, j + 1, by omega, _, _, _, ⟨rfl, rfl, rfl, by omega⟩, .inr ⟨by omega, b', ?_, rfl⟩⟩⟩
      · rw [htk, near_add, hb']; simp only [nstep]; rw [if_pos hlt]
      · rw [htk, near_add, hb']; simp only [nstep]; rw [if_neg (by omega)]
  · rcases hst with ⟨rfl, _⟩ | ⟨hj0, b', hb', rfl⟩
    · omega
    · rw [take_all (by omega), hb] at hb'
      cases hb'
      simp +contextual (disch := omega) [Und, hjl]
theorem near_some {ws : List Int} {ln ld : Int} (num den : Int) (hl : okLathe ws ln ld) : ∃ b, near ws ln ld num den (gl ws.length) = some (b, far ws ln ld num den b, gO ws ld b) ∧ b ∈ gl ws.length := by
  have := near_ok ws ln ld num den (gl ws.length)
  obtain ⟨g, r, e⟩ := gl_ne (n := ws.length) (by have := hl.1.1; omega)
  cases hn : near ws ln ld num den (gl ws.length) with
  | none => rw [hn] at this; rw [show gl ws.length = [] from this] at e; cases e
  | some x =>
    obtain ⟨b, o, u⟩ := x
    rw [hn] at this
    obtain ⟨h1, rfl, rfl⟩ := this
    exact ⟨b, rfl, h1⟩
/-- What Cut and Nearest answer. -/
def cutRes (ws : List Int) (ln ld num den : Int) (b : List Int) : AV :=
  if okLathe ws ln ld then (if (1 ≤ num ∧ num ≤ 1000) ∧ 1 ≤ den ∧ den ≤ 1000 then (if far ws ln ld num den b = 0 then .tuple [vs false b, .int .i64 0] else .tuple [.vsl true [], .int .i64 4]) else .tuple [.vsl true [], .int .i64 21]) else .tuple [.vsl true [], .int .i64 20]
def nearRes (ws : List Int) (ln ld num den : Int) (b : List Int) : AV :=
  if okLathe ws ln ld then (if (1 ≤ num ∧ num ≤ 1000) ∧ 1 ≤ den ∧ den ≤ 1000 then .tuple [vs false b, .int .i64 0] else .tuple [.vsl true [], .int .i64 21]) else .tuple [.vsl true [], .int .i64 20]
theorem RefCut_ok (nl : Bool) (ws : List Int) (ln ld num den : Int) (hx : ws.length < 2 ^ 62) {b : List Int} (hb : okLathe ws ln ld → near ws ln ld num den (gl ws.length) = some (b, far ws ln ld num den b, gO ws ld b)) : ans prog O 20 [eL nl ws ln ld, .int .i64 num, .int .i64 den] = some (cutRes ws ln ld num den b) := by
  have hw := wanted_ok nl ws ln ld num den hx
  by_cases hl : okLathe ws ln ld
  · by_cases h2 : (1 ≤ num ∧ num ≤ 1000) ∧ 1 ≤ den ∧ den ≤ 1000
    · have hne := nearest_ok nl ws ln ld num den hl h2.1 h2.2 (hb hl)
      rw [if_pos hl, if_pos h2] at hw
      by_cases h3 : far ws ln ld num den b = 0
      · have hres : cutRes ws ln ld num den b = .tuple [vs false b, .int .i64 0] := by unfold cutRes; rw [if_pos hl, if_pos h2, if_pos h3]
        rw [hres]
        refine fn_of' pl get20 (oo (by decide)) rfl rfl ?_
        simp +contextual (disch := omega) [hw, hne, h3]
      · have hres : cutRes ws ln ld num den b = .tuple [.vsl true [], .int .i64 4] := by unfold cutRes; rw [if_pos hl, if_pos h2, if_neg h3]
        rw [hres]
        refine fn_of' pl get20 (oo (by decide)) rfl rfl ?_
        simp +contextual (disch := omega) [hw, hne, h3]
    · rw [if_pos hl, if_neg h2] at hw
      have hres : cutRes ws ln ld num den b = .tuple [.vsl true [], .int .i64 21] := by unfold cutRes; rw [if_pos hl, if_neg h2]
      rw [hres]
      refine fn_of' pl get20 (oo (by decide)) rfl rfl ?_
      simp +contextual (disch := omega) [hw]
  · rw [if_neg hl] at hw
    have hres : cutRes ws ln ld num den b = .tuple [.vsl true [], .int .i64 20] := by unfold cutRes; rw [if_neg hl]
    rw [hres]
    refine fn_of' pl get20 (oo (by decide)) rfl rfl ?_
    simp +contextual (disch := omega) [hw]
theorem RefNearest_ok (nl : Bool) (ws : List Int) (ln ld num den : Int) (hx : ws.length < 2 ^ 62) {b : List Int} (hb : okLathe ws ln ld → near ws ln ld num den (gl ws.length) = some (b, far ws ln ld num den b, gO ws ld b)) : ans prog O 23 [eL nl ws ln ld, .int .i64 num, .int .i64 den] = some (nearRes ws ln ld num den b) := by
  have hw := wanted_ok nl ws ln ld num den hx
  by_cases hl : okLathe ws ln ld
  · by_cases h2 : (1 ≤ num ∧ num ≤ 1000) ∧ 1 ≤ den ∧ den ≤ 1000
    · have hne := nearest_ok nl ws ln ld num den hl h2.1 h2.2 (hb hl)
      rw [if_pos hl, if_pos h2] at hw
      have hres : nearRes ws ln ld num den b = .tuple [vs false b, .int .i64 0] := by unfold nearRes; rw [if_pos hl, if_pos h2]
      rw [hres]
      refine fn_of' pl get23 (oo (by decide)) rfl rfl ?_
      simp +contextual (disch := omega) [hw, hne]
    · rw [if_pos hl, if_neg h2] at hw
      have hres : nearRes ws ln ld num den b = .tuple [.vsl true [], .int .i64 21] := by unfold nearRes; rw [if_pos hl, if_neg h2]
      rw [hres]
      refine fn_of' pl get23 (oo (by decide)) rfl rfl ?_
      simp +contextual (disch := omega) [hw]
  · rw [if_neg hl] at hw
    have hres : nearRes ws ln ld num den b = .tuple [.vsl true [], .int .i64 20] := by unfold nearRes; rw [if_neg hl]
    rw [hres]
    refine fn_of' pl get23 (oo (by decide)) rfl rfl ?_
    simp +contextual (disch := omega) [hw]
@[simp] theorem isPitch_ok (a b : Int) : ans prog O 63 [.agg [.int .i64 a, .int .i64 b]] = some (.bool (decide ((1 ≤ a ∧ a ≤ 1000) ∧ 1 ≤ b ∧ b ≤ 1000))) := by
  refine fn_of' pl get63 (oo (by decide)) rfl rfl ?_
  simp +contextual (disch := omega) [Bool.and_assoc]
theorem off_ok (a b c d : Int) (h1 : 0 ≤ a * d) (h2 : a * d ≤ 2 ^ 60) (h3 : 0 ≤ c * b) (h4 : c * b ≤ 2 ^ 60) : ans prog O 67 [.agg [.int .i64 a, .int .i64 b], .agg [.int .i64 c, .int .i64 d]] = some (.agg [.int .i64 (max (a * d - c * b) (-(a * d - c * b))), .int .i64 b]) := by
  refine fn_of' pl get67 (oo (by decide)) rfl rfl ?_
  simp +contextual (disch := omega) []
theorem pless_ok (a b c d : Int) (h1 : 0 ≤ a * d) (h2 : a * d ≤ 2 ^ 61) (h3 : 0 ≤ c * b) (h4 : c * b ≤ 2 ^ 61) : ans prog O 68 [.agg [.int .i64 a, .int .i64 b], .agg [.int .i64 c, .int .i64 d]] = some (.bool (decide (a * d < c * b))) := by
  refine fn_of' pl get68 (oo (by decide)) rfl rfl ?_
  simp +contextual (disch := omega) []
end Go.Oct.Screw
