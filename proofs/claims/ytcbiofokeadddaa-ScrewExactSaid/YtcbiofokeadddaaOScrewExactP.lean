/- The theorem of the lathe, without the program. -/
import Derived.Test.YtcbiofokeadddaaOScrewCut
set_option maxRecDepth 100000
set_option maxHeartbeats 1000000
set_option linter.unusedVariables false
set_option linter.unusedSimpArgs false
namespace Go.Oct.Screw
open Go.Oct
/-- Is a list before another one? -/
def bef : List Int → List Int → Bool
  | [], [] => false
  | [], _ :: _ => true
  | _ :: _, [] => false
  | x :: xs, y :: ys => decide (x < y) || (decide (x = y) && bef xs ys)
theorem bef_asym : ∀ (a b : List Int), bef a b = true → bef b a = false
  | [], [], h => by simp [bef] at h
  | [], _ :: _, h => rfl
  | _ :: _, [], h => by simp [bef] at h
  | x :: xs, y :: ys, h => by
    simp only [bef, Bool.or_eq_true, Bool.and_eq_true, decide_eq_true_eq] at h
    simp only [bef, Bool.or_eq_false_iff, Bool.and_eq_false_iff, decide_eq_false_iff_not]
    rcases h with h | ⟨rfl, h⟩
    · exact ⟨by omega, .inl (by omega)⟩
    · exact ⟨by omega, .inr (bef_asym xs ys h)⟩
theorem bef_irr : ∀ a : List Int, bef a a = false
  | [] => rfl
  | x :: xs => by simp [bef, bef_irr xs]
theorem bef_pre (a b : List Int) : ∀ g : List Int, bef (g ++ a) (g ++ b) = bef a b
  | [] => rfl
  | x :: g => by
    simp only [List.cons_append, bef, bef_pre a b g]
    simp
theorem ext_pre {n : Nat} : ∀ (m : Nat) (g x : List Int), x ∈ ext n g m → ∃ r, x = g ++ r
  | 0, g, x, h => ⟨[], by rw [List.mem_singleton.1 h, List.append_nil]⟩
  | m + 1, g, x, h => by
    obtain ⟨w, _, h⟩ := List.mem_flatMap.1 h
    split at h
    · cases h
    · obtain ⟨r, rfl⟩ := ext_pre m _ x h
      exact ⟨(w : Int) :: r, by simp⟩
theorem ext_sorted {n : Nat} : ∀ (m : Nat) (g : List Int), (ext n g m).Pairwise fun x y => bef x y = true
  | 0, g => List.pairwise_singleton _ _
  | m + 1, g => by
    unfold ext
    rw [List.pairwise_flatMap]
    refine ⟨fun w _ => ?_, ?_⟩
    · split
      · exact List.Pairwise.nil
      · exact ext_sorted m _
    · refine List.Pairwise.imp ?_ (List.pairwise_lt_range (n := n))
      intro a b hab x hx y hy
      split at hx
      · cases hx
      · split at hy
        · cases hy
        · obtain ⟨r, rfl⟩ := ext_pre m _ x hx
          obtain ⟨s, rfl⟩ := ext_pre m _ y hy
          rw [List.append_assoc, List.append_assoc, bef_pre]
          simp [bef]
          omega
/-- What comes before in the list of all gears. -/
def isBefore (x y : List Int) : Prop := x.length < y.length ∨ x.length = y.length ∧ bef x y = true
theorem gl_sorted (n : Nat) : (gl n).Pairwise fun x y => ¬ isBefore y x := by
  unfold gl
  have hd0 : dist n [] := fun i hi => by simp at hi
  have h : ∀ m, (ext n [] m).Pairwise fun x y => ¬ isBefore y x := fun m => by
    refine List.Pairwise.imp_of_mem ?_ (ext_sorted (n := n) m [])
    intro x y hx hy hb
    have l1 := (ext_dist m [] hd0 x hx).2
    have l2 := (ext_dist m [] hd0 y hy).2
    rintro (h | ⟨_, h⟩)
    · omega
    · rw [bef_asym x y hb] at h; cases h
  rw [List.pairwise_append]
  refine ⟨h 2, h 4, fun x hx y hy => ?_⟩
  have l1 := (ext_dist 2 [] hd0 x hx).2
  have l2 := (ext_dist 4 [] hd0 y hy).2
  simp at l1 l2
  rintro (h | ⟨h, _⟩) <;> omega
theorem ext_mem {n : Nat} : ∀ (m : Nat) (p g : List Int), dist n (p ++ g) → g.length = m → p ++ g ∈ ext n p m
  | 0, p, g, _, h => by
    have : g = [] := List.eq_nil_of_length_eq_zero h
    subst this
    simp [ext]
  | m + 1, p, [], _, h => by simp at h
  | m + 1, p, x :: g, hd, h => by
    have hx := hd p.length (by simp)
    have hnx : nth (p ++ x :: g) p.length = x := by rw [nth_append_right (Nat.le_refl _) (by simp), Nat.sub_self, nth_zero]
    rw [hnx] at hx
    have e : ((x.toNat : Nat) : Int) = x := by omega
    refine List.mem_flatMap.2 ⟨x.toNat, List.mem_range.2 (by omega), ?_⟩
    rw [e, if_neg]
    · have := ext_mem m (p ++ [x]) g (by rw [List.append_assoc]; exact hd) (by simpa using h)
      rw [List.append_assoc] at this
      exact this
    · intro hm
      obtain ⟨k, hk, hk2⟩ := mem_nth.1 hm
      exact hx.2 k hk (by rw [nth_append_left hk]; exact hk2)
theorem gl_mem {n : Nat} {g : List Int} (h : okGears n g) : g ∈ gl n := by
  rcases h.1 with h1 | h1
  · exact List.mem_append_left _ (ext_mem 2 [] g h.2 h1)
  · exact List.mem_append_right _ (ext_mem 4 [] g h.2 h1)
/-- What the fold finds: the first one of those that are nearest. -/
theorem near_first {ws : List Int} {ln ld num den : Int} (hl : okLathe ws ln ld) (hn : 1 ≤ num ∧ num ≤ 1000) (hd : 1 ≤ den ∧ den ≤ 1000) : ∀ (R L : List (List Int)), (∀ x ∈ L ++ R, okGears ws.length x) →
    (∀ b o u, near ws ln ld num den L = some (b, o, u) → ∃ P S, L = P ++ b :: S ∧ (∀ x ∈ P, far ws ln ld num den b * gO ws ld x < far ws ln ld num den x * gO ws ld b) ∧ ∀ x ∈ S, far ws ln ld num den b * gO ws ld x ≤ far ws ln ld num den x * gO ws ld b) →
    ∀ b o u, near ws ln ld num den (L ++ R) = some (b, o, u) → ∃ P S, L ++ R = P ++ b :: S ∧ (∀ x ∈ P, far ws ln ld num den b * gO ws ld x < far ws ln ld num den x * gO ws ld b) ∧ ∀ x ∈ S, far ws ln ld num den b * gO ws ld x ≤ far ws ln ld num den x * gO ws ld b
  | [], L, hok, h, b, o, u, hb => by rw [List.append_nil] at hb ⊢; exact h b o u hb
  | g :: R, L, hok, h, b, o, u, hb => by
    have e : L ++ g :: R = (L ++ [g]) ++ R := by simp
    rw [e] at hb hok ⊢
    refine near_first hl hn hd R (L ++ [g]) hok ?_ b o u hb
    clear hb b o u
    intro b o u hb
    rw [near_add] at hb
    have hnok := near_ok ws ln ld num den L
    have hgk : okGears ws.length g := hok g (by simp)
    cases hnl : near ws ln ld num den L with
    | none =>
      rw [hnl] at hb hnok
      obtain rfl : L = [] := hnok
      simp only [nstep] at hb
      obtain rfl : g = b := congrArg Prod.fst (Option.some.inj hb)
      exact ⟨[], [], rfl, by simp, by simp⟩
    | some y =>
      obtain ⟨c, o', u'⟩ := y
      rw [hnl] at hb hnok
      obtain ⟨hc, rfl, rfl⟩ := hnok
      obtain ⟨P, S, hL, hP, hS⟩ := h c _ _ hnl
      have hck : okGears ws.length c := hok c (by simp [hc])
      simp only [nstep] at hb
      split at hb
      · rename_i hlt
        obtain rfl : g = b := congrArg Prod.fst (Option.some.inj hb)
        refine ⟨L, [], rfl, fun x hx => ?_, by simp⟩
        have hxk : okGears ws.length x := hok x (by simp [hx])
        have hle : far ws ln ld num den c * gO ws ld x ≤ far ws ln ld num den x * gO ws ld c := by
          rw [hL] at hx
          rcases List.mem_append.1 hx with hx | hx
          · exact Int.le_of_lt (hP x hx)
          · rcases List.mem_cons.1 hx with rfl | hx
            · exact Int.le_refl _
            · exact hS x hx
        have uc := (g_bd hl hck).2.1
        have ug := (g_bd hl hgk).2.1
        have ux := (g_bd hl hxk).2.1
        have fg := (far_bd hl hgk hn hd).2.2.1
        have a1 : far ws ln ld num den g * gO ws ld c * gO ws ld x < far ws ln ld num den c * gO ws ld g * gO ws ld x := Int.mul_lt_mul_of_pos_right hlt (by omega)
        have a2 : far ws ln ld num den c * gO ws ld x * gO ws ld g ≤ far ws ln ld num den x * gO ws ld c * gO ws ld g := Int.mul_le_mul_of_nonneg_right hle (by omega)
        have a3 : far ws ln ld num den g * gO ws ld x * gO ws ld c < far ws ln ld num den x * gO ws ld g * gO ws ld c := by
          rw [Int.mul_right_comm, Int.mul_right_comm (far ws ln ld num den x)]
          rw [Int.mul_right_comm (far ws ln ld num den c) (gO ws ld x)] at a2
          omega
        exact Int.lt_of_mul_lt_mul_right a3 (by omega)
      · rename_i hge
        obtain rfl : c = b := congrArg Prod.fst (Option.some.inj hb)
        refine ⟨P, S ++ [g], by rw [hL]; simp, hP, fun x hx => ?_⟩
        rcases List.mem_append.1 hx with hx | hx
        · exact hS x hx
        · obtain rfl := List.mem_singleton.1 hx
          omega
/-- No gears are nearer, and none that come before are as near. -/
theorem near_best {ws : List Int} {ln ld num den : Int} (hl : okLathe ws ln ld) (hn : 1 ≤ num ∧ num ≤ 1000) (hd : 1 ≤ den ∧ den ≤ 1000) {b : List Int} {o u : Int} (hb : near ws ln ld num den (gl ws.length) = some (b, o, u)) {x : List Int} (hx : okGears ws.length x) :
    far ws ln ld num den b * gO ws ld x < far ws ln ld num den x * gO ws ld b ∨ far ws ln ld num den b * gO ws ld x = far ws ln ld num den x * gO ws ld b ∧ ¬ isBefore x b := by
  obtain ⟨P, S, hL, hP, hS⟩ := near_first hl hn hd (gl ws.length) [] (by simpa using fun x hx => gl_ok x hx) (fun b o u h => by simp [near] at h) b o u (by simpa using hb)
  rw [List.nil_append] at hL
  have hm := gl_mem hx
  have hs := gl_sorted ws.length
  rw [hL] at hm hs
  rcases List.mem_append.1 hm with h | h
  · exact .inl (hP x h)
  · have hs2 := (List.pairwise_append.1 hs).2.1
    rcases List.mem_cons.1 h with rfl | h
    · exact .inr ⟨rfl, fun hc => by rcases hc with h | ⟨_, h⟩; omega; rw [bef_irr] at h; cases h⟩
    · have := (List.pairwise_cons.1 hs2).1 x h
      have h2 := hS x h
      by_cases e : far ws ln ld num den b * gO ws ld x = far ws ln ld num den x * gO ws ld b
      · exact .inr ⟨e, this⟩
      · exact .inl (by omega)
/-- So many wheels are not all on a shorter list. -/
theorem free_wheel : ∀ (n : Nat) (g : List Int), g.length < n → ∃ w : Nat, w < n ∧ ¬ (w : Int) ∈ g
  | 0, g, h => by omega
  | n + 1, g, h => by
    by_cases hm : (n : Int) ∈ g
    · have h1 : (g.filter fun x => decide (x ≠ (n : Int))).length < g.length := by
        rw [List.length_filter_lt_length_iff_exists]
        exact ⟨n, hm, by simp⟩
      obtain ⟨w, h2, h3⟩ := free_wheel n (g.filter fun x => decide (x ≠ (n : Int))) (by omega)
      refine ⟨w, by omega, fun h4 => h3 ?_⟩
      rw [List.mem_filter]
      exact ⟨h4, by simp; omega⟩
    · exact ⟨n, by omega, hm⟩
end Go.Oct.Screw
