/- All gears, in the reference. -/
import Derived.Test.YtcbiofokeadddaaOScrewGears
import Derived.Test.YtcbiofokeadddaaOT4
set_option maxRecDepth 100000
set_option maxHeartbeats 4000000
set_option linter.unusedVariables false
set_option linter.unusedSimpArgs false
namespace Go.Oct.Screw
open Go.Oct
theorem extT_zero (n : Nat) (g : List Int) (m : Nat) : extT n g m 0 = [] := rfl
theorem ext_len {n : Nat} (hn : n ≤ 10) : ∀ m g, (ext n g m).length ≤ 10 ^ m
  | 0, g => by simp [ext]
  | m + 1, g => by
    have : ∀ w, (extT n g m w).length ≤ w * 10 ^ m := by
      intro w
      induction w with
      | zero => simp [extT]
      | succ w ih =>
        rw [extT_succ, List.length_append, Nat.succ_mul]
        have := ext_len hn m (g ++ [(w : Int)])
        split
        · simp; omega
        · omega
    have h := this n
    rw [← ext_succ] at h
    rw [Nat.pow_succ, Nat.mul_comm]
    exact Nat.le_trans h (Nat.mul_le_mul_right _ hn)
theorem extT_len {n : Nat} (hn : n ≤ 10) (m : Nat) (g : List Int) (w : Nat) : (extT n g m w).length ≤ w * 10 ^ m := by
  induction w with
  | zero => simp [extT]
  | succ w ih =>
    rw [extT_succ, List.length_append, Nat.succ_mul]
    have := ext_len hn m (g ++ [(w : Int)])
    split
    · simp; omega
    · omega
theorem gears4 {n a b c d : Nat} (ha : a < n) (hb : b < n) (hc : c < n) (hd : d < n) (hab : a ≠ b) : okGears n [(a : Int), b, c, d] ↔ ¬ (c : Int) ∈ [(a : Int), b] ∧ ¬ (d : Int) ∈ [(a : Int), b, c] := by
  constructor
  · rintro ⟨_, h⟩
    have h2 := (h 2 (by simp)).2
    have h3 := (h 3 (by simp)).2
    have e20 := h2 0 (by omega); have e21 := h2 1 (by omega)
    have e30 := h3 0 (by omega); have e31 := h3 1 (by omega); have e32 := h3 2 (by omega)
    simp [nth] at e20 e21 e30 e31 e32
    simp
    omega
  · rintro ⟨h1, h2⟩
    have d0 : dist n [] := fun i hi => by simp at hi
    have d1 := dist_add d0 ha (by simp)
    have d2 := dist_add d1 hb (by simp; omega)
    have d3 := dist_add d2 hc (by simpa using h1)
    have d4 := dist_add d3 hd (by simpa using h2)
    exact ⟨.inr rfl, d4⟩
theorem all_ok (nl : Bool) (ws : List Int) (num den : Int) (hl : okLathe ws num den) : ans prog O 97 [eL nl ws num den] = some (vl eRow false ((ext ws.length [] 2 ++ ext ws.length [] 4).map fun x => (false, x))) := by
  obtain ⟨⟨⟨n1, n2⟩, _⟩, _⟩ := id hl
  have hn10 : ws.length ≤ 10 := by omega
  generalize hn : ws.length = n at *
  refine fn_of' pl get97 (oo (by decide)) rfl rfl ?_
  simp +contextual (disch := omega) [hn]
  have hbx : ∀ σ σ' : AH, Keep 1 σ σ' → σ.get 0 = some (.cells [vs nl ws, .int .i64 num, .int .i64 den]) → σ'.get 0 = some (.cells [vs nl ws, .int .i64 num, .int .i64 den]) := fun σ σ' h1 h2 => by rw [h1.get 0 (by omega)]; exact h2
  refine lp_loop pl (fun k fr σ => ∃ (a : Nat) (v3 v4 : AV), a + k = n ∧ fr = ⟨[(1, .ptr (some (0, 0))), (3, v3), (4, v4), (5, .int .i64 n), (6, .int .i64 a)], []⟩ ∧ σ.lim = 0 ∧ 1 ≤ σ.next ∧ σ.get 0 = some (.cells [vs nl ws, .int .i64 num, .int .i64 den]) ∧ Two 1 σ v3 (extT n [] 1 a) v4 (extT n [] 3 a))
    ⟨n, 0, .vsl true [], .vsl true [], by omega, rfl, rfl, by show 1 ≤ 0 + 1; omega, by simp, Two.nil⟩ ?_
  rintro k _ σ ⟨a, v3, v4, ha, rfl, hlim, hnx, hg0, ht⟩
  simp +contextual (disch := omega) [Und]
  refine ⟨fun han => ?_, fun han => ?_⟩
  · refine lp_loop pl (fun k2 fr σ => ∃ (b : Nat) (v3 v4 : AV), b + k2 = n ∧ fr = ⟨[(1, .ptr (some (0, 0))), (3, v3), (4, v4), (5, .int .i64 n), (6, .int .i64 a), (7, .int .i64 b)], []⟩ ∧ σ.lim = 0 ∧ 1 ≤ σ.next ∧ σ.get 0 = some (.cells [vs nl ws, .int .i64 num, .int .i64 den]) ∧
      Two 1 σ v3 (extT n [] 1 a ++ extT n [(a : Int)] 0 b) v4 (extT n [] 3 a ++ extT n [(a : Int)] 2 b)) ⟨n, 0, v3, v4, by omega, rfl, hlim, hnx, hg0, by rw [extT_zero, extT_zero, List.append_nil, List.append_nil]; exact ht⟩ ?_
    clear ht hg0 hnx hlim v3 v4 σ
    rintro k2 _ σ ⟨b, v3, v4, hb, rfl, hlim, hnx, hg0, ht⟩
    simp +contextual (disch := omega) [Und]
    refine ⟨fun hbn => ⟨fun hab => ?_, fun hab => ?_⟩, fun hbn => ?_⟩
    · obtain rfl : a = b := by omega
      exact ⟨k2 - 1, by omega, a + 1, by omega, v3, v4, ⟨rfl, rfl, by omega⟩, hlim, hnx, hg0, by rw [extT_succ, extT_succ, if_pos (by simp), if_pos (by simp), List.append_nil, List.append_nil]; exact ht⟩
    · have hab' : a ≠ b := by omega
      have l1 := extT_len hn10 1 [] a
      have l2 := extT_len hn10 0 [(a : Int)] b
      refine ht.push (by omega) hnx [(a : Int), b] rfl rfl (by rw [List.length_append]; simp only [topBytes]; omega) fun v3' σ' ht' hk' => ?_
      have hlim' := hk'.lim
      have hnx' := hk'.next
      have hg0' := hbx _ _ hk' hg0
      simp +contextual (disch := omega) []
      clear l1 l2 ht hg0
      refine lp_loop pl (fun k3 fr σ => ∃ (c : Nat) (v4 : AV), c + k3 = n ∧ fr = ⟨[(1, .ptr (some (0, 0))), (3, v3'), (4, v4), (5, .int .i64 n), (6, .int .i64 a), (7, .int .i64 b), (8, .int .i64 c)], []⟩ ∧ σ.lim = 0 ∧ 1 ≤ σ.next ∧ σ.get 0 = some (.cells [vs nl ws, .int .i64 num, .int .i64 den]) ∧
        Two 1 σ v3' (extT n [] 1 a ++ extT n [(a : Int)] 0 b ++ [[(a : Int), b]]) v4 (extT n [] 3 a ++ extT n [(a : Int)] 2 b ++ extT n [(a : Int), b] 1 c)) ⟨n, 0, v4, by omega, rfl, by omega, by omega, hg0', by rw [extT_zero, List.append_nil]; exact ht'⟩ ?_
      clear ht' hg0' hnx' hlim' hk' v4 hlim hnx σ σ' v3
      rintro k3 _ σ ⟨c, v4, hc, rfl, hlim, hnx, hg0, ht⟩
      simp +contextual (disch := omega) [Und]
      refine ⟨fun hcn => ?_, fun hcn => ?_⟩
      · refine lp_loop pl (fun k4 fr σ => ∃ (d : Nat) (v4 : AV), d + k4 = n ∧ fr = ⟨[(1, .ptr (some (0, 0))), (3, v3'), (4, v4), (5, .int .i64 n), (6, .int .i64 a), (7, .int .i64 b), (8, .int .i64 c), (9, .int .i64 d)], []⟩ ∧ σ.lim = 0 ∧ 1 ≤ σ.next ∧ σ.get 0 = some (.cells [vs nl ws, .int .i64 num, .int .i64 den]) ∧
          Two 1 σ v3' (extT n [] 1 a ++ extT n [(a : Int)] 0 b ++ [[(a : Int), b]]) v4 (extT n [] 3 a ++ extT n [(a : Int)] 2 b ++ extT n [(a : Int), b] 1 c ++ if (c : Int) ∈ [(a : Int), b] then [] else extT n [(a : Int), b, c] 0 d)) ⟨n, 0, v4, by omega, rfl, hlim, hnx, hg0, by rw [extT_zero, ite_self, List.append_nil]; exact ht⟩ ?_
        clear ht hg0 hlim hnx v4 σ
        rintro k4 _ σ ⟨d, v4, hd, rfl, hlim, hnx, hg0, ht⟩
        simp +contextual (disch := omega) [Und, hg0]
        refine ⟨fun hdn => ?_, fun hdn => ?_⟩
        · have hlit : Whole 0 1 (AV.int .i64) (σ.push (.cells [.int .i64 a, .int .i64 b, .int .i64 c, .int .i64 d])) (.slice (some (σ.next, 0)) 4 (.ex 4)) [(a : Int), b, c, d] :=
            ⟨σ.next, .ex 4, rfl, Nat.zero_le _, by simp [rowOf], .inr rfl⟩
          have har := areGears_ok nl false ws [(a : Int), b, c, d] num den (by omega) (by simp)
          rw [hn] at har
          have hg4 := gears4 (n := n) (a := a) (b := b) (c := c) (d := d) (by omega) (by omega) (by omega) (by omega) hab'
          refine pc_scal (.cons ⟨rfl, fun _ _ => rfl⟩ (.cons (hlit.view.snap encI flatI) .nil)) (fun h => by cases h) (by simp) (oo (args := []) (by decide)).1 har rfl ?_
          have ht1 := ht.stay (Only.push [] σ (.cells [.int .i64 a, .int .i64 b, .int .i64 c, .int .i64 d]))
          have hg1 : (σ.push (.cells [.int .i64 a, .int .i64 b, .int .i64 c, .int .i64 d])).get 0 = some (.cells [vs nl ws, .int .i64 num, .int .i64 den]) := by rw [get_push, if_neg (by omega)]; exact hg0
          have hlm1 : (σ.push (.cells [.int .i64 a, .int .i64 b, .int .i64 c, .int .i64 d])).lim = 0 := hlim
          have hnx1 : 1 ≤ (σ.push (.cells [.int .i64 a, .int .i64 b, .int .i64 c, .int .i64 d])).next := Nat.le_succ_of_le hnx
          generalize σ.push (.cells [.int .i64 a, .int .i64 b, .int .i64 c, .int .i64 d]) = σ1 at *
          by_cases hok : okGears n [(a : Int), b, c, d]
          · obtain ⟨hc1, hd1⟩ := hg4.1 hok
            rw [if_neg hc1] at ht1
            simp +contextual (disch := omega) [hok]
            have l3 := extT_len hn10 3 [] a
            have l4 := extT_len hn10 2 [(a : Int)] b
            have l5 := extT_len hn10 1 [(a : Int), b] c
            have l6 := extT_len hn10 0 [(a : Int), b, c] d
            refine ht1.swap.push (by omega) hnx1 [(a : Int), b, c, d] rfl rfl (by simp only [List.length_append, topBytes]; omega) fun v4' σ' ht' hk' => ?_
            have h1 := hk'.lim
            have h2 := hk'.next
            have h3 := hbx _ _ hk' hg1
            simp +contextual (disch := omega) []
            refine ⟨k4 - 1, by omega, d + 1, by omega, v4', ⟨rfl, by omega⟩, by omega, by omega, h3, ?_⟩
            rw [if_neg (by simpa using hc1), extT_succ, if_neg hd1]
            have := ht'.swap
            simp only [List.append_assoc] at this ⊢
            exact this
          · simp +contextual (disch := omega) [hok]
            refine ⟨k4 - 1, by omega, d + 1, by omega, v4, ⟨rfl, by omega⟩, hlm1, hnx1, hg1, ?_⟩
            have := ht1
            simp only [List.append_assoc] at this ⊢
            by_cases hc1 : (c : Int) ∈ [(a : Int), b]
            · rw [if_pos (by simpa using hc1)]
              rw [if_pos hc1] at this
              exact this
            · rw [if_neg hc1] at this
              rw [if_neg (by simpa using hc1), extT_succ, if_pos (Classical.not_not.1 fun hd1 => hok (hg4.2 ⟨hc1, hd1⟩)), List.append_nil]
              exact this
        · obtain rfl : d = n := by omega
          refine ⟨k3 - 1, by omega, c + 1, by omega, v4, ⟨rfl, by omega⟩, hlim, hnx, ?_⟩
          have := ht
          simp only [List.append_assoc] at this ⊢
          rw [extT_succ]
          exact this
      · obtain rfl : c = n := by omega
        refine ⟨k2 - 1, by omega, b + 1, by omega, v3', v4, ⟨rfl, rfl, by omega⟩, hlim, hnx, hg0, ?_⟩
        rw [extT_succ, if_neg (by simp; omega), extT_succ c [(a : Int)], if_neg (by simp; omega), ← List.append_assoc, ← List.append_assoc, ext_succ]
        exact ht
    · obtain rfl : b = n := by omega
      refine ⟨k - 1, by omega, a + 1, by omega, v3, v4, ⟨rfl, rfl, by omega⟩, hlim, hnx, hg0, ?_⟩
      rw [extT_succ, if_neg (by simp), extT_succ, if_neg (by simp), ext_succ, ext_succ]
      exact ht
  · obtain rfl : a = n := by omega
    have l1 := extT_len hn10 1 [] a
    have l2 := extT_len hn10 3 [] a
    have hne : extT a [] 1 a ≠ [] := by
      have h2 : ∀ m, (1 : Nat) < m → m ≤ a → extT a [] 1 m ≠ [] := by
        intro m
        induction m with
        | zero => intro h; omega
        | succ m ih =>
          intro h1 h2
          rw [extT_succ, if_neg (by simp), ext_succ]
          intro he
          have h3 := (List.append_eq_nil_iff.1 he).2
          have : ∀ w, 1 < w → w ≤ a → extT a ([] ++ [(m : Int)]) 0 w ≠ [] := by
            intro w
            induction w with
            | zero => intro h; omega
            | succ w ihw =>
              intro h4 h5 h6
              rw [extT_succ] at h6
              obtain ⟨h7, h8⟩ := List.append_eq_nil_iff.1 h6
              by_cases e : 1 < w
              · exact ihw e (by omega) h7
              · obtain rfl : w = 1 := by omega
                rw [extT_succ] at h7
                obtain ⟨_, h9⟩ := List.append_eq_nil_iff.1 h7
                by_cases e0 : ((0 : Nat) : Int) ∈ ([] ++ [(m : Int)])
                · rw [if_neg (by simp at e0 ⊢; omega)] at h8
                  simp [ext] at h8
                · rw [if_neg e0] at h9
                  simp [ext] at h9
          exact this a (by omega) (Nat.le_refl _) h3
      exact h2 a (by omega) (Nat.le_refl _)
    refine ht.both (by omega) hnx hne (by simp only [topBytes]; omega) fun v' σ' hf => ?_
    simp +contextual (disch := omega) []
    rw [ext_succ, ext_succ]
    rw [← List.map_append]
    exact hf 5
end Go.Oct.Screw
