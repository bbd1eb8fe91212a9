/- The bounds between all pairs, and the greatest and least errors: they say the same, without the program. -/
import Derived.Test.YtcbiofokeadddaaOScrewFarW
set_option maxRecDepth 100000
set_option maxHeartbeats 4000000
set_option linter.unusedVariables false
set_option linter.unusedSimpArgs false
namespace Go.Oct.Screw
open Go.Oct
theorem node_surj (T : List Int) : ∀ m, m ≤ T.length → ∀ n, n < pre T m + 1 → 0 < m → ∃ i k, i < m ∧ k ≤ tn T i ∧ nodeN T i k = n
  | 0, _, n, h, h0 => by omega
  | m + 1, hm, n, h, _ => by
    by_cases hn : n = 0
    · exact ⟨0, 0, by omega, by omega, by simp [nodeN, hn]⟩
    · by_cases h1 : n < pre T m + 1
      · by_cases hm0 : m = 0
        · subst hm0; simp [pre] at h1; omega
        · obtain ⟨i, k, a, b, c⟩ := node_surj T m (by omega) n h1 (by omega)
          exact ⟨i, k, by omega, b, c⟩
      · simp only [pre] at h
        exact ⟨m, n - pre T m, by omega, by omega, by unfold nodeN; rw [if_neg (by omega)]; omega⟩
theorem node_inj {T : List Int} {i k i' k' : Nat} (hk : k ≤ tn T i) (hk' : k' ≤ tn T i') (h : nodeN T i k = nodeN T i' k') : (k = 0 ∧ k' = 0) ∨ (i = i' ∧ k = k') := by
  unfold nodeN at h
  by_cases h1 : k = 0
  · rw [if_pos h1] at h
    by_cases h2 : k' = 0
    · exact .inl ⟨h1, h2⟩
    · rw [if_neg h2] at h; omega
  · rw [if_neg h1] at h
    by_cases h2 : k' = 0
    · rw [if_pos h2] at h; omega
    · rw [if_neg h2] at h
      rcases Nat.lt_trichotomy i i' with hlt | e | hlt
      · have := pre_mono T (show i + 1 ≤ i' from hlt)
        simp only [pre] at this; omega
      · subst e; exact .inr ⟨rfl, by omega⟩
      · have := pre_mono T (show i' + 1 ≤ i from hlt)
        simp only [pre] at this; omega
def nd (T : List Int) (c : Nat) : Nat := nodeN T (c / 9) (c % 9)
theorem nd_lt {T : List Int} {c : Nat} (h : V T c) : nd T c < pre T T.length + 1 := nodeN_lt h.1 h.2
theorem V_of {T : List Int} {M : Int} (hs : okSet T M) {i k : Nat} (hi : i < T.length) (hk : k ≤ tn T i) : V T (9 * i + k) ∧ (9 * i + k) / 9 = i ∧ (9 * i + k) % 9 = k := by
  have h2 := hs.2 i hi
  have : tn T i ≤ 8 := by unfold tn; omega
  have e1 : (9 * i + k) / 9 = i := by omega
  have e2 : (9 * i + k) % 9 = k := by omega
  refine ⟨?_, e1, e2⟩
  unfold V
  rw [e1, e2]
  exact ⟨hi, hk⟩
/-- Numbers for the nodes, of numbers for the cells. -/
theorem lift_cells {T : List Int} {M : Int} {K : List Con} {x : Nat → Int} (hs : okSet T M) (hf : Feas T M K x) : ∃ y : Nat → Int, (∀ c, V T c → y (nd T c) = x c) ∧ y 0 = 0 ∧ ∀ n, n < pre T T.length + 1 → ∃ c, V T c ∧ nd T c = n := by
  have hT : 0 < T.length := by have := hs.1.1; omega
  have hsur : ∀ n, n < pre T T.length + 1 → ∃ c, V T c ∧ nd T c = n := fun n hn => by
    obtain ⟨i, k, h1, h2, h3⟩ := node_surj T T.length (Nat.le_refl _) n hn hT
    obtain ⟨v1, v2, v3⟩ := V_of hs h1 h2
    exact ⟨9 * i + k, v1, by unfold nd; rw [v2, v3]; exact h3⟩
  have hex : ∀ n, ∃ z : Int, ∀ c, V T c → nd T c = n → x c = z := by
    intro n
    by_cases h : ∃ c, V T c ∧ nd T c = n
    · obtain ⟨c, hc, hcn⟩ := h
      refine ⟨x c, fun c' hc' hcn' => ?_⟩
      have hh : nd T c' = nd T c := by rw [hcn, hcn']
      rcases node_inj hc'.2 hc.2 hh with ⟨e1, e2⟩ | ⟨e1, e2⟩
      · have b1 := hf.base (c / 9) hc.1
        have b2 := hf.base (c' / 9) hc'.1
        rw [show c = 9 * (c / 9) by omega, show c' = 9 * (c' / 9) by omega, b1, b2]
      · rw [show c' = c by omega]
    · exact ⟨0, fun c hc hcn => absurd ⟨c, hc, hcn⟩ h⟩
  refine ⟨fun n => Classical.choose (hex n), fun c hc => (Classical.choose_spec (hex (nd T c)) c hc rfl).symm, ?_, hsur⟩
  have h0 : V T 0 := by unfold V; exact ⟨hT, Nat.zero_le _⟩
  have e : nd T 0 = 0 := by simp [nd, nodeN]
  have := Classical.choose_spec (hex 0) 0 h0 e
  exact this.symm.trans (hf.base 0 hT)
theorem pot_upd {N : Nat} {D : Mat} {a b : Nat} {c : Int} {y : Nat → Int} (ha : a < N) (hb : b < N) : Pot N (upd D a b (min (D a b) c)) y ↔ Pot N D y ∧ y a - y b ≤ c := by
  constructor
  · intro h
    have hab := h a b ha hb
    unfold upd at hab
    rw [if_pos ⟨rfl, rfl⟩] at hab
    refine ⟨fun i j hi hj => ?_, by omega⟩
    have := h i j hi hj
    unfold upd at this
    by_cases e : i = a ∧ j = b
    · obtain ⟨rfl, rfl⟩ := e
      omega
    · rwa [if_neg e] at this
  · rintro ⟨h1, h2⟩ i j hi hj
    unfold upd
    by_cases e : i = a ∧ j = b
    · obtain ⟨rfl, rfl⟩ := e
      rw [if_pos ⟨rfl, rfl⟩]
      have := h1 i j hi hj
      omega
    · rw [if_neg e]; exact h1 i j hi hj
theorem pot_rd1 {N : Nat} {D : Mat} {A B : Nat} {v w : Int} {y : Nat → Int} (hA : A < N) (hB : B < N) : Pot N (rd1 D A B v w) y ↔ Pot N D y ∧ y A - y B ≤ v + w ∧ y B - y A ≤ w - v := by
  unfold rd1
  rw [pot_upd hB hA, pot_upd hA hB, and_assoc]
theorem nd_reads {T : List Int} {M : Int} {r : Rd} (hs : okSet T M) (hr : okRd T r) : V T (ndA r) ∧ nd T (ndA r) = nodeN T r.a.toNat r.i.toNat ∧ V T (ndB r) ∧ nd T (ndB r) = nodeN T r.b.toNat r.j.toNat := by
  unfold okRd at hr
  obtain ⟨v1, v2, v3⟩ := V_of hs (i := r.a.toNat) (k := r.i.toNat) (by omega) (by unfold tn; omega)
  obtain ⟨u1, u2, u3⟩ := V_of hs (i := r.b.toNat) (k := r.j.toNat) (by omega) (by unfold tn; omega)
  exact ⟨v1, by unfold nd ndA; rw [v2, v3], u1, by unfold nd ndB; rw [u2, u3]⟩
theorem pot_rds {T : List Int} {M : Int} {l : List Rd} {but : Int} (hs : okSet T M) (hr : okRds T l) {y : Nat → Int} : ∀ j, j ≤ l.length → (Pot (pre T T.length + 1) (rds T M l but j) y ↔
    Pot (pre T T.length + 1) (W0 M) y ∧ ∀ i, i < j → (i : Int) ≠ but → y (nd T (ndA (nth l i))) - y (nd T (ndB (nth l i))) ≤ (nth l i).v + (nth l i).w ∧ y (nd T (ndB (nth l i))) - y (nd T (ndA (nth l i))) ≤ (nth l i).w - (nth l i).v)
  | 0, _ => ⟨fun h => ⟨h, fun i hi => by omega⟩, fun h => h.1⟩
  | j + 1, hj => by
    have ih := pot_rds (but := but) hs hr (y := y) j (by omega)
    obtain ⟨v1, v2, v3, v4⟩ := nd_reads hs (hr j (by omega))
    by_cases hb : (j : Int) = but
    · have e : rds T M l but (j + 1) = rds T M l but j := by simp only [rds, if_pos hb]
      rw [e, ih]
      refine ⟨fun h => ⟨h.1, fun i hi hib => h.2 i (by omega) hib⟩, fun h => ⟨h.1, fun i hi hib => h.2 i (by omega) hib⟩⟩
    · have e : rds T M l but (j + 1) = rd1 (rds T M l but j) (nodeN T (nth l j).a.toNat (nth l j).i.toNat) (nodeN T (nth l j).b.toNat (nth l j).j.toNat) (nth l j).v (nth l j).w := by simp only [rds, if_neg hb]
      rw [e, pot_rd1 (by rw [← v2]; exact nd_lt v1) (by rw [← v4]; exact nd_lt v3), ih, ← v2, ← v4]
      constructor
      · rintro ⟨⟨h1, h2⟩, h3⟩
        refine ⟨h1, fun i hi hib => ?_⟩
        by_cases ei : i = j
        · subst ei; exact h3
        · exact h2 i (by omega) hib
      · rintro ⟨h1, h2⟩
        exact ⟨⟨h1, fun i hi hib => h2 i (by omega) hib⟩, h2 j (by omega) hb⟩
theorem rds_bnd {T : List Int} {M : Int} {l : List Rd} {but : Int} (hs : okSet T M) (hr : okRds T l) : ∀ j, j ≤ l.length → ∀ a b, -500000 ≤ rds T M l but j a b ∧ rds T M l but j a b ≤ 500000 ∧ rds T M l but j a a ≤ 0
  | 0, _, a, b => by
    have hM := hs.1.2
    show -500000 ≤ W0 M a b ∧ W0 M a b ≤ 500000 ∧ W0 M a a ≤ 0
    unfold W0
    rw [if_pos (rfl : a = a)]
    split
    · omega
    · split <;> omega
  | j + 1, hj, a, b => by
    have ih := rds_bnd (M := M) (but := but) hs hr j (by omega)
    have hrj := hr j (by omega)
    unfold okRd at hrj
    by_cases hb : (j : Int) = but
    · have e : rds T M l but (j + 1) = rds T M l but j := by simp only [rds, if_pos hb]
      rw [e]; exact ih a b
    · have e : rds T M l but (j + 1) = rd1 (rds T M l but j) (nodeN T (nth l j).a.toNat (nth l j).i.toNat) (nodeN T (nth l j).b.toNat (nth l j).j.toNat) (nth l j).v (nth l j).w := by simp only [rds, if_neg hb]
      rw [e]
      generalize nodeN T (nth l j).a.toNat (nth l j).i.toNat = A
      generalize nodeN T (nth l j).b.toNat (nth l j).j.toNat = B
      generalize rds T M l but j = D at *
      have u : ∀ (D : Mat) (p q : Nat) (c : Int), -500000 ≤ c → (∀ a b, -500000 ≤ D a b ∧ D a b ≤ 500000 ∧ D a a ≤ 0) → ∀ a b, -500000 ≤ upd D p q (min (D p q) c) a b ∧ upd D p q (min (D p q) c) a b ≤ 500000 ∧ upd D p q (min (D p q) c) a a ≤ 0 := by
        intro D p q c hc h a b
        have h1 := h a b
        have h2 := h p q
        have hle : ∀ i j, upd D p q (min (D p q) c) i j ≤ D i j := fun i j => by
          unfold upd
          split
          · rename_i e; rw [e.1, e.2]; omega
          · exact Int.le_refl _
        refine ⟨?_, Int.le_trans (hle a b) h1.2.1, Int.le_trans (hle a a) h1.2.2⟩
        unfold upd
        split <;> omega
      unfold rd1
      exact u _ _ _ _ (by omega) (u _ _ _ _ (by omega) ih) a b
/-- The readings but one. -/
def listBut (l : List Rd) (but : Int) : List Rd := if 0 ≤ but then without l but.toNat else l
theorem mem_without {l : List Rd} {i : Nat} {r : Rd} : r ∈ without l i ↔ ∃ j, j < l.length ∧ j ≠ i ∧ nth l j = r := by
  unfold without
  rw [List.mem_append, mem_nth, mem_nth]
  constructor
  · rintro (⟨j, hj, h⟩ | ⟨j, hj, h⟩)
    · simp at hj
      refine ⟨j, by omega, by omega, ?_⟩
      rw [← h, nth_take (by omega)]
      omega
    · simp at hj
      refine ⟨i + 1 + j, by omega, by omega, ?_⟩
      rw [← h, nth_drop (by omega)]
  · rintro ⟨j, h1, h2, h3⟩
    by_cases hlt : j < i
    · left
      exact ⟨j, by simp; omega, by rw [nth_take (by omega), h3]; omega⟩
    · right
      refine ⟨j - (i + 1), by simp; omega, ?_⟩
      rw [nth_drop (by omega), show i + 1 + (j - (i + 1)) = j by omega, h3]
theorem mem_but {l : List Rd} {but : Int} {r : Rd} : r ∈ listBut l but ↔ ∃ j, j < l.length ∧ (j : Int) ≠ but ∧ nth l j = r := by
  unfold listBut
  split
  · rw [mem_without]
    constructor
    · rintro ⟨j, a, b, c⟩; exact ⟨j, a, by omega, c⟩
    · rintro ⟨j, a, b, c⟩; exact ⟨j, a, by omega, c⟩
  · rw [mem_nth]
    constructor
    · rintro ⟨j, a, c⟩; exact ⟨j, a, by omega, c⟩
    · rintro ⟨j, a, b, c⟩; exact ⟨j, a, c⟩
/-- Errors that can be, seen from the nodes. -/
theorem feas_pot {T : List Int} {M : Int} {l : List Rd} {but : Int} (hs : okSet T M) (hr : okRds T l) {x y : Nat → Int} (hxy : ∀ c, V T c → y (nd T c) = x c) (hsur : ∀ n, n < pre T T.length + 1 → ∃ c, V T c ∧ nd T c = n) (h0 : y 0 = 0) :
    Feas T M (cons (listBut l but)) x ↔ Pot (pre T T.length + 1) (rds T M l but l.length) y := by
  have hM := hs.1.2
  have hT : 0 < T.length := by have := hs.1.1; omega
  rw [pot_rds hs hr l.length (Nat.le_refl _)]
  constructor
  · intro hf
    refine ⟨fun a b ha hb => ?_, fun i hi hib => ?_⟩
    · obtain ⟨c, hc, rfl⟩ := hsur a ha
      obtain ⟨d, hd, rfl⟩ := hsur b hb
      have b1 := hf.bnd c hc
      have b2 := hf.bnd d hd
      rw [hxy c hc, hxy d hd]
      unfold W0
      by_cases e : nd T c = nd T d
      · rw [if_pos e]
        have := hxy c hc
        have := hxy d hd
        rw [e] at *
        omega
      · rw [if_neg e]
        by_cases e2 : nd T c = 0 ∨ nd T d = 0
        · rw [if_pos e2]
          rcases e2 with e2 | e2
          · have := hxy c hc; rw [e2, h0] at this; omega
          · have := hxy d hd; rw [e2, h0] at this; omega
        · rw [if_neg e2]; omega
    · obtain ⟨v1, v2, v3, v4⟩ := nd_reads hs (hr i hi)
      have hm : nth l i ∈ listBut l but := mem_but.2 ⟨i, hi, hib, rfl⟩
      have := con_agree.1 hf.con _ hm
      unfold Agree at this
      rw [hxy _ v1, hxy _ v3]
      omega
  · rintro ⟨h1, h2⟩
    have hb : ∀ c, V T c → -M ≤ x c ∧ x c ≤ M := fun c hc => by
      have a1 := h1 (nd T c) 0 (nd_lt hc) (by omega)
      have a2 := h1 0 (nd T c) (by omega) (nd_lt hc)
      rw [hxy c hc, h0] at a1 a2
      unfold W0 at a1 a2
      by_cases e : nd T c = 0
      · rw [if_pos e] at a1
        rw [if_pos e.symm] at a2
        omega
      · rw [if_neg e, if_pos (.inr rfl)] at a1
        rw [if_neg (Ne.symm e), if_pos (.inl rfl)] at a2
        omega
    refine ⟨fun i hi => ?_, hb, con_agree.2 fun r hm => ?_⟩
    · have hv := V_base hi
      rw [← hxy _ hv, ← h0]
      congr 1
      unfold nd nodeN
      rw [if_pos (by omega)]
    · obtain ⟨j, hj, hjb, rfl⟩ := mem_but.1 hm
      obtain ⟨v1, v2, v3, v4⟩ := nd_reads hs (hr j hj)
      have := h2 j hj hjb
      rw [hxy _ v1, hxy _ v3] at this
      unfold Agree
      omega
/-- What the bounds say of the errors. -/
theorem far_law {T : List Int} {M : Int} {l : List Rd} {but : Int} (hs : okSet T M) (hr : okRds T l) (N : Nat) (hN : N = pre T T.length + 1) (D : Mat) (hD : D = fw N N (rds T M l but l.length)) :
    ((∃ a, a < N ∧ D a a < 0) → ∀ x, ¬ Feas T M (cons (listBut l but)) x) ∧
    ((∀ a, a < N → 0 ≤ D a a) → Great T M (cons (listBut l but)) (fun c => D (nd T c) 0) ∧ Least T M (cons (listBut l but)) (fun c => -D 0 (nd T c)) ∧ ∀ a b, a < N → b < N → -4294967296000000 ≤ D a b ∧ D a b ≤ 500000) := by
  have hT : 0 < T.length := by have := hs.1.1; omega
  have hT4 : T.length ≤ 4 := by have := hs.1.1; omega
  have hp := pre_le hs T.length (Nat.le_refl _)
  obtain ⟨s1, s2⟩ := fw_spec (N := N) (W := rds T M l but l.length) (by omega) (fun a b ha hb => ⟨(rds_bnd hs hr l.length (Nat.le_refl _) a b).1, (rds_bnd hs hr l.length (Nat.le_refl _) a b).2.1⟩)
  rw [← hD] at s1 s2
  have hfeas : ∀ x, Feas T M (cons (listBut l but)) x → ∃ y, Pot N (rds T M l but l.length) y ∧ (∀ c, V T c → y (nd T c) = x c) ∧ y 0 = 0 := fun x hx => by
    obtain ⟨y, y1, y2, y3⟩ := lift_cells hs hx
    exact ⟨y, by rw [hN]; exact (feas_pot hs hr y1 y3 y2).1 hx, y1, y2⟩
  have hsur : ∀ n, n < pre T T.length + 1 → ∃ c, V T c ∧ nd T c = n := fun n hn => by
    obtain ⟨i, k, h1, h2, h3⟩ := node_surj T T.length (Nat.le_refl _) n hn hT
    obtain ⟨v1, v2, v3⟩ := V_of hs h1 h2
    exact ⟨9 * i + k, v1, by unfold nd; rw [v2, v3]; exact h3⟩
  refine ⟨fun hneg x hx => ?_, fun hpos => ?_⟩
  · obtain ⟨y, hy, _⟩ := hfeas x hx
    exact s1 hneg y hy
  · obtain ⟨tri, bnd, snd⟩ := s2 hpos
    have h00 : D 0 0 = 0 := by
      have := hpos 0 (by omega)
      have := (bnd 0 0 (by omega) (by omega)).2
      have := (rds_bnd (M := M) (but := but) hs hr l.length (Nat.le_refl _) 0 0).2.2
      omega
    have e0 : nd T 0 = 0 := by simp [nd, nodeN]
    refine ⟨⟨(feas_pot hs hr (y := fun n => D n 0) (fun c hc => rfl) hsur h00).2 ?_, fun x hx c hc => ?_⟩, ⟨(feas_pot hs hr (y := fun n => -D 0 n) (fun c hc => rfl) hsur (by simp [h00])).2 ?_, fun x hx c hc => ?_⟩, fun a b ha hb => ?_⟩
    · rw [← hN]
      intro a b ha hb
      have := tri a 0 b ha (by omega) hb
      have := (bnd a b ha hb).2
      show D a 0 - D b 0 ≤ _
      omega
    · obtain ⟨y, hy, y1, y2⟩ := hfeas x hx
      have hlt := nd_lt hc
      have := snd y hy (nd T c) 0 (by omega) (by omega)
      rw [y1 c hc, y2] at this
      show x c ≤ D (nd T c) 0
      omega
    · rw [← hN]
      intro a b ha hb
      have := tri 0 b a (by omega) hb ha
      have := (bnd a b ha hb).2
      show -D 0 a - -D 0 b ≤ _
      omega
    · obtain ⟨y, hy, y1, y2⟩ := hfeas x hx
      have hlt := nd_lt hc
      have := snd y hy 0 (nd T c) (by omega) (by omega)
      rw [y1 c hc, y2] at this
      show -D 0 (nd T c) ≤ x c
      omega
    · have h1 := bnd a b ha hb
      have h2 := (rds_bnd (M := M) (but := but) hs hr l.length (Nat.le_refl _) a b)
      omega
end Go.Oct.Screw
