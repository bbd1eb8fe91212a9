/- Nets: from the net that is given to the net that is being given seconds. -/
import Derived.Test.YtddkghgfbhhcdaaOTriFloI
set_option maxRecDepth 100000
set_option maxHeartbeats 4000000
set_option linter.unusedVariables false
set_option linter.unusedSimpArgs false
namespace Go.Oct.Tri
open Go.Oct
/-- The place of a station. -/
def plc (C : List Bool) (s : Int) : Nat := if nth C s.toNat = true then 8 + s.toNat else 16
def ed (C : List Bool) (a : An) : Ed := ⟨a.t.toNat, plc C a.s, a.lo, a.hi⟩
def edges (C : List Bool) (A : List An) : List Ed := A.map (ed C)
def lows (A : List An) : List Int := A.map An.lo
def okAn (T : Int) (m : Nat) (a : An) : Prop := (0 ≤ a.t ∧ a.t < T) ∧ (0 ≤ a.s ∧ a.s < m) ∧ 0 ≤ a.lo ∧ a.lo ≤ a.hi ∧ a.hi ≤ 648000
instance (T : Int) (m : Nat) (a : An) : Decidable (okAn T m a) := by unfold okAn; infer_instance
/-- How many angles are in a triangle. -/
def cntT (A : List An) (t : Int) : Nat := (A.filter fun a => decide (a.t = t)).length
def okNet (T : Int) (C : List Bool) (A : List An) : Prop :=
  (1 ≤ T ∧ T ≤ 8) ∧ (1 ≤ C.length ∧ C.length ≤ 8) ∧ (A.length : Int) = 3 * T ∧ (∀ i, i < A.length → okAn T C.length (nth A i)) ∧
    (∀ i, i < A.length → ∀ j, j < i → ¬ ((nth A j).t = (nth A i).t ∧ (nth A j).s = (nth A i).s)) ∧ ∀ t, t < T.toNat → cntT A t = 3
instance (T : Int) (C : List Bool) (A : List An) : Decidable (okNet T C A) := by unfold okNet; infer_instance
theorem edges_len (C : List Bool) (A : List An) : (edges C A).length = A.length := by simp [edges]
theorem edges_nth (C : List Bool) {A : List An} {i : Nat} (h : i < A.length) : nth (edges C A) i = ed C (nth A i) := nth_map _ h
theorem lows_nth {A : List An} {i : Nat} (h : i < A.length) : nth (lows A) i = (nth A i).lo := nth_map _ h
theorem plc_le {C : List Bool} {s : Int} (h : C.length ≤ 8) (h2 : s < C.length) (h0 : 0 ≤ s) : 8 ≤ plc C s ∧ plc C s ≤ 16 := by
  unfold plc; split <;> omega
theorem okE_edges {T : Int} {C : List Bool} {A : List An} (h : okNet T C A) : okE (edges C A) := by
  obtain ⟨h1, h2, h3, h4, h5, h6⟩ := h
  refine ⟨by rw [edges_len]; omega, fun i hi => ?_⟩
  rw [edges_len] at hi
  obtain ⟨a1, a2, a3, a4, a5⟩ := h4 i hi
  obtain ⟨p1, p2⟩ := plc_le (C := C) (s := (nth A i).s) (by omega) a2.2 a2.1
  rw [edges_nth C hi]
  unfold ed
  exact ⟨by show (nth A i).t.toNat < 8; omega, p1, p2, a3, a4, a5⟩
theorem inE_lows {T : Int} {C : List Bool} {A : List An} (h : okNet T C A) : inE (edges C A) (lows A) := by
  refine ⟨by simp [edges, lows], fun i hi => ?_⟩
  rw [edges_len] at hi
  obtain ⟨a1, a2, a3, a4, a5⟩ := h.2.2.2.1 i hi
  rw [edges_nth C hi, lows_nth hi]
  exact ⟨Int.le_refl _, a4⟩
theorem sAt_app : ∀ (E : List Ed) (h : List Int) (e : Ed) (x : Int) (p : Nat), h.length = E.length → sAt (E ++ [e]) (h ++ [x]) p = sAt E h p + if e.at p then x else 0
  | [], [], e, x, p, _ => by simp [sAt]
  | [], _ :: _, _, _, _, h => by simp at h
  | _ :: _, [], _, _, _, h => by simp at h
  | a :: E, y :: h, e, x, p, hl => by
    have := sAt_app E h e x p (by simpa using hl)
    simp only [List.cons_append, sAt, this]
    omega
theorem sAt_bd : ∀ (E : List Ed) (h : List Int) (p : Nat), (∀ i, i < h.length → 0 ≤ nth h i ∧ nth h i ≤ 648000) → h.length = E.length → 0 ≤ sAt E h p ∧ sAt E h p ≤ 648000 * E.length
  | [], [], _, _, _ => by simp [sAt]
  | [], _ :: _, _, _, h => by simp at h
  | _ :: _, [], _, _, h => by simp at h
  | e :: E, x :: h, p, hb, hl => by
    have ih := sAt_bd E h p (fun i hi => by simpa using hb (i + 1) (by simpa using hi)) (by simpa using hl)
    have h0 := hb 0 (by simp)
    simp only [nth_zero] at h0
    simp only [sAt, List.length_cons]
    split <;> omega
/-- What a place is to have. -/
def Bt0 (T : Int) (C : List Bool) (p : Nat) : Int := if (p : Int) < T then 648000 else if 8 ≤ p ∧ p < 8 + C.length ∧ nth C (p - 8) = true then 1296000 else 0
/-- A net, in cells, whatever its angles lie in. -/
def netV (T : Int) (nC : Bool) (C : List Bool) (aA : AV) (v : AV) (L : List Int) : List AV :=
  .int .i64 T :: vl AV.bool nC C :: aA :: v :: L.map (AV.int .i64)
section
variable {T : Int} {nC : Bool} {C : List Bool} {aA : AV} {v : AV} {L : List Int}
theorem netV_C (i m : Nat) : netV T nC C aA (.slice (some (i, 0)) m (.op 5)) L = netC T nC C aA i m L := rfl
@[simp] theorem netV_0 : (netV T nC C aA v L)[0]? = some (.int .i64 T) := (rfl)
@[simp] theorem netV_1 : (netV T nC C aA v L)[1]? = some (vl AV.bool nC C) := (rfl)
@[simp] theorem netV_2 : (netV T nC C aA v L)[2]? = some aA := (rfl)
@[simp] theorem netV_3 : (netV T nC C aA v L)[3]? = some v := (rfl)
theorem netV_L {k : Nat} (hk : k < L.length) : (netV T nC C aA v L)[4 + k]? = some (.int .i64 (nth L k)) := by
  rw [Nat.add_comm]
  show (L.map (AV.int .i64))[k]? = _
  rw [List.getElem?_map, nth_get? hk]; rfl
theorem netV_len : (netV T nC C aA v L).length = 4 + L.length := by simp [netV]; omega
theorem netV_set {k : Nat} (y : Int) : (netV T nC C aA v L).set (4 + k) (.int .i64 y) = netV T nC C aA v (L.set k y) := by
  rw [Nat.add_comm]
  simp [netV, List.map_set]
theorem netV_set3 (w : AV) : (netV T nC C aA v L).set 3 w = netV T nC C aA w L := rfl
end
def eG (x : Ed × Int) : AV := .agg [.int .i64 x.1.u, .int .i64 x.1.v, .int .i64 x.2, .int .i64 x.1.lo, .int .i64 x.1.hi]
theorem encG : Enc eG 5 := ⟨fun _ => rfl, fun _ => rfl, fun _ => rfl, by decide⟩
theorem rowG : ∀ xs : List (Ed × Int), rowOf eG xs = gRow (xs.map (·.1)) (xs.map (·.2))
  | [] => rfl
  | x :: xs => by
    have := rowG xs
    unfold rowOf at this ⊢
    rw [List.flatMap_cons, this]
    rfl
def gl (C : List Bool) (A : List An) : List (Ed × Int) := A.map fun a => (ed C a, a.lo)
theorem gl_row (C : List Bool) (A : List An) : rowOf eG (gl C A) = gRow (edges C A) (lows A) := by
  rw [rowG]
  unfold gl edges lows
  rw [List.map_map, List.map_map]
  rfl
/-- A net, as it is given. -/
def eNet (T : Int) (nC : Bool) (C : List Bool) (nA : Bool) (A : List An) : AV := .agg [.int .i64 T, vl AV.bool nC C, vl eAn nA A]
theorem rowAn_at {A : List An} {k : Nat} (hk : k < A.length) : ((rowOf eAn A).drop (k * 4)).take 4 = (eAn (nth A k)).cells := by
  induction A generalizing k with
  | nil => simp at hk
  | cons x A ih =>
    cases k with
    | zero => rfl
    | succ k =>
      have := ih (k := k) (by simpa using hk)
      rw [Nat.succ_mul]
      unfold rowOf at this ⊢
      simp only [List.flatMap_cons, nth_succ, ← this, cells_eAn]
      rfl
/-- A slice that reads as a list of angles. -/
inductive RdA (σ : AH) (A : List An) : AV → Prop
  | vl (nl : Bool) : RdA σ A (vl eAn nl A)
  | sl (o : Nat) (c : ACap) : σ.get o = some (.cells (rowOf eAn A)) → (c = .op 4 ∨ c = .ex A.length) → RdA σ A (.slice (some (o, 0)) A.length c)
theorem RdA.len {σ : AH} {A : List An} {w : AV} (h : RdA σ A w) : alen w = some (.int .i64 A.length) := by
  cases h with
  | vl nl => simp
  | sl o c _ _ => rfl
theorem RdA.keep {σ σ' : AH} {A : List An} {w : AV} (h : RdA σ A w) (hk : ∀ q, q < σ.next → σ'.get q = σ.get q) : RdA σ' A w := by
  cases h with
  | vl nl => exact .vl nl
  | sl o c g hc => exact .sl o c (by rw [hk o (AH.get_lt g)]; exact g) hc
theorem RdA.at {σ : AH} {A : List An} {w : AV} (h : RdA σ A w) {q : Nat} (hq : q < A.length) : ∃ p, aidx 4 w (.int .i64 q) = some p ∧ aload σ true 4 p = some (.agg [.int .i64 (nth A q).t, .int .i64 (nth A q).s, .int .i64 (nth A q).lo, .int .i64 (nth A q).hi]) := by
  have hq' : (q : Int) < A.length := by omega
  cases h with
  | vl nl => exact ⟨_, by simp [hq']; rfl, by simp⟩
  | sl o c g hc =>
    have h1 := rowOf_length encAn A
    have h2 := rowAn_at hq
    have h3 : q * 4 + 4 ≤ A.length * 4 := by omega
    simp only [cells_eAn] at h2
    exact ⟨.ptr (some (o, 0 + (q : Int).toNat * 4)), by simp [hq'], by simp [g, h1, h2, h3]⟩
/-- A net whose angles lie in some slice. -/
def eNetW (T : Int) (nC : Bool) (C : List Bool) (w : AV) : AV := .agg [.int .i64 T, vl AV.bool nC C, w]
theorem eNet_w (T : Int) (nC : Bool) (C : List Bool) (nA : Bool) (A : List An) : eNet T nC C nA A = eNetW T nC C (vl eAn nA A) := rfl
theorem netOf_call {N : Nat} {nC : Bool} {aA : AV} {C : List Bool} {A : List An} (hok : okNet N C A) {σ : AH} (h0 : σ.lim = 0) (hrd : RdA σ A aA) {K : AV → AH → Prop}
    (hk : ∀ i L σ', σ.next + 2 ≤ i → NetI N nC C aA (edges C A) (σ.next + 1) i (lows A) L σ' → (∀ p, p < 16 → nth L p + sAt (edges C A) (lows A) p = Bt0 N C p) → nth L 16 = 0 → Only [] σ σ' → K (.ptr (some (σ.next + 1, 0))) σ') :
    Call prog O (.fn 49) [eNetW N nC C aA] σ K := by
  refine @call_of' _ _ pl _ _ _ _ _ _ _ ⟨K⟩ get49 ((oo (by decide)).2 _) rfl ?_
  obtain ⟨o1, o2, o3, o4, o5, o6⟩ := hok
  simp (disch := omega) [eqf1, eqf2, Und, h0, eNetW, -Bool.exists_bool, -getElem?_pos]
  generalize hτ : AH.push (AH.push σ _) _ = τ
  have a0 : τ.lim = 0 := by rw [← hτ]; exact h0
  have an : τ.next = σ.next + 2 := by rw [← hτ]; rfl
  have ag : ∀ k, k < σ.next → τ.get k = σ.get k := fun k hk => by rw [← hτ]; simp (disch := omega) [eqf1, eqf2]
  have a1 : τ.get σ.next = some (.cells [.int .i64 N, vl AV.bool nC C, aA]) := by rw [← hτ]; simp (disch := omega) [eqf1, eqf2]
  have a2 : τ.get (σ.next + 1) = some (.cells (netV N nC C aA (.vsl true []) zF)) := by rw [← hτ]; simp (disch := omega) [eqf1, eqf2]; rfl
  clear hτ
  have hzF : ∀ q, nth zF q = 0 := fun q => by
    unfold nth zF
    rw [List.getD_eq_getElem?_getD, List.getElem?_replicate]
    split <;> rfl
  have hNL := fun v L => netV_len (T := (N : Int)) (nC := nC) (C := C) (aA := aA) (v := v) (L := L)
  refine lp_loop pl (fun k fr υ => ∃ (j : Nat) (L : List Int), k + j = N ∧ fr = ⟨[(1, .ptr (some (σ.next, 0))), (3, .ptr (some (σ.next + 1, 0))), (14, .int .i64 N), (15, .int .i64 j)], []⟩ ∧ υ.lim = 0 ∧ υ.next = σ.next + 2 ∧ (∀ k, k < σ.next + 1 → υ.get k = τ.get k) ∧
      υ.get (σ.next + 1) = some (.cells (netV N nC C aA (.vsl true []) L)) ∧ L.length = 17 ∧ ∀ p, nth L p = if p < j then 648000 else 0)
    ⟨N, 0, zF, by omega, rfl, a0, an, fun _ _ => rfl, a2, zF_len, fun p => by rw [hzF]; simp⟩ ?_
  rintro k _ υ ⟨j, L, hj, rfl, v0, vn, vg, vN, vll, vL⟩
  have lvN := AH.get_lt vN
  by_cases hjN : j < N
  · have h1' : (j : Int) < N := by omega
    have h2' : (j : Int) < 17 := by omega
    have h4' : 4 + j + 1 ≤ 4 + 17 := by omega
    have hs := fun y => netV_set (T := (N : Int)) (nC := nC) (C := C) (aA := aA) (v := .vsl true []) (L := L) (k := j) y
    simp (disch := omega) [eqf1, eqf2, Und, v0, vN, lvN, hNL, vll, hs, h1', h2', h4', -Bool.exists_bool, -getElem?_pos]
    refine ⟨k - 1, by omega, j + 1, by omega, by omega, vn, fun k hk => ?_, L.set j 648000, rfl, by simpa using vll, fun p => ?_⟩
    · rw [if_neg (by omega)]; exact vg k hk
    · rw [nth_set (by omega), vL p]
      by_cases e : p = j
      · rw [if_pos e, if_pos (by omega)]
      · rw [if_neg e]
        by_cases e2 : p < j
        · rw [if_pos e2, if_pos (by omega)]
        · rw [if_neg e2, if_neg (by omega)]
  · obtain rfl : j = N := by omega
    have vb : υ.get σ.next = _ := (vg σ.next (by omega)).trans a1
    simp (disch := omega) [eqf1, eqf2, Und, v0, vb, -Bool.exists_bool, -getElem?_pos]
    refine lp_loop pl (fun k fr υ => ∃ (s : Nat) (L : List Int), k + s = C.length ∧ fr = ⟨[(1, .ptr (some (σ.next, 0))), (3, .ptr (some (σ.next + 1, 0))), (25, vl AV.bool nC C), (26, .int .i64 C.length), (27, .int .i64 s)], []⟩ ∧ υ.lim = 0 ∧ υ.next = σ.next + 2 ∧ (∀ k, k < σ.next + 1 → υ.get k = τ.get k) ∧
        υ.get (σ.next + 1) = some (.cells (netV j nC C aA (.vsl true []) L)) ∧ L.length = 17 ∧ ∀ p, p < 17 → nth L p = if p < j then 648000 else if 8 ≤ p ∧ p < 8 + s ∧ nth C (p - 8) = true then 1296000 else 0)
      ⟨C.length, 0, L, by omega, rfl, v0, vn, vg, vN, vll, fun p _ => by rw [vL p, if_neg (show ¬ (8 ≤ p ∧ p < 8 + 0 ∧ nth C (p - 8) = true) by omega)]⟩ ?_
    rintro k2 _ υ2 ⟨s, L2, hs, rfl, w0, wn, wg, wN, wl, wL⟩
    have lwN := AH.get_lt wN
    by_cases hsC : s < C.length
    · have h1' : (s : Int) < C.length := by omega
      have h2' : 8 + (s : Int) < 17 := by omega
      have h3' : 0 ≤ 8 + (s : Int) := by omega
      have h4' : 4 + (8 + s) + 1 ≤ 4 + 17 := by omega
      have h5' : (8 + (s : Int)).toNat = 8 + s := by omega
      have hss := fun y => netV_set (T := (j : Int)) (nC := nC) (C := C) (aA := aA) (v := .vsl true []) (L := L2) (k := 8 + s) y
      by_cases hc : nth C s = true
      · simp (disch := omega) [eqf1, eqf2, Und, w0, wN, lwN, hNL, wl, hss, hc, h1', h2', h3', h4', h5', -Bool.exists_bool, -getElem?_pos]
        refine ⟨k2 - 1, by omega, s + 1, by omega, by omega, wn, fun k hk => ?_, L2.set (8 + s) 1296000, rfl, by simpa using wl, fun p hp => ?_⟩
        · rw [if_neg (by omega)]; exact wg k hk
        · rw [nth_set (by omega), wL p hp]
          by_cases e : p = 8 + s
          · rw [if_pos e, if_neg (by omega), if_pos ⟨by omega, by omega, by rw [e, Nat.add_sub_cancel_left]; exact hc⟩]
          · rw [if_neg e]
            have : (8 ≤ p ∧ p < 8 + (s + 1) ∧ nth C (p - 8) = true) = (8 ≤ p ∧ p < 8 + s ∧ nth C (p - 8) = true) := by
              apply propext; constructor <;> rintro ⟨a, b, c⟩ <;> exact ⟨a, by omega, c⟩
            simp only [this]
      · have hc' : nth C s = false := by simpa using hc
        simp (disch := omega) [eqf1, eqf2, Und, w0, wN, lwN, hNL, wl, hss, hc', h1', h2', h3', h4', h5', -Bool.exists_bool, -getElem?_pos]
        refine ⟨k2 - 1, by omega, s + 1, by omega, by omega, wn, wg, L2, rfl, wl, fun p hp => ?_⟩
        rw [wL p hp]
        have : (8 ≤ p ∧ p < 8 + (s + 1) ∧ nth C (p - 8) = true) = (8 ≤ p ∧ p < 8 + s ∧ nth C (p - 8) = true) := by
          apply propext; constructor
          · rintro ⟨a, b, c⟩
            refine ⟨a, ?_, c⟩
            by_cases e : p = 8 + s
            · rw [e, Nat.add_sub_cancel_left] at c; exact absurd c hc
            · omega
          · rintro ⟨a, b, c⟩; exact ⟨a, by omega, c⟩
        simp only [this]
    · obtain rfl : s = C.length := by omega
      have wb : υ2.get σ.next = _ := (wg σ.next (by omega)).trans a1
      have hal := hrd.len
      simp (disch := omega) [eqf1, eqf2, Und, w0, wb, hal, -Bool.exists_bool, -getElem?_pos]
      refine lp_loop pl (fun k fr υ => ∃ (q : Nat) (v : AV) (L : List Int), k + q = A.length ∧ fr = ⟨[(1, .ptr (some (σ.next, 0))), (3, .ptr (some (σ.next + 1, 0))), (41, aA), (42, .int .i64 A.length), (43, .int .i64 q)], []⟩ ∧ υ.lim = 0 ∧ σ.next + 2 ≤ υ.next ∧ (∀ k, k < σ.next + 1 → υ.get k = τ.get k) ∧
          υ.get (σ.next + 1) = some (.cells (netV j nC C aA v L)) ∧ Buf (σ.next + 2) 5 eG υ v (gl C (A.take q)) ∧ L.length = 17 ∧ nth L 16 = 0 ∧ ∀ p, p < 16 → nth L p + sAt (edges C (A.take q)) (lows (A.take q)) p = Bt0 j C p)
        ⟨A.length, 0, .vsl true [], L2, by omega, rfl, w0, by omega, wg, wN, Buf.nil, wl, ?_, fun p hp => ?_⟩ ?_
      · rw [wL 16 (by omega), if_neg (by omega), if_neg (by omega)]
      · rw [wL p (by omega)]
        simp only [List.take_zero, edges, lows, List.map_nil, sAt, Int.add_zero]
        unfold Bt0
        by_cases e : p < j
        · rw [if_pos e, if_pos (by omega)]
        · rw [if_neg e, if_neg (show ¬ (p : Int) < j by omega)]
      rintro k3 _ υ3 ⟨q, v, L3, hq, rfl, u0, un, ug, uN, uB, ul, u16, uS⟩
      have luN := AH.get_lt uN
      by_cases hqA : q < A.length
      · have h1' : (q : Int) < A.length := by omega
        obtain ⟨b1, b2, b3, b4, b5⟩ := o4 q hqA
        have ub' : υ3.get σ.next = _ := (ug σ.next (by omega)).trans a1
        have lub := AH.get_lt ub'
        obtain ⟨pp, hp1, hp2⟩ := (hrd.keep (σ' := υ3) fun z hz => (ug z (by omega)).trans (ag z hz)).at hqA
        have glen : (gl C (A.take q)).length = q := by unfold gl; rw [List.length_map, List.length_take]; omega
        have htk : A.take (q + 1) = A.take q ++ [nth A q] := take_succ_nth hqA
        have hlen1 : (lows (A.take q)).length = (edges C (A.take q)).length := by simp [lows, edges]
        have hSn : ∀ p, sAt (edges C (A.take (q + 1))) (lows (A.take (q + 1))) p = sAt (edges C (A.take q)) (lows (A.take q)) p + if (ed C (nth A q)).at p then (nth A q).lo else 0 := fun p => by
          rw [htk]
          have := sAt_app (edges C (A.take q)) (lows (A.take q)) (ed C (nth A q)) (nth A q).lo p hlen1
          simpa [edges, lows] using this
        have hgn : gl C (A.take (q + 1)) = gl C (A.take q) ++ [(ed C (nth A q), (nth A q).lo)] := by rw [htk]; simp [gl]
        have hbd : ∀ p, p < 16 → -100000000 ≤ nth L3 p ∧ nth L3 p ≤ 100000000 := fun p hp => by
          have h1 := uS p hp
          have h2 := sAt_bd (edges C (A.take q)) (lows (A.take q)) p (fun i hi => by
            have hi' : i < q := by simp [lows] at hi; omega
            rw [lows_nth (by simp; omega), nth_take hi' (by omega)]
            have := o4 i (by omega)
            unfold okAn at this; omega) hlen1
          have h3 : (edges C (A.take q)).length ≤ 24 := by rw [edges_len, List.length_take]; omega
          have h4 : 0 ≤ Bt0 j C p ∧ Bt0 j C p ≤ 1296000 := by unfold Bt0; split <;> (try split) <;> omega
          omega
        by_cases hc : nth C (nth A q).s.toNat = true
        · have hcs : [AV.int .i64 (nth A q).t, .int .i64 (8 + (nth A q).s), .int .i64 (nth A q).lo, .int .i64 (nth A q).lo, .int .i64 (nth A q).hi] = (eG (ed C (nth A q), (nth A q).lo)).cells := by
            have e1 : (nth A q).t = ((nth A q).t.toNat : Int) := by omega
            have e2 : 8 + (nth A q).s = ((8 + (nth A q).s.toNat : Nat) : Int) := by omega
            rw [e2]
            unfold eG ed plc
            rw [if_pos hc]
            simp only [cells_agg]
            rw [← e1]
          simp (disch := omega) [eqf1, eqf2, Und, u0, uN, luN, ub', lub, hc, hp1, hp2, h1', b2, -Bool.exists_bool]
          refine ⟨by omega, by rw [hNL]; omega, ?_⟩
          generalize hρ : AH.set _ (υ3.next + 1) (.cells [.int .i64 (nth A q).t, .int .i64 (8 + (nth A q).s), .int .i64 (nth A q).lo, .int .i64 (nth A q).lo, .int .i64 (nth A q).hi]) = ρ
          have r0 : ρ.lim = 0 := by rw [← hρ]; exact u0
          have rn : ρ.next = υ3.next + 2 := by rw [← hρ]; rfl
          have rg : ∀ k, k < υ3.next → ρ.get k = υ3.get k := fun k hk => by rw [← hρ]; simp (disch := omega) [eqf1, eqf2]
          have r9 : ρ.get (υ3.next + 1) = some (.cells [.int .i64 (nth A q).t, .int .i64 (8 + (nth A q).s), .int .i64 (nth A q).lo, .int .i64 (nth A q).lo, .int .i64 (nth A q).hi]) := by rw [← hρ]; simp (disch := omega) [eqf1, eqf2]
          clear hρ
          rw [under_self r0, show υ3.next + 1 + 1 = ρ.next by omega]
          refine (uB.keep (σ' := ρ) fun k _ hk => rg k hk).push encG (by omega) (by omega) (ed C (nth A q), (nth A q).lo) (by rw [glen]; simp only [topBytes]; omega) hcs fun v' ρ2 q1 q2 => ?_
          obtain ⟨x1, x2, x3⟩ := buf_cel q1
          have y0 := q2.lim.trans r0
          have yn := q2.next
          have yN : ρ2.get (σ.next + 1) = _ := (q2.get _ (by omega)).trans ((rg _ (by omega)).trans uN)
          have yb : ρ2.get σ.next = _ := (q2.get _ (by omega)).trans ((rg _ (by omega)).trans ub')
          have hvobj : ∀ x ∈ obj v, x < υ3.next := fun x hx => (uB.obj_lt x hx).2
          have y9 : ρ2.get (υ3.next + 1) = _ := (q2.only.get _ (by omega) (fun hx => by have := hvobj _ hx; omega)).trans r9
          have lyN := AH.get_lt yN
          have hs3 := fun L => netV_set3 (T := (j : Int)) (nC := nC) (C := C) (aA := aA) (v := v) (L := L) v'
          have hLt := netV_L (T := (j : Int)) (nC := nC) (C := C) (aA := aA) (v := v') (L := L3) (k := (nth A q).t.toNat) (by omega)
          have hst := fun L y => netV_set (T := (j : Int)) (nC := nC) (C := C) (aA := aA) (v := v') (L := L) (k := (nth A q).t.toNat) y
          have lyt : 4 + (nth A q).t.toNat + 1 ≤ 4 + 17 := by omega
          have ht17 : (nth A q).t < 17 := by omega
          have ht0 : 0 ≤ (nth A q).t := b1.1
          have ybb := AH.get_lt y9
          have hLs := netV_L (T := (j : Int)) (nC := nC) (C := C) (aA := aA) (v := v') (L := L3.set (nth A q).t.toNat (nth L3 (nth A q).t.toNat - (nth A q).lo)) (k := 8 + (nth A q).s.toNat) (by rw [List.length_set]; omega)
          have hss := fun L y => netV_set (T := (j : Int)) (nC := nC) (C := C) (aA := aA) (v := v') (L := L) (k := 8 + (nth A q).s.toNat) y
          have hs5 : (8 + (nth A q).s).toNat = 8 + (nth A q).s.toNat := by omega
          have lys : 4 + (8 + (nth A q).s.toNat) + 1 ≤ 4 + 17 := by omega
          have hs17 : 8 + (nth A q).s < 17 := by omega
          have hs0 : 0 ≤ 8 + (nth A q).s := by omega
          have hne16 : ¬ 8 + (nth A q).s = 16 := by omega
          have bt := hbd (nth A q).t.toNat (by omega)
          have bs := hbd (8 + (nth A q).s.toNat) (by omega)
          have hval : nth (L3.set (nth A q).t.toNat (nth L3 (nth A q).t.toNat - (nth A q).lo)) (8 + (nth A q).s.toNat) = nth L3 (8 + (nth A q).s.toNat) := by rw [nth_set (by omega), if_neg (by omega)]
          rw [hval] at hLs
          simp (disch := omega) [eqf1, eqf2, Und, y0, yN, yb, y9, ybb, lyN, x1, x2, x3, hNL, ul, hs3, hLt, hst, lyt, ht17, ht0, hLs, hss, hs5, lys, hs17, hs0, hne16, -Bool.exists_bool, -getElem?_pos]
          refine ⟨k3 - 1, by omega, q + 1, by omega, by omega, by omega, fun k hk => ?_, v', (L3.set (nth A q).t.toNat (nth L3 (nth A q).t.toNat - (nth A q).lo)).set (8 + (nth A q).s.toNat) (nth L3 (8 + (nth A q).s.toNat) - (nth A q).lo), rfl, ?_, by simpa using ul, ?_, fun p hp => ?_⟩
          · rw [if_neg (by omega), if_neg (by omega), if_neg (by omega), q2.get k (by omega), rg k (by omega)]; exact ug k hk
          · rw [hgn]
            exact q1.keep fun k h1 h2 => by rw [AH.get_set_other _ _ _ _ (by omega), AH.get_set_other _ _ _ _ (by omega), AH.get_set_other _ _ _ _ (by omega)]
          · rw [nth_set (by rw [List.length_set]; omega), if_neg (by omega), nth_set (by omega), if_neg (by omega)]; exact u16
          · rw [nth_set (by rw [List.length_set]; omega), nth_set (by omega), hSn]
            have := uS p hp
            have hat : (ed C (nth A q)).at p ↔ p = (nth A q).t.toNat ∨ p = 8 + (nth A q).s.toNat := by
              have e9 : plc C (nth A q).s = 8 + (nth A q).s.toNat := if_pos hc
              show (nth A q).t.toNat = p ∨ plc C (nth A q).s = p ↔ _
              rw [e9]; constructor <;> intro h <;> omega
            by_cases e1 : p = 8 + (nth A q).s.toNat
            · rw [if_pos e1, if_pos (hat.2 (.inr e1))]; rw [e1] at this ⊢; omega
            · by_cases e2 : p = (nth A q).t.toNat
              · rw [if_neg e1, if_pos e2, if_pos (hat.2 (.inl e2))]; rw [e2] at this ⊢; omega
              · have hn : ¬ (ed C (nth A q)).at p := fun h => by rcases hat.1 h with h | h <;> contradiction
                rw [if_neg e1, if_neg e2, if_neg hn]; omega
        · have hc' : nth C (nth A q).s.toNat = false := by simpa using hc
          have hcs : [AV.int .i64 (nth A q).t, .int .i64 16, .int .i64 (nth A q).lo, .int .i64 (nth A q).lo, .int .i64 (nth A q).hi] = (eG (ed C (nth A q), (nth A q).lo)).cells := by
            have e1 : (nth A q).t = ((nth A q).t.toNat : Int) := by omega
            unfold eG ed plc
            rw [if_neg hc]
            simp only [cells_agg]
            rw [← e1]
            rfl
          simp (disch := omega) [eqf1, eqf2, Und, u0, uN, luN, ub', lub, hc', hp1, hp2, h1', b2, -Bool.exists_bool]
          refine ⟨by omega, by rw [hNL]; omega, ?_⟩
          generalize hρ : AH.set _ (υ3.next + 1) (.cells [.int .i64 (nth A q).t, .int .i64 16, .int .i64 (nth A q).lo, .int .i64 (nth A q).lo, .int .i64 (nth A q).hi]) = ρ
          have r0 : ρ.lim = 0 := by rw [← hρ]; exact u0
          have rn : ρ.next = υ3.next + 2 := by rw [← hρ]; rfl
          have rg : ∀ k, k < υ3.next → ρ.get k = υ3.get k := fun k hk => by rw [← hρ]; simp (disch := omega) [eqf1, eqf2]
          have r9 : ρ.get (υ3.next + 1) = some (.cells [.int .i64 (nth A q).t, .int .i64 16, .int .i64 (nth A q).lo, .int .i64 (nth A q).lo, .int .i64 (nth A q).hi]) := by rw [← hρ]; simp (disch := omega) [eqf1, eqf2]
          clear hρ
          rw [under_self r0, show υ3.next + 1 + 1 = ρ.next by omega]
          refine (uB.keep (σ' := ρ) fun k _ hk => rg k hk).push encG (by omega) (by omega) (ed C (nth A q), (nth A q).lo) (by rw [glen]; simp only [topBytes]; omega) hcs fun v' ρ2 q1 q2 => ?_
          obtain ⟨x1, x2, x3⟩ := buf_cel q1
          have y0 := q2.lim.trans r0
          have yn := q2.next
          have yN : ρ2.get (σ.next + 1) = _ := (q2.get _ (by omega)).trans ((rg _ (by omega)).trans uN)
          have yb : ρ2.get σ.next = _ := (q2.get _ (by omega)).trans ((rg _ (by omega)).trans ub')
          have hvobj : ∀ x ∈ obj v, x < υ3.next := fun x hx => (uB.obj_lt x hx).2
          have y9 : ρ2.get (υ3.next + 1) = _ := (q2.only.get _ (by omega) (fun hx => by have := hvobj _ hx; omega)).trans r9
          have lyN := AH.get_lt yN
          have hs3 := fun L => netV_set3 (T := (j : Int)) (nC := nC) (C := C) (aA := aA) (v := v) (L := L) v'
          have hLt := netV_L (T := (j : Int)) (nC := nC) (C := C) (aA := aA) (v := v') (L := L3) (k := (nth A q).t.toNat) (by omega)
          have hst := fun L y => netV_set (T := (j : Int)) (nC := nC) (C := C) (aA := aA) (v := v') (L := L) (k := (nth A q).t.toNat) y
          have lyt : 4 + (nth A q).t.toNat + 1 ≤ 4 + 17 := by omega
          have ht17 : (nth A q).t < 17 := by omega
          have ht0 : 0 ≤ (nth A q).t := b1.1
          have ybb := AH.get_lt y9
          have bt := hbd (nth A q).t.toNat (by omega)
          simp (disch := omega) [eqf1, eqf2, Und, y0, yN, yb, y9, ybb, lyN, x1, x2, x3, hNL, ul, hs3, hLt, hst, lyt, ht17, ht0, -Bool.exists_bool, -getElem?_pos]
          refine ⟨k3 - 1, by omega, q + 1, by omega, by omega, by omega, fun k hk => ?_, v', L3.set (nth A q).t.toNat (nth L3 (nth A q).t.toNat - (nth A q).lo), rfl, ?_, by simpa using ul, ?_, fun p hp => ?_⟩
          · rw [if_neg (by omega), if_neg (by omega), q2.get k (by omega), rg k (by omega)]; exact ug k hk
          · rw [hgn]
            exact q1.keep fun k h1 h2 => by rw [AH.get_set_other _ _ _ _ (by omega), AH.get_set_other _ _ _ _ (by omega)]
          · rw [nth_set (by omega), if_neg (by omega)]; exact u16
          · rw [nth_set (by omega), hSn]
            have := uS p hp
            have hat : (ed C (nth A q)).at p ↔ p = (nth A q).t.toNat ∨ p = 16 := by
              have e9 : plc C (nth A q).s = 16 := if_neg hc
              show (nth A q).t.toNat = p ∨ plc C (nth A q).s = p ↔ _
              rw [e9]; constructor <;> intro h <;> omega
            by_cases e2 : p = (nth A q).t.toNat
            · rw [if_pos e2, if_pos (hat.2 (.inl e2))]; rw [e2] at this ⊢; omega
            · have hn : ¬ (ed C (nth A q)).at p := fun h => by rcases hat.1 h with h | h <;> omega
              rw [if_neg e2, if_neg hn]; omega
      · obtain rfl : q = A.length := by omega
        rw [List.take_length] at uB uS
        simp (disch := omega) [eqf1, eqf2, Und, u0, -Bool.exists_bool, -getElem?_pos]
        have hglen : (gl C A).length = (edges C A).length := by simp [gl, edges]
        have hok : okNet j C A := ⟨o1, o2, o3, o4, o5, o6⟩
        rcases uB with ⟨_, hx⟩ | ⟨i, rfl, i2, i3, _⟩
        · have : (gl C A).length = A.length := by simp [gl]
          rw [hx] at this; simp at this; omega
        · refine hk i L3 υ3 i2 ⟨u0, by rw [uN, hglen, netV_C], by rw [i3, gl_row], by omega, ul, inE_lows hok⟩ uS u16 ⟨u0.trans h0.symm, by omega, fun k hk _ => ?_⟩
          rw [ug k (by omega), ag k hk]
end Go.Oct.Tri
