/- What node and far answer. -/
import Derived.Test.YtcbiofokeadddaaOScrewFar
import Derived.Test.YtcbiofokeadddaaOT4
set_option maxRecDepth 100000
set_option maxHeartbeats 4000000
set_option linter.unusedVariables false
set_option linter.unusedSimpArgs false
namespace Go.Oct.Screw
open Go.Oct
/-- The turns of the screws before one. -/
def pre (T : List Int) : Nat → Nat
  | 0 => 0
  | i + 1 => pre T i + tn T i
def nodeN (T : List Int) (i k : Nat) : Nat := if k = 0 then 0 else k + pre T i
theorem pre_le {T : List Int} {M : Int} (hs : okSet T M) : ∀ i, i ≤ T.length → pre T i ≤ 8 * i
  | 0, _ => Nat.le_refl _
  | i + 1, h => by
    have := pre_le hs i (by omega)
    have h2 := hs.2 i (by omega)
    simp only [pre, tn]
    omega
@[simp] theorem node_ok (nT : Bool) (T : List Int) (M : Int) (hs : okSet T M) (i k : Int) (hi : 0 ≤ i ∧ i < T.length) (hk : 0 ≤ k ∧ k ≤ 8) : ans prog O 80 [eSet nT T M, .int .i64 i, .int .i64 k] = some (.int .i64 (nodeN T i.toNat k.toNat)) := by
  refine fn_of' pl get80 (oo (by decide)) rfl rfl ?_
  have hT4 : T.length ≤ 4 := by have := hs.1.1; omega
  by_cases h0 : k = 0
  · subst h0
    simp +contextual (disch := omega) [nodeN]
  · have e : nodeN T i.toNat k.toNat = k.toNat + pre T i.toNat := by unfold nodeN; rw [if_neg (by omega)]
    rw [e]
    obtain ⟨m, hm⟩ : ∃ m : Nat, i = m := ⟨i.toNat, by omega⟩
    subst hm
    simp +contextual (disch := omega) [h0]
    refine lp_count pl m (fun j => [(1, .int .i64 m), (3, .ptr (some (0, 0))), (7, .int .i64 (k + pre T j)), (8, .int .i64 j)]) (fun _ => _) (fun _ => True) ⟨by simp [pre], rfl, trivial⟩ ?_
    intro j hj _
    have hp := pre_le hs j (by omega)
    simp +contextual (disch := omega) [Und]
    refine ⟨fun h => ?_, fun h => ?_⟩
    · have h2 := hs.2 j (by omega)
      refine ⟨by omega, ?_⟩
      simp only [pre, tn]
      rw [w64_id _ (by omega) (by omega)]
      omega
    · have : j = m := by omega
      subst this
      omega

theorem pre_mono (T : List Int) {i j : Nat} (h : i ≤ j) : pre T i ≤ pre T j := by
  induction h with
  | refl => exact Nat.le_refl _
  | step _ ih => simp only [pre]; omega
theorem nodeN_lt {T : List Int} {i k : Nat} (hi : i < T.length) (hk : k ≤ tn T i) : nodeN T i k < pre T T.length + 1 := by
  unfold nodeN
  split
  · omega
  · have := pre_mono T (show i + 1 ≤ T.length from hi)
    simp only [pre] at this
    omega
/-! ### far -/
def rowC (N : Nat) (f : Nat → Int) : List Int := (List.range N).map f
theorem rowC_len (N : Nat) (f : Nat → Int) : (rowC N f).length = N := by unfold rowC; simp
theorem rowC_nth {N : Nat} (f : Nat → Int) {j : Nat} (h : j < N) : nth (rowC N f) j = f j := by
  unfold rowC
  rw [nth_eq (by simpa using h), List.getElem_map, List.getElem_range]
theorem rowC_get {N : Nat} (f : Nat → Int) {j : Nat} (h : j < N) : (ints (rowC N f))[j]? = some (.int .i64 (f j)) := by
  rw [ints_get (by rw [rowC_len]; exact h), rowC_nth f h]
theorem rowC_set {N : Nat} (f : Nat → Int) (b : Nat) (v : Int) : (ints (rowC N f)).set b (.int .i64 v) = ints (rowC N fun j => if j = b then v else f j) := by
  rw [ints_set]
  congr 1
  refine ext_nth (by rw [List.length_set, rowC_len, rowC_len]) fun i hi => ?_
  rw [List.length_set, rowC_len] at hi
  rw [nth_set (by rw [rowC_len]; exact hi), rowC_nth _ hi, rowC_nth _ hi]
  by_cases e : b = i
  · rw [if_pos e, if_pos e.symm]
  · rw [if_neg e, if_neg (Ne.symm e)]
theorem rowC_congr {N : Nat} {f g : Nat → Int} (h : ∀ j, j < N → f j = g j) : rowC N f = rowC N g := by
  unfold rowC
  exact List.map_congr_left fun j hj => h j (List.mem_range.1 hj)
def outC (N a : Nat) : List AV := (List.range N).map fun k => if k < a then .slice (some (2 + k, 0)) N (.ex N) else .vsl true []
theorem outC_len (N a : Nat) : (outC N a).length = N := by unfold outC; simp
theorem outC_get {N a k : Nat} (h : k < N) : (outC N a)[k]? = some (if k < a then .slice (some (2 + k, 0)) N (.ex N) else .vsl true []) := by
  unfold outC
  rw [List.getElem?_map, List.getElem?_range h]; rfl
theorem outC_zero (N : Nat) : zcells [.vsl true []] N = outC N 0 := by
  show List.replicate N _ = _
  refine List.ext_getElem? fun i => ?_
  by_cases h : i < N
  · rw [outC_get h, List.getElem?_replicate, if_pos h]; simp
  · rw [List.getElem?_eq_none (by simp; omega), List.getElem?_eq_none (by rw [outC_len]; omega)]
theorem outC_set {N a : Nat} (h : a < N) : (outC N a).set a (.slice (some (2 + a, 0)) N (.ex N)) = outC N (a + 1) := by
  refine List.ext_getElem? fun i => ?_
  by_cases hi : i < N
  · rw [List.getElem?_set, outC_len, outC_get hi, outC_get hi]
    by_cases e : a = i
    · subst e; simp [h]
    · rw [if_neg e]
      by_cases h1 : i < a
      · rw [if_pos h1, if_pos (by omega)]
      · rw [if_neg h1, if_neg (by omega)]
  · rw [List.getElem?_eq_none (by rw [List.length_set, outC_len]; omega), List.getElem?_eq_none (by rw [outC_len]; omega)]
theorem rowC_zero (N : Nat) : zcells [.int .i64 0] N = ints (rowC N fun _ => 0) := by
  show List.replicate N _ = _
  refine List.ext_getElem? fun i => ?_
  by_cases h : i < N
  · rw [rowC_get _ h, List.getElem?_replicate, if_pos h]
  · rw [List.getElem?_eq_none (by simp; omega), List.getElem?_eq_none (by rw [ints_len, rowC_len]; omega)]
/-- The heap of far: r rows, of which a hang in the list. -/
structure FarH (box : List AV) (N r a : Nat) (D : Mat) (σ : AH) : Prop where
  lim : σ.lim = 0
  next : σ.next = 2 + r
  box : σ.get 0 = some (.cells box)
  out : σ.get 1 = some (.cells (outC N a))
  row : ∀ k, k < r → σ.get (2 + k) = some (.cells (ints (rowC N (D k))))
theorem FarH.congr {box : List AV} {N r a : Nat} {D D' : Mat} {σ : AH} (h : FarH box N r a D σ) (hd : ∀ i j, i < r → j < N → D i j = D' i j) : FarH box N r a D' σ :=
  ⟨h.lim, h.next, h.box, h.out, fun k hk => by rw [h.row k hk, rowC_congr (hd k · hk)]⟩
theorem FarH.put' {box : List AV} {N r a : Nat} {D : Mat} {σ σ' : AH} (h : FarH box N r a D σ) {k b : Nat} {v : Int} (hk : k < r) (h1 : σ'.lim = σ.lim) (h2 : σ'.next = σ.next) (h3 : ∀ i, i ≠ 2 + k → σ'.get i = σ.get i)
    (h4 : σ'.get (2 + k) = some (.cells ((ints (rowC N (D k))).set b (.int .i64 v)))) : FarH box N r a (upd D k b v) σ' := by
  refine ⟨h1.trans h.lim, h2.trans h.next, ?_, ?_, fun m hm => ?_⟩
  · rw [h3 _ (by omega)]; exact h.box
  · rw [h3 _ (by omega)]; exact h.out
  · by_cases e : m = k
    · subst e
      rw [h4, rowC_set]
      congr 3
      refine rowC_congr fun j hj => ?_
      unfold upd
      simp
    · rw [h3 _ (by omega), h.row m hm]
      congr 3
      refine rowC_congr fun j hj => ?_
      unfold upd
      rw [if_neg (fun hc => e hc.1)]
theorem FarH.put {box : List AV} {N r a : Nat} {D : Mat} {σ : AH} (h : FarH box N r a D σ) {k b : Nat} {v : Int} (hk : k < r) : FarH box N r a (upd D k b v) (σ.set (2 + k) (.cells ((ints (rowC N (D k))).set b (.int .i64 v)))) := by
  refine ⟨h.lim, h.next, ?_, ?_, fun m hm => ?_⟩
  · rw [AH.get_set_other _ _ _ _ (by omega)]; exact h.box
  · rw [AH.get_set_other _ _ _ _ (by omega)]; exact h.out
  · by_cases e : m = k
    · subst e
      rw [AH.get_set_same _ _ _ (by rw [h.next]; omega), rowC_set]
      congr 3
      refine rowC_congr fun j hj => ?_
      unfold upd
      simp
    · rw [AH.get_set_other _ _ _ _ (by omega), h.row m hm]
      congr 3
      refine rowC_congr fun j hj => ?_
      unfold upd
      rw [if_neg (fun hc => e hc.1)]
theorem FarH.hang {box : List AV} {N a : Nat} {D : Mat} {σ : AH} (h : FarH box N (a + 1) a D σ) (ha : a < N) : FarH box N (a + 1) (a + 1) D (σ.set 1 (.cells ((outC N a).set a (.slice (some (2 + a, 0)) N (.ex N))))) := by
  refine ⟨h.lim, h.next, ?_, ?_, fun m hm => ?_⟩
  · rw [AH.get_set_other _ _ _ _ (by omega)]; exact h.box
  · rw [AH.get_set_same _ _ _ (by rw [h.next]; omega), outC_set ha]
  · rw [AH.get_set_other _ _ _ _ (by omega)]; exact h.row m hm
theorem FarH.more {box : List AV} {N a : Nat} {D : Mat} {σ : AH} (h : FarH box N a a D σ) : FarH box N (a + 1) a (fun i j => if i = a then 0 else D i j) (σ.push (.cells (zcells [.int .i64 0] N))) := by
  refine ⟨h.lim, by simp [AH.push, h.next]; omega, ?_, ?_, fun m hm => ?_⟩
  · rw [AH.get_push_old _ _ _ (by rw [h.next]; omega)]; exact h.box
  · rw [AH.get_push_old _ _ _ (by rw [h.next]; omega)]; exact h.out
  · by_cases e : m = a
    · subst e
      rw [← h.next, AH.get_push_new, rowC_zero]
      simp
    · rw [AH.get_push_old _ _ _ (by rw [h.next]; omega), h.row m (by omega)]
      simp [e]
def W0 (M : Int) : Mat := fun i j => if i = j then 0 else if i = 0 ∨ j = 0 then M else 2 * M
def rowsC (N : Nat) (D : Mat) : List (List Int) := (List.range N).map fun k => rowC N (D k)
theorem ints_row (xs : List Int) : rowOf (AV.int .i64) xs = ints xs := by
  induction xs with
  | nil => rfl
  | cons x xs ih => exact congrArg (AV.int .i64 x :: ·) ih
theorem chunks_one : ∀ (l : List AV), chunks 1 l.length l = l
  | [] => rfl
  | x :: l => by
    show AV.elem [x] :: chunks 1 l.length l = _
    rw [chunks_one l]; rfl
theorem FarH.fz {box : List AV} {N : Nat} {D : Mat} {σ : AH} (h : FarH box N N N D σ) (hN : 0 < N) (k : Nat) : fzV (k + 3) σ.cel (.slice (some (1, 0)) N (.ex N)) = vl eRow false (fr0 (rowsC N D)) := by
  have hc : σ.cel 1 = some (outC N N) := AH.cel_get h.out
  have hm : (outC N N).map (fun x => (fzV (k + 2) σ.cel x).na) = (fr0 (rowsC N D)).map eRow := by
    unfold outC fr0 rowsC
    rw [List.map_map, List.map_map, List.map_map]
    refine List.map_congr_left fun m hm => ?_
    have hm := List.mem_range.1 hm
    simp only [Function.comp]
    rw [if_pos hm]
    have := fz_whole (e := AV.int .i64) encI flatI (f := σ.cel) (o := 2 + m) (xs := rowC N (D m)) (c := .ex N) (by rw [ints_row]; exact AH.cel_get (h.row m hm)) (.inr (by rw [rowC_len])) k
    rw [rowC_len] at this
    rw [this]; rfl
  have hl : ((outC N N).map (fun x => (fzV (k + 2) σ.cel x).na)).length = N := by rw [List.length_map, outC_len]
  show (match σ.cel 1 with
    | some cs => if 0 ≤ cs.length then
        match ACap.cellsOf N (cs.length - 0) (.ex N) with
        | some z => AV.vsl false (chunks z N ((cs.drop 0).map fun x => (fzV (k + 2) σ.cel x).na))
        | none => .undef
      else .undef
    | none => .undef) = _
  rw [hc]
  simp only [Nat.zero_le, if_true, List.drop_zero, Nat.sub_zero, outC_len]
  have hcell : ACap.cellsOf N N (.ex N) = some 1 := by
    simp only [ACap.cellsOf]
    rw [if_neg (by omega), Nat.div_self hN, if_pos ⟨Nat.one_mul N, Nat.le_refl _⟩]
  rw [hcell]
  simp only
  have := chunks_one ((outC N N).map (fun x => (fzV (k + 2) σ.cel x).na))
  rw [hl] at this
  rw [this, hm]; rfl
def rd1 (D : Mat) (A B : Nat) (v w : Int) : Mat := upd (upd D A B (min (D A B) (v + w))) B A (min (upd D A B (min (D A B) (v + w)) B A) (w - v))
theorem FarH.rd {box : List AV} {a A B : Nat} {v w : Int} {E : Mat} {σ σ' : AH} (h : FarH box a a a E σ) (h1 : σ'.lim = 0) (h2 : σ'.next = 2 + a) (h3 : ∀ i, i ≠ 2 + A → i ≠ 2 + B → σ'.get i = σ.get i)
    (h4 : ∀ k, k = A ∨ k = B → σ'.get (2 + k) = some (.cells (ints (rowC a (rd1 E A B v w k))))) : FarH box a a a (rd1 E A B v w) σ' := by
  refine ⟨h1, h2, ?_, ?_, fun m hm => ?_⟩
  · rw [h3 _ (by omega) (by omega)]; exact h.box
  · rw [h3 _ (by omega) (by omega)]; exact h.out
  · by_cases e : m = A ∨ m = B
    · exact h4 m e
    · rw [h3 _ (by omega) (by omega), h.row m hm]
      congr 3
      refine rowC_congr fun j hj => ?_
      unfold rd1 upd
      rw [if_neg (by omega), if_neg (by omega)]
def rds (T : List Int) (M : Int) (l : List Rd) (but : Int) : Nat → Mat
  | 0 => W0 M
  | j + 1 => if (j : Int) = but then rds T M l but j else
    rd1 (rds T M l but j) (nodeN T (nth l j).a.toNat (nth l j).i.toNat) (nodeN T (nth l j).b.toNat (nth l j).j.toNat) (nth l j).v (nth l j).w
theorem gsum_pre {T : List Int} {M : Int} (hs : okSet T M) : gsum T = (pre T T.length : Nat) := by
  have hT4 : T.length ≤ 4 := by have := hs.1.1; omega
  have key : ∀ j, j ≤ T.length → gsum (T.take j) = (pre T j : Nat) := by
    intro j
    induction j with
    | zero => intro _; rfl
    | succ j ih =>
      intro hj
      have h2 := hs.2 j (by omega)
      have hp := pre_le hs j (by omega)
      rw [gsum_succ (by omega), ih (by omega), w64_id _ (by omega) (by omega)]
      simp only [pre, tn]
      omega
  have := key T.length (Nat.le_refl _)
  rwa [List.take_length] at this
theorem far_good (nT nl : Bool) (T : List Int) (M : Int) (l : List Rd) (but : Int) (hs : okSet T M) (hr : okRds T l) (hl : l.length ≤ 24) (hx : T.length < 2 ^ 62) (N : Nat) (hN : N = pre T T.length + 1) (D : Mat) (hD : D = fw N N (rds T M l but l.length)) (v : AV)
    (hv : (∀ a, a < N → 0 ≤ D a a) ∧ v = .tuple [vl eRow false (fr0 (rowsC N D)), .bool true] ∨ (∃ a, a < N ∧ D a a < 0) ∧ v = .tuple [.vsl true [], .bool false]) :
    ans prog O 79 [eSet nT T M, vl eRd nl l, .int .i64 but] = some v := by
  have hT4 : T.length ≤ 4 := by have := hs.1.1; omega
  have hp := pre_le hs T.length (Nat.le_refl _)
  have hM := hs.1.2
  refine fn_of' pl get79 (oo (by decide)) rfl rfl ?_
  have hsum : gsum T = (pre T T.length : Nat) := gsum_pre hs
  have hN33 : N ≤ 33 := by omega
  have hcast : ((pre T T.length : Nat) : Int) + 1 = (N : Int) := by omega
  simp +contextual (disch := omega) [hsum, hcast]
  refine ⟨⟨by unfold topBytes; omega, by unfold topBytes; omega⟩, ?_⟩
  refine lp_loop pl (fun k fr σ => ∃ (a : Nat) (D : Mat), a + k = N ∧ fr = ⟨[(1, vl eRd nl l), (2, .int .i64 but), (3, .ptr (some (0, 0))), (8, .int .i64 N), (9, .slice (some (1, 0)) N (.ex N)), (10, .int .i64 a)], []⟩ ∧ FarH [vs nT T, .int .i64 M] N a a D σ ∧ ∀ i j, i < a → j < N → D i j = W0 M i j)
    ⟨N, 0, fun _ _ => 0, by omega, by simp, ⟨rfl, rfl, by simp, by simp [outC_zero], fun k hk => by omega⟩, fun i j hi => by omega⟩ ?_
  rintro k _ σ ⟨a, D0, hk, rfl, hF, hW⟩
  by_cases haN : a < N
  · simp +contextual (disch := omega) [Und, haN, hF.lim, hF.next]
    refine ⟨⟨by unfold topBytes; omega, by unfold topBytes; omega⟩, ?_⟩
    have hF1 := hF.more
    refine lp_loop pl (fun k2 fr σ => ∃ (b : Nat) (D : Mat), b + k2 = N ∧ fr = ⟨[(1, vl eRd nl l), (2, .int .i64 but), (3, .ptr (some (0, 0))), (8, .int .i64 N), (9, .slice (some (1, 0)) N (.ex N)), (10, .int .i64 a), (11, .slice (some (2 + a, 0)) N (.ex N)), (12, .int .i64 b)], []⟩ ∧ FarH [vs nT T, .int .i64 M] N (a + 1) a D σ ∧ (∀ i j, i < a → j < N → D i j = W0 M i j) ∧ ∀ j, j < b → D a j = W0 M a j)
      ⟨N, 0, _, by omega, by simp, hF1, fun i j hi hj => by rw [if_neg (by omega)]; exact hW i j hi hj, fun j hj => by omega⟩ ?_
    rintro k2 _ σ2 ⟨b, D1, hk2, rfl, hG, hW1, hW2⟩
    by_cases hbN : b < N
    · have hrow := hG.row a (by omega)
      have hbox := hG.box
      have h0a : (0 = 2 + a) = False := by simp; omega
      have hb1 : b + 1 ≤ N := hbN
      have step : ∀ (w : Int) (σ' : AH), w = W0 M a b → σ'.lim = σ2.lim → σ'.next = σ2.next → (∀ i, i ≠ 2 + a → σ'.get i = σ2.get i) → σ'.get (2 + a) = some (.cells ((ints (rowC N (D1 a))).set b (.int .i64 w))) →
          ∃ j, j < k2 ∧ ∃ b1 : Nat, b1 + j = N ∧ (b : Int) + 1 = b1 ∧ ∃ x, FarH [vs nT T, .int .i64 M] N (a + 1) a x σ' ∧ (∀ i j, i < a → j < N → x i j = W0 M i j) ∧ ∀ j, j < b1 → x a j = W0 M a j := by
        intro w σ' hw e1 e2 e3 e4
        refine ⟨k2 - 1, by omega, b + 1, by omega, by omega, upd D1 a b w, hG.put' (by omega) e1 e2 e3 e4, fun i j hi hj => ?_, fun j hj => ?_⟩
        · unfold upd; rw [if_neg (by omega)]; exact hW1 i j hi hj
        · unfold upd
          by_cases e : j = b
          · subst e; rw [if_pos ⟨rfl, rfl⟩, hw]
          · rw [if_neg (fun hc => e hc.2)]; exact hW2 j (by omega)
      by_cases ha0 : a = 0
      · simp (disch := omega) [Und, hbN, hb1, hG.lim, hG.next, hrow, hbox, rowC_len, h0a, eq_true ha0]
        refine ⟨fun e => step 0 _ (by unfold W0; rw [if_pos (by omega)]) (by simp) (by simp) (fun i hi => by simp [hi]) (by simp [hG.next] <;> omega), fun e => step M _ (by unfold W0; rw [if_neg (by omega), if_pos (.inl ha0)]) (by simp) (by simp) (fun i hi => by simp [hi]) (by simp [hG.next] <;> omega)⟩
      · by_cases hb0 : b = 0
        · simp (disch := omega) [Und, hbN, hb1, hG.lim, hG.next, hrow, hbox, rowC_len, h0a, eq_false ha0, eq_true hb0]
          refine ⟨fun e => step 0 _ (by unfold W0; rw [if_pos (by omega)]) (by simp) (by simp) (fun i hi => by simp [hi]) (by simp [hG.next] <;> omega), fun e => step M _ (by unfold W0; rw [if_neg (by omega), if_pos (.inr hb0)]) (by simp) (by simp) (fun i hi => by simp [hi]) (by simp [hG.next] <;> omega)⟩
        · simp (disch := omega) [Und, hbN, hb1, hG.lim, hG.next, hrow, hbox, rowC_len, h0a, eq_false ha0, eq_false hb0]
          refine ⟨fun e => step 0 _ (by unfold W0; rw [if_pos (by omega)]) (by simp) (by simp) (fun i hi => by simp [hi]) (by simp [hG.next] <;> omega), fun e => step (2 * M) _ (by unfold W0; rw [if_neg (by omega), if_neg (by omega)]) (by simp) (by simp) (fun i hi => by simp [hi]) (by simp [hG.next] <;> omega)⟩
    · obtain rfl : b = N := by omega
      simp +contextual (disch := omega) [Und, hG.lim, hG.next, hG.out, outC_len]
      refine ⟨haN, haN, k - 1, by omega, a + 1, by omega, by omega, D1, hG.hang haN, fun i j hi hj => ?_⟩
      by_cases e : i = a
      · rw [e]; exact hW2 j hj
      · exact hW1 i j (by omega) hj
  · obtain rfl : a = N := by omega
    have hF : FarH [vs nT T, .int .i64 M] a a a (rds T M l but 0) σ := hF.congr fun i j hi hj => hW i j hi hj
    clear hW
    simp +contextual (disch := omega) [Und]
    refine lp_loop pl (fun k fr σ => ∃ (j : Nat), j + k = l.length ∧ fr = ⟨[(1, vl eRd nl l), (2, .int .i64 but), (3, .ptr (some (0, 0))), (8, .int .i64 a), (9, .slice (some (1, 0)) a (.ex a)), (13, .int .i64 j)], []⟩ ∧ FarH [vs nT T, .int .i64 M] a a a (rds T M l but j) σ)
      ⟨l.length, 0, by omega, by simp, hF⟩ ?_
    rintro k3 _ σ3 ⟨j, hj, rfl, hF3⟩
    by_cases hjl : j < l.length
    · have hrj := hr j hjl
      unfold okRd at hrj
      by_cases hbut : (j : Int) = but
      · simp (disch := omega) [Und, hjl, eq_true hbut]
        exact ⟨k3 - 1, by omega, j + 1, by omega, by omega, by simpa only [rds, if_pos hbut] using hF3⟩
      · have hTa := hs.2 (nth l j).a.toNat (by omega)
        have hTb := hs.2 (nth l j).b.toNat (by omega)
        have n1 := node_ok nT T M hs (nth l j).a (nth l j).i (by omega) (by omega)
        have n2 := node_ok nT T M hs (nth l j).b (nth l j).j (by omega) (by omega)
        have hA := nodeN_lt (T := T) (i := (nth l j).a.toNat) (k := (nth l j).i.toNat) (by omega) (by unfold tn; omega)
        have hB := nodeN_lt (T := T) (i := (nth l j).b.toNat) (k := (nth l j).j.toNat) (by omega) (by unfold tn; omega)
        have hnext : rds T M l but (j + 1) = rd1 (rds T M l but j) (nodeN T (nth l j).a.toNat (nth l j).i.toNat) (nodeN T (nth l j).b.toNat (nth l j).j.toNat) (nth l j).v (nth l j).w := by
          simp only [rds, if_neg hbut]
        rw [← hN] at hA hB
        generalize nodeN T (nth l j).a.toNat (nth l j).i.toNat = A at *
        generalize nodeN T (nth l j).b.toNat (nth l j).j.toNat = B at *
        generalize rds T M l but j = E at *
        have oA := outC_get (N := a) (a := a) hA
        have oB := outC_get (N := a) (a := a) hB
        rw [if_pos hA] at oA
        rw [if_pos hB] at oB
        have rA := hF3.row A hA
        have rB := hF3.row B hB
        have gA := fun f => rowC_get f hA
        have gB := fun f => rowC_get f hB
        have z1 : (1 = 2 + A) = False := by simp; omega
        have hA1 : A + 1 ≤ a := hA
        have hB1 : B + 1 ≤ a := hB
        have hA2 : (A : Int) < a := by omega
        have hB2 : (B : Int) < a := by omega
        have hz : (0 < 2 + a) = True := by simp; omega
        have rr : ∀ σ', FarH [vs nT T, .int .i64 M] a a a (rd1 E A B (nth l j).v (nth l j).w) σ' → ∃ j_1, j_1 < k3 ∧ ∃ j_2 : Nat, j_2 + j_1 = l.length ∧ (j : Int) + 1 = j_2 ∧ FarH [vs nT T, .int .i64 M] a a a (rds T M l but j_2) σ' :=
          fun σ' hf => ⟨k3 - 1, by omega, j + 1, by omega, by omega, by rw [hnext]; exact hf⟩
        by_cases eAB : B = A
        · simp (disch := omega) [Und, hjl, eq_false hbut, hF3.lim, hF3.next, hF3.box, hF3.out, n1, n2, oA, oB, rA, rB, gA, gB, z1, outC_len, rowC_len, hA1, hB1, hA2, hB2, eq_true eAB, rowC_set, eq_true hA, eq_true hB, hz]
          refine rr _ (hF3.rd (by simp [hF3.lim]) (by simp [hF3.next]) (fun i h1 h2 => by simp [h1, h2]) fun k hk => ?_)
          subst eAB
          obtain rfl : k = B := by omega
          simp (disch := omega) [hF3.next]
          refine ⟨hA, congrArg _ (rowC_congr fun i hi => ?_)⟩
          unfold rd1 upd
          by_cases hi : i = k
          · simp [hi]
          · simp [hi]
        · simp (disch := omega) [Und, hjl, eq_false hbut, hF3.lim, hF3.next, hF3.box, hF3.out, n1, n2, oA, oB, rA, rB, gA, gB, z1, outC_len, rowC_len, hA1, hB1, hA2, hB2, eq_false eAB, rowC_set, eq_true hA, eq_true hB, hz]
          refine rr _ (hF3.rd (by simp [hF3.lim]) (by simp [hF3.next]) (fun i h1 h2 => by simp [h1, h2]) fun k hk => ?_)
          have eBA : ¬ A = B := fun e => eAB e.symm
          rcases hk with rfl | rfl
          · simp (disch := omega) [hF3.next, eBA]
            refine ⟨hA, congrArg _ (rowC_congr fun i hi => ?_)⟩
            unfold rd1 upd
            simp [eAB, eBA]
          · simp (disch := omega) [hF3.next, eAB]
            refine ⟨hB, congrArg _ (rowC_congr fun i hi => ?_)⟩
            unfold rd1 upd
            simp [eAB, eBA]
    · obtain rfl : j = l.length := by omega
      clear hF hj hjl
      generalize rds T M l but l.length = W at *
      simp (disch := omega) [Und]
      refine lp_loop pl (fun k fr σ => ∃ (c : Nat), c + k = a ∧ fr = ⟨[(8, .int .i64 a), (9, .slice (some (1, 0)) a (.ex a)), (16, .int .i64 c)], []⟩ ∧ FarH [vs nT T, .int .i64 M] a a a (fw a c W) σ)
        ⟨a, 0, by omega, by simp, hF3⟩ ?_
      rintro k4 _ σ4 ⟨c, hc, rfl, hF4⟩
      clear hF3
      by_cases hca : c < a
      · have hca2 : (c : Int) < a := by omega
        simp (disch := omega) [Und, eq_true hca, hca2]
        refine lp_loop pl (fun k fr σ => ∃ (i : Nat), i + k = a ∧ fr = ⟨[(8, .int .i64 a), (9, .slice (some (1, 0)) a (.ex a)), (16, .int .i64 c), (17, .int .i64 i)], []⟩ ∧ FarH [vs nT T, .int .i64 M] a a a (fmat a c i (fw a c W)) σ)
          ⟨a, 0, by omega, by simp, hF4⟩ ?_
        rintro k5 _ σ5 ⟨i, hi, rfl, hF5⟩
        clear hF4
        by_cases hia : i < a
        · have hia2 : (i : Int) < a := by omega
          simp (disch := omega) [Und, eq_true hia, hia2]
          refine lp_loop pl (fun k fr σ => ∃ (j : Nat), j + k = a ∧ fr = ⟨[(8, .int .i64 a), (9, .slice (some (1, 0)) a (.ex a)), (16, .int .i64 c), (17, .int .i64 i), (18, .int .i64 j)], []⟩ ∧ FarH [vs nT T, .int .i64 M] a a a (frow c i j (fmat a c i (fw a c W))) σ)
            ⟨a, 0, by omega, by simp, hF5⟩ ?_
          rintro k6 _ σ6 ⟨j, hj, rfl, hF6⟩
          clear hF5
          by_cases hja : j < a
          · have hja2 : (j : Int) < a := by omega
            have hst : frow c i (j + 1) (fmat a c i (fw a c W)) = fstep (frow c i j (fmat a c i (fw a c W))) c i j := rfl
            generalize frow c i j (fmat a c i (fw a c W)) = E at *
            have oA := outC_get (N := a) (a := a) hia
            have oB := outC_get (N := a) (a := a) hca
            rw [if_pos hia] at oA
            rw [if_pos hca] at oB
            have rA := hF6.row i hia
            have rB := hF6.row c hca
            have g1 := fun f => rowC_get f hja
            have g2 := fun f => rowC_get f hca
            have hA1 : i + 1 ≤ a := hia
            have hB1 : c + 1 ≤ a := hca
            have hC1 : j + 1 ≤ a := hja
            simp (disch := omega) [Und, eq_true hja, hja2, hia2, hca2, hF6.lim, hF6.next, hF6.out, oA, oB, rA, rB, g1, g2, outC_len, rowC_len, hA1, hB1, hC1, rowC_set]
            exact ⟨k6 - 1, by omega, j + 1, by omega, by omega, by
              rw [hst]
              exact hF6.put' hia (by simp) (by simp) (fun m hm => by simp [hm]) (by rw [AH.get_set_same _ _ _ (by rw [hF6.next]; omega), rowC_set])⟩
          · obtain rfl : j = a := by omega
            simp (disch := omega) [Und]
            exact ⟨k5 - 1, by omega, i + 1, by omega, by omega, hF6⟩
        · obtain rfl : i = a := by omega
          simp (disch := omega) [Und]
          exact ⟨k4 - 1, by omega, c + 1, by omega, by omega, hF5⟩
      · obtain rfl : c = a := by omega
        rw [← hD] at hF4
        simp (disch := omega) [Und]
        refine lp_loop pl (fun k fr σ => ∃ (i : Nat), i + k = c ∧ fr = ⟨[(8, .int .i64 c), (9, .slice (some (1, 0)) c (.ex c)), (19, .int .i64 i)], []⟩ ∧ FarH [vs nT T, .int .i64 M] c c c D σ ∧ ∀ m, m < i → 0 ≤ D m m)
          ⟨c, 0, by omega, by simp, hF4, fun m hm => by omega⟩ ?_
        rintro k5 _ σ5 ⟨i, hi, rfl, hF5, hd⟩
        clear hF4
        by_cases hia : i < c
        · have hia2 : (i : Int) < c := by omega
          have oA := outC_get (N := c) (a := c) hia
          rw [if_pos hia] at oA
          have rA := hF5.row i hia
          have g1 := fun f => rowC_get f hia
          have hA1 : i + 1 ≤ c := hia
          simp (disch := omega) [Und, eq_true hia, hia2, hF5.lim, hF5.next, hF5.out, oA, rA, g1, outC_len, rowC_len, hA1]
          refine ⟨fun h => ?_, fun h => ⟨k5 - 1, by omega, i + 1, by omega, by omega, hF5, fun m hm => ?_⟩⟩
          · rcases hv with ⟨h1, _⟩ | ⟨_, h2⟩
            · have := h1 i hia; omega
            · exact h2.symm
          · by_cases e : m = i
            · rw [e]; exact h
            · exact hd m (by omega)
        · obtain rfl : i = c := by omega
          have hfz := hF5.fz (by omega) 4
          simp (disch := omega) [Und, hfz]
          rcases hv with ⟨_, h2⟩ | ⟨⟨m, h1, h2⟩, _⟩
          · rw [h2]
          · have := hd m h1; omega
end Go.Oct.Screw
