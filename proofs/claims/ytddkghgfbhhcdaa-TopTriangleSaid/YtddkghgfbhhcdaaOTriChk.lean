/- Nets: the check of a net. -/
import Derived.Test.YtddkghgfbhhcdaaOTriFloV
set_option maxRecDepth 100000
set_option maxHeartbeats 8000000
set_option linter.unusedVariables false
set_option linter.unusedSimpArgs false
namespace Go.Oct.Tri
open Go.Oct
theorem IndexFuncI_ok (nl : Bool) (xs : List Int) (hx : xs.length < 2 ^ 62) (g : Nat) (cs ds : List AV) (hg : pl.contains g = false) (hc : cs.all (closed 7) = true) (hd : ds.all (closed 7) = true) (hc8 : cs.all (closed 8) = true) (hd8 : ds.all (closed 8) = true) (P : Int → Bool)
    (h : ∀ j, j < xs.length → ans prog O g (cs ++ AV.int .i64 (nth xs j) :: ds) = some (.bool (P (nth xs j)))) :
    ∃ n : Int, ans prog O 106 [vl (AV.int .i64) nl xs, .func (.func g) cs ds] = some (.int .i64 n) ∧ (0 ≤ n ↔ ∃ j, j < xs.length ∧ P (nth xs j) = true) ∧ -1 ≤ n := by
  have key : ∀ n : Int, (n = -1 ∧ (∀ j, j < xs.length → P (nth xs j) = false) ∨ (∃ i, n = (i : Nat) ∧ i < xs.length ∧ P (nth xs i) = true ∧ ∀ j, j < i → P (nth xs j) = false)) →
      ans prog O 106 [vl (AV.int .i64) nl xs, .func (.func g) cs ds] = some (.int .i64 n) := by
    intro n hn
    refine fn_of' pl get106 (oo (by decide)) (by simp [hc, hd]) rfl ?_
    simp +contextual (disch := omega) []
    refine lp_count pl xs.length (fun j => [(0, vl (AV.int .i64) nl xs), (1, .func (.func g) cs ds), (7, .int .i64 xs.length), (8, .int .i64 j)]) (fun _ => ⟨0, 0, .leaf⟩) (fun j => ∀ i, i < j → P (nth xs i) = false) (by simp) ?_
    intro j hj hi
    have hg' := hg
    simp at hg'
    simp +contextual (disch := omega) [Und, hg', hc8, hd8, h]
    refine ⟨fun hjl => ⟨fun hp => ?_, fun hp i h1 => ?_⟩, fun hjl => ?_⟩
    · rcases hn with ⟨_, h2⟩ | ⟨i, h1, h2, h3, h4⟩
      · rw [h2 j hjl] at hp; cases hp
      · have : i = j := by
          rcases Nat.lt_trichotomy i j with h5 | h5 | h5
          · rw [hi i h5] at h3; cases h3
          · exact h5
          · rw [h4 j h5] at hp; cases hp
        omega
    · by_cases e : i = j
      · rw [e]; exact hp
      · exact hi i (by omega)
    · rcases hn with ⟨h1, _⟩ | ⟨i, h1, h2, h3, h4⟩
      · omega
      · rw [hi i (by omega)] at h3; cases h3
  by_cases hex : ∃ j, j < xs.length ∧ P (nth xs j) = true
  · have hmin : ∀ m j, j ≤ m → j < xs.length → P (nth xs j) = true → ∃ i, i < xs.length ∧ P (nth xs i) = true ∧ ∀ j, j < i → P (nth xs j) = false := by
      intro m
      induction m with
      | zero => intro j h1 h2 h3; exact ⟨j, h2, h3, fun i hi => by omega⟩
      | succ m ih =>
        intro j h1 h2 h3
        by_cases hb : ∃ i, i < j ∧ P (nth xs i) = true
        · obtain ⟨i, h4, h5⟩ := hb
          exact ih i (by omega) (by omega) h5
        · refine ⟨j, h2, h3, fun i hi => ?_⟩
          cases hq : P (nth xs i) with
          | false => rfl
          | true => exact absurd ⟨i, hi, hq⟩ hb
    obtain ⟨j, h1, h2⟩ := hex
    obtain ⟨i, h3, h4, h5⟩ := hmin j j (Nat.le_refl _) h1 h2
    exact ⟨i, key _ (.inr ⟨i, rfl, h3, h4, h5⟩), ⟨fun _ => ⟨j, h1, h2⟩, fun _ => by omega⟩, by omega⟩
  · refine ⟨-1, key _ (.inl ⟨rfl, fun j hj => ?_⟩), ⟨fun h => by omega, fun h => absurd h hex⟩, by omega⟩
    cases hq : P (nth xs j) with
    | false => rfl
    | true => exact absurd ⟨j, hj, hq⟩ hex
theorem ContainsFuncI_ok (nl : Bool) (xs : List Int) (hx : xs.length < 2 ^ 62) (g : Nat) (cs ds : List AV) (hg : pl.contains g = false) (hc : cs.all (closed 7) = true) (hd : ds.all (closed 7) = true) (hc8 : cs.all (closed 8) = true) (hd8 : ds.all (closed 8) = true) (P : Int → Bool)
    (h : ∀ j, j < xs.length → ans prog O g (cs ++ AV.int .i64 (nth xs j) :: ds) = some (.bool (P (nth xs j)))) :
    ans prog O 52 [vl (AV.int .i64) nl xs, .func (.func g) cs ds] = some (.bool (decide (∃ j, j < xs.length ∧ P (nth xs j) = true))) := by
  obtain ⟨n, h1, h2, h3⟩ := IndexFuncI_ok nl xs hx g cs ds hg hc hd hc8 hd8 P h
  refine fn_of' pl get52 (oo (by decide)) (by simp [hc, hd]) rfl ?_
  simp +contextual (disch := omega) [h1, hc, hd, h2]

@[simp] theorem within_ok' (n l h : Int) : ans prog O 38 [.int .i64 n, .int .i64 l, .int .i64 h] = some (.bool (decide (l ≤ n ∧ n ≤ h))) := by
  refine fn_of' pl get38 (oo (by decide)) rfl rfl ?_
  simp +contextual (disch := omega) []
@[simp] theorem spanned_ok' (lo hi l h : Int) : ans prog O 39 [.agg [.int .i64 lo, .int .i64 hi], .int .i64 l, .int .i64 h] = some (.bool (decide (l ≤ lo ∧ lo ≤ hi ∧ hi ≤ h))) := by
  refine fn_of' pl get39 (oo (by decide)) rfl rfl ?_
  simp +contextual (disch := omega) [Bool.and_assoc]
theorem check1_ok (n : Int) : ans prog O 99 [.int .i64 n] = some (.bool (decide (n ≠ 3))) := by
  refine fn_of' pl get99 (oo (by decide)) rfl rfl ?_
  simp +contextual (disch := omega) []
theorem not3_ok (nl : Bool) (xs : List Int) (hx : xs.length < 2 ^ 62) : ans prog O 52 [vs nl xs, .func (.func 99) [] []] = some (.bool (decide (∃ j, j < xs.length ∧ (decide (nth xs j ≠ 3)) = true))) :=
  ContainsFuncI_ok nl xs hx 99 [] [] (by decide) rfl rfl rfl rfl (fun n => decide (n ≠ 3)) (fun j _ => check1_ok (nth xs j))
@[simp] theorem aslS_eAn {nl : Bool} {xs : List An} (lo hi mx : Option AV) : aslS 4 (vl eAn nl xs) lo hi mx = (abounds xs.length xs.length lo hi mx).map fun r => vl eAn nl ((xs.drop r.1).take (r.2.1 - r.1)) := aslS_vl (e := eAn) (fun _ => rfl) lo hi mx
/-- How many angles each triangle has. -/
def manyL (A : List An) (n : Nat) : List Int := (List.range n).map fun (t : Nat) => (cntT A t : Int)
theorem manyL_len (A : List An) (n : Nat) : (manyL A n).length = n := by simp [manyL]
theorem manyL_nth (A : List An) {n t : Nat} (h : t < n) : nth (manyL A n) t = cntT A t := by
  unfold manyL
  rw [nth_map (f := fun (t : Nat) => (cntT A t : Int)) (by simpa using h), nth_eq (by simpa using h), List.getElem_range]
theorem cntT_app (A : List An) (a : An) (t : Int) : cntT (A ++ [a]) t = cntT A t + if a.t = t then 1 else 0 := by
  unfold cntT
  rw [List.filter_append, List.length_append]
  congr 1
  by_cases h : a.t = t <;> simp [List.filter, h]
theorem manyL_succ {A : List An} {n i : Nat} (hi : i < A.length) (h0 : 0 ≤ (nth A i).t) (h1 : (nth A i).t < n) :
    (manyL (A.take i) n).set (nth A i).t.toNat ((cntT (A.take i) (nth A i).t : Int) + 1) = manyL (A.take (i + 1)) n := by
  have hl : (nth A i).t.toNat < (manyL (A.take i) n).length := by rw [manyL_len]; omega
  refine ext_nth (by simp [manyL_len]) fun t ht => ?_
  rw [List.length_set, manyL_len] at ht
  rw [nth_set hl, manyL_nth _ ht, manyL_nth _ ht, take_succ_nth hi, cntT_app]
  by_cases e : t = (nth A i).t.toNat
  · have e5 : (t : Int) = (nth A i).t := by omega
    rw [if_pos e, if_pos (by omega), e5]; omega
  · rw [if_neg e, if_neg (by omega)]; omega
/-- Numbers, in cells. -/
def iC (xs : List Int) : List AV := xs.map (AV.int .i64)
theorem iC_len (xs : List Int) : (iC xs).length = xs.length := by simp [iC]
theorem iC_get {xs : List Int} {q : Nat} (hq : q < xs.length) : (iC xs)[q]? = some (.int .i64 (nth xs q)) := by
  unfold iC
  rw [List.getElem?_map, nth_get? hq]; rfl
theorem iC_set (xs : List Int) (q : Nat) (y : Int) : (iC xs).set q (.int .i64 y) = iC (xs.set q y) := by unfold iC; rw [List.map_set]
theorem iC_row (xs : List Int) : rowOf (AV.int .i64) xs = iC xs := by
  unfold rowOf iC
  induction xs with
  | nil => rfl
  | cons x xs ih => rw [List.flatMap_cons, ih]; rfl
/-- The check of the first angles. -/
def chkTo (T : Int) (m : Nat) (A : List An) (i : Nat) : Prop := (∀ j, j < i → okAn T m (nth A j)) ∧ ∀ j, j < i → ∀ l, l < j → ¬ ((nth A l).t = (nth A j).t ∧ (nth A l).s = (nth A j).s)
@[simp] theorem Check_ok (T : Int) (nC : Bool) (C : List Bool) (nA : Bool) (A : List An) (hC : C.length < 2 ^ 62) (hA : A.length < 2 ^ 62) : ans prog O 47 [eNet T nC C nA A] = some (.int .i64 (if okNet T C A then 0 else 60)) := by
  refine fn_of' pl get47 (oo (by decide)) rfl rfl ?_
  by_cases c1 : 1 ≤ T ∧ T ≤ 8
  · by_cases c2 : 1 ≤ (C.length : Int) ∧ (C.length : Int) ≤ 8
    · have hw : w64 (3 * T) = 3 * T := w64_id _ (by omega) (by omega)
      by_cases c3 : (A.length : Int) = 3 * T
      · obtain ⟨n, rfl⟩ : ∃ n : Nat, T = n := ⟨T.toNat, by omega⟩
        have ht1 : (n : Int) * 8 ≤ topBytes := by simp only [topBytes]; omega
        have ht2 : (n : Int) ≤ topBytes := by simp only [topBytes]; omega
        simp (disch := omega) [eNet, Und, c1, c2, eq_true c3, hw, -Bool.exists_bool]
        refine ⟨⟨ht1, by omega⟩, ?_⟩
        have hm0 : zcells [AV.int .i64 0] n = iC (manyL (A.take 0) n) := by
          rw [zcells_row (AV.int .i64) (x := (0 : Int)) (zero := [AV.int .i64 0]) rfl, iC_row]
          congr 1
          refine ext_nth (by simp [manyL_len]) fun j hj => ?_
          rw [List.length_replicate] at hj
          rw [manyL_nth _ hj]
          unfold nth
          rw [List.getD_eq_getElem?_getD, List.getElem?_replicate, if_pos hj]; rfl
        refine lp_loop pl (fun k fr σ => ∃ i : Nat, k + i = A.length ∧ fr = ⟨[(1, .ptr (some (0, 0))), (3, .slice (some (1, 0)) n (.ex n)), (32, vl eAn nA A), (33, .int .i64 A.length), (34, .int .i64 i)], []⟩ ∧ σ.lim = 0 ∧ 2 ≤ σ.next ∧
            σ.get 0 = some (.cells [.int .i64 n, vl AV.bool nC C, vl eAn nA A]) ∧ σ.get 1 = some (.cells (iC (manyL (A.take i) n))) ∧ chkTo n C.length A i)
          ⟨A.length, 0, by omega, rfl, rfl, by simp, by simp, by simp; exact hm0, fun j hj => by omega, fun j hj => by omega⟩ ?_
        rintro k _ σ ⟨i, hi, rfl, s0, sn, sg0, sg1, hch⟩
        by_cases hiA : i < A.length
        · have hiA' : (i : Int) < A.length := by omega
          by_cases hok : okAn n C.length (nth A i)
          · obtain ⟨b1, b2, b3, b4, b5⟩ := hok
            have d1 : 0 ≤ (nth A i).t ∧ (nth A i).t ≤ (n : Int) - 1 := by omega
            have d2 : 0 ≤ (nth A i).s ∧ (nth A i).s ≤ (C.length : Int) - 1 := by omega
            have d3 : 0 ≤ (nth A i).lo ∧ (nth A i).lo ≤ (nth A i).hi ∧ (nth A i).hi ≤ 648000 := ⟨b3, b4, b5⟩
            have ml := manyL_len (A.take i) n
            have mil := iC_len (manyL (A.take i) n)
            rw [ml] at mil
            have mg := iC_get (xs := manyL (A.take i) n) (q := (nth A i).t.toNat) (by rw [ml]; omega)
            have e5 : (((nth A i).t.toNat : Nat) : Int) = (nth A i).t := by omega
            rw [manyL_nth _ (by omega), e5] at mg
            have ms := fun y => iC_set (manyL (A.take i) n) (nth A i).t.toNat y
            have mc : (cntT (A.take i) (nth A i).t : Int) ≤ 24 := by
              have h1 : cntT (A.take i) (nth A i).t ≤ (A.take i).length := List.length_filter_le _ _
              have h2 : (A.take i).length ≤ A.length := by rw [List.length_take]; omega
              omega
            have mt : (nth A i).t.toNat + 1 ≤ n := by omega
            simp (disch := omega) [eqf1, eqf2, Und, s0, sg0, sg1, hiA', d1, d2, d3, mil, mg, ms, mt, b1.2, -Bool.exists_bool, -getElem?_pos]
            refine ⟨by omega, ?_⟩
            generalize hτ : AH.set _ 1 _ = τ
            have lg1 := AH.get_lt sg1
            have a0 : τ.lim = 0 := by rw [← hτ]; exact s0
            have an : τ.next = σ.next + 1 := by rw [← hτ]; rfl
            have ag0 : τ.get 0 = some (.cells [.int .i64 n, vl AV.bool nC C, vl eAn nA A]) := by rw [← hτ]; simp (disch := omega) [eqf1, eqf2, sg0]
            have agn : τ.get σ.next = some (.cells [.int .i64 (nth A i).t, .int .i64 (nth A i).s, .int .i64 (nth A i).lo, .int .i64 (nth A i).hi]) := by rw [← hτ]; simp (disch := omega) [eqf1, eqf2]
            have ag1 : τ.get 1 = some (.cells (iC (manyL (A.take (i + 1)) n))) := by
              rw [← hτ, AH.get_set_same _ _ _ (by show 1 < σ.next + 1; omega)]
              have hms := manyL_succ (n := n) hiA b1.1 (by omega)
              rw [← hms]
            clear hτ
            have tl : (A.take i).length = i := by rw [List.length_take]; omega
            refine lp_loop pl (fun k2 fr υ => ∃ j : Nat, k2 + j = i ∧ fr = ⟨[(1, .ptr (some (0, 0))), (3, .slice (some (1, 0)) n (.ex n)), (5, .ptr (some (σ.next, 0))), (32, vl eAn nA A), (33, .int .i64 A.length), (34, .int .i64 i), (72, vl eAn nA (A.take i)), (73, .int .i64 i), (74, .int .i64 j)], []⟩ ∧ υ.lim = 0 ∧ τ.next ≤ υ.next ∧
                (∀ q, q < τ.next → υ.get q = τ.get q) ∧ ∀ l, l < j → ¬ ((nth A l).t = (nth A i).t ∧ (nth A l).s = (nth A i).s))
              ⟨i, 0, by omega, by simp [tl], a0, Nat.le_refl _, fun _ _ => rfl, fun l hl => by omega⟩ ?_
            rintro k2 _ υ ⟨j, hj, rfl, v0, vn, vg, vd⟩
            have vgn : υ.get σ.next = _ := (vg _ (by omega)).trans agn
            by_cases hji : j < i
            · have hji' : (j : Int) < i := by omega
              have hnt : nth (A.take i) j = nth A j := nth_take hji (by omega)
              by_cases hsame : (nth A j).t = (nth A i).t ∧ (nth A j).s = (nth A i).s
              · have hno : ¬ okNet n C A := fun h => h.2.2.2.2.1 i hiA j hji hsame
                simp (disch := omega) [eqf1, eqf2, Und, v0, vgn, hji', tl, hnt, eq_true hsame.1, eq_true hsame.2, hno, -Bool.exists_bool, -getElem?_pos]
              · by_cases hs1 : (nth A j).t = (nth A i).t
                · have hs2 : ¬ (nth A j).s = (nth A i).s := fun h => hsame ⟨hs1, h⟩
                  simp (disch := omega) [eqf1, eqf2, Und, v0, vgn, hji', tl, hnt, eq_true hs1, hs2, -Bool.exists_bool, -getElem?_pos]
                  refine ⟨k2 - 1, by omega, j + 1, by omega, by omega, by omega, fun q hq => ?_, fun l hl => ?_⟩
                  · rw [if_neg (by omega), if_neg (by omega)]; exact vg q hq
                  · by_cases e : l = j
                    · rw [e]; exact fun _ => hs2
                    · exact fun h hh => vd l (by omega) ⟨h, hh⟩
                · simp (disch := omega) [eqf1, eqf2, Und, v0, vgn, hji', tl, hnt, hs1, -Bool.exists_bool, -getElem?_pos]
                  refine ⟨k2 - 1, by omega, j + 1, by omega, by omega, by omega, fun q hq => ?_, fun l hl => ?_⟩
                  · rw [if_neg (by omega), if_neg (by omega)]; exact vg q hq
                  · by_cases e : l = j
                    · rw [e]; exact fun h => absurd h hs1
                    · exact fun h hh => vd l (by omega) ⟨h, hh⟩
            · obtain rfl : j = i := by omega
              simp (disch := omega) [eqf1, eqf2, Und, v0, -Bool.exists_bool, -getElem?_pos]
              refine ⟨k - 1, by omega, j + 1, by omega, by omega, by omega, (vg 0 (by omega)).trans ag0, (vg 1 (by omega)).trans ag1, fun q hq => ?_, fun q hq l hl => ?_⟩
              · by_cases e : q = j
                · subst e; exact ⟨b1, b2, b3, b4, b5⟩
                · exact hch.1 q (by omega)
              · by_cases e : q = j
                · subst e; exact vd l hl
                · exact hch.2 q (by omega) l hl
          · have hno : ¬ okNet n C A := fun h => hok (h.2.2.2.1 i hiA)
            by_cases d1 : 0 ≤ (nth A i).t ∧ (nth A i).t ≤ (n : Int) - 1
            · by_cases d2 : 0 ≤ (nth A i).s ∧ (nth A i).s ≤ (C.length : Int) - 1
              · have d3 : ¬ (0 ≤ (nth A i).lo ∧ (nth A i).lo ≤ (nth A i).hi ∧ (nth A i).hi ≤ 648000) := fun h => hok ⟨⟨d1.1, by omega⟩, ⟨d2.1, by omega⟩, h⟩
                simp (disch := omega) [eqf1, eqf2, Und, s0, sg0, sg1, hiA', d1, d2, d3, hno, -Bool.exists_bool, -getElem?_pos]
              · simp (disch := omega) [eqf1, eqf2, Und, s0, sg0, sg1, hiA', d1, d2, hno, -Bool.exists_bool, -getElem?_pos]
            · simp (disch := omega) [eqf1, eqf2, Und, s0, sg0, sg1, hiA', d1, hno, -Bool.exists_bool, -getElem?_pos]
        · obtain rfl : i = A.length := by omega
          rw [List.take_length] at sg1
          have hn3 := not3_ok false (manyL A n) (by rw [manyL_len]; omega)
          have hwh : Whole 0 1 (AV.int .i64) σ (.slice (some (1, 0)) n (.ex n)) (manyL A n) := ⟨1, .ex n, by rw [manyL_len], Nat.zero_le _, by rw [sg1, iC_row], .inr (by rw [manyL_len])⟩
          have hfn : Snap σ (.func (.func 99) [] []) [] (.func (.func 99) [] []) := ⟨rfl, fun _ _ => rfl⟩
          simp (disch := omega) [eqf1, eqf2, Und, s0, -Bool.exists_bool, -getElem?_pos]
          refine pc_scal (.cons (hwh.view.snap encI flatI) (.cons hfn .nil)) (fun h => by simp at h) (by simp) (oo (args := []) (by decide)).1 hn3 rfl ?_
          by_cases hall : ∀ t, t < n → cntT A t = 3
          · have hyes : okNet n C A := ⟨by omega, by omega, c3, hch.1, hch.2, fun t ht => hall t (by omega)⟩
            have hex : ¬ ∃ j, j < (manyL A n).length ∧ decide (nth (manyL A n) j ≠ 3) = true := by
              rintro ⟨j, hj, h⟩
              rw [manyL_len] at hj
              rw [manyL_nth _ hj, hall j hj] at h
              simp at h
            rw [decide_eq_false hex]
            simp (disch := omega) [Und, hyes, -Bool.exists_bool]
          · have hno : ¬ okNet n C A := fun h => hall fun t ht => h.2.2.2.2.2 t (by omega)
            have hex : ∃ j, j < (manyL A n).length ∧ decide (nth (manyL A n) j ≠ 3) = true := by
              by_cases h : ∃ t, t < n ∧ cntT A t ≠ 3
              · obtain ⟨t, h1, h2⟩ := h
                refine ⟨t, by rw [manyL_len]; exact h1, ?_⟩
                rw [manyL_nth _ h1]
                simp; omega
              · exact absurd (fun t ht => by
                  by_cases e : cntT A t = 3
                  · exact e
                  · exact absurd ⟨t, ht, e⟩ h) hall
            rw [decide_eq_true hex]
            simp (disch := omega) [Und, hno, -Bool.exists_bool]
      · have hno : ¬ okNet T C A := fun h => c3 h.2.2.1
        simp (disch := omega) [eNet, Und, c1, c2, c3, hw, hno, -Bool.exists_bool]
    · have hno : ¬ okNet T C A := fun h => c2 ⟨by have := h.2.1; omega, by have := h.2.1; omega⟩
      simp (disch := omega) [eNet, Und, c1, c2, hno, -Bool.exists_bool]
  · have hno : ¬ okNet T C A := fun h => c1 h.1
    simp (disch := omega) [eNet, Und, c1, hno, -Bool.exists_bool]
end Go.Oct.Tri
