/- Screws and readings: are they valid? What mirrored readings are. -/
import Derived.Test.YtddkghgfbhhcdaaDoorOPlaGreatW
set_option maxRecDepth 100000
set_option maxHeartbeats 1000000
set_option linter.unusedVariables false
set_option linter.unusedSimpArgs false
namespace Go.Oct.Pla
open Go.Oct
theorem IndexFuncR_ok (nl : Bool) (xs : List Rd) (hx : xs.length < 2 ^ 62) (g : Nat) (cs ds : List AV) (hg : pl.contains g = false) (hc : cs.all (closed 7) = true) (hd : ds.all (closed 7) = true) (hc8 : cs.all (closed 8) = true) (hd8 : ds.all (closed 8) = true) (P : Rd → Bool)
    (h : ∀ j, j < xs.length → ans prog O g (cs ++ eRd (nth xs j) :: ds) = some (.bool (P (nth xs j)))) :
    ∃ n : Int, ans prog O 86 [vl eRd nl xs, .func (.func g) cs ds] = some (.int .i64 n) ∧ (0 ≤ n ↔ ∃ j, j < xs.length ∧ P (nth xs j) = true) ∧ -1 ≤ n := by
  have key : ∀ n : Int, (n = -1 ∧ (∀ j, j < xs.length → P (nth xs j) = false) ∨ (∃ i, n = (i : Nat) ∧ i < xs.length ∧ P (nth xs i) = true ∧ ∀ j, j < i → P (nth xs j) = false)) →
      ans prog O 86 [vl eRd nl xs, .func (.func g) cs ds] = some (.int .i64 n) := by
    intro n hn
    refine fn_of' pl get86 (oo (by decide)) (by simp [hc, hd]) rfl ?_
    simp +contextual (disch := omega) []
    refine lp_count pl xs.length (fun j => [(0, vl eRd nl xs), (1, .func (.func g) cs ds), (7, .int .i64 xs.length), (8, .int .i64 j)]) (fun _ => ⟨0, 0, .leaf⟩) (fun j => ∀ i, i < j → P (nth xs i) = false) (by simp) ?_
    intro j hj hi
    have hg' := hg
    simp at hg'
    simp only [eRd] at h
    simp +contextual (disch := omega) [Und, hg', hc8, hd8, h]
    refine ⟨fun hjl => ⟨fun hp => ?_, fun hp i h1 => ?_⟩, fun hjl => ?_⟩
    · rcases hn with ⟨_, h2⟩ | ⟨i, h1, h2, h3, h4⟩
      · rw [h2 j hjl] at hp; cases hp
      · have : i = j := by
          rcases Nat.lt_trichotomy i j with h5 | h5 | h5
          · rw [hi i h5] at h3; cases h3
          · exact h5
          · rw [h4 j h5] at hp; cases hp
        omega
    · by_cases e : i = j
      · rw [e]; exact hp
      · exact hi i (by omega)
    · rcases hn with ⟨h1, _⟩ | ⟨i, h1, h2, h3, h4⟩
      · omega
      · rw [hi i (by omega)] at h3; cases h3
  by_cases hex : ∃ j, j < xs.length ∧ P (nth xs j) = true
  · have hmin : ∀ m j, j ≤ m → j < xs.length → P (nth xs j) = true → ∃ i, i < xs.length ∧ P (nth xs i) = true ∧ ∀ j, j < i → P (nth xs j) = false := by
      intro m
      induction m with
      | zero => intro j h1 h2 h3; exact ⟨j, h2, h3, fun i hi => by omega⟩
      | succ m ih =>
        intro j h1 h2 h3
        by_cases hb : ∃ i, i < j ∧ P (nth xs i) = true
        · obtain ⟨i, h4, h5⟩ := hb
          exact ih i (by omega) (by omega) h5
        · refine ⟨j, h2, h3, fun i hi => ?_⟩
          cases hq : P (nth xs i) with
          | false => rfl
          | true => exact absurd ⟨i, hi, hq⟩ hb
    obtain ⟨j, h1, h2⟩ := hex
    obtain ⟨i, h3, h4, h5⟩ := hmin j j (Nat.le_refl _) h1 h2
    exact ⟨i, key _ (.inr ⟨i, rfl, h3, h4, h5⟩), ⟨fun _ => ⟨j, h1, h2⟩, fun _ => by omega⟩, by omega⟩
  · refine ⟨-1, key _ (.inl ⟨rfl, fun j hj => ?_⟩), ⟨fun h => by omega, fun h => absurd h hex⟩, by omega⟩
    cases hq : P (nth xs j) with
    | false => rfl
    | true => exact absurd ⟨j, hj, hq⟩ hex
theorem ContainsFuncR_ok (nl : Bool) (xs : List Rd) (hx : xs.length < 2 ^ 62) (g : Nat) (cs ds : List AV) (hg : pl.contains g = false) (hc : cs.all (closed 7) = true) (hd : ds.all (closed 7) = true) (hc8 : cs.all (closed 8) = true) (hd8 : ds.all (closed 8) = true) (P : Rd → Bool)
    (h : ∀ j, j < xs.length → ans prog O g (cs ++ eRd (nth xs j) :: ds) = some (.bool (P (nth xs j)))) :
    ans prog O 46 [vl eRd nl xs, .func (.func g) cs ds] = some (.bool (decide (∃ j, j < xs.length ∧ P (nth xs j) = true))) := by
  obtain ⟨n, h1, h2, h3⟩ := IndexFuncR_ok nl xs hx g cs ds hg hc hd hc8 hd8 P h
  refine fn_of' pl get46 (oo (by decide)) (by simp [hc, hd]) rfl ?_
  simp +contextual (disch := omega) [h1, hc, hd, h2]
theorem isSet1_ok (n : Int) : ans prog O 114 [.int .i64 n] = some (.bool (!decide (1 ≤ n ∧ n ≤ 8))) := by
  refine fn_of' pl get114 (oo (by decide)) rfl rfl ?_
  simp +contextual (disch := omega) []
@[simp] theorem isSet_ok (nT : Bool) (T : List Int) (M : Int) (hx : T.length < 2 ^ 62) : ans prog O 83 [eSet nT T M] = some (.bool (decide (okSet T M))) := by
  refine fn_of' pl get83 (oo (by decide)) rfl rfl ?_
  simp +contextual (disch := omega) [ContainsFunc_ok nT T hx 114 [] [] (by decide) rfl rfl rfl rfl (fun n => !decide (1 ≤ n ∧ n ≤ 8)) (fun j _ => isSet1_ok (nth T j))]
  rw [Bool.eq_iff_iff]
  simp only [Bool.and_eq_true, decide_eq_true_eq, Bool.not_eq_true', decide_eq_false_iff_not]
  constructor
  · rintro ⟨⟨h1, h2⟩, h3⟩
    exact ⟨⟨h1, h2⟩, fun j hj => by
      by_cases h4 : nth T j < 1 ∨ 8 < nth T j
      · exact absurd ⟨j, hj, h4⟩ h3
      · omega⟩
  · rintro ⟨⟨h1, h2⟩, h3⟩
    exact ⟨⟨h1, h2⟩, by rintro ⟨j, hj, h⟩; have := h3 j hj; omega⟩
theorem asked1_ok (nT : Bool) (T : List Int) (M : Int) (r : Rd) (hx : T.length < 2 ^ 62) : ans prog O 84 [eRd r, .vptr [vs nT T, .int .i64 M] 0] = some (.bool (!decide (okRd T r))) := by
  refine fn_of' pl get84 (oo (by decide)) rfl rfl ?_
  simp +contextual (disch := omega) [eRd]
  refine ⟨fun h => by omega, fun h => by omega, ?_⟩
  rw [Bool.eq_iff_iff, Bool.not_eq_true', decide_eq_false_iff_not]
  simp only [Bool.or_eq_true, Bool.not_eq_true', decide_eq_true_eq, decide_eq_false_iff_not, okRd]
  omega
instance (T : List Int) (l : List Rd) : Decidable (okRds T l) := by unfold okRds; infer_instance
def askE (T : List Int) (M : Int) (l : List Rd) : Int := if okSet T M then if (l.length : Int) ≤ 24 ∧ okRds T l then 0 else 24 else 23
@[simp] theorem asked_ok (nT nl : Bool) (T : List Int) (M : Int) (l : List Rd) (hx : T.length < 2 ^ 62) (hl : l.length < 2 ^ 62) : ans prog O 41 [eSet nT T M, vl eRd nl l] = some (.int .i64 (askE T M l)) := by
  refine fn_of' pl get41 (oo (by decide)) rfl rfl ?_
  have hc := ContainsFuncR_ok nl l hl 84 [] [.vptr [vs nT T, .int .i64 M] 0] (by decide) rfl rfl rfl rfl (fun r => !decide (okRd T r)) (fun j _ => asked1_ok nT T M (nth l j) hx)
  have hR : (∃ j, j < l.length ∧ (!decide (okRd T (nth l j))) = true) ↔ ¬ okRds T l := by
    constructor
    · rintro ⟨j, hj, h⟩ h2
      have := h2 j hj
      simp [this] at h
    · intro h
      refine Classical.byContradiction fun h2 => h fun j hj => ?_
      refine Classical.byContradiction fun h3 => h2 ⟨j, hj, by simp [h3]⟩
  by_cases hs : okSet T M
  · by_cases hl : l.length ≤ 24
    · have hl2 : ¬ 24 < (l.length : Int) := by omega
      simp +contextual (disch := omega) [hs, hl2, Und]
      refine pc_scal (.cons (Snap.vl _ eRd nl l) (.cons (SnapK.func .nil (.cons (SnapK.ptr (by simp) (.cons (SnapK.vl _ _ (AV.int .i64) nT T) (.cons (SnapK.int _ _ _ _) .nil))) .nil)).snap .nil)) (fun h => by simp at h) (by simp) (oo (args := []) (by decide)).1 hc rfl ?_
      simp +contextual (disch := omega) [hs, hl2, Und, hR, askE, hl]
      exact ⟨fun j hj h1 _ h2 => h1 (h2 j hj), fun h => ⟨by omega, h⟩⟩
    · have hl2 : 24 < (l.length : Int) := by omega
      simp +contextual (disch := omega) [hs, hl2, Und, askE]
      omega
  · simp +contextual (disch := omega) [hs, Und, askE]
def mir (r : Rd) : Rd := { r with v := -r.v }
theorem rd_set {xs : List Rd} {j : Nat} (hj : j < xs.length) (n : Int) : (rowOf eRd xs).set (j * 6 + 4) (.int .i64 n) = rowOf eRd (xs.set j { nth xs j with v := n }) := by
  have h1 : xs = xs.take j ++ (nth xs j :: xs.drop (j + 1)) := by rw [← drop_nth hj, List.take_append_drop]
  have h2 : xs.set j { nth xs j with v := n } = xs.take j ++ ({ nth xs j with v := n } :: xs.drop (j + 1)) := by
    rw [List.set_eq_take_append_cons_drop, if_pos hj]
  have h3 : rowOf eRd xs = rowOf eRd (xs.take j) ++ ((eRd (nth xs j)).cells ++ rowOf eRd (xs.drop (j + 1))) := by
    conv => lhs; rw [h1]
    rw [rowOf_append]; simp [rowOf]
  have h4 : (rowOf eRd (xs.take j)).length = j * 6 := by rw [rowOf_length encRd, List.length_take]; congr 1; omega
  rw [h3, ← h4, List.set_append_right _ _ (by omega), h2, rowOf_append]
  simp [rowOf, eRd]
theorem rd_get {xs : List Rd} {j : Nat} (hj : j < xs.length) : (rowOf eRd xs)[j * 6 + 4]? = some (.int .i64 (nth xs j).v) := by
  have h1 : xs = xs.take j ++ (nth xs j :: xs.drop (j + 1)) := by rw [← drop_nth hj, List.take_append_drop]
  have h3 : rowOf eRd xs = rowOf eRd (xs.take j) ++ ((eRd (nth xs j)).cells ++ rowOf eRd (xs.drop (j + 1))) := by
    conv => lhs; rw [h1]
    rw [rowOf_append]; simp [rowOf]
  have h4 : (rowOf eRd (xs.take j)).length = j * 6 := by rw [rowOf_length encRd, List.length_take]; congr 1; omega
  rw [h3, ← h4, List.getElem?_append_right (by omega)]
  simp [eRd]
theorem CloneR_ok {σ : AH} (xs : List Rd) (hg : xs.length < 2 ^ 30) (hlim : σ.lim ≤ σ.next) (K : AV → AH → Prop)
    (hk : ∀ r σ', Whole σ.next 6 eRd σ' r xs → σ'.lim = σ.lim → K r σ') : Call prog O (.fn 88) [vl eRd false xs] σ K := by
  refine @call_of' _ _ pl _ _ _ _ _ _ _ ⟨K⟩ get88 ((oo (by decide)).2 _) rfl ?_
  simp +contextual (disch := omega) []
  refine (Whole.lit0 (lo := σ.next) (z := 6) (e := eRd) (σ := σ) (Nat.le_refl _)).appV (ys := xs) encRd hlim (Nat.le_succ _) (by simp only [topBytes, List.length_nil]; omega) fun v' σ' hw hgr => ?_
  rw [List.nil_append] at hw
  simp +contextual (disch := omega) []
  exact hk _ _ hw hgr.lim
theorem CloneR_nil {σ : AH} (K : AV → AH → Prop) (hk : K (.vsl true []) σ) : Call prog O (.fn 88) [vl eRd true []] σ K := by
  refine @call_of' _ _ pl _ _ _ _ _ _ _ ⟨K⟩ get88 ((oo (by decide)).2 _) rfl ?_
  simp +contextual (disch := omega) []
  exact hk
def mix (l : List Rd) (j : Nat) : List Rd := (l.take j).map mir ++ l.drop j
theorem mix_len (l : List Rd) (j : Nat) : (mix l j).length = l.length := by unfold mix; simp; omega
theorem mix_nth {l : List Rd} {j : Nat} (h : j < l.length) : nth (mix l j) j = nth l j := by
  rw [nth_eq (by rw [mix_len]; exact h), nth_eq h]
  unfold mix
  rw [List.getElem_append_right (by simp; omega)]
  simp [Nat.min_eq_left (Nat.le_of_lt h)]
theorem mix_set {l : List Rd} {j : Nat} (h : j < l.length) : (mix l j).set j (mir (nth l j)) = mix l (j + 1) := by
  have hl : ((l.take j).map mir).length = j := by simp; omega
  unfold mix
  rw [take_succ_nth h, drop_nth h, List.set_append_right _ _ (by omega), hl]
  simp
theorem mirrored_ok (nl : Bool) (l : List Rd) (hn : nl = true → l = []) (hl : l.length < 2 ^ 30) (hv : ∀ j, j < l.length → -200000 ≤ (nth l j).v ∧ (nth l j).v ≤ 200000) : ans prog O 49 [vl eRd nl l] = some (vl eRd nl (l.map mir)) := by
  refine fn_of' pl get49 (oo (by decide)) rfl rfl ?_
  cases nl with
  | true =>
    obtain rfl := hn rfl
    simp +contextual (disch := omega) [Und]
    refine CloneR_nil _ ?_
    simp +contextual (disch := omega) [Und]
    refine lp_loop pl (fun k fr σ => fr = ⟨[(3, .vsl true []), (8, .int .i64 0), (9, .int .i64 0)], []⟩ ∧ σ = ⟨0, 0, .leaf⟩) ⟨0, rfl, rfl⟩ ?_
    rintro k _ _ ⟨rfl, rfl⟩
    simp +contextual (disch := omega) [Und]
    rfl
  | false =>
    simp +contextual (disch := omega) [Und]
    refine CloneR_ok l hl (Nat.le_refl _) _ fun r σ hw hlim => ?_
    obtain ⟨i, c, rfl, h2, h3, h4⟩ := hw
    simp +contextual (disch := omega) [Und]
    refine lp_loop pl (fun k fr σ => ∃ j, j + k = l.length ∧ fr = ⟨[(3, .slice (some (i, 0)) l.length c), (8, .int .i64 l.length), (9, .int .i64 j)], []⟩ ∧ σ.lim = 0 ∧ σ.get i = some (.cells (rowOf eRd (mix l j)))) ⟨l.length, 0, by omega, rfl, hlim, h3⟩ ?_
    clear hlim h3 σ
    rintro k _ σ ⟨j, hj, rfl, hlim, h3⟩
    by_cases hjl : j < l.length
    · have g := rd_get (xs := mix l j) (j := j) (by rw [mix_len]; exact hjl)
      have hrl : (rowOf eRd (mix l j)).length = l.length * 6 := by rw [rowOf_length encRd, mix_len]
      have hset := rd_set (xs := mix l j) (j := j) (by rw [mix_len]; exact hjl) (-(nth l j).v)
      rw [mix_nth hjl] at g hset
      have := hv j hjl
      have g2 : ∀ h, (rowOf eRd (mix l j))[j * 6 + 4]'h = .int .i64 (nth l j).v := fun h => by
        rw [List.getElem?_eq_getElem h] at g
        exact Option.some.inj g
      have hi := AH.get_lt h3
      simp +contextual (disch := omega) [Und, hjl, h3, hlim, g2, hrl]
      exact ⟨by omega, k - 1, by omega, j + 1, by omega, by omega, hi, hset.trans (congrArg _ (mix_set hjl))⟩
    · obtain rfl : j = l.length := by omega
      simp +contextual (disch := omega) [Und, h3, hlim]
      have hw : Whole 0 6 eRd σ (.slice (some (i, 0)) l.length c) (l.map mir) := ⟨i, c, by simp, Nat.zero_le _, by rw [h3]; unfold mix; simp, by simpa using h4⟩
      exact hw.fz encRd flatRd 6
end Go.Oct.Pla
