/- FixAgreed: it answers true at all arguments. -/
import Derived.Test.YtddclpecmjibkaaDoorOFixCarR
import Derived.Test.YtddclpecmjibkaaDoorOFixChz
set_option maxRecDepth 100000
set_option maxHeartbeats 8000000
set_option linter.unusedVariables false
set_option linter.unusedSimpArgs false
namespace Go.Oct.Fix
open Go.Oct
theorem agree_ok (T : Span) (nl : Bool) (C : List Car) (n : Int) (hok : okCars T C) (hn : -300000 ≤ n ∧ n ≤ 300000) : ans prog O 49 [.agg [.int .i64 T.lo, .int .i64 T.hi], vl eCar nl C, .int .i64 n] = some (.int .i64 (cntC T C n C.length)) := by
  obtain ⟨hT, hl, hc⟩ := hok
  have hcb : ∀ j, j < C.length → ((-200000 ≤ T.lo - (nth C j).sh ∧ T.lo - (nth C j).sh ≤ 100000) ∧ -200000 ≤ T.lo - (nth C j).sh + (nth C j).lo ∧ T.lo - (nth C j).sh + (nth C j).lo ≤ 200000) ∧ (-200000 ≤ T.hi - (nth C j).sh ∧ T.hi - (nth C j).sh ≤ 100000) ∧ -200000 ≤ T.hi - (nth C j).sh + (nth C j).hi ∧ T.hi - (nth C j).sh + (nth C j).hi ≤ 200000 := fun j hj => by
    have := hc j hj
    unfold okCar at this
    unfold okT at hT
    omega
  refine fn_of' pl get49 (oo (by decide)) rfl rfl ?_
  simp (disch := omega) [-Bool.exists_bool]
  refine lp_loop pl (fun r fr τ => ∃ i : Nat, i + r = C.length ∧ fr = ⟨[(1, vl eCar nl C), (2, .int .i64 n), (3, .ptr (some (0, 0))), (7, .int .i64 (cntC T C n i)), (8, .int .i64 i)], []⟩ ∧ τ.lim = 0 ∧ τ.get 0 = some (.cells [.int .i64 T.lo, .int .i64 T.hi]))
    ⟨C.length, 0, by omega, rfl, by simp, by simp⟩ ?_
  rintro r _ τ ⟨i, hir, rfl, w0, wg⟩
  have l0 := AH.get_lt wg
  have hci := cntC_le T C n i
  by_cases hiC : i < C.length
  · have hiC' : (i : Int) < C.length := by omega
    obtain ⟨⟨⟨b1, b2⟩, b3, b4⟩, ⟨b5, b6⟩, b7, b8⟩ := hcb i hiC
    by_cases c : T.lo - (nth C i).sh + (nth C i).lo ≤ n ∧ n ≤ T.hi - (nth C i).sh + (nth C i).hi
    · have hcs : cntC T C n (i + 1) = cntC T C n i + 1 := by simp only [cntC]; rw [if_pos (show inW T (nth C i) n from c)]
      simp (disch := omega) [Und, w0, wg, l0, hiC, hiC', eq_true c, -Bool.exists_bool]
      exact ⟨r - 1, by omega, i + 1, by omega, by rw [hcs]; exact ⟨by omega, by omega⟩⟩
    · have hcs : cntC T C n (i + 1) = cntC T C n i := by simp only [cntC]; rw [if_neg (show ¬ inW T (nth C i) n from c)]; rfl
      simp (disch := omega) [Und, w0, wg, l0, hiC, hiC', eq_false c, -Bool.exists_bool]
      exact ⟨r - 1, by omega, i + 1, by omega, by rw [hcs], by omega⟩
  · obtain rfl : i = C.length := by omega
    simp (disch := omega) [Und, w0, -Bool.exists_bool]
@[simp] theorem toA_ok (a b : Int) : ans prog O 43 [.int .i64 a, .int .i64 b] = some (.agg [.int .i64 a, .int .i64 b]) := by
  refine fn_of' pl get43 (oo (by decide)) rfl rfl ?_
  simp (disch := omega) [-Bool.exists_bool]
theorem flatCar : flatE eCar := fun x c hc k f => by
  rw [show (eCar x).cells = [.int .i64 x.sh, .int .i64 x.lo, .int .i64 x.hi] from rfl] at hc
  simp only [List.mem_cons, List.not_mem_nil, or_false] at hc
  rcases hc with rfl | rfl | rfl <;> exact ⟨rfl, rfl⟩
/-- Two spans of a list that does not touch. -/
theorem Canon.ord {L : List Span} (h : Canon L) {i j : Nat} (hij : i < j) (hj : j < L.length) : (nth L i).hi + 1 < (nth L j).lo := by
  have := List.pairwise_iff_getElem.1 h.gap i j (by omega) hj hij
  rwa [← nth_eq, ← nth_eq] at this
theorem Canon.below {L : List Span} (h : Canon L) {i : Nat} (hi : i < L.length) : ¬ inL L ((nth L i).lo - 1) := by
  rintro ⟨s, h1, h2, h3⟩
  obtain ⟨j, hj, rfl⟩ := mem_nth.1 h1
  have hn := h.ne _ (nth_mem hj)
  rcases Nat.lt_trichotomy i j with e | e | e
  · have := h.ord e hj
    have := h.ne _ (nth_mem hi)
    omega
  · subst e; omega
  · have := h.ord e hi; omega
theorem Canon.over {L : List Span} (h : Canon L) {i : Nat} (hi : i < L.length) : ¬ inL L ((nth L i).hi + 1) := by
  rintro ⟨s, h1, h2, h3⟩
  obtain ⟨j, hj, rfl⟩ := mem_nth.1 h1
  have hn := h.ne _ (nth_mem hj)
  rcases Nat.lt_trichotomy i j with e | e | e
  · have := h.ord e hj; omega
  · subst e; omega
  · have := h.ord e hi
    have := h.ne _ (nth_mem hi)
    omega
/-- What lies in the list altogether lies in one of its spans. -/
theorem Canon.one {L : List Span} (h : Canon L) {p q : Int} (hpq : p ≤ q) (hall : ∀ n, p ≤ n → n ≤ q → inL L n) : ∃ i, i < L.length ∧ (nth L i).lo ≤ p ∧ q ≤ (nth L i).hi := by
  obtain ⟨s, h1, h2, h3⟩ := hall p (Int.le_refl _) hpq
  obtain ⟨i, hi, rfl⟩ := mem_nth.1 h1
  refine ⟨i, hi, h2, ?_⟩
  apply Classical.byContradiction
  intro hno
  exact h.over hi (hall _ (by omega) (by omega))
/-- The clocks, the first two of them set right. -/
def ownA (u g : Int) (pk : Int → Int) (C : List Car) (i : Nat) : Car := if i < 2 then ⟨u - g + chz (-(pk i % 50)) (pk (i + 2) % 50) (pk (i + 3)), -(pk i % 50), pk (i + 2) % 50⟩ else nth C i
def ownL (u g : Int) (pk : Int → Int) (C : List Car) (n : Nat) : List Car := (List.range n).map (ownA u g pk C)
theorem ownL_succ (u g : Int) (pk : Int → Int) (C : List Car) (n : Nat) : ownL u g pk C (n + 1) = ownL u g pk C n ++ [ownA u g pk C n] := by
  unfold ownL
  rw [List.range_succ, List.map_append]; rfl
theorem ownL_len (u g : Int) (pk : Int → Int) (C : List Car) (n : Nat) : (ownL u g pk C n).length = n := by unfold ownL; simp
theorem ownL_nth {u g : Int} {pk : Int → Int} {C : List Car} {n i : Nat} (h : i < n) : nth (ownL u g pk C n) i = ownA u g pk C i := by
  unfold ownL
  rw [nth_map (f := ownA u g pk C) (by rw [List.length_range]; exact h), nth_eq (by rw [List.length_range]; exact h), List.getElem_range]
theorem FixAgreed_law (T : Span) (nl : Bool) (C : List Car) (nb : Bool) (B : List Int) (hC : C.length < 2 ^ 62) (hB : B.length < 2 ^ 62) : ans prog O 13 [.agg [.int .i64 T.lo, .int .i64 T.hi], vl eCar nl C, vs nb B] = some (.bool true) := by
  refine fn_of' pl get13 (oo (by decide)) rfl rfl ?_
  by_cases hT : okT T
  · have hT' : 0 ≤ T.lo ∧ T.lo ≤ T.hi ∧ T.hi ≤ 100000 := hT
    by_cases h8 : C.length ≤ 8
    · have h8' : ¬ 8 < (C.length : Int) := by omega
      obtain ⟨pk, hpk⟩ : ∃ pk : Int → Int, pk = fun n => nth B (n % (B.length : Int)).toNat := ⟨_, rfl⟩
      have hpi : ∀ n, ans prog O 47 [vs nb B, .int .i64 n] = some (.int .i64 (pk n)) := fun n => by rw [hpk]; exact Pick_ok nb B n hB
      obtain ⟨u, hu⟩ : ∃ u, u = chz T.lo T.hi (pk 0) := ⟨_, rfl⟩
      have hch := Chosen_ok T.lo T.hi (pk 0) (by omega) (by omega) (by omega) (by omega)
      rw [← hu] at hch
      have hu2 : T.lo ≤ u ∧ u ≤ T.hi := by rw [hu]; exact chz_in hT.2.1
      obtain ⟨g, hg⟩ : ∃ g, g = pk 1 % 2000 - 1000 := ⟨_, rfl⟩
      have hg2 : -1000 ≤ g ∧ g ≤ 999 := by omega
      simp (disch := omega) [eq_true hT', h8', hpi, hch, ← hg, Und, -Pick_ok, -Bool.exists_bool]
      refine lp_loop pl (fun k fr σ => ∃ (i : Nat) (ov : AV), i + k = C.length ∧ fr = ⟨[(1, vl eCar nl C), (2, vs nb B), (3, .ptr (some (0, 0))), (7, .int .i64 u), (8, .int .i64 g), (9, ov), (10, .int .i64 i)], []⟩ ∧ σ.lim = 0 ∧ σ.get 0 = some (.cells [.int .i64 T.lo, .int .i64 T.hi]) ∧ Buf 1 3 eCar σ ov (ownL u g pk C i))
        ⟨C.length, 0, .vsl true [], by omega, rfl, by simp, by simp, Buf.nil⟩ ?_
      rintro k _ σ ⟨i, ov, hi, rfl, s0, sg, hb⟩
      have l0 := AH.get_lt sg
      by_cases hiC : i < C.length
      · have hiC' : (i : Int) < C.length := by omega
        have hol := ownL_len u g pk C i
        by_cases hi2 : i < 2
        · have hi2' : (i : Int) < 2 := by omega
          have hno := chz_in (l := -(pk i % 50)) (h := pk (i + 2) % 50) (n := pk (i + 3)) (by omega)
          have hcn := Chosen_ok (-(pk i % 50)) (pk (i + 2) % 50) (pk (i + 3)) (by omega) (by omega) (by omega) (by omega)
          simp (disch := omega) [Und, s0, sg, l0, hiC, hiC', hi2', hpi, hcn, -Pick_ok, -Bool.exists_bool]
          generalize hX : AH.set (AH.under _ _) σ.next _ = X
          have x0 : X.lim = 0 := by rw [← hX]; rfl
          have xn : X.next = σ.next + 1 := by rw [← hX]; rfl
          have xg : ∀ z, z < σ.next → X.get z = σ.get z := fun z hz => by
            have y1 : ¬ z = σ.next := by omega
            rw [← hX]; simp (disch := omega) [y1]
          clear hX
          rw [show σ.next + 1 = X.next by omega]
          refine (hb.keep (σ' := X) fun z _ hz => xg z hz).push encCar (by omega) (by omega) (ownA u g pk C i) (by rw [hol]; simp only [topBytes]; omega) (by unfold ownA; rw [if_pos hi2]; rfl) fun v' τ g1 g2 => ?_
          have t0 : τ.lim = 0 := g2.lim.trans x0
          simp (disch := omega) [Und, t0, -Bool.exists_bool]
          exact ⟨k - 1, by omega, i + 1, by omega, v', ⟨rfl, by omega⟩, by rw [g2.get 0 (by omega), xg 0 l0]; exact sg, by rw [ownL_succ]; exact g1⟩
        · have hi2' : ¬ (i : Int) < 2 := by omega
          simp (disch := omega) [Und, s0, sg, l0, hiC, hiC', hi2', -Bool.exists_bool]
          generalize hX : AH.set (AH.push σ _) σ.next _ = X
          have x0 : X.lim = 0 := by rw [← hX]; exact s0
          have xn : X.next = σ.next + 1 := by rw [← hX]; rfl
          have xg : ∀ z, z < σ.next → X.get z = σ.get z := fun z hz => by
            have y1 : ¬ z = σ.next := by omega
            rw [← hX]; simp (disch := omega) [y1]
          clear hX
          rw [show σ.next + 1 = X.next by omega]
          refine (hb.keep (σ' := X) fun z _ hz => xg z hz).push encCar (by omega) (by omega) (ownA u g pk C i) (by rw [hol]; simp only [topBytes]; omega) (by unfold ownA; rw [if_neg hi2]; rfl) fun v' τ g1 g2 => ?_
          have t0 : τ.lim = 0 := g2.lim.trans x0
          simp (disch := omega) [Und, t0, -Bool.exists_bool]
          exact ⟨k - 1, by omega, i + 1, by omega, v', ⟨rfl, by omega⟩, by rw [g2.get 0 (by omega), xg 0 l0]; exact sg, by rw [ownL_succ]; exact g1⟩
      · obtain rfl : i = C.length := by omega
        simp (disch := omega) [Und, s0, sg, l0, -Bool.exists_bool]
        obtain ⟨D, hD⟩ : ∃ D, D = ownL u g pk C C.length := ⟨_, rfl⟩
        have hDl : D.length = C.length := by rw [hD]; exact ownL_len u g pk C C.length
        have hDn : ∀ i, i < C.length → nth D i = ownA u g pk C i := fun i h => by rw [hD]; exact ownL_nth h
        rw [← hD] at hb
        have sa : ∀ τ : AH, Snap τ (.agg [.int .i64 T.lo, .int .i64 T.hi]) [] (.agg [.int .i64 T.lo, .int .i64 T.hi]) := fun τ => ⟨rfl, fun _ _ => rfl⟩
        have hcl : closed 8 ov = true → [AV.agg [.int .i64 T.lo, .int .i64 T.hi], vl eCar D.isEmpty D] = [.agg [.int .i64 T.lo, .int .i64 T.hi], ov] := fun h => by
          rcases hb with ⟨rfl, h2⟩ | ⟨o, rfl, _⟩
          · rw [h2]; rfl
          · cases h
        have holt := hb.obj_lt
        by_cases hok : okCars T D
        · obtain ⟨n1, L, c1, i1, l1, h1⟩ := Lon_ok T D.isEmpty D hok
          have hD2 := hok.2.1.1
          have hwin : ∀ i, i < 2 → inW T (nth D i) g := fun i hi => by
            rw [hDn i (by omega)]
            unfold ownA inW win
            rw [if_pos hi]
            have hno := chz_in (l := -(pk i % 50)) (h := pk (i + 2) % 50) (n := pk (i + 3)) (by omega)
            simp only
            omega
          have htw : two T D g := ⟨1, 0, by omega, by omega, hwin 1 (by omega), hwin 0 (by omega)⟩
          have hgL : inL L g := (i1 g).2 htw
          have hLne : L ≠ [] := fun h => by
            rw [h] at hgL; obtain ⟨s, h2, _⟩ := hgL; cases h2
          rw [if_neg hLne] at h1
          refine pc_ro (.cons (sa σ) (.cons (hb.snapS encCar flatCar) .nil)) hcl (by simp) (oo (args := []) (by decide)).1 (fun i _ => by omega) h1 fun σ' g1 g2 => ?_
          have t0 : σ'.lim = 0 := g1.lim.trans s0
          have tg : σ'.get 0 = some (.cells [.int .i64 T.lo, .int .i64 T.hi]) := (g1.get 0 l0 (fun h => by
            simp at h
            have := (holt 0 h).1; omega)).trans sg
          have tl := AH.get_lt tg
          rcases id hb with ⟨_, h2⟩ | ⟨o, rfl, o1, og, hne⟩
          · rw [h2] at hD2; simp at hD2
          have tc : σ'.cel o = some (rowOf eCar D) := (g2 o).trans (AH.cel_get og)
          have hV : View 1 3 eCar σ' (.slice (some (o, 0)) D.length (.op 3)) D := ⟨o, .op 3, [], [], rfl, o1, by simpa using tc, .inl rfl, ⟨fun c h => (by cases h), fun c h => (by cases h)⟩⟩
          have hDl8 : ¬ (D.length : Int) < 2 := by omega
          simp (disch := omega) [Und, t0, tg, tl, hDl8, -Bool.exists_bool]
          have hbdL : ∀ j, j < L.length → (-200000 ≤ (nth L j).lo ∧ (nth L j).lo ≤ (nth L j).hi ∧ (nth L j).hi ≤ 200000) := fun j hj => by
            have hn := c1.ne _ (nth_mem hj)
            have a1 := two_bd hok.1 hok.2.2 ((i1 (nth L j).lo).1 ⟨nth L j, nth_mem hj, Int.le_refl _, hn⟩)
            have a2 := two_bd hok.1 hok.2.2 ((i1 (nth L j).hi).1 ⟨nth L j, nth_mem hj, hn, Int.le_refl _⟩)
            omega
          have hag : ∀ n, -300000 ≤ n → n ≤ 300000 → ans prog O 49 [.agg [.int .i64 T.lo, .int .i64 T.hi], vl eCar false D, .int .i64 n] = some (.int .i64 (cntC T D n D.length)) := fun n h1 h2 => agree_ok T false D n hok ⟨h1, h2⟩
          have hyes : ∀ n, inL L n → ¬ (cntC T D n D.length : Int) < 2 := fun n h => by
            have := (cnt2_iff (T := T) (C := D) (n := n) D.length).2 ((i1 n).1 h); omega
          have hnot : ∀ n, ¬ inL L n → ¬ 2 ≤ (cntC T D n D.length : Int) := fun n h h2 => h ((i1 n).2 ((cnt2_iff (T := T) (C := D) (n := n) D.length).1 (by omega)))
          refine lp_loop pl (fun k fr ω => ∃ (i : Nat) (b : Bool), i + k = L.length ∧ fr = ⟨[(3, .ptr (some (0, 0))), (8, .int .i64 g), (9, .slice (some (o, 0)) D.length (.op 3)), (12, vl eSpan n1 L), (14, .bool b), (15, .int .i64 i)], []⟩ ∧ (b = true ↔ ∃ j, j < i ∧ (nth L j).lo ≤ g ∧ g ≤ (nth L j).hi) ∧ ω.lim = 0 ∧ ω.get 0 = some (.cells [.int .i64 T.lo, .int .i64 T.hi]) ∧ View 1 3 eCar ω (.slice (some (o, 0)) D.length (.op 3)) D)
            ⟨L.length, 0, false, by omega, rfl, ⟨fun h => (by cases h), fun ⟨j, h, _⟩ => by omega⟩, t0, tg, hV⟩ ?_
          clear t0 tg tl hV tc g1 g2
          rintro k2 _ ω ⟨i, b, hiL, rfl, hbi, t0, tg, hV⟩
          have tl := AH.get_lt tg
          by_cases hi2 : i < L.length
          · have hi2' : (i : Int) < L.length := by omega
            obtain ⟨b1, b2, b3⟩ := hbdL i hi2
            have hin1 := hyes (nth L i).lo ⟨nth L i, nth_mem hi2, Int.le_refl _, b2⟩
            have hin2 := hyes (nth L i).hi ⟨nth L i, nth_mem hi2, b2, Int.le_refl _⟩
            have hin3 := hnot ((nth L i).lo - 1) (c1.below hi2)
            have hin4 := hnot ((nth L i).hi + 1) (c1.over hi2)
            have hA1 := hag (nth L i).lo (by omega) (by omega)
            have hA2 := hag (nth L i).hi (by omega) (by omega)
            have hA3 := hag ((nth L i).lo - 1) (by omega) (by omega)
            have hA4 := hag ((nth L i).hi + 1) (by omega) (by omega)
            have hno1 : ¬ (nth L i).hi < (nth L i).lo := by omega
            obtain ⟨b', hb'⟩ : ∃ b' : Bool, b' = (b || decide ((nth L i).lo ≤ g ∧ g ≤ (nth L i).hi)) := ⟨_, rfl⟩
            have hbn : b' = true ↔ ∃ j, j < i + 1 ∧ (nth L j).lo ≤ g ∧ g ≤ (nth L j).hi := by
              rw [hb', Bool.or_eq_true, hbi, decide_eq_true_eq]
              constructor
              · rintro (⟨j, h1, h2⟩ | h)
                · exact ⟨j, by omega, h2⟩
                · exact ⟨i, by omega, h⟩
              · rintro ⟨j, h1, h2⟩
                by_cases e : j = i
                · rw [e] at h2; exact .inr h2
                · exact .inl ⟨j, by omega, h2⟩
            by_cases hi0 : i = 0
            · subst hi0
              cases b
              · simp (disch := omega) [Und, t0, tg, tl, hi2, hi2', hno1, -Bool.exists_bool]
                refine pc_scal (.cons (sa ω) (.cons (hV.snap encCar flatCar) (.cons (Snap.int _ _ _) .nil))) (fun h => by cases h) (by simp) (oo (args := []) (by decide)).1 hA1 rfl ?_
                simp (disch := omega) [Und, t0, tg, tl, hi2, hi2', hno1, hin1, -Bool.exists_bool]
                refine pc_scal (.cons (sa ω) (.cons (hV.snap encCar flatCar) (.cons (Snap.int _ _ _) .nil))) (fun h => by cases h) (by simp) (oo (args := []) (by decide)).1 hA2 rfl ?_
                simp (disch := omega) [Und, t0, tg, tl, hi2, hi2', hno1, hin2, -Bool.exists_bool]
                refine pc_scal (.cons (sa ω) (.cons (hV.snap encCar flatCar) (.cons (Snap.int _ _ _) .nil))) (fun h => by cases h) (by simp) (oo (args := []) (by decide)).1 hA3 rfl ?_
                simp (disch := omega) [Und, t0, tg, tl, hi2, hi2', hno1, hin3, -Bool.exists_bool]
                refine pc_scal (.cons (sa ω) (.cons (hV.snap encCar flatCar) (.cons (Snap.int _ _ _) .nil))) (fun h => by cases h) (by simp) (oo (args := []) (by decide)).1 hA4 rfl ?_
                simp (disch := omega) [Und, t0, tg, tl, hi2, hi2', hno1, hin4, -Bool.exists_bool]
                exact ⟨k2 - 1, by omega, 1, by omega, _, ⟨rfl, by omega⟩, by rw [← hbn, hb']; simp, hV⟩
              · simp (disch := omega) [Und, t0, tg, tl, hi2, hi2', hno1, -Bool.exists_bool]
                refine pc_scal (.cons (sa ω) (.cons (hV.snap encCar flatCar) (.cons (Snap.int _ _ _) .nil))) (fun h => by cases h) (by simp) (oo (args := []) (by decide)).1 hA1 rfl ?_
                simp (disch := omega) [Und, t0, tg, tl, hi2, hi2', hno1, hin1, -Bool.exists_bool]
                refine pc_scal (.cons (sa ω) (.cons (hV.snap encCar flatCar) (.cons (Snap.int _ _ _) .nil))) (fun h => by cases h) (by simp) (oo (args := []) (by decide)).1 hA2 rfl ?_
                simp (disch := omega) [Und, t0, tg, tl, hi2, hi2', hno1, hin2, -Bool.exists_bool]
                refine pc_scal (.cons (sa ω) (.cons (hV.snap encCar flatCar) (.cons (Snap.int _ _ _) .nil))) (fun h => by cases h) (by simp) (oo (args := []) (by decide)).1 hA3 rfl ?_
                simp (disch := omega) [Und, t0, tg, tl, hi2, hi2', hno1, hin3, -Bool.exists_bool]
                refine pc_scal (.cons (sa ω) (.cons (hV.snap encCar flatCar) (.cons (Snap.int _ _ _) .nil))) (fun h => by cases h) (by simp) (oo (args := []) (by decide)).1 hA4 rfl ?_
                simp (disch := omega) [Und, t0, tg, tl, hi2, hi2', hno1, hin4, -Bool.exists_bool]
                exact ⟨k2 - 1, by omega, 1, by omega, _, ⟨rfl, by omega⟩, by rw [← hbn, hb']; simp, hV⟩
            · have hi0' : (0 : Int) < i := by omega
              have hi1 : 0 < i := by omega
              have e1 : ((i : Int) - 1).toNat = i - 1 := by omega
              have e2 : (i : Int) - 1 < L.length := by omega
              have e3 : 1 ≤ (i : Int) := by omega
              have hgap := c1.ord (i := i - 1) (j := i) (by omega) hi2
              have hb9 := hbdL (i - 1) (by omega)
              have hno2 : ¬ (nth L i).lo ≤ (nth L (i - 1)).hi + 1 := by omega
              cases b
              · simp (disch := omega) [Und, t0, tg, tl, hi2, hi2', hno1, hi0', hi1, e1, e2, e3, hno2, -Bool.exists_bool]
                refine pc_scal (.cons (sa ω) (.cons (hV.snap encCar flatCar) (.cons (Snap.int _ _ _) .nil))) (fun h => by cases h) (by simp) (oo (args := []) (by decide)).1 hA1 rfl ?_
                simp (disch := omega) [Und, t0, tg, tl, hi2, hi2', hno1, hin1, hi0', hi1, e1, e2, e3, hno2, -Bool.exists_bool]
                refine pc_scal (.cons (sa ω) (.cons (hV.snap encCar flatCar) (.cons (Snap.int _ _ _) .nil))) (fun h => by cases h) (by simp) (oo (args := []) (by decide)).1 hA2 rfl ?_
                simp (disch := omega) [Und, t0, tg, tl, hi2, hi2', hno1, hin2, hi0', hi1, e1, e2, e3, hno2, -Bool.exists_bool]
                refine pc_scal (.cons (sa ω) (.cons (hV.snap encCar flatCar) (.cons (Snap.int _ _ _) .nil))) (fun h => by cases h) (by simp) (oo (args := []) (by decide)).1 hA3 rfl ?_
                simp (disch := omega) [Und, t0, tg, tl, hi2, hi2', hno1, hin3, hi0', hi1, e1, e2, e3, hno2, -Bool.exists_bool]
                refine pc_scal (.cons (sa ω) (.cons (hV.snap encCar flatCar) (.cons (Snap.int _ _ _) .nil))) (fun h => by cases h) (by simp) (oo (args := []) (by decide)).1 hA4 rfl ?_
                simp (disch := omega) [Und, t0, tg, tl, hi2, hi2', hno1, hin4, hi0', hi1, e1, e2, e3, hno2, -Bool.exists_bool]
                exact ⟨k2 - 1, by omega, i + 1, by omega, _, ⟨rfl, by omega⟩, by rw [← hbn, hb']; simp, hV⟩
              · simp (disch := omega) [Und, t0, tg, tl, hi2, hi2', hno1, hi0', hi1, e1, e2, e3, hno2, -Bool.exists_bool]
                refine pc_scal (.cons (sa ω) (.cons (hV.snap encCar flatCar) (.cons (Snap.int _ _ _) .nil))) (fun h => by cases h) (by simp) (oo (args := []) (by decide)).1 hA1 rfl ?_
                simp (disch := omega) [Und, t0, tg, tl, hi2, hi2', hno1, hin1, hi0', hi1, e1, e2, e3, hno2, -Bool.exists_bool]
                refine pc_scal (.cons (sa ω) (.cons (hV.snap encCar flatCar) (.cons (Snap.int _ _ _) .nil))) (fun h => by cases h) (by simp) (oo (args := []) (by decide)).1 hA2 rfl ?_
                simp (disch := omega) [Und, t0, tg, tl, hi2, hi2', hno1, hin2, hi0', hi1, e1, e2, e3, hno2, -Bool.exists_bool]
                refine pc_scal (.cons (sa ω) (.cons (hV.snap encCar flatCar) (.cons (Snap.int _ _ _) .nil))) (fun h => by cases h) (by simp) (oo (args := []) (by decide)).1 hA3 rfl ?_
                simp (disch := omega) [Und, t0, tg, tl, hi2, hi2', hno1, hin3, hi0', hi1, e1, e2, e3, hno2, -Bool.exists_bool]
                refine pc_scal (.cons (sa ω) (.cons (hV.snap encCar flatCar) (.cons (Snap.int _ _ _) .nil))) (fun h => by cases h) (by simp) (oo (args := []) (by decide)).1 hA4 rfl ?_
                simp (disch := omega) [Und, t0, tg, tl, hi2, hi2', hno1, hin4, hi0', hi1, e1, e2, e3, hno2, -Bool.exists_bool]
                exact ⟨k2 - 1, by omega, i + 1, by omega, _, ⟨rfl, by omega⟩, by rw [← hbn, hb']; simp, hV⟩
          · obtain rfl : i = L.length := by omega
            simp (disch := omega) [Und, t0, tg, tl, -Bool.exists_bool]
            have hb1 : b = true := hbi.2 (by
              obtain ⟨s, h1, h2⟩ := hgL
              obtain ⟨j, hj, rfl⟩ := mem_nth.1 h1
              exact ⟨j, hj, h2⟩)
            subst hb1
            refine hV.head encCar flatCar (by omega) (by omega) fun v' hV2 hov => ?_
            rw [show ((2 : Int)).toNat = 2 from rfl] at hV2
            obtain ⟨E, hE⟩ : ∃ E, E = D.take 2 := ⟨_, rfl⟩
            have hEl : E.length = 2 := by rw [hE, List.length_take]; omega
            have hEn : ∀ i, i < 2 → nth E i = nth D i := fun i hi => by rw [hE]; exact nth_take hi (by omega)
            have hokE : okCars T E := ⟨hok.1, by omega, fun j hj => by rw [hEn j (by omega)]; exact hok.2.2 j (by omega)⟩
            obtain ⟨n2, L2, c2, i2, l2, h2⟩ := Lon_ok T false E hokE
            have htwE : ∀ n, two T E n ↔ inW T (nth D 0) n ∧ inW T (nth D 1) n := fun n => by
              unfold two
              constructor
              · rintro ⟨i, k, h1, h3, h4, h5⟩
                obtain rfl : i = 1 := by omega
                obtain rfl : k = 0 := by omega
                rw [hEn 1 (by omega)] at h4
                rw [hEn 0 (by omega)] at h5
                exact ⟨h5, h4⟩
              · rintro ⟨h1, h3⟩
                exact ⟨1, 0, by omega, by omega, by rw [hEn 1 (by omega)]; exact h3, by rw [hEn 0 (by omega)]; exact h1⟩
            have w0 := hwin 0 (by omega)
            have w1 := hwin 1 (by omega)
            obtain ⟨A, hA⟩ : ∃ A, A = win T (nth D 0) := ⟨_, rfl⟩
            obtain ⟨B2, hB2⟩ : ∃ B2, B2 = win T (nth D 1) := ⟨_, rfl⟩
            unfold inW at w0 w1 htwE
            rw [← hA] at w0
            rw [← hB2] at w1
            rw [← hA, ← hB2] at htwE
            have hL2 : L2 = [⟨max A.lo B2.lo, min A.hi B2.hi⟩] := canon_uniq c2 ⟨List.pairwise_singleton _ _, fun s hs => by
              obtain rfl := List.mem_singleton.1 hs
              simp only; omega⟩ fun n => by
                rw [i2, htwE, inL_cons]
                simp only
                constructor
                · rintro ⟨h1, h3⟩; exact .inl (by omega)
                · rintro (h | h)
                  · omega
                  · obtain ⟨s, h, _⟩ := h; cases h
            subst hL2
            rw [if_neg (by simp)] at h2
            rw [← hE] at hV2
            have sa2 := hV2.snap encCar flatCar
            simp (disch := omega) [Und, t0, tg, tl, -Bool.exists_bool]
            obtain ⟨p, hp⟩ : ∃ p, p = max A.lo B2.lo := ⟨_, rfl⟩
            obtain ⟨q, hq⟩ : ∃ q, q = min A.hi B2.hi := ⟨_, rfl⟩
            rw [← hp, ← hq] at h2
            have hpq : p ≤ g ∧ g ≤ q := by omega
            obtain ⟨m, m1, m2, m3⟩ := c1.one (p := p) (q := q) (by omega) fun n n1 n2 => (i1 n).2 ⟨1, 0, by omega, by omega, by unfold inW; rw [← hB2]; omega, by unfold inW; rw [← hA]; omega⟩
            have hn0 : nth [(⟨p, q⟩ : Span)] 0 = ⟨p, q⟩ := rfl
            refine pc_ro (.cons (sa ω) (.cons sa2 .nil)) (fun h => by rw [hV2.closed 7] at h; cases h) (by simp) (oo (args := []) (by decide)).1 (fun i _ => by omega) h2 fun σ2 g1 g2 => ?_
            have v0 : σ2.lim = 0 := g1.lim.trans t0
            simp (disch := omega) [Und, v0, hn0, hpq.1, hpq.2, eq_true hpq, -Bool.exists_bool]
            refine lp_loop pl (fun k fr ω => ∃ (i : Nat) (b : Bool), i + k = L.length ∧ fr = ⟨[(12, vl eSpan n1 L), (14, .bool true), (16, vl eSpan n2 [⟨p, q⟩]), (18, .bool b), (19, .int .i64 i)], []⟩ ∧ (b = true ↔ ∃ j, j < i ∧ (nth L j).lo ≤ p ∧ q ≤ (nth L j).hi) ∧ ω.lim = 0)
              ⟨L.length, 0, false, by omega, rfl, ⟨fun h => (by cases h), fun ⟨j, h, _⟩ => by omega⟩, v0⟩ ?_
            rintro k3 _ τ ⟨i, b, hiL, rfl, hbi2, v0⟩
            by_cases hi2 : i < L.length
            · have hi2' : (i : Int) < L.length := by omega
              obtain ⟨b', hb'⟩ : ∃ b' : Bool, b' = (b || decide ((nth L i).lo ≤ p ∧ q ≤ (nth L i).hi)) := ⟨_, rfl⟩
              have hbn : b' = true ↔ ∃ j, j < i + 1 ∧ (nth L j).lo ≤ p ∧ q ≤ (nth L j).hi := by
                rw [hb', Bool.or_eq_true, hbi2, decide_eq_true_eq]
                constructor
                · rintro (⟨j, h1, h2⟩ | h)
                  · exact ⟨j, by omega, h2⟩
                  · exact ⟨i, by omega, h⟩
                · rintro ⟨j, h1, h2⟩
                  by_cases e : j = i
                  · rw [e] at h2; exact .inr h2
                  · exact .inl ⟨j, by omega, h2⟩
              cases b
              · by_cases d1 : (nth L i).lo ≤ p
                · simp (disch := omega) [Und, v0, hi2, hi2', hn0, d1, -Bool.exists_bool]
                  exact ⟨k3 - 1, by omega, i + 1, by omega, _, ⟨rfl, by omega⟩, by rw [← hbn, hb']; simp [d1]⟩
                · simp (disch := omega) [Und, v0, hi2, hi2', hn0, d1, -Bool.exists_bool]
                  exact ⟨k3 - 1, by omega, i + 1, by omega, _, ⟨rfl, by omega⟩, by rw [← hbn, hb']; simp [d1]⟩
              · simp (disch := omega) [Und, v0, hi2, hi2', -Bool.exists_bool]
                exact ⟨k3 - 1, by omega, i + 1, by omega, _, ⟨rfl, by omega⟩, by rw [← hbn, hb']; simp⟩
            · obtain rfl : i = L.length := by omega
              have hb9 : b = true := hbi2.2 ⟨m, m1, m2, m3⟩
              subst hb9
              simp (disch := omega) [Und, v0, -Bool.exists_bool]
        · have h1 := Lon_bad T D.isEmpty D (by omega) hok
          refine pc_ro (.cons (sa σ) (.cons (hb.snapS encCar flatCar) .nil)) hcl (by simp) (oo (args := []) (by decide)).1 (fun i _ => by omega) h1 fun σ' g1 g2 => ?_
          have t0 : σ'.lim = 0 := g1.lim.trans s0
          simp (disch := omega) [Und, t0, -Bool.exists_bool]
    · have h8' : 8 < (C.length : Int) := by omega
      simp (disch := omega) [eq_true hT', h8', Und, -Bool.exists_bool]
  · have hT' : ¬ (0 ≤ T.lo ∧ T.lo ≤ T.hi ∧ T.hi ≤ 100000) := hT
    simp (disch := omega) [eq_false hT', Und, -Bool.exists_bool]
theorem FixAgreed_ok (T : Span) (nl : Bool) (C : List Car) (nb : Bool) (B : List Int) (hT : i64 T.lo ∧ i64 T.hi) (hs : Slice eCar carOK (vl eCar nl C) nl C) (hb : Slice (AV.int .i64) i64 (vs nb B) nb B) : ans prog O 13 [.agg [.int .i64 T.lo, .int .i64 T.hi], vl eCar nl C, vs nb B] = some (.bool true) :=
  FixAgreed_law T nl C nb B (by have := hs.len; omega) (by have := hb.len; omega)
end Go.Oct.Fix
