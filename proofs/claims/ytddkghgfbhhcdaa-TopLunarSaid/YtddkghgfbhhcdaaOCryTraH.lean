/- What trials tell: sums of corrections and index errors, by the angles of the table. -/
import Derived.Test.YtddkghgfbhhcdaaOCryTraM
set_option maxRecDepth 100000
set_option maxHeartbeats 4000000
set_option linter.unusedVariables false
set_option linter.unusedSimpArgs false
namespace Go.Oct.Cry.Sx
open Go.Oct
theorem totS_bdB {B : Int} {l : List Span} (h : ∀ j, j < l.length → (-B ≤ (nth l j).lo ∧ (nth l j).lo ≤ B) ∧ -B ≤ (nth l j).hi ∧ (nth l j).hi ≤ B) : ∀ j, j ≤ l.length → (-(B * (j : Int)) ≤ (totS l j).lo ∧ (totS l j).lo ≤ B * j) ∧ -(B * (j : Int)) ≤ (totS l j).hi ∧ (totS l j).hi ≤ B * j
  | 0, _ => by simp [totS]
  | j + 1, hj => by
    have h1 := totS_bdB h j (by omega)
    have h2 := h j (by omega)
    have e : B * ((j + 1 : Nat) : Int) = B * j + B := by rw [show ((j + 1 : Nat) : Int) = (j : Int) + 1 by omega, Int.mul_add, Int.mul_one]
    rw [e]
    simp only [totS]
    omega
theorem shades_bd {S : List Span} (hS : allM 120 S) (s : Int) : ∀ i, i ≤ S.length → ∀ x ∈ shades S s i, ∃ y, x = .fx y ∧ (-120 ≤ y.lo ∧ y.lo ≤ 120) ∧ -120 ≤ y.hi ∧ y.hi ≤ 120
  | 0, _, x, hx => by cases hx
  | i + 1, hi, x, hx => by
    simp only [shades, List.mem_append] at hx
    rcases hx with hx | hx
    · exact shades_bd hS s i (by omega) x hx
    · split at hx
      · obtain rfl := List.mem_singleton.1 hx
        have := hS i (by omega)
        unfold inM at this
        exact ⟨_, rfl, by omega, by omega⟩
      · cases hx
/-- What shades and a wrong reading add, together. -/
theorem more_bd {s : Sext} (hs : okS s) (n sh : Int) : (-1000 ≤ (totS (adds n (read0 s sh s.sh.length)) (read0 s sh s.sh.length).length).lo ∧ (totS (adds n (read0 s sh s.sh.length)) (read0 s sh s.sh.length).length).lo ≤ 1000) ∧
    -1000 ≤ (totS (adds n (read0 s sh s.sh.length)) (read0 s sh s.sh.length).length).hi ∧ (totS (adds n (read0 s sh s.sh.length)) (read0 s sh s.sh.length).length).hi ≤ 1000 := by
  have h6 := shades_len s.sh sh s.sh.length
  have h7 := hs.shl
  have hw := hs.wrong
  have hl : (read0 s sh s.sh.length).length ≤ 7 := by simp only [read0, List.length_cons]; omega
  have h := totS_bdB (B := 120) (l := adds n (read0 s sh s.sh.length)) (fun j hj => by
    rw [adds_len] at hj
    rw [adds_nth hj]
    have hm := nth_mem hj
    generalize nth (read0 s sh s.sh.length) j = q at hm ⊢
    rcases List.mem_cons.1 hm with e | e
    · rw [e]; show (-120 ≤ -s.w ∧ -s.w ≤ 120) ∧ -120 ≤ s.w ∧ s.w ≤ 120; omega
    · obtain ⟨y, e2, e3⟩ := shades_bd hs.sh sh _ (Nat.le_refl _) _ e
      rw [e2]; exact e3) (read0 s sh s.sh.length).length (by rw [adds_len]; exact Nat.le_refl _)
  omega
theorem MapS.mono {lo n n' : Nat} {σ : AH} {es : List ME} (h : MapS lo σ es n) (hn : n ≤ n') : MapS lo σ es n' := fun t => by
  obtain ⟨xs, h1, h2, h3⟩ := h t
  exact ⟨xs, h1, by omega, h3⟩
theorem heard_call (nT nS nl : Bool) (s : Sext) (l : List Tr) (hs : okS s) (ht : trTo s l l.length) {σ : AH} (h0 : σ.lim ≤ σ.next) {K : AV → AH → Prop}
    (hK : ∀ (bs : List Bool) (m : Nat) (es : List ME) (c : Nat) σ', bs.length = 12 → σ.next ≤ m → σ'.get m = some (.map (es.map ent) c) → MapS (m + 2) σ' es 8 → Only [] σ σ' → K (.agg (bs.map AV.bool ++ [.map (some m)])) σ') :
    Call prog O (.fn 73) [eSx nT nS s, vl eTr nl l] σ K := by
  have hst := hs.step
  have hlg := hs.long
  have hln := hs.len
  have h8 := ht.1.2
  refine @call_of' _ _ pl _ _ _ _ _ _ _ ⟨K⟩ get73 ((oo (by decide)).2 _) rfl ?_
  have u3 : σ.lim ≤ σ.next + 1 + 1 + 1 := by omega
  simp (disch := omega) [h0, u3, -Bool.exists_bool]
  obtain ⟨a, ha⟩ : ∃ a, a = σ.next := ⟨_, rfl⟩
  rw [← ha] at hK ⊢
  refine lp_loop pl (fun k fr υ => ∃ (j : Nat) (bs : List Bool) (es : List ME) (c : Nat), j + k = l.length ∧ fr = ⟨[(2, .ptr (some (a, 0))), (4, .ptr (some (a + 1, 0))), (5, .ptr (some (a + 3, 0))), (12, vl eTr nl l), (13, .int .i64 l.length), (14, .int .i64 j)], []⟩ ∧ Only [] σ υ ∧ a + 4 ≤ υ.next ∧
      υ.get a = some (.cells [.int .i64 s.step, vl eSpan nT s.tab, .int .i64 s.il, .int .i64 s.ih, .int .i64 s.w, vl eSpan nS s.sh]) ∧ (∃ cs, υ.get (a + 1) = some (.cells cs) ∧ cs.length = 13) ∧ υ.get (a + 2) = some (.map (es.map ent) c) ∧
      υ.get (a + 3) = some (.cells (bs.map AV.bool ++ [.map (some (a + 2))])) ∧ bs.length = 12 ∧ MapS (a + 4) υ es j ∧ Sep1 es)
    ⟨l.length, 0, List.replicate 12 false, [], 0, by omega, rfl, ⟨rfl, by simp; omega, fun q hq _ => by
      have q1 : ¬ q = a := by omega
      have q2 : ¬ q = a + 1 := by omega
      have q3 : ¬ q = a + 1 + 1 := by omega
      have q4 : ¬ q = a + 1 + 1 + 1 := by omega
      simp (disch := omega) [← ha, q1, q2, q3, q4]⟩, by simp [← ha], by simp (disch := omega) [← ha, show ¬ a = a + 1 + 1 + 1 by omega, show ¬ a = a + 1 + 1 by omega], ⟨_, by simp (disch := omega) [← ha, show ¬ a + 1 = a + 1 + 1 + 1 by omega, show ¬ a + 1 = a + 1 + 1 by omega]; rfl, rfl⟩, by simp [← ha], by simp [← ha], by simp, fun t => ⟨[], .inl ⟨rfl, rfl⟩, by simp, fun j hj => by simp at hj⟩, fun t u _ i hi => by cases hi⟩ ?_
  rintro k _ υ ⟨j, bs, es, c, hj, rfl, hO, un, ga, ⟨zs, gz, zl⟩, gm, gt, bl, hM, hS⟩
  have ul := hO.lim
  have x0 : a < υ.next := by omega
  have x1 : a + 1 < υ.next := by omega
  have x2 : a + 2 < υ.next := by omega
  have x3 : a + 3 < υ.next := by omega
  have y0 : ¬ a = υ.next := by omega
  have y1 : ¬ a + 1 = υ.next := by omega
  have y2 : ¬ a + 2 = υ.next := by omega
  have y3 : ¬ a + 3 = υ.next := by omega
  have w0 : υ.lim ≤ υ.next := by omega
  have w3 : υ.lim ≤ a + 3 := by omega
  have w4 : σ.lim ≤ υ.next := by omega
  have w5 : σ.lim ≤ a + 3 := by omega
  have w6 : σ.lim ≤ a + 1 := by omega
  have y4 : ¬ υ.next = a + 3 := by omega
  have y5 : ¬ υ.next = a + 2 := by omega
  have y6 : ¬ υ.next = a + 1 := by omega
  have y7 : ¬ υ.next = a := by omega
  have tk : List.take 13 (bs.map AV.bool ++ [.map (some (a + 2))]) = bs.map AV.bool ++ [.map (some (a + 2))] := List.take_of_length_le (by simp [bl])
  have hput : putCells zs 0 (bs.map AV.bool ++ [.map (some (a + 2))]) = bs.map AV.bool ++ [.map (some (a + 2))] := by
    have := putCells_app (bs.map AV.bool ++ [.map (some (a + 2))]) [] zs (by simp [bl, zl])
    simp only [List.nil_append, List.length_nil] at this
    rw [this, List.drop_of_length_le (by simp [bl, zl]), List.append_nil]
  by_cases hjl : j < l.length
  · have hjl' : (j : Int) < l.length := by omega
    obtain ⟨⟨hr, hmod⟩, htr⟩ := ht.2 j hjl
    obtain ⟨⟨r1, r2⟩, _, _⟩ := row_of hst.1 hr.1.1 hr.1.2
    have t1 : (nth l j).n.tdiv s.step = (nth l j).n / s.step := Int.tdiv_eq_ediv_of_nonneg hr.1.1
    obtain ⟨q, hq⟩ : ∃ q : Nat, (nth l j).n / s.step = q := ⟨((nth l j).n / s.step).toNat, by omega⟩
    rw [hq] at t1 r2
    have hq12 : (q : Int) < 12 := by omega
    have hq12' : q < 12 := by omega
    have hst0 : ¬ s.step = 0 := by omega
    have hn1 : 0 ≤ (nth l j).n ∧ (nth l j).n ≤ 504000 := by have := hr.1; omega
    have hmb := more_bd hs (nth l j).n (nth l j).sh
    generalize hx : nth l j = X at *
    simp (disch := omega) [Und, hjl, hjl', hx, ul, ga, gz, gm, gt, x0, x1, x2, x3, y0, y1, y2, y3, y4, y5, y6, y7, w0, w3, w4, w5, w6, t1, hq12, hq12', hst0, bl, -Bool.exists_bool]
    refine ⟨by omega, ?_⟩
    generalize hτ : AH.under (AH.set (AH.set (AH.push υ _) υ.next _) (a + 3) _) _ = τ
    have τl : τ.lim = υ.next + 1 := by rw [← hτ]; rfl
    have τn : τ.next = υ.next + 1 := by rw [← hτ]; rfl
    have τo : ∀ z, z < υ.next → z ≠ a + 3 → τ.get z = υ.get z := fun z hz hz2 => by
      have : ¬ z = υ.next := by omega
      rw [← hτ]; simp (disch := omega) [this, hz2]
    have τx : τ.get υ.next = some (.cells [.int .i64 X.n, .int .i64 X.sh, .int .i64 X.tr]) := by rw [← hτ]; simp (disch := omega) [y4]
    have τt : τ.get (a + 3) = some (.cells ((bs.set q true).map AV.bool ++ [.map (some (a + 2))])) := by
      have e : (bs.map AV.bool ++ [AV.map (some (a + 2))]).set q (.bool true) = (bs.set q true).map AV.bool ++ [AV.map (some (a + 2))] := by
        rw [List.set_append_left _ _ (by simp [bl]; omega), List.map_set]
      rw [← hτ, ← e]; simp (disch := omega) [y4, show a + 3 < υ.next + 1 by omega]
    clear hτ
    refine reading_call nT nS s X.sh hs (by omega) fun v σ1 g1 g2 => ?_
    have s1n := g2.next
    have s1l := g2.lim
    simp (disch := omega) [Und, -Bool.exists_bool]
    have h6 := shades_len s.sh X.sh s.sh.length
    have h7 := hs.shl
    have hl7 : (read0 s X.sh s.sh.length).length ≤ 7 := by simp only [read0, List.length_cons]; omega
    have gW : Whole τ.next 1 eAd (σ1.under σ1.next) v (read0 s X.sh s.sh.length) := by
      obtain ⟨i, c, e1, e2, e3, e4⟩ := g1
      exact ⟨i, c, e1, e2, e3, e4⟩
    refine added_call gW (by omega) (Nat.le_refl _) (fun i hi => read0_ok hs X.n X.sh _ (nth_mem hi)) fun ω hω => ?_
    generalize totS (adds X.n (read0 s X.sh s.sh.length)) (read0 s X.sh s.sh.length).length = M at hmb ⊢
    have ωn := hω.next
    have ωl := hω.lim
    have ωo : ∀ z, z ≤ υ.next → ω.get z = τ.get z := fun z hz => (hω.get z (by show z < σ1.next; omega) (by simp)).trans (g2.get z (by omega) (by simp))
    have ωx := (ωo υ.next (Nat.le_refl _)).trans τx
    have ωt := (ωo (a + 3) (by omega)).trans τt
    have ωm := (ωo (a + 2) (by omega)).trans ((τo _ (by omega) (by omega)).trans gm)
    have ωs : υ.next < ω.next := by have := hω.next; simp at this; omega
    have z0 : ¬ υ.next = ω.next := by omega
    have z1 : ¬ a + 3 = ω.next := by omega
    have z2 : ¬ a + 2 = ω.next := by omega
    have z3 : a + 3 < ω.next := by omega
    have z4 : a + 2 < ω.next := by omega
    have hlk := look_I (q : Int) ωm
    have z5 : υ.lim ≤ ω.next := by omega
    have z9 : a + 3 < ω.next + 1 := by omega
    have z10 : υ.next < ω.next + 1 := by omega
    have z11 : a + 2 < ω.next + 1 := by omega
    have h12 : ((bs.map AV.bool).set q (.bool true) ++ [AV.map (some (a + 2))])[12]? = some (AV.map (some (a + 2))) := by
      rw [List.getElem?_append_right (by simp [bl])]; simp [bl]
    have z6 : ¬ ω.next = a + 3 := by omega
    have z7 : ¬ ω.next = a + 2 := by omega
    have z8 : ¬ ω.next = υ.next := by omega
    simp (disch := omega) [Und, eSpan, ωx, ωt, ωm, ωs, z0, z1, z2, z3, z4, z5, z6, z7, z8, z9, z10, z11, h12, bl, ahop_lookup, -Bool.exists_bool]
    rw [look_I (es := es) (c := c) _ (by simp (disch := omega) [ωm, z11, z2, z4, z7])]
    simp (disch := omega) [Und, eSpan, ωx, ωt, ωm, ωs, z0, z1, z2, z3, z4, z5, z6, z7, z8, z9, z10, z11, h12, bl, ahop_lookup, ahop_mapUpd, -Bool.exists_bool]
    obtain ⟨xs, hb, hxl, hxb⟩ := hM (q : Int)
    generalize hζ : AH.under (AH.set (AH.push (ω.under υ.lim) _) ω.next _) υ.lim = ζ
    have ζl : ζ.lim = υ.lim := by rw [← hζ]; rfl
    have ζn : ζ.next = ω.next + 1 := by rw [← hζ]; rfl
    have ζo : ∀ z, z < ω.next → ζ.get z = ω.get z := fun z hz => by
      have : ¬ z = ω.next := by omega
      rw [← hζ]; simp (disch := omega) [this]
    clear hζ
    have old : ∀ z, z < υ.next → z ≠ a + 3 → ζ.get z = υ.get z := fun z hz h => by rw [ζo z (by omega), ωo z (by omega), τo z hz h]
    have hMζ : MapS (a + 4) ζ es j := hM.keep fun z hz hz2 => old z hz2 (by omega)
    have hbζ : Buf (a + 4) 2 eSpan ζ (mgl es q) xs := hb.keep fun z hz hz2 => old z hz2 (by omega)
    rw [← ζn]
    refine Buf.apkS hbζ encSpan (by omega) (by show a + 4 ≤ ζ.next; omega) (by show ζ.next ≤ ζ.next; omega) (fun z hz => by
      have hz2 := hb.obj_lt z hz
      exact ⟨by show z < ζ.next; omega, by simp; omega⟩) ⟨X.tr - X.n - M.hi, X.tr - X.n - M.lo⟩ (by simp only [topBytes]; omega) rfl fun v1 κ sts q1b q1g q1s => ?_
    have κl : κ.lim = υ.lim := q1g.lim.trans ζl
    have κn := q1g.next
    have κm : κ.get (a + 2) = some (.map (es.map ent) c) := by rw [q1g.get _ (by omega), old _ (by omega) (by omega)]; exact gm
    obtain ⟨es', c', hu, he'⟩ := upd_I (σ := κ) (m := a + 2) (q : Int) v1 (by omega) κm
    obtain ⟨p1, p2⟩ := hMζ.upd hS hxl hxb (x := ⟨X.tr - X.n - M.hi, X.tr - X.n - M.lo⟩) ⟨by simp only; omega, by simp only; omega⟩ q1b q1g he'
    simp (disch := omega) [Und, κl, hu, ahop_mapUpd, -Bool.exists_bool]
    have κo : ∀ z, z < a + 4 → κ.get z = ω.get z := fun z hz => by rw [q1g.get z hz, ζo z (by omega)]
    have κu : ∀ z, z < a + 3 → κ.get z = υ.get z := fun z hz => by rw [κo z (by omega), ωo z (by omega), τo z (by omega) (by omega)]
    refine ⟨k - 1, by omega, j + 1, by omega, by omega, ⟨by show κ.lim = σ.lim; omega, by show σ.next ≤ κ.next; omega, fun z hz h => ?_⟩, by omega, (κu a (by omega)).trans ga, ⟨zs, (κu (a + 1) (by omega)).trans gz, zl⟩, bs.set q true, es', ⟨by omega, rfl⟩, (κo (a + 3) (by omega)).trans ωt, by simp [bl], p1.keep fun z hz _ => AH.get_set_other _ _ _ _ (by omega), p2⟩
    rw [AH.get_set_other _ _ _ _ (by omega), κu z (by omega)]
    exact hO.get z hz h
  · obtain rfl : j = l.length := by omega
    simp (disch := omega) [Und, ul, ga, gz, gm, gt, x0, x1, x2, x3, y0, y1, y2, y3, y4, y5, y6, y7, w0, w3, w4, w5, w6, zl, tk, hput, bl, -Bool.exists_bool]
    refine hK bs (a + 2) es c _ bl (by omega) (by rw [AH.get_set_other _ _ _ _ (by omega)]; exact gm) ?_ ⟨by show υ.lim = σ.lim; omega, by show σ.next ≤ υ.next; omega, fun z hz h => by rw [AH.get_set_other _ _ _ _ (by omega)]; exact hO.get z hz h⟩
    have h8 := ht.1.2
    exact (hM.keep fun z hz _ => AH.get_set_other _ _ _ _ (by omega)).mono (by omega)
end Go.Oct.Cry.Sx
