/- ScrewMore: the walk. -/
import Derived.Test.YtcbiofokeadddaaOScrewEndW
set_option maxRecDepth 100000
set_option maxHeartbeats 4000000
set_option linter.unusedVariables false
set_option linter.unusedSimpArgs false
namespace Go.Oct.Screw
open Go.Oct
theorem alike_same (a b : Bool) (R : List (List Span)) (hR : R.length < 2 ^ 30) (hr : ∀ i, i < R.length → (nth R i).length < 2 ^ 30) : ans prog O 45 [vl eSpans a (fr0 R), vl eSpans b (fr0 R)] = some (.bool true) := by
  refine fn_of' pl get45 (oo (by decide)) rfl rfl ?_
  simp +contextual (disch := omega) []
  refine lp_loop pl (fun k fr σ => ∃ i, i + k = R.length ∧ fr = ⟨[(0, vl eSpans a (fr0 R)), (1, vl eSpans b (fr0 R)), (5, .bool true), (6, .int .i64 i)], []⟩) ⟨R.length, 0, by omega, rfl⟩ ?_
  rintro k _ σ ⟨i, hik, rfl⟩
  by_cases hil : i < R.length
  · have hri := hr i hil
    have hni := fr0_nth hil
    have hss := SameSpans_ok false false (nth R i) (nth R i) (by omega)
    simp +contextual (disch := omega) [Und, hil, hni, hss]
    exact ⟨k - 1, by omega, i + 1, by omega, by omega⟩
  · obtain rfl : i = R.length := by omega
    simp +contextual (disch := omega) [Und]
theorem nth_snoc {α : Type} [Inhabited α] {l : List α} {x : α} {j : Nat} (h : j < l.length) : nth (l ++ [x]) j = nth l j := nth_append_left h
theorem ask_cases {T : List Int} {M : Int} {l : List Rd} : askE T M l = 0 ∨ askE T M l = 23 ∨ askE T M l = 24 := by
  unfold askE
  split
  · split <;> simp
  · simp
theorem ask_set {T : List Int} {M : Int} {l l' : List Rd} (h : askE T M l = 23) : askE T M l' = 23 := by
  unfold askE at h ⊢
  split at h
  · split at h <;> omega
  · rename_i hs; rw [if_neg hs]
theorem ask_less {T : List Int} {M : Int} {l : List Rd} {x : Rd} (h : askE T M (l ++ [x]) = 0) : askE T M l = 0 := by
  obtain ⟨hs, hl, hr⟩ := okay_ask h
  unfold askE
  rw [List.length_append] at hl
  have hr2 : okRds T l := fun j hj => by
    have := hr j (by rw [List.length_append]; omega)
    rwa [nth_snoc hj] at this
  rw [if_pos hs, if_pos ⟨by omega, hr2⟩]
theorem feas_less {T : List Int} {M : Int} {l : List Rd} {y : Rd} {x : Nat → Int} (h : Feas T M (cons (l ++ [y])) x) : Feas T M (cons l) x :=
  ⟨h.base, h.bnd, fun k hk => h.con k (by unfold cons at hk ⊢; rw [List.flatMap_append]; exact List.mem_append_left _ hk)⟩
theorem feas_same {T : List Int} {M : Int} {l : List Rd} {y : Rd} {x : Nat → Int} (hy : y ∈ l) : Feas T M (cons (l ++ [y])) x ↔ Feas T M (cons l) x := by
  refine ⟨feas_less, fun h => ⟨h.base, h.bnd, con_agree.2 fun r hr => ?_⟩⟩
  have := con_agree.1 h.con
  rcases List.mem_append.1 hr with hr | hr
  · exact this r hr
  · obtain rfl := List.mem_singleton.1 hr
    exact this r hy
theorem spanRows_same {T : List Int} {lo hi lo' hi' : Nat → Int} (h8 : ∀ c, V T c → lo c = lo' c ∧ hi c = hi' c) (ht : ∀ i, i < T.length → tn T i ≤ 8) : spanRows T lo hi T.length = spanRows T lo' hi' T.length := by
  unfold spanRows
  refine List.map_congr_left fun i hi => ?_
  have hi := List.mem_range.1 hi
  unfold spanRow
  refine List.map_congr_left fun k hk => ?_
  have hk := List.mem_range.1 hk
  have := ht i hi
  have := h8 (9 * i + k) (by
    unfold V
    rw [show (9 * i + k) / 9 = i by omega, show (9 * i + k) % 9 = k by omega]
    omega)
  rw [this.1, this.2]
theorem SpOK.tup {T : List Int} {M : Int} {l : List Rd} {v : AV} (h : SpOK T M l v) : ∃ a e, v = .tuple [a, .int .i64 e] := by
  cases h <;> exact ⟨_, _, rfl⟩
theorem Snap.set (σ : AH) (nT : Bool) (T : List Int) (M : Int) : Snap σ (eSet nT T M) [] (eSet nT T M) := ⟨rfl, fun _ _ => rfl⟩
theorem ScrewMore_main (nT : Bool) (T : List Int) (M : Int) (nl : Bool) (l : List Rd) (x : Rd) (hT : T.length < 2 ^ 62) (hl : l.length < 2 ^ 62) (hn : nl = true → l = []) :
    ans prog O 9 [eSet nT T M, vl eRd nl l, eRd x] = some (.bool true) := by
  refine fn_of' pl get9 (oo (by decide)) rfl rfl ?_
  by_cases h24 : (24 : Int) ≤ l.length
  · simp +contextual (disch := omega) [eRd, h24, Und]
  · obtain ⟨v1, hv1, g1⟩ := Spans_ok nT nl T M l hT hn hl
    obtain ⟨v2, hv2, g2⟩ := Spans_ok nT false T M (l ++ [x]) hT (fun h => by cases h) (by rw [List.length_append]; simp; omega)
    obtain ⟨a1, e1, rfl⟩ := hv1.tup
    obtain ⟨a2, e2, rfl⟩ := hv2.tup
    simp +contextual (disch := omega) [eRd, h24, Und, g1]
    refine lit0_app (lo := 2) (ys := l) (e := eRd) encRd (Nat.le_refl 2) (by simp) (by simp) (vl_src encRd nl l) (by simp only [topBytes]; omega) fun w σ1 w1 w2 w3 => ?_
    have p0 : σ1.get 0 = some (.cells [vs nT T, .int .i64 M]) := (w2.get 0 (by simp) (by simp)).trans (by simp)
    have p1 : σ1.get 1 = some (.cells [.int .i64 x.a, .int .i64 x.i, .int .i64 x.b, .int .i64 x.j, .int .i64 x.v, .int .i64 x.w]) := (w2.get 1 (by simp) (by simp)).trans (by simp)
    have p2 : 3 ≤ σ1.next := w2.next
    simp +contextual (disch := omega) [eRd, h24, Und, g1, p0, p1]
    refine (show Whole 2 6 eRd (σ1.under 0) w l from w1).push encRd (Nat.zero_le _) (by show 2 ≤ σ1.next; omega) x (by simp only [topBytes]; omega) rfl fun m σ2 y1 y2 => ?_
    have q0 : σ2.get 0 = some (.cells [vs nT T, .int .i64 M]) := (y2.get 0 (by omega)).trans p0
    have q1 : σ2.get 1 = some (.cells [.int .i64 x.a, .int .i64 x.i, .int .i64 x.b, .int .i64 x.j, .int .i64 x.v, .int .i64 x.w]) := (y2.get 1 (by omega)).trans p1
    have q2 : σ2.lim = 0 := y2.lim
    have q3 : 3 ≤ σ2.next := Nat.le_trans p2 y2.next
    have hlen : List.length (l ++ [x]) = l.length + 1 := by simp
    have hlm := y1.len
    rw [hlen] at hlm
    simp +contextual (disch := omega) [Und, g1, q0, q1]
    have hcl : closed 8 m = false := y1.view.closed 7
    refine pc_ro (.cons (Snap.set ..) (.cons (y1.view.snap encRd flatRd) .nil)) (fun h => by simp [hcl] at h) (by simp) (oo (args := []) (by decide)).1 (fun i hi => by rw [q2]; omega) g2 fun σ3 z1 z2 => ?_
    have hob : ∀ i ∈ obj m, 2 ≤ i := fun i hi => (y1.obj_lt i hi).1
    have r0 : σ3.get 0 = some (.cells [vs nT T, .int .i64 M]) := (z1.get 0 (by omega) (fun hc => by simp at hc; have := hob 0 hc; omega)).trans q0
    have r1 : σ3.get 1 = some (.cells [.int .i64 x.a, .int .i64 x.i, .int .i64 x.b, .int .i64 x.j, .int .i64 x.v, .int .i64 x.w]) := (z1.get 1 (by omega) (fun hc => by simp at hc; have := hob 1 hc; omega)).trans q1
    have r2 : σ3.lim = 0 := z1.lim.trans q2
    have r3 : 3 ≤ σ3.next := Nat.le_trans q3 z1.next
    have hm := y1.view.seen (σ' := σ3) fun i _ => z2 i
    clear w1 w2 w3 p0 p1 p2 q0 q1 q2 q3 y2 z1 z2
    cases hv2 with
    | bad h =>
      have h1 : e1 = 0 ∨ e1 = askE T M (l ++ [x]) ∨ askE T M (l ++ [x]) = 24 := by
        rcases ask_cases (T := T) (M := M) (l := l ++ [x]) with h2 | h2 | h2
        · exact absurd h2 h
        · have h3 := ask_set (l' := l) h2
          cases hv1 with
          | bad h4 => exact .inr (.inl (by rw [h2, h3]))
          | none h4 _ => omega
          | some lo hi h4 _ _ => exact .inl rfl
        · exact .inr (.inr h2)
      simp +contextual (disch := omega) [h, Und]
      rcases h1 with h1 | h1 | h1
      · exact .inl (.inl h1)
      · exact .inl (.inr h1)
      · exact .inr h1
    | none h hno =>
      have h0 := ask_less h
      have h1 : e1 = 0 ∨ e1 = 4 := by
        cases hv1 with
        | bad h4 => exact absurd h0 h4
        | none h4 _ => exact .inr rfl
        | some lo hi h4 _ _ => exact .inl rfl
      simp +contextual (disch := omega) [h, Und]
      exact h1
    | some lo2 hi2 h hlo2 hhi2 =>
      have h0 := ask_less h
      cases hv1 with
      | bad h4 => exact absurd h0 h4
      | none h4 hno => exact absurd (feas_less hlo2.1) (hno _)
      | some lo1 hi1 h4 hlo1 hhi1 =>
        obtain ⟨hs, hl24, hr⟩ := okay_ask h
        have hT4 : T.length ≤ 4 := (okay_of hs hr).len
        have htn : ∀ i, i < T.length → (tn T i : Int) = nth T i ∧ 1 ≤ tn T i ∧ tn T i ≤ 8 := fun i hi => by have := hs.2 i hi; unfold tn; omega
        have hsl1 : List.length (fr0 (spanRows T lo1 hi1 T.length)) = T.length := by rw [fr0_len, spanRows_len]
        have hsn1 : ∀ i, i < T.length → nth (fr0 (spanRows T lo1 hi1 T.length)) i = (false, spanRow T lo1 hi1 i (tn T i + 1)) := fun i hi => by rw [fr0_nth (by rw [spanRows_len]; exact hi), spanRows_nth _ _ _ hi]
        have hsl2 : List.length (fr0 (spanRows T lo2 hi2 T.length)) = T.length := by rw [fr0_len, spanRows_len]
        have hsn2 : ∀ i, i < T.length → nth (fr0 (spanRows T lo2 hi2 T.length)) i = (false, spanRow T lo2 hi2 i (tn T i + 1)) := fun i hi => by rw [fr0_nth (by rw [spanRows_len]; exact hi), spanRows_nth _ _ _ hi]
        simp +contextual (disch := omega) [h, Und, spanRows_len]
        generalize hSS1 : fr0 (spanRows T lo1 hi1 T.length) = SS1 at *
        refine lp_loop pl (fun k fr σ => ∃ i, i + k = T.length ∧ fr = ⟨[(3, .ptr (some (0, 0))), (5, .ptr (some (1, 0))), (7, m), (8, vl eSpans false SS1), (10, vl eSpans false (fr0 (spanRows T lo2 hi2 T.length))), (12, .int .i64 i)], []⟩ ∧ σ3 = σ) ⟨T.length, 0, by omega, rfl, rfl⟩ ?_
        rintro k _ _ ⟨i, hik, rfl, rfl⟩
        by_cases hil : i < T.length
        · have hti := htn i hil
          have hn1 := hsn1 i hil
          have hn2 := hsn2 i hil
          have hl1 := spanRow_len T lo1 hi1 i (tn T i + 1)
          have hl2 := spanRow_len T lo2 hi2 i (tn T i + 1)
          simp +contextual (disch := omega) [Und, hil, hsl1, hsl2, hn1, hn2, hl1, hl2, spanRows_len]
          refine lp_loop pl (fun k2 fr σ => ∃ m2, m2 + k2 = tn T i + 1 ∧ fr = ⟨[(3, .ptr (some (0, 0))), (5, .ptr (some (1, 0))), (7, m), (8, vl eSpans false SS1), (10, vl eSpans false (fr0 (spanRows T lo2 hi2 T.length))), (12, .int .i64 i), (13, .int .i64 m2)], []⟩ ∧ σ3 = σ) ⟨tn T i + 1, 0, by omega, rfl, rfl⟩ ?_
          rintro k2 _ _ ⟨m2, hmk, rfl, rfl⟩
          by_cases hml : m2 < tn T i + 1
          · have hV : V T (9 * i + m2) := by
              unfold V
              rw [show (9 * i + m2) / 9 = i by omega, show (9 * i + m2) % 9 = m2 by omega]
              omega
            have hb1 := hlo1.2 _ (feas_less hlo2.1) _ hV
            have hb2 := hhi1.2 _ (feas_less hhi2.1) _ hV
            have hp1 := spanRow_nth T lo1 hi1 (i := i) (n := tn T i + 1) (k := m2) hml
            have hp2 := spanRow_nth T lo2 hi2 (i := i) (n := tn T i + 1) (k := m2) hml
            simp +contextual (disch := omega) [Und, hil, hml, hsl1, hsl2, hn1, hn2, hl1, hl2, hp1, hp2, spanRows_len]
            exact ⟨fun _ => ⟨⟨hb1, hb2⟩, fun _ _ => ⟨k2 - 1, by omega, m2 + 1, by omega, by omega⟩⟩, fun h => by omega⟩
          · simp +contextual (disch := omega) [Und, hil, hml, hsl1, hsl2, hn1, hn2, hl1, hl2, spanRows_len]
            exact ⟨fun h => by omega, fun _ => ⟨k - 1, by omega, i + 1, by omega, by omega⟩⟩
        · obtain rfl : i = T.length := by omega
          simp +contextual (disch := omega) [Und, hsl1, r0, r1, hlm]
          intro h25
          refine ⟨by omega, ?_⟩
          have hm2 : View 2 6 eRd ((σ3.under (σ3.next + 1)).push (.cells [])) m (l ++ [x]) := hm.seen fun i hi => AH.cel_same (AH.get_push_old _ _ _ (by have : i < σ3.next := (hm.obj_lt i hi).2; show i ≠ σ3.next; omega))
          refine lit0_app (lo := σ3.next) (ys := l ++ [x]) (e := eRd) encRd (Nat.le_refl _) (Nat.le_succ _) (by simp) (hm2.src encRd) (by rw [hlen]; simp only [topBytes]; omega) fun w σ4 w1 w2 w3 => ?_
          have p0 : σ4.get 0 = some (.cells [vs nT T, .int .i64 M]) := (w2.get 0 (by show 0 < σ3.next + 1; omega) (by simp)).trans ((AH.get_push_old _ _ _ (by show 0 ≠ σ3.next; omega)).trans r0)
          have p1 : σ4.get 1 = some (.cells [.int .i64 x.a, .int .i64 x.i, .int .i64 x.b, .int .i64 x.j, .int .i64 x.v, .int .i64 x.w]) := (w2.get 1 (by show 1 < σ3.next + 1; omega) (by simp)).trans ((AH.get_push_old _ _ _ (by show 1 ≠ σ3.next; omega)).trans r1)
          have p2 : σ3.next + 1 ≤ σ4.next := w2.next
          simp +contextual (disch := omega) [Und, p0, p1, r2]
          refine (show Whole σ3.next 6 eRd (σ4.under σ3.next) w (l ++ [x]) from w1).push encRd (Nat.le_refl _) (by show σ3.next ≤ σ4.next; omega) x (by rw [hlen]; simp only [topBytes]; omega) rfl fun m3 σ5 y3 y4 => ?_
          obtain ⟨v3, hv3, g3⟩ := Spans_ok nT false T M (l ++ [x] ++ [x]) hT (fun h => by cases h) (by rw [List.length_append, hlen]; simp; omega)
          have ha3 : askE T M (l ++ [x] ++ [x]) = 0 := by
            unfold askE
            have hr3 : okRds T (l ++ [x] ++ [x]) := fun j hj => by
              rw [List.length_append] at hj
              by_cases hjl : j < (l ++ [x]).length
              · rw [nth_snoc hjl]; exact hr j hjl
              · rw [nth_append_right (by omega) (by simp at hj ⊢; omega)]
                have hx := hr l.length (by rw [hlen]; omega)
                rw [nth_append_right (by omega) (by simp), Nat.sub_self] at hx
                rw [show j - (l ++ [x]).length = 0 by simp at hj ⊢; omega]
                exact hx
            rw [if_pos hs, if_pos ⟨by rw [List.length_append, hlen]; simp; omega, hr3⟩]
          have hin : x ∈ l ++ [x] := by simp
          have hcl3 : closed 8 m3 = false := y3.view.closed 7
          have hR : spanRows T lo2 hi2 T.length = spanRows T lo2 hi2 T.length := rfl
          simp +contextual (disch := omega) [Und]
          refine pc_ro (.cons (Snap.set ..) (.cons ((show Whole σ3.next 6 eRd (σ5.under σ3.lim) m3 (l ++ [x] ++ [x]) from y3).view.snap encRd flatRd) .nil)) (fun h => by simp [hcl3] at h) (by simp) (oo (args := []) (by decide)).1 (fun i hi => by show σ3.lim ≤ i; rw [r2]; exact Nat.zero_le _) g3 fun σ6 z1 z2 => ?_
          cases hv3 with
          | bad h4 => exact absurd ha3 h4
          | none h4 hno => exact absurd ((feas_same hin).2 hlo2.1) (hno _)
          | some lo3 hi3 h4 hlo3 hhi3 =>
            have hsame : spanRows T lo3 hi3 T.length = spanRows T lo2 hi2 T.length := by
              refine spanRows_same (fun c hc => ⟨?_, ?_⟩) fun i hi => (htn i hi).2.2
              · exact Int.le_antisymm (hlo3.2 _ ((feas_same hin).2 hlo2.1) c hc) (hlo2.2 _ ((feas_same hin).1 hlo3.1) c hc)
              · exact Int.le_antisymm (hhi2.2 _ ((feas_same hin).1 hhi3.1) c hc) (hhi3.2 _ ((feas_same hin).2 hhi2.1) c hc)
            rw [hsame]
            have hal := alike_same false false (spanRows T lo2 hi2 T.length) (by rw [spanRows_len]; omega) (fun i hi => by
              rw [spanRows_len] at hi
              rw [spanRows_nth _ _ _ hi, spanRow_len]; have := htn i hi; omega)
            simp +contextual (disch := omega) [Und, hal]
theorem inv_read {cs : List AV} (hc : CellsAre [.int .i64, .int .i64, .int .i64, .int .i64, .int .i64, .int .i64] cs) : ∃ r : Rd, cs = [.int .i64 r.a, .int .i64 r.i, .int .i64 r.b, .int .i64 r.j, .int .i64 r.v, .int .i64 r.w] := by
  obtain ⟨c1, _, rfl, h1, hc⟩ := hc.uncons
  obtain ⟨c2, _, rfl, h2, hc⟩ := hc.uncons
  obtain ⟨c3, _, rfl, h3, hc⟩ := hc.uncons
  obtain ⟨c4, _, rfl, h4, hc⟩ := hc.uncons
  obtain ⟨c5, _, rfl, h5, hc⟩ := hc.uncons
  obtain ⟨c6, rfl, h6⟩ := hc.one
  obtain ⟨n1, rfl, _⟩ := h1.inv_int
  obtain ⟨n2, rfl, _⟩ := h2.inv_int
  obtain ⟨n3, rfl, _⟩ := h3.inv_int
  obtain ⟨n4, rfl, _⟩ := h4.inv_int
  obtain ⟨n5, rfl, _⟩ := h5.inv_int
  obtain ⟨n6, rfl, _⟩ := h6.inv_int
  exact ⟨⟨n1, n2, n3, n4, n5, n6⟩, rfl⟩
theorem ScrewMore_ok (nT : Bool) (T : List Int) (M : Int) (nl : Bool) (l : List Rd) (r : Rd) {x y : AV} (h1 : Slice (AV.int .i64) i64 x nT T) (hM : i64 M) (h2 : Slice eRd (fun _ => True) y nl l) :
    ans prog O 9 [eSet nT T M, vl eRd nl l, eRd r] = some (.bool true) := by
  have := h1.len
  have := h2.len
  exact ScrewMore_main nT T M nl l r (by omega) (by omega) h2.nil
end Go.Oct.Screw
