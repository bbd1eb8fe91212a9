/- The page of a law: written down, wet, and read. -/
import Derived.Test.YtddkghgfbhhcdaaGreatDoorOLogPagP
import Derived.Test.YtddkghgfbhhcdaaGreatDoorOLogSnp
set_option maxRecDepth 100000
set_option maxHeartbeats 8000000
set_option linter.unusedVariables false
set_option linter.unusedSimpArgs false
namespace Go.Oct.Log
open Go.Oct
theorem Read_ok (n : Nat) (hn : n < 100000) : ans prog O 21 [eT (dg n), .int .i64 5] = some (.tuple [.int .i64 n, .bool true]) := by
  have hb := bys_strA (dg_digs n).byt
  have l1 := dg_ne n
  have l2 := dg_len 4 n hn
  have hv := val_dg n
  have hd := dg_digs n
  have h0 := dg_lead n
  generalize dg n = L at *
  refine fn_of' pl get21 (oo (by decide)) rfl rfl ?_
  have h2 : (1 : Int) ≤ L.length := by omega
  have h3 : (L.length : Int) ≤ 5 := by omega
  by_cases h1 : 1 < L.length
  all_goals
    have h4 : ((1 : Int) < L.length) = (1 < L.length) := by simp; omega
    have h5 : 0 < L.length := by omega
    simp (disch := omega) [Und, eT, hb, h2, h3, h4, h5, h1, h0, -Bool.exists_bool]
    refine lp_count pl L.length (fun j => [(0, .str (strA L)), (6, .int .i64 (val (L.take j))), (7, .int .i64 j)]) (fun _ => (⟨0, 0, .leaf⟩ : AH)) (fun _ => True) (by simp [val]) ?_
    intro j hj _
    by_cases hjl : j < L.length
    · have hjd := hd _ (nth_mem hjl)
      have hjl' : (j : Int) < L.length := by omega
      have hvt := val_take hjl
      have hvb := val_bd (hd.take j) (by simp; omega)
      have q1 : 0 ≤ nth L j - 48 := by omega
      have q2 : nth L j - 48 ≤ 9 := by omega
      simp (disch := omega) [Und, hb, hjl, hjl', hvt, q1, q2, -Bool.exists_bool]
      try omega
    · obtain rfl : j = L.length := by omega
      have e : L.take L.length = L := List.take_length
      simp (disch := omega) [Und, hb, e, hv, -Bool.exists_bool]
theorem SameTexts_ok (a b : Bool) (xs : List (List Int)) (hx : xs.length < 2 ^ 62) : ans prog O 29 [vl eT a xs, vl eT b xs] = some (.bool true) := by
  refine fn_of' pl get29 (oo (by decide)) rfl rfl ?_
  simp +contextual (disch := omega) []
  refine lp_count pl xs.length (fun j => [(0, vl eT a xs), (1, vl eT b xs), (5, .int .i64 j)]) (fun _ => ⟨0, 0, .leaf⟩) (fun j => True) (by simp) ?_
  intro j hj hi
  simp +contextual (disch := omega) [Und, eT]
/-- Some bytes of a page get lost. -/
theorem soaked_ok {w : Nat} {R0 : Page} (hf : Full w R0) (nb : Bool) (bits : List Int) (hb : bits.length < 2 ^ 62) : ∃ v, (∃ R, v = vP R ∧ Wet w R R0 ∧ (lost R).length ≤ 5) ∧ ans prog O 8 [vP R0, vs nb bits] = some v := by
  have hrr := hf.rows
  have hww := hf.cols
  refine fn_ex pl _ get8 (oo (by decide)) rfl rfl ?_
  simp (disch := omega) [Und, -Bool.exists_bool]
  refine lp_loop pl (fun k fr σ => ∃ (out : Page) (v : AV), out.length + k = R0.length ∧ fr = ⟨[(0, vP R0), (1, vs nb bits), (5, .int .i64 (nP out : Nat)), (6, v), (7, .int .i64 out.length)], []⟩ ∧ σ.lim = 0 ∧ RowsB 0 1 eT σ v out ∧ PB out R0 ∧ nP out ≤ 5)
    ⟨R0.length, [], .vsl true [], by simp, rfl, rfl, RowsB.nil, PB.nil _, by simp⟩ ?_
  rintro k _ σ ⟨out, v, hk, rfl, σl, hR, hP, h5⟩
  by_cases hr : out.length < R0.length
  · have hr' : (out.length : Int) < R0.length := by omega
    have hwr := hf.wide _ hr
    simp (disch := omega) [Und, hr, hr', -Bool.exists_bool]
    refine lp_loop pl (fun k fr τ => ∃ (row : List (List Int)) (v2 : AV), row.length + k = w ∧ fr = ⟨[(0, vP R0), (1, vs nb bits), (5, .int .i64 ((nP out + nR row : Nat) : Int)), (6, v), (7, .int .i64 out.length), (8, v2), (9, .int .i64 row.length)], []⟩ ∧ Only [] σ τ ∧ Buf σ.next 1 eT τ v2 row ∧ RB row (nth R0 out.length) ∧ nP out + nR row ≤ 5)
      ⟨w, [], .vsl true [], by simp, by simp, Only.refl _ _, Buf.nil, RB.nil _, by simpa using h5⟩ ?_
    rintro k2 _ τ ⟨row, v2, hk2, rfl, hτ, hB, hRB, h52⟩
    have τl := hτ.lim
    have τn := hτ.next
    by_cases hc : row.length < w
    · have hc' : (row.length : Int) < ((nth R0 out.length).length : Int) := by omega
      obtain ⟨n, hn, he⟩ := hf.ent _ _ hr hc
      have hbs := bys_strA (dg_digs n).byt
      have hdg := dg_digs n
      have hl5 := dg_len 4 n hn
      generalize hL : nth (nth R0 out.length) row.length = L at *
      rw [← he] at hbs hdg hl5
      simp (disch := omega) [Und, hr, hr', hc', hL, -Bool.exists_bool]
      refine lp_loop pl (fun k fr υ => ∃ (t : List Int), t.length + k = L.length ∧ fr = ⟨[(0, vP R0), (1, vs nb bits), (5, .int .i64 ((nP out + nR row + nE t : Nat) : Int)), (6, v), (7, .int .i64 out.length), (8, v2), (9, .int .i64 row.length), (10, .str (strA t)), (11, .int .i64 t.length)], []⟩ ∧ υ = τ ∧ EB t L ∧ byt t ∧ nP out + nR row + nE t ≤ 5)
        ⟨L.length, [], by simp, by simp; rfl, rfl, EB.nil _, (fun x hx => by cases hx), by simpa using h52⟩ ?_
      rintro k3 _ υ ⟨t, hk3, rfl, rfl, hEB, htb, h53⟩
      by_cases ht : t.length < L.length
      · have ht' : (t.length : Int) < L.length := by omega
        have hcut : bys ((strA L).extract t.length (t.length + 1)) = [nth L t.length] := by
          rw [bys_cut, hbs, take_succ_nth ht, List.drop_left' (by simp; omega)]
        have hct : (strA L).extract t.length (t.length + 1) = strA [nth L t.length] := by rw [← strA_bys ((strA L).extract t.length (t.length + 1)), hcut]
        have hd := hdg _ (nth_mem ht)
        have hbt := bys_strA htb
        have hb1 : bys (strA [nth L t.length]) = [nth L t.length] := bys_strA fun x hx => by
          obtain rfl := List.mem_singleton.1 hx
          omega
        have ha1 := abin_sadd (strA t) (strA [nth L t.length]) (by rw [hbt, hb1]; simp; omega)
        have ha2 := abin_sadd (strA t) { data := #[63] } (by rw [hbt, bysQ]; simp; omega)
        have hq : ({ data := #[63] } : ByteArray) = strA [63] := bys_inj (by rw [bysQ, bys_strA]; intro x hx; obtain rfl := List.mem_singleton.1 hx; omega)
        have hlt : aslT (.str (strA L)) (some (.int .i64 (t.length : Nat))) (some (.int .i64 ((t.length : Int) + 1))) = some (.str (strA [nth L t.length])) := by
          rw [← hct]
          exact aslT_lh (strA L) .i64 .i64 t.length (t.length + 1) (by omega) (by rw [hbs]; omega)
        have stepA : ∀ c : Int, (c = 63 ∨ c = nth L t.length) → 0 ≤ c ∧ c ≤ 255 → nP out + nR row + nE (t ++ [c]) ≤ 5 → ∃ t', t'.length + (k3 - 1) = L.length ∧ t' = t ++ [c] ∧ EB t' L ∧ byt t' ∧ nP out + nR row + nE t' ≤ 5 := fun c h1 h2 h3 =>
          ⟨_, by simp; omega, rfl, hEB.app ht h1, htb.app fun x hx => by obtain rfl := List.mem_singleton.1 hx; exact h2, h3⟩
        have hix1 : (out.length : Int) ≤ 5 := by omega
        have hix2 : (row.length : Int) ≤ 5 := by omega
        have hix3 : (t.length : Int) ≤ 5 := by omega
        by_cases h5l : nP out + nR row + nE t < 5
        · have h5l' : ((nP out + nR row + nE t : Nat) : Int) < 5 := by omega
          generalize hN : nP out + nR row + nE t = N at *
          simp (disch := omega) [Und, eT, hr, hr', hc', hL, hbs, ht, ht', hlt, h5l, h5l', ha1, ha2, -Bool.exists_bool]
          have e63 : nE (t ++ [63]) = nE t + 1 := by rw [nE_app, if_pos rfl]
          have eno : nE (t ++ [nth L t.length]) = nE t := by rw [nE_app, if_neg (by omega)]; rfl
          refine ⟨fun _ => ⟨k3 - 1, by omega, t ++ [63], by simp; omega, ⟨by rw [e63]; omega, by rw [hq, strA_app], by simp⟩, hEB.app ht (.inl rfl), htb.app fun x hx => ?_, by rw [e63]; omega⟩,
            fun _ => ⟨k3 - 1, by omega, t ++ [nth L t.length], by simp; omega, ⟨by rw [eno]; omega, by rw [strA_app], by simp⟩, hEB.app ht (.inr rfl), htb.app fun x hx => ?_, by rw [eno]; omega⟩⟩
          all_goals
            obtain rfl := List.mem_singleton.1 hx
            omega
        · have h5l' : ¬ ((nP out + nR row + nE t : Nat) : Int) < 5 := by omega
          generalize hN : nP out + nR row + nE t = N at *
          simp (disch := omega) [Und, eT, hr, hr', hc', hL, hbs, ht, ht', hlt, h5l, h5l', ha1, ha2, -Bool.exists_bool]
          have eno : nE (t ++ [nth L t.length]) = nE t := by rw [nE_app, if_neg (by omega)]; rfl
          refine ⟨k3 - 1, by omega, t ++ [nth L t.length], by simp; omega, ⟨by rw [eno]; omega, by rw [strA_app], by simp⟩, hEB.app ht (.inr rfl), htb.app fun x hx => ?_, by rw [eno]; omega⟩
          obtain rfl := List.mem_singleton.1 hx
          omega
      · obtain e : t.length = L.length := by omega
        simp (disch := omega) [Und, eT, hr, hr', hc', hL, hbs, e, -Bool.exists_bool]
        have hrl : row.length < (nth R0 out.length).length := by omega
        refine hB.push encT (by omega) (by omega) t (bytes := 16) (by simp only [topBytes]; omega) rfl fun v3 σ3 q1 q2 => ?_
        have q3 := q2.next
        have q4 := q2.lim
        simp (disch := omega) [Und, -Bool.exists_bool]
        refine ⟨k2 - 1, by omega, row ++ [t], by simp; omega, v3, ⟨by rw [nR_app]; omega, rfl, by simp⟩, ⟨by omega, by omega, fun z hz hs => (q2.get z hz).trans (hτ.get z hz hs)⟩, q1, hRB.app hrl ⟨by rw [hL]; exact e, by rw [hL]; exact hEB⟩, by rw [nR_app]; omega⟩
    · obtain e : row.length = w := by omega
      simp (disch := omega) [Und, hr, hr', e, hwr, -Bool.exists_bool]
      rcases hB with ⟨rfl, e1⟩ | ⟨o, rfl, o1, o2, o3⟩
      · rw [e1] at e; simp at e; omega
      refine ⟨⟨rfl, rfl⟩, ?_⟩
      refine (hR.stay ⟨hτ.lim, hτ.next, fun z hz => hτ.get z hz (by simp)⟩ (Nat.le_refl _)).push (by omega) (by omega) row (by omega) o2 (fun ho => ?_) (n := row.length) rfl (.inl rfl) (bytes := 24) (by simp only [topBytes]; omega) fun v3 σ3 q1 q2 => ?_
      · have := (hR.obj_lt o ho).2; omega
      have q3 := q2.next
      have q4 := q2.lim
      simp (disch := omega) [Und, -Bool.exists_bool]
      refine ⟨k - 1, by omega, out ++ [row], by simp; omega, v3, ⟨by rw [nP_app]; omega, rfl, by simp⟩, by omega, q1, hP.app hr ⟨by omega, hRB⟩, by rw [nP_app]; omega⟩
  · obtain e : out.length = R0.length := by omega
    simp (disch := omega) [Und, e, -Bool.exists_bool]
    refine ⟨out, ?_, hP.wet hf e, by rw [nP_lost]; exact h5⟩
    have hne : out.isEmpty = false := by
      cases out with
      | nil => simp at e; omega
      | cons _ _ => rfl
    have := hR.fz encT flatT 5
    rw [hne] at this
    exact this
theorem rows_dgs {α : Type} (f : α → List (List Int)) (rs : List α) [Inhabited α] {r : Nat} (h : r < rs.length) : (rs.take (r + 1)).map f = (rs.take r).map f ++ [f (nth rs r)] := by rw [take_succ_nth h, List.map_append]; rfl
/-- Numbers are written down. -/
theorem page_ok {w : Nat} {rs : List (List Nat)} (ht : okT w rs) : ans prog O 6 [vR rs] = some (vP (pageB w rs)) := by
  have hr := ht.rows
  have hc := ht.cols
  have hw0 := ht.wide 0 (by omega)
  refine fn_of' pl get6 (oo (by decide)) rfl rfl ?_
  have r0 : (0 : Int) < rs.length := by omega
  simp (disch := omega) [Und, r0, castL_len, hw0, -Bool.exists_bool]
  refine ⟨by omega, ⟨by omega, by simp only [topBytes]; omega, by simp only [topBytes]; omega⟩, ?_⟩
  refine lp_loop pl (fun k fr σ => ∃ (r : Nat) (v : AV), r + k = rs.length ∧ fr = ⟨[(0, vR rs), (3, v), (4, .slice (some (0, 0)) (w + 1) (.ex (w + 1))), (5, .int .i64 r)], []⟩ ∧ σ.lim = 0 ∧ 1 ≤ σ.next ∧ σ.get 0 = some (.cells ((sumsN w rs r).map fun n : Nat => AV.int .i64 n)) ∧ RowsB 1 1 eT σ v ((rs.take r).map fun x => dgs (rowN w x)))
    ⟨rs.length, 0, .vsl true [], by omega, rfl, rfl, Nat.le_refl _, ?_, RowsB.nil⟩ ?_
  · have : zcells [AV.int .i64 0] (w + 1) = (sumsN w rs 0).map fun n : Nat => AV.int .i64 n := by
      rw [zcells_eq]
      have e : sumsN w rs 0 = List.replicate (w + 1) 0 := list_eq (by rw [sumsN_len]; simp) fun k hk => by
        rw [sumsN_len] at hk
        have : nth (List.replicate (w + 1) 0) k = 0 := by simp [nth, List.getD_eq_getElem?_getD, hk]
        rw [this]
        by_cases e2 : k < w
        · rw [sumsN_lo e2]; rfl
        · obtain rfl : k = w := by omega
          rw [sumsN_hi]; rfl
      rw [e, List.map_replicate]
      exact List.flatten_replicate_singleton
    show (AH.push (⟨0, 0, .leaf⟩ : AH) (.cells (zcells [AV.int .i64 0] (w + 1)))).get 0 = _
    rw [this]
    exact AH.get_push_new _ _
  rintro k _ σ ⟨r, v, hk, rfl, σl, σn, g0, hR⟩
  by_cases hr1 : r < rs.length
  · have hr1' : (r : Int) < rs.length := by omega
    have hwr := ht.wide r hr1
    simp (disch := omega) [Und, hr1, hr1', -Bool.exists_bool]
    refine lp_loop pl (fun k fr τ => ∃ (c : Nat) (v6 : AV), c + k = w ∧ fr = ⟨[(0, vR rs), (3, v), (4, .slice (some (0, 0)) (w + 1) (.ex (w + 1))), (5, .int .i64 r), (6, v6), (7, .int .i64 ((nsum (nth (nth rs r)) c : Nat) : Int)), (8, .int .i64 c)], []⟩ ∧ τ.lim = 0 ∧ σ.next ≤ τ.next ∧ τ.get 0 = some (.cells ((midS w rs r c).map fun n : Nat => AV.int .i64 n)) ∧ (∀ z, z ≠ 0 → z < σ.next → τ.get z = σ.get z) ∧ Buf σ.next 1 eT τ v6 (dgs ((nth rs r).take c)))
      ⟨w, 0, .vsl true [], by omega, rfl, σl, Nat.le_refl _, by rw [midS_zero]; exact g0, fun _ _ _ => rfl, Buf.nil⟩ ?_
    rintro k2 _ τ ⟨c, v6, hk2, rfl, τl, τn, t0, tO, hB⟩
    have hml := midS_len w rs r c
    have hms := rowS_le ht hr1 (n := c) (by omega)
    by_cases hc1 : c < w
    · have hc1' : (c : Int) < w := by omega
      have hx := ht.top r c hr1 hc1
      have htx := Text_ok (nth (nth rs r) c) (by omega)
      have hcs := colS_le ht hc1 (n := r) (by omega)
      have hmc : nth (midS w rs r c) c = colS rs c r := by rw [midS_lo hc1, if_neg (by omega)]
      have hcell : ((midS w rs r c).map fun n : Nat => AV.int .i64 n)[c]? = some (.int .i64 (colS rs c r : Nat)) := by
        rw [List.getElem?_map, List.getElem?_eq_getElem (by omega), ← nthE (by omega), hmc]; rfl
      simp (disch := omega) [Und, hr1, hr1', hc1, hc1', castL_len, hwr, nth_cast, htx, -Bool.exists_bool]
      refine hB.push encT (by omega) (by omega) (dg (nth (nth rs r) c)) (bytes := 16) (by rw [dgs_len, List.length_take]; simp only [topBytes]; omega) rfl fun v7 υ q1 q2 => ?_
      have q3 := q2.next
      have q4 := q2.lim
      have u0 := (q2.get 0 (by omega)).trans t0
      have u0l := AH.get_lt u0
      simp (disch := omega) [Und, hr1, hr1', hc1, hc1', castL_len, hwr, nth_cast, u0, u0l, hml, hcell, q4, τl, -Bool.exists_bool]
      refine ⟨by omega, by omega, by omega, by omega, k2 - 1, by omega, c + 1, by omega, v7, ⟨rfl, by rw [nsum]; omega, by omega⟩, by omega, ?_, fun z h1 h2 => ?_, ?_⟩
      · rw [← midS_step hc1, List.map_set]; rfl
      · rw [if_neg h1, q2.get z h2, tO z h1 h2]
      · rw [take_succ_nth (by omega), show dgs ((nth rs r).take c ++ [nth (nth rs r) c]) = dgs ((nth rs r).take c) ++ [dg (nth (nth rs r) c)] by unfold dgs; rw [List.map_append]; rfl]
        exact q1.keep fun z z1 z2 => AH.get_set_other _ _ _ _ (by omega)
    · obtain e : c = w := by omega
      have hcell : ((midS w rs r w).map fun n : Nat => AV.int .i64 n)[w]? = some (.int .i64 (allS rs w r : Nat)) := by
        rw [List.getElem?_map, List.getElem?_eq_getElem (by rw [midS_len]; omega), ← nthE (by rw [midS_len]; omega), midS_hi]; rfl
      have hal := allS_le ht (n := r) (by omega)
      subst e
      have t0l := AH.get_lt t0
      have htx := Text_ok (nsum (nth (nth rs r)) c) (by omega)
      simp (disch := omega) [Und, hr1, hr1', castL_len, hwr, t0, t0l, τl, hml, hcell, htx, -Bool.exists_bool]
      refine ⟨by omega, ?_⟩
      generalize hβ : AH.set τ 0 _ = β
      have β0 : β.get 0 = some (.cells ((sumsN c rs (r + 1)).map fun n : Nat => AV.int .i64 n)) := by
        rw [← hβ, AH.get_set_same _ _ _ t0l, ← midS_end, List.map_set]; rfl
      have βl : β.lim = 0 := by rw [← hβ]; exact τl
      have βn : β.next = τ.next := by rw [← hβ]; rfl
      have βO : ∀ z, z ≠ 0 → z < σ.next → β.get z = σ.get z := fun z h1 h2 => by rw [← hβ, AH.get_set_other _ _ _ _ h1, tO z h1 h2]
      have hBβ : Buf σ.next 1 eT β v6 (dgs (nth rs r)) := by
        have : (nth rs r).take c = nth rs r := List.take_of_length_le (by omega)
        rw [this] at hB
        exact hB.keep fun z z1 z2 => by rw [← hβ]; exact AH.get_set_other _ _ _ _ (by omega)
      clear hβ
      rw [← βn]
      refine hBβ.push encT (by omega) (by omega) (dg (nsum (nth (nth rs r)) c)) (bytes := 16) (by rw [dgs_len]; simp only [topBytes]; omega) rfl fun v7 υ q1 q2 => ?_
      have q3 := q2.next
      have q4 := q2.lim
      rcases q1 with ⟨_, e1⟩ | ⟨o, rfl, o1, o2, o3⟩
      · simp at e1
      simp (disch := omega) [Und, -Bool.exists_bool]
      have hRυ : RowsB 1 1 eT υ v ((rs.take r).map fun x => dgs (rowN c x)) := RowsB.keepL hR fun z z1 z2 => by rw [q2.get z z2, βO z (by omega) z2]
      have hrow : dgs (rowN c (nth rs r)) = dgs (nth rs r) ++ [dg (nsum (nth (nth rs r)) c)] := by unfold dgs rowN; rw [List.map_append]; rfl
      have hol := AH.get_lt o2
      refine hRυ.push (by omega) (by omega) (dgs (rowN c (nth rs r))) (by omega) (by rw [hrow]; exact o2) (fun ho => ?_) (n := (dgs (nth rs r)).length + 1) (by rw [hrow]; simp) (.inl rfl) (bytes := 24) (by rw [List.length_map, List.length_take]; simp only [topBytes]; omega) fun v8 υ2 p1 p2 => ?_
      · have := (hR.obj_lt o ho).2
        have := o1
        omega
      have p3 := p2.next
      have p4 := p2.lim
      simp (disch := omega) [Und, -Bool.exists_bool]
      refine ⟨k - 1, by omega, r + 1, by omega, v8, ⟨rfl, by omega⟩, by omega, by omega, ?_, ?_⟩
      · rw [p2.get 0 (by omega), q2.get 0 (by omega), β0]
      · rw [← List.map_take, rows_dgs _ rs hr1]
        exact p1
  · obtain e : r = rs.length := by omega
    subst e
    simp (disch := omega) [Und, -Bool.exists_bool]
    have hsl := sumsN_len w rs rs.length
    refine lp_loop pl (fun k fr τ => ∃ (c : Nat) (v9 : AV), c + k = w + 1 ∧ fr = ⟨[(3, v), (4, .slice (some (0, 0)) (w + 1) (.ex (w + 1))), (9, v9), (10, .int .i64 c)], []⟩ ∧ Only [] σ τ ∧ Buf σ.next 1 eT τ v9 (dgs ((sumsN w rs rs.length).take c)))
      ⟨w + 1, 0, .vsl true [], by omega, rfl, Only.refl _ _, Buf.nil⟩ ?_
    rintro k2 _ τ ⟨c, v9, hk2, rfl, hτ, hB⟩
    have τl := hτ.lim
    have τn := hτ.next
    have t0 := (hτ.get 0 (by omega) (by simp)).trans g0
    have t0l := AH.get_lt t0
    by_cases hc1 : c < w + 1
    · have hc1' : (c : Int) < (w : Int) + 1 := by omega
      have hbd : nth (sumsN w rs rs.length) c ≤ 100000 := by
        by_cases e2 : c < w
        · rw [sumsN_lo e2]; have := colS_le ht e2 (Nat.le_refl _); omega
        · obtain rfl : c = w := by omega
          rw [sumsN_hi]; have := allS_le ht (Nat.le_refl _); omega
      have htx := Text_ok (nth (sumsN w rs rs.length) c) (by omega)
      have hcell : ((sumsN w rs rs.length).map fun n : Nat => AV.int .i64 n)[c]? = some (.int .i64 (nth (sumsN w rs rs.length) c : Nat)) := by
        rw [List.getElem?_map, List.getElem?_eq_getElem (by omega), ← nthE (by omega)]; rfl
      simp (disch := omega) [Und, hc1, hc1', t0, t0l, hsl, hcell, htx, -Bool.exists_bool]
      refine ⟨by omega, ?_⟩
      refine hB.push encT (by omega) (by omega) (dg (nth (sumsN w rs rs.length) c)) (bytes := 16) (by rw [dgs_len, List.length_take]; simp only [topBytes]; omega) rfl fun v7 υ q1 q2 => ?_
      have q3 := q2.next
      have q4 := q2.lim
      simp (disch := omega) [Und, -Bool.exists_bool]
      refine ⟨k2 - 1, by omega, c + 1, by omega, v7, ⟨rfl, by omega⟩, ⟨by omega, by omega, fun z z1 z2 => (q2.get z z1).trans (hτ.get z z1 z2)⟩, ?_⟩
      rw [take_succ_nth (by omega), show dgs ((sumsN w rs rs.length).take c ++ [nth (sumsN w rs rs.length) c]) = dgs ((sumsN w rs rs.length).take c) ++ [dg (nth (sumsN w rs rs.length) c)] by unfold dgs; rw [List.map_append]; rfl]
      exact q1
    · obtain e : c = w + 1 := by omega
      have e2 : (sumsN w rs rs.length).take c = sumsN w rs rs.length := List.take_of_length_le (by omega)
      rw [e2] at hB
      rcases hB with ⟨_, e1⟩ | ⟨o, rfl, o1, o2, o3⟩
      · have := congrArg List.length e1
        rw [dgs_len, hsl] at this
        simp at this
      simp (disch := omega) [Und, e, -Bool.exists_bool]
      have hRτ : RowsB 1 1 eT τ v ((rs.take rs.length).map fun x => dgs (rowN w x)) := RowsB.keepL hR fun z z1 z2 => hτ.get z z2 (by simp)
      rw [List.take_length] at hRτ
      have hol := AH.get_lt o2
      refine hRτ.push (by omega) (by omega) (dgs (sumsN w rs rs.length)) (by omega) o2 (fun ho => ?_) (n := (dgs (sumsN w rs rs.length)).length) rfl (.inl rfl) (bytes := 24) (by rw [List.length_map]; simp only [topBytes]; omega) fun v8 υ2 p1 p2 => ?_
      · have := (RowsB.obj_lt hR o ho).2
        omega
      simp (disch := omega) [Und, -Bool.exists_bool]
      have hpb : (rs.map fun x => dgs (rowN w x)) ++ [dgs (sumsN w rs rs.length)] = pageB w rs := by unfold pageB pageN; rw [List.map_append, List.map_map]; rfl
      rw [hpb] at p1
      have hne : (pageB w rs).isEmpty = false := by
        cases e : pageB w rs with
        | nil => have := pageB_len w rs; rw [e] at this; simp at this
        | cons _ _ => rfl
      have := p1.fz encT flatT 5
      rw [hne] at this
      exact this
/-- A page is read again. -/
theorem read_ok {w : Nat} {rs : List (List Nat)} (ht : okT w rs) : ans prog O 12 [vP (pageB w rs), vP (pageB w rs)] = some (.tuple [vR rs, .bool true]) := by
  have hr := ht.rows
  have hc := ht.cols
  refine fn_of' pl get12 (oo (by decide)) rfl rfl ?_
  have hpl := pageB_len w rs
  have hsz : (pageB w rs).length < 2 ^ 62 := by rw [hpl]; omega
  simp (disch := omega) [Und, hpl, -Bool.exists_bool]
  refine lp_loop pl (fun k fr σ => ∃ (r : Nat) (v : AV), r + k = rs.length + 1 ∧ fr = ⟨[(0, vP (pageB w rs)), (1, vP (pageB w rs)), (6, v), (7, .int .i64 r)], []⟩ ∧ σ.lim = 0 ∧ RowsB 0 1 (AV.int .i64) σ v ((rs.take r).map castL))
    ⟨rs.length + 1, 0, .vsl true [], by omega, rfl, rfl, RowsB.nil⟩ ?_
  rintro k _ σ ⟨r, v, hk, rfl, σl, hR⟩
  by_cases hr1 : r < rs.length + 1
  · have hr1' : (r : Int) < (rs.length : Int) + 1 := by omega
    have hpw := pageN_wide ht hr1
    have hnr := pageB_nth (w := w) hr1
    have hrl : (nth (pageB w rs) r).length = w + 1 := by rw [hnr, dgs_len, hpw]
    have hst := SameTexts_ok false false (nth (pageB w rs) r) (by omega)
    simp (disch := omega) [Und, hpl, hr1, hr1', hst, -Bool.exists_bool]
    refine lp_loop pl (fun k fr τ => ∃ (c : Nat) (v8 : AV), c + k = w ∧ fr = ⟨[(0, vP (pageB w rs)), (1, vP (pageB w rs)), (6, v), (7, .int .i64 r), (8, v8), (9, .int .i64 c)], []⟩ ∧ Only [] σ τ ∧ Buf σ.next 1 (AV.int .i64) τ v8 (castL ((nth (pageN w rs) r).take c)))
      ⟨w, 0, .vsl true [], by omega, rfl, Only.refl _ _, Buf.nil⟩ ?_
    rintro k2 _ τ ⟨c, v8, hk2, rfl, hτ, hB⟩
    have τl := hτ.lim
    have τn := hτ.next
    by_cases hc1 : c < w
    · have hc1' : (c : Int) < w := by omega
      obtain ⟨n, hn, hen⟩ := (pageB_full ht).ent r c (by omega) (by omega)
      have hval : nth (nth (pageN w rs) r) c = n := by
        rw [hnr, dgs_nth (by omega)] at hen
        have := congrArg val hen
        rw [val_dg, val_dg] at this
        omega
      have hrd := Read_ok n hn
      simp (disch := omega) [Und, hpl, hr1, hr1', hc1, hc1', hrl, hen, hrd, -Bool.exists_bool]
      refine ⟨by omega, ?_⟩
      refine hB.push encI (by omega) (by omega) (n : Int) (bytes := 8) (by rw [castL_len, List.length_take]; simp only [topBytes]; omega) rfl fun v9 υ q1 q2 => ?_
      have q3 := q2.next
      have q4 := q2.lim
      simp (disch := omega) [Und, -Bool.exists_bool]
      refine ⟨k2 - 1, by omega, c + 1, by omega, v9, ⟨rfl, by omega⟩, ⟨by omega, by omega, fun z z1 z2 => (q2.get z z1).trans (hτ.get z z1 z2)⟩, ?_⟩
      rw [take_succ_nth (by omega), show castL ((nth (pageN w rs) r).take c ++ [nth (nth (pageN w rs) r) c]) = castL ((nth (pageN w rs) r).take c) ++ [((nth (nth (pageN w rs) r) c : Nat) : Int)] by unfold castL; rw [List.map_append]; rfl, hval]
      exact q1
    · obtain e : c = w := by omega
      have hRτ : RowsB 0 1 (AV.int .i64) τ v ((rs.take r).map castL) := RowsB.keepL hR fun z z1 z2 => hτ.get z z2 (by simp)
      by_cases hr2 : r < rs.length
      · have hr2' : (r : Int) < rs.length := by omega
        have hwr := ht.wide r hr2
        have e3 : (nth (pageN w rs) r).take c = nth rs r := by
          rw [pageN_lo hr2, e]
          unfold rowN
          rw [List.take_left' hwr]
        rw [e3] at hB
        rcases hB with ⟨_, e1⟩ | ⟨o, rfl, o1, o2, o3⟩
        · have := congrArg List.length e1
          rw [castL_len, hwr] at this
          simp at this; omega
        simp (disch := omega) [Und, hpl, hr1, hr1', e, hrl, hr2, hr2', -Bool.exists_bool]
        refine RowsB.push hRτ (by omega) (by omega) (castL (nth rs r)) (by omega) o2 (fun ho => ?_) (n := (castL (nth rs r)).length) rfl (.inl rfl) (bytes := 24) (by rw [List.length_map, List.length_take]; simp only [topBytes]; omega) fun v8 υ2 p1 p2 => ?_
        · have := (RowsB.obj_lt hR o ho).2
          omega
        have p4 := p2.lim
        simp (disch := omega) [Und, -Bool.exists_bool]
        refine ⟨k - 1, by omega, r + 1, by omega, v8, ⟨rfl, by omega⟩, by omega, ?_⟩
        rw [← List.map_take, take_succ_nth hr2, List.map_append]
        exact p1
      · have hr2' : ¬ (r : Int) < rs.length := by omega
        simp (disch := omega) [Und, hpl, hr1, hr1', e, hrl, hr2, hr2', -Bool.exists_bool]
        refine ⟨k - 1, by omega, r + 1, by omega, v, ⟨rfl, by omega⟩, by omega, ?_⟩
        rw [← List.map_take, List.take_of_length_le (by omega)]
        rw [List.take_of_length_le (by omega)] at hRτ
        exact hRτ
  · obtain e : r = rs.length + 1 := by omega
    rw [List.take_of_length_le (by omega)] at hR
    simp (disch := omega) [Und, hpl, e, -Bool.exists_bool]
    have hne : (rs.map castL).isEmpty = false := by
      cases rs with
      | nil => simp at hr
      | cons _ _ => rfl
    have := RowsB.fz hR encI flatI 4
    rw [hne] at this
    rw [this]
    unfold vR
    rw [List.map_map]
    rfl
end Go.Oct.Log
