/- The stock book: its page, wet. -/
import Derived.Test.YtddkghgfbhhcdaaGreatDoorOStkPagW
import Derived.Test.YtddkghgfbhhcdaaGreatDoorOStkStkP
set_option maxRecDepth 100000
set_option maxHeartbeats 8000000
set_option linter.unusedVariables false
set_option linter.unusedSimpArgs false
namespace Go.Oct.Stk
open Go.Oct
/-- A table is written down, and some bytes get lost. -/
theorem wet_ok {w : Nat} {tb : List (List Nat)} {R0 : Page} (hR0 : R0 = tb.map dgs) (hf : Full w R0) (nb : Bool) (bits : List Int) (hb : bits.length < 2 ^ 62) : ∃ v, (∃ R, v = vP R ∧ Wet w R R0 ∧ (lost R).length ≤ 5) ∧ ans prog O 19 [vR tb, vs nb bits] = some v := by
  have htl : tb.length = R0.length := by rw [hR0]; simp
  have htn : ∀ i, i < R0.length → nth R0 i = dgs (nth tb i) := fun i hi => by rw [hR0]; exact nth_map _ (by omega)
  have hrr := hf.rows
  have hww := hf.cols
  refine fn_ex pl _ get19 (oo (by decide)) rfl rfl ?_
  simp (disch := omega) [Und, -Bool.exists_bool]
  refine lp_loop pl (fun k fr σ => ∃ (out : Page) (v : AV), out.length + k = R0.length ∧ fr = ⟨[(0, vR tb), (1, vs nb bits), (5, .int .i64 (nP out : Nat)), (6, v), (7, .int .i64 out.length)], []⟩ ∧ σ.lim = 0 ∧ RowsB 0 1 eT σ v out ∧ PB out R0 ∧ nP out ≤ 5)
    ⟨R0.length, [], .vsl true [], by simp, rfl, rfl, RowsB.nil, PB.nil _, by simp⟩ ?_
  rintro k _ σ ⟨out, v, hk, rfl, σl, hR, hP, h5⟩
  by_cases hr : out.length < R0.length
  · have hr' : (out.length : Int) < R0.length := by omega
    have hwr := hf.wide _ hr
    have hr2 : out.length < tb.length := by omega
    have hr2' : (out.length : Int) < tb.length := by omega
    have htr : (nth tb out.length).length = w := by rw [htn _ hr, dgs_len] at hwr; exact hwr
    simp (disch := omega) [Und, hr2, hr2', -Bool.exists_bool]
    refine lp_loop pl (fun k fr τ => ∃ (row : List (List Int)) (v2 : AV), row.length + k = w ∧ fr = ⟨[(0, vR tb), (1, vs nb bits), (5, .int .i64 ((nP out + nR row : Nat) : Int)), (6, v), (7, .int .i64 out.length), (8, v2), (9, .int .i64 row.length)], []⟩ ∧ Only [] σ τ ∧ Buf σ.next 1 eT τ v2 row ∧ RB row (nth R0 out.length) ∧ nP out + nR row ≤ 5)
      ⟨w, [], .vsl true [], by simp, by simp, Only.refl _ _, Buf.nil, RB.nil _, by simpa using h5⟩ ?_
    rintro k2 _ τ ⟨row, v2, hk2, rfl, hτ, hB, hRB, h52⟩
    have τl := hτ.lim
    have τn := hτ.next
    by_cases hc : row.length < w
    · have hc' : (row.length : Int) < w := by omega
      obtain ⟨n, hn, he⟩ := hf.ent _ _ hr hc
      have hval : nth (nth tb out.length) row.length = n := by
        have he2 := he
        rw [htn _ hr, dgs_nth (by omega)] at he2
        have := congrArg val he2
        rw [val_dg, val_dg] at this
        omega
      have htx := Text_ok n (by omega)
      rw [← he] at htx
      have hbs := bys_strA (dg_digs n).byt
      have hdg := dg_digs n
      have hl5 := dg_len 4 n hn
      generalize hL : nth (nth R0 out.length) row.length = L at *
      rw [← he] at hbs hdg hl5
      simp (disch := omega) [Und, hr2, hr2', hc, hc', castL_len, nth_cast, htr, hval, htx, -Bool.exists_bool]
      refine lp_loop pl (fun k fr υ => ∃ (t : List Int), t.length + k = L.length ∧ fr = ⟨[(0, vR tb), (1, vs nb bits), (5, .int .i64 ((nP out + nR row + nE t : Nat) : Int)), (6, v), (7, .int .i64 out.length), (8, v2), (9, .int .i64 row.length), (10, .str (strA L)), (11, .str (strA t)), (12, .int .i64 t.length)], []⟩ ∧ υ = τ ∧ EB t L ∧ byt t ∧ nP out + nR row + nE t ≤ 5)
        ⟨L.length, [], by simp, by simp; rfl, rfl, EB.nil _, (fun x hx => by cases hx), by simpa using h52⟩ ?_
      rintro k3 _ υ ⟨t, hk3, rfl, rfl, hEB, htb, h53⟩
      by_cases ht : t.length < L.length
      · have ht' : (t.length : Int) < L.length := by omega
        have hcut : bys ((strA L).extract t.length (t.length + 1)) = [nth L t.length] := by
          rw [bys_cut, hbs, take_succ_nth ht, List.drop_left' (by simp; omega)]
        have hct : (strA L).extract t.length (t.length + 1) = strA [nth L t.length] := by rw [← strA_bys ((strA L).extract t.length (t.length + 1)), hcut]
        have hd := hdg _ (nth_mem ht)
        have hbt := bys_strA htb
        have hb1 : bys (strA [nth L t.length]) = [nth L t.length] := bys_strA fun x hx => by
          obtain rfl := List.mem_singleton.1 hx
          omega
        have ha1 := abin_sadd (strA t) (strA [nth L t.length]) (by rw [hbt, hb1]; simp; omega)
        have ha2 := abin_sadd (strA t) { data := #[63] } (by rw [hbt, bysQ]; simp; omega)
        have hq : ({ data := #[63] } : ByteArray) = strA [63] := bys_inj (by rw [bysQ, bys_strA]; intro x hx; obtain rfl := List.mem_singleton.1 hx; omega)
        have hlt : aslT (.str (strA L)) (some (.int .i64 (t.length : Nat))) (some (.int .i64 ((t.length : Int) + 1))) = some (.str (strA [nth L t.length])) := by
          rw [← hct]
          exact aslT_lh (strA L) .i64 .i64 t.length (t.length + 1) (by omega) (by rw [hbs]; omega)
        have stepA : ∀ c : Int, (c = 63 ∨ c = nth L t.length) → 0 ≤ c ∧ c ≤ 255 → nP out + nR row + nE (t ++ [c]) ≤ 5 → ∃ t', t'.length + (k3 - 1) = L.length ∧ t' = t ++ [c] ∧ EB t' L ∧ byt t' ∧ nP out + nR row + nE t' ≤ 5 := fun c h1 h2 h3 =>
          ⟨_, by simp; omega, rfl, hEB.app ht h1, htb.app fun x hx => by obtain rfl := List.mem_singleton.1 hx; exact h2, h3⟩
        have hix1 : (out.length : Int) ≤ 5 := by omega
        have hix2 : (row.length : Int) ≤ 5 := by omega
        have hix3 : (t.length : Int) ≤ 5 := by omega
        by_cases h5l : nP out + nR row + nE t < 5
        · have h5l' : ((nP out + nR row + nE t : Nat) : Int) < 5 := by omega
          generalize hN : nP out + nR row + nE t = N at *
          simp (disch := omega) [Und, eT, hr2, hr2', hbs, ht, ht', hlt, h5l, h5l', ha1, ha2, -Bool.exists_bool]
          have e63 : nE (t ++ [63]) = nE t + 1 := by rw [nE_app, if_pos rfl]
          have eno : nE (t ++ [nth L t.length]) = nE t := by rw [nE_app, if_neg (by omega)]; rfl
          refine ⟨fun _ => ⟨k3 - 1, by omega, t ++ [63], by simp; omega, ⟨by rw [e63]; omega, by rw [hq, strA_app], by simp⟩, hEB.app ht (.inl rfl), htb.app fun x hx => ?_, by rw [e63]; omega⟩,
            fun _ => ⟨k3 - 1, by omega, t ++ [nth L t.length], by simp; omega, ⟨by rw [eno]; omega, by rw [strA_app], by simp⟩, hEB.app ht (.inr rfl), htb.app fun x hx => ?_, by rw [eno]; omega⟩⟩
          all_goals
            obtain rfl := List.mem_singleton.1 hx
            omega
        · have h5l' : ¬ ((nP out + nR row + nE t : Nat) : Int) < 5 := by omega
          generalize hN : nP out + nR row + nE t = N at *
          simp (disch := omega) [Und, eT, hr2, hr2', hbs, ht, ht', hlt, h5l, h5l', ha1, ha2, -Bool.exists_bool]
          have eno : nE (t ++ [nth L t.length]) = nE t := by rw [nE_app, if_neg (by omega)]; rfl
          refine ⟨k3 - 1, by omega, t ++ [nth L t.length], by simp; omega, ⟨by rw [eno]; omega, by rw [strA_app], by simp⟩, hEB.app ht (.inr rfl), htb.app fun x hx => ?_, by rw [eno]; omega⟩
          obtain rfl := List.mem_singleton.1 hx
          omega
      · obtain e : t.length = L.length := by omega
        simp (disch := omega) [Und, eT, hr2, hr2', hbs, e, -Bool.exists_bool]
        have hrl : row.length < (nth R0 out.length).length := by omega
        refine hB.push encT (by omega) (by omega) t (bytes := 16) (by simp only [topBytes]; omega) rfl fun v3 σ3 q1 q2 => ?_
        have q3 := q2.next
        have q4 := q2.lim
        simp (disch := omega) [Und, -Bool.exists_bool]
        refine ⟨k2 - 1, by omega, row ++ [t], by simp; omega, v3, ⟨by rw [nR_app]; omega, rfl, by simp⟩, ⟨by omega, by omega, fun z hz hs => (q2.get z hz).trans (hτ.get z hz hs)⟩, q1, hRB.app hrl ⟨by rw [hL]; exact e, by rw [hL]; exact hEB⟩, by rw [nR_app]; omega⟩
    · obtain e : row.length = w := by omega
      simp (disch := omega) [Und, hr2, hr2', castL_len, htr, e, -Bool.exists_bool]
      rcases hB with ⟨rfl, e1⟩ | ⟨o, rfl, o1, o2, o3⟩
      · rw [e1] at e; simp at e; omega
      refine ⟨⟨rfl, rfl⟩, ?_⟩
      refine (hR.stay ⟨hτ.lim, hτ.next, fun z hz => hτ.get z hz (by simp)⟩ (Nat.le_refl _)).push (by omega) (by omega) row (by omega) o2 (fun ho => ?_) (n := row.length) rfl (.inl rfl) (bytes := 24) (by simp only [topBytes]; omega) fun v3 σ3 q1 q2 => ?_
      · have := (hR.obj_lt o ho).2; omega
      have q3 := q2.next
      have q4 := q2.lim
      simp (disch := omega) [Und, -Bool.exists_bool]
      refine ⟨k - 1, by omega, out ++ [row], by simp; omega, v3, ⟨by rw [nP_app]; omega, rfl, by simp⟩, by omega, q1, hP.app hr ⟨by omega, hRB⟩, by rw [nP_app]; omega⟩
  · obtain e : out.length = R0.length := by omega
    simp (disch := omega) [Und, e, htl, -Bool.exists_bool]
    refine ⟨out, ?_, hP.wet hf e, by rw [nP_lost]; exact h5⟩
    have hne : out.isEmpty = false := by
      cases out with
      | nil => simp at e; omega
      | cons _ _ => rfl
    have := hR.fz encT flatT 5
    rw [hne] at this
    exact this
/-- The page of four numbers. -/
def tabS (b : Nat → Nat) : List (List Nat) := [[b 0, b 1, b 0 + b 1], [b 2, b 3, b 2 + b 3], [b 0 + b 2, b 1 + b 3, b 0 + b 1 + b 2 + b 3]]
def pgS (b : Nat → Nat) : Page := (tabS b).map dgs
theorem i3 {i : Nat} (h : i < 3) : i = 0 ∨ i = 1 ∨ i = 2 := by omega
theorem pgS_full {b : Nat → Nat} (h : ∀ i, b i ≤ 10000) : Full 3 (pgS b) := by
  have h0 := h 0
  have h1 := h 1
  have h2 := h 2
  have h3 := h 3
  refine Full.of (by show 2 ≤ 3 ∧ 3 ≤ 5; omega) (by omega) (fun i hi => ?_) (fun i k => nth (nth (tabS b) i) k) (fun i k hi hk => ?_) (fun i hi => ?_) fun k hk => ?_
  · rcases i3 hi with rfl | rfl | rfl <;> rfl
  · rcases i3 hi with rfl | rfl | rfl <;> rcases i3 hk with rfl | rfl | rfl <;> exact ⟨by simp [tabS, nth] <;> omega, rfl⟩
  · rcases i3 hi with rfl | rfl | rfl <;> (simp [nsum, tabS, nth] <;> omega)
  · rcases i3 hk with rfl | rfl | rfl <;> (show nsum (fun i => nth (nth (tabS b) i) _) 2 = nth (nth (tabS b) 2) _; simp [nsum, tabS, nth] <;> omega)
theorem stockbook_ok {b : Nat → Nat} (h : ∀ i, b i ≤ 10000) : ans prog O 18 [vl Sh.ePc false (pcs b)] = some (vR (tabS b)) := by
  have h0 := h 0
  have h1 := h 1
  have h2 := h 2
  have h3 := h 3
  refine fn_of' pl get18 (oo (by decide)) rfl rfl ?_
  have hl : (pcs b).length = 4 := rfl
  have n0 := pcs_nth (b := b) (i := 0) (by omega)
  have n1 := pcs_nth (b := b) (i := 1) (by omega)
  have n2 := pcs_nth (b := b) (i := 2) (by omega)
  have n3 := pcs_nth (b := b) (i := 3) (by omega)
  simp (disch := omega) [Und, hl, n0, n1, n2, n3, -Bool.exists_bool]
  simp [fzV, ACap.cellsOf, chunks, vR, castL, tabS, vl, eRv, AV.na, AV.elem]
end Go.Oct.Stk
