/- All readings that agree: the closure that fills digits in. -/
import Derived.Test.YtddkghgfbhhcdaaGreatDoorOLogAgr
set_option maxRecDepth 100000
set_option maxHeartbeats 8000000
set_option linter.unusedVariables false
set_option linter.unusedSimpArgs false
namespace Go.Oct.Log
open Go.Oct
theorem eqf1 {a b : Nat} (h : a < b) : (a = b) = False := by simp; omega
theorem eqf2 {a b : Nat} (h : b < a) : (a = b) = False := by simp; omega
/-- Nothing changes but some objects, and such as hold cells of a kind. -/
structure OnlyC (C : List AV → Prop) (S : List Nat) (σ σ' : AH) : Prop where
  lim : σ'.lim = σ.lim
  next : σ.next ≤ σ'.next
  get : ∀ z, z < σ.next → z ∉ S → (∀ cs, σ.get z = some (.cells cs) → ¬ C cs) → σ'.get z = σ.get z
theorem OnlyC.of {C : List AV → Prop} {S : List Nat} {σ σ' : AH} (h : Only S σ σ') : OnlyC C S σ σ' := ⟨h.lim, h.next, fun z h1 h2 _ => h.get z h1 h2⟩
theorem OnlyC.trans {C : List AV → Prop} {S : List Nat} {a b c : AH} (h : OnlyC C S a b) (k : OnlyC C S b c) : OnlyC C S a c :=
  ⟨k.lim.trans h.lim, Nat.le_trans h.next k.next, fun z h1 h2 h3 => by
    have e := h.get z h1 h2 h3
    exact (k.get z (Nat.lt_of_lt_of_le h1 h.next) h2 fun cs hc => h3 cs (e ▸ hc)).trans e⟩
theorem OnlyC.mono {C : List AV → Prop} {S T : List Nat} {σ σ' : AH} (h : OnlyC C S σ σ') (hs : ∀ i ∈ S, i ∈ T) : OnlyC C T σ σ' := ⟨h.lim, h.next, fun z h1 h2 h3 => h.get z h1 (fun hh => h2 (hs z hh)) h3⟩
/-- An object with a few cells stays. -/
theorem OnlyC.few {C : List AV → Prop} (hC : ∀ cs, C cs → cs.length = 10) {S : List Nat} {σ σ' : AH} (h : OnlyC C S σ σ') {z : Nat} {cs : List AV} (hg : σ.get z = some (.cells cs)) (hl : cs.length ≠ 10) (hz : z ∉ S) : σ'.get z = some (.cells cs) :=
  (h.get z (AH.get_lt hg) hz fun cs' e hc => by
    rw [hg] at e
    cases e
    exact hl (hC _ hc)).trans hg
theorem MapD.sameC {C : List AV → Prop} {S : List Nat} {σ σ' : AH} {m : Nat} {D : Pl → Int} (h : MapD σ m D) (hO : OnlyC C S σ σ') (hm : m ∉ S) : MapD σ' m D := by
  obtain ⟨es, c, h1, h2⟩ := h
  exact ⟨es, c, (hO.get m (AH.get_lt h1) hm fun cs e => by rw [h1] at e; cases e).trans h1, h2⟩
/-- Lost places of a page. -/
structure okL (w : Nat) (R : Page) (L : List Pl) : Prop where
  len : L.length ≤ 5
  pos : ∀ j, j < L.length → ∃ i k a : Nat, nth L j = ⟨i, k, a⟩ ∧ i < R.length ∧ k < w ∧ a < (nth (nth R i) k).length
  once : ∀ j j', j < L.length → j' < L.length → nth L j = nth L j' → j = j'
/-- Digits with which all agrees. -/
structure Truth (w : Nat) (R : Page) (L : List Pl) (T : List Int) : Prop where
  len : T.length = L.length
  dig : ∀ j, j < L.length → 0 ≤ nth T j ∧ nth T j ≤ 9
  row : ∀ (D : Pl → Int) (i : Nat), i < R.length → (∀ j, j < L.length → (nth L j).row = i → D (nth L j) = nth T j) → rowAg D R w i
  col : ∀ (D : Pl → Int), (∀ j, j < L.length → D (nth L j) = nth T j) → ∀ k, k < w → colAg D R k
  lead : ∀ j, j < L.length → ∀ i k : Nat, (nth L j) = ⟨i, k, 0⟩ → 1 < (nth (nth R i) k).length → nth T j ≠ 0
/-- A reading. -/
def okY (N : Nat) (y : List Int) : Prop := y.length = N ∧ ∀ j, j < N → 0 ≤ nth y j ∧ nth y j ≤ 9
/-- A reading that is handed on. -/
def YV (lo : Nat) (σ : AH) (v : AV) (y : List Int) : Prop := (v = .vsl true [] ∧ y = []) ∨ ∃ o, v = .slice (some (o, 0)) y.length (.ex y.length) ∧ lo ≤ o ∧ σ.get o = some (.cells (rowOf (AV.int .i64) y)) ∧ y ≠ []
/-- The state of the closure. -/
structure FS (R : Page) (L : List Pl) (pb yb fc m ln : Nat) (lv : AV) (σ : AH) : Prop where
  gp : σ.get pb = some (.cells [vP R, lv, .map (some m)])
  gy : σ.get yb = some (.cells [.func (.yield ln) [] []])
  gf : σ.get fc = some (.cells [.func (.func 53) [] [.ptr (some (pb, 0)), .ptr (some (yb, 0)), .ptr (some (fc, 0))]])
  lost : LV σ lv L
structure Apart (S : List Nat) (pb yb fc m : Nat) (lv : AV) : Prop where
  p : pb ∉ m :: S
  y : yb ∉ m :: S
  f : fc ∉ m :: S
  l : ∀ o ∈ obj lv, o ∉ m :: S
  m : m ∉ S
theorem FS.stay {C : List AV → Prop} (hC : ∀ cs, C cs → cs.length = 10) {S : List Nat} {R : Page} {L : List Pl} {pb yb fc m ln : Nat} {lv : AV} {σ σ' : AH} (h : FS R L pb yb fc m ln lv σ) (hA : Apart S pb yb fc m lv) (hO : OnlyC C (m :: S) σ σ') : FS R L pb yb fc m ln lv σ' :=
  ⟨hO.few hC h.gp (by simp) hA.p, hO.few hC h.gy (by simp) hA.y, hO.few hC h.gf (by simp) hA.f, by
    rcases h.lost with ⟨e1, e2⟩ | ⟨o, e1, e2, e3⟩
    · exact .inl ⟨e1, e2⟩
    · exact .inr ⟨o, e1, hO.few hC e2 (by rw [rowOf_length encP]; omega) (hA.l o (by rw [e1]; simp [obj])), e3⟩⟩
/-- What a reading is handed to. -/
structure Eats (C : List AV → Prop) (S : List Nat) (N lo m ln : Nat) (I : List (List Int) → AH → Prop) : Prop where
  low : ∀ s ∈ S, s < lo
  keep : ∀ Y σ σ', I Y σ → Only [m] σ σ' → I Y σ'
  eat : ∀ Y y σ v, I Y σ → okY N y → YV lo σ v y → σ.lim = 0 → lo ≤ σ.next → Call prog O (.yield ln) [v] σ (fun r σ' => r = .bool true ∧ OnlyC C S σ σ' ∧ I (Y ++ [y]) σ')
/-- What is known of the first digits of a reading: rows that are full agree, and no number begins with 0. -/
structure Good (w : Nat) (R : Page) (L : List Pl) (pre : List Int) : Prop where
  row : ∀ i, i < R.length → (∃ j, j < L.length ∧ (nth L j).row = i) → (∀ j, j < L.length → (nth L j).row = i → j < pre.length) → ∀ D : Pl → Int, (∀ j, j < pre.length → D (nth L j) = nth pre j) → rowAg D R w i
  lead : ∀ j, j < pre.length → ∀ i k : Nat, (nth L j) = ⟨i, k, 0⟩ → 1 < (nth (nth R i) k).length → nth pre j ≠ 0
/-- Rows and columns depend on the lost digits alone; rows without lost bytes agree. -/
structure Dep (w : Nat) (R : Page) (L : List Pl) : Prop where
  row : ∀ (i : Nat) (D D' : Pl → Int), i < R.length → (∀ j, j < L.length → (nth L j).row = i → D (nth L j) = D' (nth L j)) → rowAg D R w i → rowAg D' R w i
  col : ∀ (k : Nat) (D D' : Pl → Int), k < w → (∀ j, j < L.length → D (nth L j) = D' (nth L j)) → colAg D R k → colAg D' R k
  none : ∀ (i : Nat) (D : Pl → Int), i < R.length → (¬ ∃ j, j < L.length ∧ (nth L j).row = i) → rowAg D R w i
def FillK (C : List AV → Prop) (S : List Nat) (w : Nat) (R : Page) (L : List Pl) (m : Nat) (I : List (List Int) → AH → Prop) (D : Pl → Int) (pre : List Int) (Y : List (List Int)) (σ : AH) (v : AV) (σ' : AH) : Prop :=
  v = .bool true ∧ OnlyC C (m :: S) σ σ' ∧ (∃ D', MapD σ' m D' ∧ D09 D' ∧ ∀ j, j < pre.length → D' (nth L j) = D (nth L j)) ∧
    ∃ Y', I (Y ++ Y') σ' ∧ (∀ y ∈ Y', okY L.length y ∧ y.take pre.length = pre ∧ Truth w R L y) ∧ Y'.Nodup ∧ ∀ T, Truth w R L T → T.take pre.length = pre → T ∈ Y'
theorem asl_whole (o n : Nat) : aslS 1 (.slice (some (o, 0)) n (.op 1)) none (some (.int .i64 n)) (some (.int .i64 n)) = some (.slice (some (o, 0)) n (.ex n)) := by
  have h1 : abound n n (some (.int .i64 n)) = some n := by simp [abound]
  simp only [aslS, abounds, ACap.sure, h1]
  simp [abound, ACap.less]
theorem asl_nil : aslS 1 (.vsl true []) none (some (.int .i64 0)) (some (.int .i64 0)) = some (.vsl true []) := by rfl
theorem fill_leaf {C : List AV → Prop} {w : Nat} {R : Page} (h : okP w R) {L : List Pl} (hL : okL w R L) (hd : Dep w R L) {S : List Nat} {pb yb fc m ln lo : Nat} {lv : AV} (hA : Apart S pb yb fc m lv) {I : List (List Int) → AH → Prop} (hI : Eats C S L.length lo m ln I)
    {pre : List Int} (hp : okY L.length pre) {σ : AH} {Y : List (List Int)} {D : Pl → Int} (h0 : σ.lim = 0) (hF : FS R L pb yb fc m ln lv σ) (hm : MapD σ m D) (hD : D09 D) (hDp : ∀ j, j < L.length → D (nth L j) = nth pre j) (hlo : lo ≤ σ.next) (hY : I Y σ) (hg : Good w R L pre) :
    Call prog O (.fn 53) [.int .i64 L.length, .ptr (some (pb, 0)), .ptr (some (yb, 0)), .ptr (some (fc, 0))] σ (FillK C S w R L m I D pre Y σ) := by
  have l1 := AH.get_lt hF.gp
  have l2 := AH.get_lt hF.gy
  have g1 := hF.gp
  have g2 := hF.gy
  have hone := hF.lost.one
  have hln := hF.lost.len
  have hNL := hL.len
  refine @call_of' _ _ pl _ _ _ _ _ _ _ ⟨FillK C S w R L m I D pre Y σ⟩ get53 ((oo (by decide)).2 _) rfl ?_
  simp (disch := omega) [Und, g1, l1, hln, -Bool.exists_bool]
  refine agreesT_call h hD hm (by omega) hone fun b ω hω hb => ?_
  have hOω : Only (m :: S) σ ω := hω.mono (by simp)
  have ωn := hω.next
  have ωl := hω.lim
  cases b with
  | false =>
    simp (disch := omega) [Und, -Bool.exists_bool]
    refine ⟨rfl, .of hOω, ⟨D, hm.same (hω.get m hm.lt (by simp)), hD, fun _ _ => rfl⟩, [], by rw [List.append_nil]; exact hI.keep _ _ _ hY (hω.mono (by simp)), fun y hy => (by cases hy), List.nodup_nil, fun T hT e => ?_⟩
    exfalso
    have : T.take pre.length = T := by rw [hp.1, ← hT.len]; exact List.take_length
    rw [this] at e
    subst e
    exact absurd (hb.1 (hT.col D hDp)) (by simp)
  | true =>
    have ωg1 := (hω.get pb l1 (by simp)).trans g1
    have ωg2 := (hω.get yb l2 (by simp)).trans g2
    have k1 : pb < ω.next := by omega
    have k2 : yb < ω.next := by omega
    simp (disch := omega) [Und, ωg1, k1, hln, -Bool.exists_bool]
    refine lp_loop pl (fun r fr τ => ∃ (j : Nat) (v : AV), j + r = L.length ∧ fr = ⟨[(1, .ptr (some (pb, 0))), (2, .ptr (some (yb, 0))), (6, v), (22, lv), (23, .int .i64 L.length), (24, .int .i64 j)], []⟩ ∧ Only [] ω τ ∧ Buf ω.next 1 (AV.int .i64) τ v (pre.take j)) ⟨L.length, 0, .vsl true [], by omega, rfl, Only.refl [] ω, Buf.nil⟩ ?_
    rintro r _ τ ⟨j, v, hj, rfl, hτ, hB⟩
    have τn := hτ.next
    have τl := hτ.lim
    have τg1 := (hτ.get pb k1 (by simp)).trans ωg1
    have τg2 := (hτ.get yb k2 (by simp)).trans ωg2
    have hmτ : MapD τ m D := hm.same ((hω.trans hτ).get m hm.lt (by simp))
    by_cases hjl : j < L.length
    · obtain ⟨o, rfl, ho, hon⟩ := (hF.lost.same (σ' := τ) fun o _ hon => (hω.trans hτ).get o hon (by simp)).at hjl
      have x9 : ¬ o = τ.next := by omega
      have x1 : ¬ pb = τ.next := by omega
      have x2 : pb < τ.next := by omega
      have r1 := row_at encP (xs := L) (j := j) hjl
      have hr := rowOf_length encP L
      have q1 : j * 3 + 3 ≤ L.length * 3 := by omega
      have q2 : (j : Int) < L.length := by omega
      have x3 : pb < τ.next + 1 := by omega
      have x6 : τ.lim ≤ τ.next := by omega
      simp (disch := omega) [Und, hjl, ho, hon, τg1, x1, x2, x3, x6, x9, r1, hr, q1, q2, eP, ahop_lookup, -Bool.exists_bool]
      generalize hκ : AH.set (AH.push τ _) τ.next _ = κ
      have hκO : Only [] τ κ := by rw [← hκ]; exact (Only.push [] τ _).setN (by omega) _
      have hlk := (hmτ.same (σ' := κ) (hκO.get m hmτ.lt (by simp))).look (nth L j)
      unfold eP at hlk
      clear hκ
      have κn := hκO.next
      have κl := hκO.lim
      rw [hlk]
      have hpj := hDp j hjl
      simp (disch := omega) [Und, hpj, -Bool.exists_bool]
      have hp1 := hp.1
      refine (hB.stay hκO (fun _ _ h => by cases h)).push encI (by omega) (by omega) (nth pre j) (bytes := 8) (by simp only [topBytes, List.length_take]; omega) rfl fun v' σ' q1 q2 => ?_
      simp (disch := omega) [Und, -Bool.exists_bool]
      have q3 := q2.next
      have q4 := q2.lim
      refine ⟨r - 1, by omega, j + 1, by omega, v', ⟨rfl, by omega⟩, ⟨by omega, by omega, fun z hz _ => (q2.get z hz).trans ((hκO.get z (by omega) (by simp)).trans (hτ.get z hz (by simp)))⟩, ?_⟩
      rw [take_succ_nth (by omega)]
      exact q1
    · obtain rfl : j = L.length := by omega
      have e0 : pre.take L.length = pre := by rw [← hp.1]; exact List.take_length
      rw [e0] at hB
      have x2 : yb < τ.next := by omega
      have hYτ : I Y τ := hI.keep _ _ _ hY ((hω.trans hτ).mono (by simp))
      have fin : ∀ ζ, OnlyC C S τ ζ → I (Y ++ [pre]) ζ → FillK C S w R L m I D pre Y σ (.bool true) ζ := fun ζ ζO ζI => by
        refine ⟨rfl, OnlyC.trans (.of ((hω.trans hτ).mono (by simp))) (ζO.mono fun i hi => List.mem_cons_of_mem _ hi), ⟨D, hmτ.sameC ζO hA.m, hD, fun _ _ => rfl⟩, [pre], ζI, fun y hy => ?_, by simp, fun T hT e => ?_⟩
        · obtain rfl := List.mem_singleton.1 hy
          refine ⟨hp, List.take_length, hp.1, fun j hj => hp.2 j hj, fun D2 i hi hD2 => ?_, fun D2 hD2 k hk => ?_, fun j hj i k e1 e2 => hg.lead j (by rw [hp.1]; exact hj) i k e1 e2⟩
          · by_cases hx : ∃ j, j < L.length ∧ (nth L j).row = i
            · exact hd.row i D D2 hi (fun j hj hr => by rw [hDp j hj, hD2 j hj hr]) (hg.row i hi hx (fun j hj _ => by rw [hp.1]; exact hj) D fun j hj => hDp j (by rw [hp.1] at hj; exact hj))
            · exact hd.none i D2 hi hx
          · exact hd.col k D D2 hk (fun j hj => by rw [hDp j hj, hD2 j hj]) (hb.2 rfl k hk)
        · have : T.take pre.length = T := by rw [hp.1, ← hT.len]; exact List.take_length
          rw [this] at e
          simp [e]
      rcases hB with ⟨rfl, e1⟩ | ⟨o, rfl, o1, o2, o3⟩
      · simp (disch := omega) [Und, τg2, x2, hp.1, asl_nil, -Bool.exists_bool]
        refine (hI.eat Y pre τ (.vsl true []) hYτ hp (.inl ⟨rfl, e1⟩) (by omega) (by omega)).mono ?_
        rintro r2 ζ ⟨rfl, ζO, ζI⟩
        simp (disch := omega) [Und, -Bool.exists_bool]
        exact fin ζ ζO ζI
      · simp (disch := omega) [Und, τg2, x2, hp.1, asl_whole, -Bool.exists_bool]
        refine (hI.eat Y pre τ (.slice (some (o, 0)) L.length (.ex L.length)) hYτ hp (.inr ⟨o, by rw [hp.1], by omega, o2, o3⟩) (by omega) (by omega)).mono ?_
        rintro r2 ζ ⟨rfl, ζO, ζI⟩
        simp (disch := omega) [Und, -Bool.exists_bool]
        exact fin ζ ζO ζI
end Go.Oct.Log
