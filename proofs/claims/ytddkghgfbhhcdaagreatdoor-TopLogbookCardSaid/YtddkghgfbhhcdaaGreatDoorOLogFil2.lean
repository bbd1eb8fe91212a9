/- All readings that agree: digits are tried one after the other. -/
import Derived.Test.YtddkghgfbhhcdaaGreatDoorOLogFil
set_option maxRecDepth 100000
set_option maxHeartbeats 8000000
set_option linter.unusedVariables false
set_option linter.unusedSimpArgs false
namespace Go.Oct.Log
open Go.Oct
/-- A digit at a place. -/
def upD (D : Pl → Int) (p : Pl) (d : Int) : Pl → Int := fun q => if p = q then d else D q
theorem upD_09 {D : Pl → Int} (h : D09 D) (p : Pl) {d : Int} (h1 : 0 ≤ d) (h2 : d ≤ 9) : D09 (upD D p d) := fun q => by
  unfold upD
  split
  · omega
  · exact h q
theorem MapD.upd {σ : AH} {m : Nat} {D : Pl → Int} (h : MapD σ m D) (hl : σ.lim ≤ m) (t : Pl) (d : Int) : ∃ o, amapUpd true [.int, .int, .int] (.map (some m)) (eP t) (.int .i64 d) σ = some (.undef, σ.set m o) ∧ MapD (σ.set m o) m (upD D t d) := by
  obtain ⟨es, c, h1, h2⟩ := h
  obtain ⟨es', c', e1, e2⟩ := updP t (.int .i64 d) hl h1
  refine ⟨_, e1, es', c', AH.get_set_same _ _ _ (AH.get_lt h1), fun p => ?_⟩
  rw [e2]
  unfold upD
  by_cases e : t = p
  · simp [e]
  · simp only [e, if_false]; exact h2 p
/-- What was tried so far at one place. -/
structure Tried (C : List AV → Prop) (S : List Nat) (w : Nat) (R : Page) (L : List Pl) (m : Nat) (I : List (List Int) → AH → Prop) (D : Pl → Int) (pre : List Int) (Y : List (List Int)) (σ : AH) (d : Nat) (ω : AH) : Prop where
  only : OnlyC C (m :: S) σ ω
  map : ∃ D', MapD ω m D' ∧ D09 D' ∧ ∀ j, j < pre.length → D' (nth L j) = D (nth L j)
  got : ∃ Y', I (Y ++ Y') ω ∧ (∀ y ∈ Y', okY L.length y ∧ y.take pre.length = pre ∧ Truth w R L y ∧ nth y pre.length < d) ∧ Y'.Nodup ∧ ∀ T, Truth w R L T → T.take pre.length = pre → nth T pre.length < d → T ∈ Y'
theorem Tried.skip {C : List AV → Prop} {S : List Nat} {w : Nat} {R : Page} {L : List Pl} {m : Nat} {I : List (List Int) → AH → Prop} {D : Pl → Int} {pre : List Int} {Y : List (List Int)} {σ : AH} {d : Nat} {ω ω' : AH} (h : Tried C S w R L m I D pre Y σ d ω) (ho : OnlyC C (m :: S) ω ω') (hm : ∃ D', MapD ω' m D' ∧ D09 D' ∧ ∀ j, j < pre.length → D' (nth L j) = D (nth L j))
    (hI : ∀ Z, I Z ω → I Z ω') (hT : ∀ T, Truth w R L T → T.take pre.length = pre → nth T pre.length ≠ d) : Tried C S w R L m I D pre Y σ (d + 1) ω' := by
  obtain ⟨Y', h1, h2, h3, h4⟩ := h.got
  refine ⟨h.only.trans ho, hm, Y', hI _ h1, fun y hy => ?_, h3, fun T hTT e1 e2 => h4 T hTT e1 ?_⟩
  · obtain ⟨a, b, b2, c⟩ := h2 y hy
    exact ⟨a, b, b2, by omega⟩
  · have := hT T hTT e1
    omega
theorem take_snoc {y pre : List Int} {d : Int} (h : y.take (pre.length + 1) = pre ++ [d]) (hl : pre.length < y.length) : y.take pre.length = pre ∧ nth y pre.length = d := by
  rw [take_succ_nth hl] at h
  have := List.append_inj h (by simp; omega)
  exact ⟨this.1, by simpa using this.2⟩
theorem Tried.more {C : List AV → Prop} {S : List Nat} {w : Nat} {R : Page} {L : List Pl} {m : Nat} {I : List (List Int) → AH → Prop} {D D1 : Pl → Int} {pre : List Int} {Y Y1 : List (List Int)} {σ : AH} {d : Nat} {τ ω' : AH} {v : AV} (hpl : pre.length < L.length) (hO : OnlyC C (m :: S) σ τ)
    (h2 : ∀ y ∈ Y1, okY L.length y ∧ y.take pre.length = pre ∧ Truth w R L y ∧ nth y pre.length < d) (h3 : Y1.Nodup) (h4 : ∀ T, Truth w R L T → T.take pre.length = pre → nth T pre.length < d → T ∈ Y1) (hD : ∀ j, j < pre.length → D1 (nth L j) = D (nth L j)) (hF : FillK C S w R L m I D1 (pre ++ [(d : Int)]) (Y ++ Y1) τ v ω') :
    v = .bool true ∧ Tried C S w R L m I D pre Y σ (d + 1) ω' := by
  obtain ⟨hv, f1, ⟨D', f2, f3, f4⟩, Y', f5, f6, f7, f8⟩ := hF
  have hpd : (pre ++ [(d : Int)]).length = pre.length + 1 := by simp
  refine ⟨hv, hO.trans f1, ⟨D', f2, f3, fun j hj => (f4 j (by omega)).trans (hD j hj)⟩, Y1 ++ Y', by rw [← List.append_assoc]; exact f5, fun y hy => ?_, ?_, fun T hTT e1 e2 => ?_⟩
  · rcases List.mem_append.1 hy with hy | hy
    · obtain ⟨a, b, b2, c⟩ := h2 y hy
      exact ⟨a, b, b2, by omega⟩
    · obtain ⟨a, b, b2⟩ := f6 y hy
      rw [hpd] at b
      have := take_snoc b (by rw [a.1]; exact hpl)
      exact ⟨a, this.1, b2, by omega⟩
  · refine List.nodup_append.2 ⟨h3, f7, fun a ha b hb e => ?_⟩
    subst e
    have h5 := (h2 a ha).2.2.2
    obtain ⟨q1, q2, _⟩ := f6 a hb
    rw [hpd] at q2
    have := (take_snoc q2 (by rw [q1.1]; exact hpl)).2
    omega
  · have hTl := hTT.len
    by_cases e : nth T pre.length < d
    · exact List.mem_append_left _ (h4 T hTT e1 e)
    · refine List.mem_append_right _ (f8 T hTT ?_)
      rw [hpd, take_succ_nth (by omega), e1, show nth T pre.length = d by omega]
/-- The last lost place of a row is the one that is told. -/
theorem endp_last {w : Nat} {R : Page} {L : List Pl} (hL : okL w R L) {i : Int} {k : Nat} (hk : k < L.length) (he : endp L i L.length = nth L k) (hi : (nth L k).row = i) : ∀ j, j < L.length → (nth L j).row = i → j ≤ k := by
  have key : ∀ n, n ≤ L.length → ∀ j, j < n → (nth L j).row = i → ∃ q, j ≤ q ∧ q < n ∧ endp L i n = nth L q := by
    intro n
    induction n with
    | zero => intro _ j hj; omega
    | succ n ih =>
      intro hn j hj hr
      by_cases e : (nth L n).row = i
      · exact ⟨n, by omega, by omega, by simp only [endp, e, if_true]⟩
      · have : j ≠ n := fun h => e (h ▸ hr)
        obtain ⟨q, q1, q2, q3⟩ := ih (by omega) j (by omega) hr
        exact ⟨q, q1, by omega, by simp only [endp, e, if_false]; exact q3⟩
  intro j hj hr
  obtain ⟨q, q1, q2, q3⟩ := key L.length (Nat.le_refl _) j hj hr
  rw [q3] at he
  have := hL.once q k q2 hk he
  omega
theorem endp_is {L : List Pl} {i : Int} {k : Nat} (hi : (nth L k).row = i) : ∀ n, k < n → (∀ j, j < n → (nth L j).row = i → j ≤ k) → endp L i n = nth L k
  | 0, h, _ => by omega
  | n + 1, h, hl => by
    by_cases e : (nth L n).row = i
    · have := hl n (by omega) e
      obtain rfl : k = n := by omega
      simp only [endp, e, if_true]
    · simp only [endp, e, if_false]
      have : k ≠ n := fun h2 => e (h2 ▸ hi)
      exact endp_is hi n (by omega) fun j hj => hl j (by omega)
theorem Good.more {w : Nat} {R : Page} {L : List Pl} (hdp : Dep w R L) {pre : List Int} {k d i c a : Nat} (hkk : pre.length = k) (hk : k < L.length) (hgd : Good w R L pre) (hpl : nth L k = ⟨i, c, a⟩) (hlead : a = 0 → 1 < (nth (nth R i) c).length → d ≠ 0)
    (hrow : (∀ j, j < L.length → (nth L j).row = i → j ≤ k) → ∃ D1 : Pl → Int, (∀ j, j < k + 1 → D1 (nth L j) = nth (pre ++ [(d : Int)]) j) ∧ rowAg D1 R w i) : Good w R L (pre ++ [(d : Int)]) := by
  have hl : (pre ++ [(d : Int)]).length = k + 1 := by simp; omega
  have hlo : ∀ j, j < k → nth (pre ++ [(d : Int)]) j = nth pre j := fun j hj => nth_append_left (by omega)
  have hhi : nth (pre ++ [(d : Int)]) k = d := by rw [nth_append_right (by omega) (by simp; omega)]; simp [hkk]
  refine ⟨fun i' hi' hx hall D hD => ?_, fun j hj i' k' e1 e2 => ?_⟩
  · rw [hl] at hall hD
    by_cases e : (i' : Int) = i
    · obtain rfl : i' = i := by omega
      obtain ⟨D1, d1, d2⟩ := hrow fun j hj hr => by have := hall j hj hr; omega
      exact hdp.row i' D1 D hi' (fun j hj hr => by rw [d1 j (hall j hj hr), hD j (hall j hj hr)]) d2
    · refine hgd.row i' hi' hx (fun j hj hr => ?_) D fun j hj => ?_
      · have := hall j hj hr
        have : j ≠ k := fun h => by
          subst h
          rw [hpl] at hr
          exact e hr.symm
        omega
      · rw [hkk] at hj
        rw [hD j (by omega), hlo j hj]
  · rw [hl] at hj
    by_cases e : j = k
    · subst e
      rw [hhi]
      rw [hpl] at e1
      injection e1 with q1 q2 q3
      have q1 : i = i' := by omega
      have q2 : c = k' := by omega
      subst q1 q2
      have := hlead (by omega) e2
      omega
    · rw [hlo j (by omega)]
      exact hgd.lead j (by omega) i' k' e1 e2
theorem fill_call {C : List AV → Prop} (hC : ∀ cs, C cs → cs.length = 10) {w : Nat} {R : Page} (h : okP w R) {L : List Pl} (hL : okL w R L) (hdp : Dep w R L) {S : List Nat} {pb yb fc m ln lo : Nat} {lv : AV} (hA : Apart S pb yb fc m lv) {I : List (List Int) → AH → Prop} (hI : Eats C S L.length lo m ln I) :
    ∀ (r : Nat) (pre : List Int) (σ : AH) (Y : List (List Int)) (D : Pl → Int), pre.length + r = L.length → okY pre.length pre → σ.lim = 0 → FS R L pb yb fc m ln lv σ → MapD σ m D → D09 D → (∀ j, j < pre.length → D (nth L j) = nth pre j) → lo ≤ σ.next → I Y σ → Good w R L pre →
    Call prog O (.fn 53) [.int .i64 pre.length, .ptr (some (pb, 0)), .ptr (some (yb, 0)), .ptr (some (fc, 0))] σ (FillK C S w R L m I D pre Y σ) := by
  intro r
  induction r with
  | zero =>
    intro pre σ Y D hr hp h0 hF hm hD hDp hlo hY hgd
    have e : pre.length = L.length := by omega
    rw [e] at hp hDp ⊢
    exact fill_leaf h hL hdp hA hI hp h0 hF hm hD hDp hlo hY hgd
  | succ r ih =>
    intro pre σ Y D hr hp h0 hF hm hD hDp hlo hY hgd
    have l1 := AH.get_lt hF.gp
    have l2 := AH.get_lt hF.gy
    have l3 := AH.get_lt hF.gf
    have g1 := hF.gp
    have g2 := hF.gy
    have g3 := hF.gf
    have hone := hF.lost.one
    have hln := hF.lost.len
    have hNL := hL.len
    have hk : pre.length < L.length := by omega
    generalize hkk : pre.length = k at *
    obtain ⟨o, rfl, ho, hon⟩ := hF.lost.at hk
    obtain ⟨i, c, a, hpl, hi, hc, ha⟩ := hL.pos k hk
    have r1 := row_at encP (xs := L) (j := k) hk
    have hrl := rowOf_length encP L
    have q1 : k * 3 + 3 ≤ L.length * 3 := by omega
    have q2 : (k : Int) < L.length := by omega
    have q3 : ¬ (k : Int) = L.length := by omega
    have x1 : ¬ pb = σ.next := by omega
    have x2 : pb < σ.next + 1 := by omega
    have x3 : ¬ o = σ.next := by omega
    have q4 : (i : Int) < R.length := by omega
    have hwd := h.wide i hi
    have q5 : (c : Int) < ((nth R i).length : Int) := by omega
    have hbys := (h.ent i c hi hc).bys
    rw [hpl] at r1
    refine @call_of' _ _ pl _ _ _ _ _ _ _ ⟨FillK C S w R L m I D pre Y σ⟩ get53 ((oo (by decide)).2 _) rfl ?_
    by_cases ha0 : a = 0
    · simp (disch := omega) [Und, g1, l1, ho, hon, r1, hrl, q1, q2, q3, q4, q5, x1, x2, x3, eP, eT, hbys, h0, ha0, -Bool.exists_bool]
      generalize hυ0 : AH.set (AH.push σ _) σ.next _ = υ
      have hυ : Only [] σ υ := by rw [← hυ0]; exact (Only.push [] σ _).setN (by omega) _
      have υ9 : υ.get σ.next = some (.cells [.int .i64 i, .int .i64 c, .int .i64 a]) := by rw [← hυ0]; simp [ha0]
      have υn : υ.next = σ.next + 1 := by rw [← hυ0]; rfl
      clear hυ0
      have υl := hυ.lim
      have hLυ : LV (υ.under (σ.next + 1)) (.slice (some (o, 0)) L.length (.op 3)) L := hF.lost.same fun z _ hz => hυ.get z hz (by simp)
      refine end_call hLυ hNL (by show σ.next + 1 ≤ υ.next; omega) fun ω hω => ?_
      have hω' : Only [] υ (ω.under 0) := ⟨by show 0 = υ.lim; omega, hω.next, hω.get⟩
      have ωe : ω.under υ.lim = ω.under 0 := by rw [υl, h0]
      simp (disch := omega) [Und, eP, υl, h0, -Bool.exists_bool]
      generalize hb1 : decide (1 < ((nth (nth R i) c).length : Int)) = b1
      generalize hb2 : (decide ((i : Int) = (endp L i L.length).row) && _ : Bool) = b2
      have hbi := True.intro
      have B1 : b1 = true → ∀ T, Truth w R L T → T.take k = pre → nth T k ≠ 0 := fun e T hT _ => by
        rw [e] at hb1
        refine hT.lead k hk i c (by rw [hpl, ha0]; rfl) ?_
        have := of_decide_eq_true hb1
        omega
      have B2 : b2 = true → endp L i L.length = nth L k := fun e => by
        rw [e] at hb2
        simp at hb2
        rw [hpl]
        exact Pl.ext' (by show _ = (i : Int); omega) (by show _ = (c : Int); omega) (by show _ = (a : Int); omega)
      have hOσ : Only [] σ (ω.under 0) := hυ.trans hω'
      have ωg9 : (ω.under 0).get σ.next = some (.cells [.int .i64 i, .int .i64 c, .int .i64 a]) := (hω'.get _ (by omega) (by simp)).trans υ9
      have hωn := hω'.next
      generalize ω.under 0 = ω at hOσ ωg9 hωn ⊢
      refine lp_loop pl (fun r2 fr τ => ∃ d : Nat, d + r2 = 10 ∧ fr = ⟨[(0, .int .i64 k), (1, .ptr (some (pb, 0))), (3, .ptr (some (fc, 0))), (9, .ptr (some (σ.next, 0))), (10, .bool b1), (11, .bool b2), (72, .int .i64 d)], []⟩ ∧ σ.next + 1 ≤ τ.next ∧ τ.get σ.next = some (.cells [.int .i64 i, .int .i64 c, .int .i64 a]) ∧ Tried C S w R L m I D pre Y σ d τ)
        ⟨10, 0, by omega, by simp [hbi], by omega, ωg9, .of (hOσ.mono (by simp)), ⟨D, hm.same (hOσ.get m hm.lt (by simp)), hD, fun _ _ => rfl⟩, [], by rw [List.append_nil]; exact hI.keep _ _ _ hY (hOσ.mono (by simp)), fun y hy => (by cases hy), List.nodup_nil, fun T hT _ e => ?_⟩ ?_
      · rw [hkk] at e
        have := hT.dig k hk
        omega
      rintro r2 _ τ ⟨d, hd, rfl, τn, τ9, hTr⟩
      have τl := hTr.only.lim
      have hFτ := hF.stay hC hA hTr.only
      have t1 := AH.get_lt hFτ.gp
      have t3 := AH.get_lt hFτ.gf
      have tg1 := hFτ.gp
      have tg3 := hFτ.gf
      obtain ⟨D', hm', hD', hDD'⟩ := hTr.map
      rw [hkk] at hDD'
      have m1 := hm'.lt
      have mS : σ.next ∉ m :: S := by
        intro hx
        rcases List.mem_cons.1 hx with e | e
        · have := hm.lt; omega
        · have := hI.low _ e; omega
      have k9 : σ.next < τ.next := by omega
      by_cases hd10 : d < 10
      · have hd10' : (d : Int) < 10 := by omega
        by_cases hd0 : d = 0 ∧ b1 = true
        · obtain ⟨rfl, rfl⟩ := hd0
          simp (disch := omega) [Und, -Bool.exists_bool]
          refine ⟨r2 - 1, by omega, 1, by omega, by omega, τn, τ9, hTr.skip (.of (Only.refl _ _)) hTr.map (fun _ hZ => hZ) fun T hT e => ?_⟩
          rw [hkk] at e ⊢
          exact B1 rfl T hT e
        · obtain ⟨o', e1, e2⟩ := hm'.upd (by omega) (nth L k) d
          rw [hpl] at e1
          unfold eP at e1
          simp only at e1
          have hD1 : D09 (upD D' (nth L k) d) := upD_09 hD' _ (by omega) (by omega)
          have hDk : ∀ j, j < k → upD D' (nth L k) d (nth L j) = D (nth L j) := fun j hj => by
            unfold upD
            rw [if_neg fun e => by have := hL.once k j hk (by omega) e; omega]
            exact hDD' j hj
          have hDp' : ∀ j, j < k + 1 → upD D' (nth L k) d (nth L j) = nth (pre ++ [(d : Int)]) j := fun j hj => by
            by_cases e : j = k
            · subst e
              unfold upD
              rw [if_pos rfl, nth_append_right (by omega) (by simp; omega)]
              simp [hkk]
            · rw [hDk j (by omega), hDp j (by omega), nth_append_left (by omega)]
          have hset : Only [m] τ (τ.set m o') := Only.set (by simp) _
          have s9 : ¬ σ.next = m := fun e => mS (by simp [e])
          have sp : ¬ pb = m := fun e => hA.p (by simp [e])
          have sf : ¬ fc = m := fun e => hA.f (by simp [e])
          have hcond : ¬ ((d : Int) = 0 ∧ b1 = true) := fun h => hd0 ⟨by omega, h.2⟩
          have hle : a = 0 → 1 < (nth (nth R i) c).length → d ≠ 0 := fun e1 e2 e3 => hd0 ⟨e3, by rw [← hb1]; exact decide_eq_true (by omega)⟩
          have hgo : ∀ (κ : AH) (K : AV → AH → Prop), Only [] (τ.set m o') κ → Good w R L (pre ++ [(d : Int)]) → (∀ v ζ, v = .bool true → σ.next + 1 ≤ ζ.next → ζ.get σ.next = some (.cells [.int .i64 i, .int .i64 c, .int .i64 a]) → Tried C S w R L m I D pre Y σ (d + 1) ζ → K v ζ) →
              Call prog O (.fn 53) [.int .i64 ((k : Int) + 1), .ptr (some (pb, 0)), .ptr (some (yb, 0)), .ptr (some (fc, 0))] κ K := fun κ K hκ hgd2 hK => by
            have hOκ : Only (m :: S) τ κ := (hset.mono (by simp)).trans (hκ.mono (by simp))
            obtain ⟨Y1, y1, y2, y3, y4⟩ := hTr.got
            have hκn := hOκ.next
            have hcall := ih (pre ++ [(d : Int)]) κ (Y ++ Y1) (upD D' (nth L k) d) (by simp; omega) ⟨rfl, fun j hj => by
                rw [List.length_append, List.length_singleton, hkk] at hj
                by_cases e : j = k
                · subst e
                  rw [nth_append_right (by omega) (by simp; omega)]
                  simp [hkk]; omega
                · rw [nth_append_left (by omega)]
                  exact hp.2 j (by omega)⟩ (by have := hOκ.lim; omega) (hFτ.stay hC hA (.of hOκ)) (e2.same (hκ.get m m1 (by simp))) hD1 (fun j hj => hDp' j (by rw [List.length_append, List.length_singleton, hkk] at hj; exact hj)) (by omega) (hI.keep _ _ _ y1 (hset.trans (hκ.mono (by simp)))) hgd2
            rw [show ((pre ++ [(d : Int)]).length : Int) = (k : Int) + 1 by simp; omega] at hcall
            refine hcall.mono fun v ζ hζ => ?_
            have hζO := hζ.2.1
            have hζn := hζO.next
            obtain ⟨z1, z2⟩ := Tried.more (by omega) (hTr.only.trans (.of hOκ)) y2 y3 y4 (by rw [hkk]; exact hDk) hζ
            exact hK v ζ z1 (by omega) (hζO.few hC ((hOκ.get _ (by omega) mS).trans τ9) (by simp) mS) z2
          by_cases hb : b2 = true
          · subst hb
            simp (disch := omega) [Und, hd10', τ9, k9, tg1, tg3, t1, t3, s9, sp, sf, ahop_mapUpd, e1, -Bool.exists_bool]
            refine ⟨fun e1' e2' => absurd ⟨e1', e2'⟩ hd0, fun _ => ?_⟩
            refine rowAgrees_call h hD1 e2 hi (by show τ.lim ≤ τ.next; omega) hone fun κ hκ => ?_
            have hOκ : Only (m :: S) τ κ := (hset.mono (by simp)).trans (hκ.mono (by simp))
            have hκn := hOκ.next
            have κ3 := (hOκ.get fc t3 hA.f).trans tg3
            have κf : fc < κ.next := by omega
            by_cases hrow : rowAg (upD D' (nth L k) d) R w i
            · simp (disch := omega) [Und, hrow, κ3, κf, -Bool.exists_bool]
              refine hgo κ _ hκ (Good.more hdp hkk hk hgd hpl hle fun _ => ⟨_, hDp', hrow⟩) fun v ζ z0 z1 z2 z3 => ?_
              subst z0
              simp (disch := omega) [Und, -Bool.exists_bool]
              exact ⟨r2 - 1, by omega, d + 1, by omega, by omega, z1, z2, z3⟩
            · simp (disch := omega) [Und, hrow, -Bool.exists_bool]
              refine ⟨r2 - 1, by omega, d + 1, by omega, by omega, by omega, (hOκ.get _ (by omega) mS).trans τ9, hTr.skip (.of hOκ) ⟨_, e2.same (hκ.get m m1 (by simp)), hD1, by rw [hkk]; exact hDk⟩ (fun Z hZ => hI.keep _ _ _ hZ (hset.trans (hκ.mono (by simp)))) fun T hT e e' => ?_⟩
              rw [hkk] at e e'
              refine hrow (hT.row _ i hi fun j hj hji => ?_)
              have hjk := endp_last hL hk (B2 rfl) (by rw [hpl]) j hj hji
              by_cases ej : j = k
              · subst ej
                unfold upD
                rw [if_pos rfl, e']
              · rw [hDk j (by omega), hDp j (by omega), ← e, nth_take (by omega) (by have := hT.len; omega)]
          · have hb : b2 = false := by simpa using hb
            subst hb
            simp (disch := omega) [Und, hd10', τ9, k9, tg1, tg3, t1, t3, s9, sp, sf, ahop_mapUpd, e1, -Bool.exists_bool]
            refine ⟨fun e1' e2' => absurd ⟨e1', e2'⟩ hd0, fun _ => ?_⟩
            refine hgo (τ.set m o') _ (Only.refl [] _) (Good.more hdp hkk hk hgd hpl hle fun hall => by
              exfalso
              have he := endp_is (L := L) (i := (i : Int)) (k := k) (by rw [hpl]) L.length hk hall
              rw [he, hpl] at hb2
              simp at hb2 <;> omega) fun v ζ z0 z1 z2 z3 => ?_
            subst z0
            simp (disch := omega) [Und, -Bool.exists_bool]
            exact ⟨r2 - 1, by omega, d + 1, by omega, by omega, z1, z2, z3⟩
      · obtain rfl : d = 10 := by omega
        simp (disch := omega) [Und, -Bool.exists_bool]
        obtain ⟨Y1, y1, y2, y3, y4⟩ := hTr.got
        refine ⟨rfl, hTr.only, by rw [hkk]; exact ⟨D', hm', hD', hDD'⟩, Y1, y1, fun y hy => ⟨(y2 y hy).1, (y2 y hy).2.1, (y2 y hy).2.2.1⟩, y3, fun T hT e => y4 T hT e ?_⟩
        rw [hkk]
        have := hT.dig k hk
        omega
    · simp (disch := omega) [Und, g1, l1, ho, hon, r1, hrl, q1, q2, q3, q4, q5, x1, x2, x3, eP, eT, hbys, h0, ha0, -Bool.exists_bool]
      generalize hυ0 : AH.set (AH.push σ _) σ.next _ = υ
      have hυ : Only [] σ υ := by rw [← hυ0]; exact (Only.push [] σ _).setN (by omega) _
      have υ9 : υ.get σ.next = some (.cells [.int .i64 i, .int .i64 c, .int .i64 a]) := by rw [← hυ0]; simp [ha0]
      have υn : υ.next = σ.next + 1 := by rw [← hυ0]; rfl
      clear hυ0
      have υl := hυ.lim
      have hLυ : LV (υ.under (σ.next + 1)) (.slice (some (o, 0)) L.length (.op 3)) L := hF.lost.same fun z _ hz => hυ.get z hz (by simp)
      refine end_call hLυ hNL (by show σ.next + 1 ≤ υ.next; omega) fun ω hω => ?_
      have hω' : Only [] υ (ω.under 0) := ⟨by show 0 = υ.lim; omega, hω.next, hω.get⟩
      have ωe : ω.under υ.lim = ω.under 0 := by rw [υl, h0]
      simp (disch := omega) [Und, eP, υl, h0, -Bool.exists_bool]
      generalize hb2 : (decide ((i : Int) = (endp L i L.length).row) && _ : Bool) = b2
      obtain ⟨b1, hbi⟩ : ∃ b1 : Bool, b1 = false := ⟨_, rfl⟩
      have B1 : b1 = true → ∀ T, Truth w R L T → T.take k = pre → nth T k ≠ 0 := fun e => by rw [hbi] at e; cases e
      have B2 : b2 = true → endp L i L.length = nth L k := fun e => by
        rw [e] at hb2
        simp at hb2
        rw [hpl]
        exact Pl.ext' (by show _ = (i : Int); omega) (by show _ = (c : Int); omega) (by show _ = (a : Int); omega)
      have hOσ : Only [] σ (ω.under 0) := hυ.trans hω'
      have ωg9 : (ω.under 0).get σ.next = some (.cells [.int .i64 i, .int .i64 c, .int .i64 a]) := (hω'.get _ (by omega) (by simp)).trans υ9
      have hωn := hω'.next
      generalize ω.under 0 = ω at hOσ ωg9 hωn ⊢
      refine lp_loop pl (fun r2 fr τ => ∃ d : Nat, d + r2 = 10 ∧ fr = ⟨[(0, .int .i64 k), (1, .ptr (some (pb, 0))), (3, .ptr (some (fc, 0))), (9, .ptr (some (σ.next, 0))), (10, .bool b1), (11, .bool b2), (72, .int .i64 d)], []⟩ ∧ σ.next + 1 ≤ τ.next ∧ τ.get σ.next = some (.cells [.int .i64 i, .int .i64 c, .int .i64 a]) ∧ Tried C S w R L m I D pre Y σ d τ)
        ⟨10, 0, by omega, by simp [hbi], by omega, ωg9, .of (hOσ.mono (by simp)), ⟨D, hm.same (hOσ.get m hm.lt (by simp)), hD, fun _ _ => rfl⟩, [], by rw [List.append_nil]; exact hI.keep _ _ _ hY (hOσ.mono (by simp)), fun y hy => (by cases hy), List.nodup_nil, fun T hT _ e => ?_⟩ ?_
      · rw [hkk] at e
        have := hT.dig k hk
        omega
      rintro r2 _ τ ⟨d, hd, rfl, τn, τ9, hTr⟩
      have τl := hTr.only.lim
      have hFτ := hF.stay hC hA hTr.only
      have t1 := AH.get_lt hFτ.gp
      have t3 := AH.get_lt hFτ.gf
      have tg1 := hFτ.gp
      have tg3 := hFτ.gf
      obtain ⟨D', hm', hD', hDD'⟩ := hTr.map
      rw [hkk] at hDD'
      have m1 := hm'.lt
      have mS : σ.next ∉ m :: S := by
        intro hx
        rcases List.mem_cons.1 hx with e | e
        · have := hm.lt; omega
        · have := hI.low _ e; omega
      have k9 : σ.next < τ.next := by omega
      by_cases hd10 : d < 10
      · have hd10' : (d : Int) < 10 := by omega
        by_cases hd0 : d = 0 ∧ b1 = true
        · obtain ⟨rfl, rfl⟩ := hd0
          simp (disch := omega) [Und, -Bool.exists_bool]
          refine ⟨r2 - 1, by omega, 1, by omega, by omega, τn, τ9, hTr.skip (.of (Only.refl _ _)) hTr.map (fun _ hZ => hZ) fun T hT e => ?_⟩
          rw [hkk] at e ⊢
          exact B1 rfl T hT e
        · obtain ⟨o', e1, e2⟩ := hm'.upd (by omega) (nth L k) d
          rw [hpl] at e1
          unfold eP at e1
          simp only at e1
          have hD1 : D09 (upD D' (nth L k) d) := upD_09 hD' _ (by omega) (by omega)
          have hDk : ∀ j, j < k → upD D' (nth L k) d (nth L j) = D (nth L j) := fun j hj => by
            unfold upD
            rw [if_neg fun e => by have := hL.once k j hk (by omega) e; omega]
            exact hDD' j hj
          have hDp' : ∀ j, j < k + 1 → upD D' (nth L k) d (nth L j) = nth (pre ++ [(d : Int)]) j := fun j hj => by
            by_cases e : j = k
            · subst e
              unfold upD
              rw [if_pos rfl, nth_append_right (by omega) (by simp; omega)]
              simp [hkk]
            · rw [hDk j (by omega), hDp j (by omega), nth_append_left (by omega)]
          have hset : Only [m] τ (τ.set m o') := Only.set (by simp) _
          have s9 : ¬ σ.next = m := fun e => mS (by simp [e])
          have sp : ¬ pb = m := fun e => hA.p (by simp [e])
          have sf : ¬ fc = m := fun e => hA.f (by simp [e])
          have hcond : ¬ ((d : Int) = 0 ∧ b1 = true) := fun h => hd0 ⟨by omega, h.2⟩
          have hle : a = 0 → 1 < (nth (nth R i) c).length → d ≠ 0 := fun e1 e2 e3 => absurd e1 ha0
          have hgo : ∀ (κ : AH) (K : AV → AH → Prop), Only [] (τ.set m o') κ → Good w R L (pre ++ [(d : Int)]) → (∀ v ζ, v = .bool true → σ.next + 1 ≤ ζ.next → ζ.get σ.next = some (.cells [.int .i64 i, .int .i64 c, .int .i64 a]) → Tried C S w R L m I D pre Y σ (d + 1) ζ → K v ζ) →
              Call prog O (.fn 53) [.int .i64 ((k : Int) + 1), .ptr (some (pb, 0)), .ptr (some (yb, 0)), .ptr (some (fc, 0))] κ K := fun κ K hκ hgd2 hK => by
            have hOκ : Only (m :: S) τ κ := (hset.mono (by simp)).trans (hκ.mono (by simp))
            obtain ⟨Y1, y1, y2, y3, y4⟩ := hTr.got
            have hκn := hOκ.next
            have hcall := ih (pre ++ [(d : Int)]) κ (Y ++ Y1) (upD D' (nth L k) d) (by simp; omega) ⟨rfl, fun j hj => by
                rw [List.length_append, List.length_singleton, hkk] at hj
                by_cases e : j = k
                · subst e
                  rw [nth_append_right (by omega) (by simp; omega)]
                  simp [hkk]; omega
                · rw [nth_append_left (by omega)]
                  exact hp.2 j (by omega)⟩ (by have := hOκ.lim; omega) (hFτ.stay hC hA (.of hOκ)) (e2.same (hκ.get m m1 (by simp))) hD1 (fun j hj => hDp' j (by rw [List.length_append, List.length_singleton, hkk] at hj; exact hj)) (by omega) (hI.keep _ _ _ y1 (hset.trans (hκ.mono (by simp)))) hgd2
            rw [show ((pre ++ [(d : Int)]).length : Int) = (k : Int) + 1 by simp; omega] at hcall
            refine hcall.mono fun v ζ hζ => ?_
            have hζO := hζ.2.1
            have hζn := hζO.next
            obtain ⟨z1, z2⟩ := Tried.more (by omega) (hTr.only.trans (.of hOκ)) y2 y3 y4 (by rw [hkk]; exact hDk) hζ
            exact hK v ζ z1 (by omega) (hζO.few hC ((hOκ.get _ (by omega) mS).trans τ9) (by simp) mS) z2
          by_cases hb : b2 = true
          · subst hb
            simp (disch := omega) [Und, hd10', τ9, k9, tg1, tg3, t1, t3, s9, sp, sf, ahop_mapUpd, e1, -Bool.exists_bool]
            refine ⟨fun e1' e2' => absurd ⟨e1', e2'⟩ hd0, fun _ => ?_⟩
            refine rowAgrees_call h hD1 e2 hi (by show τ.lim ≤ τ.next; omega) hone fun κ hκ => ?_
            have hOκ : Only (m :: S) τ κ := (hset.mono (by simp)).trans (hκ.mono (by simp))
            have hκn := hOκ.next
            have κ3 := (hOκ.get fc t3 hA.f).trans tg3
            have κf : fc < κ.next := by omega
            by_cases hrow : rowAg (upD D' (nth L k) d) R w i
            · simp (disch := omega) [Und, hrow, κ3, κf, -Bool.exists_bool]
              refine hgo κ _ hκ (Good.more hdp hkk hk hgd hpl hle fun _ => ⟨_, hDp', hrow⟩) fun v ζ z0 z1 z2 z3 => ?_
              subst z0
              simp (disch := omega) [Und, -Bool.exists_bool]
              exact ⟨r2 - 1, by omega, d + 1, by omega, by omega, z1, z2, z3⟩
            · simp (disch := omega) [Und, hrow, -Bool.exists_bool]
              refine ⟨r2 - 1, by omega, d + 1, by omega, by omega, by omega, (hOκ.get _ (by omega) mS).trans τ9, hTr.skip (.of hOκ) ⟨_, e2.same (hκ.get m m1 (by simp)), hD1, by rw [hkk]; exact hDk⟩ (fun Z hZ => hI.keep _ _ _ hZ (hset.trans (hκ.mono (by simp)))) fun T hT e e' => ?_⟩
              rw [hkk] at e e'
              refine hrow (hT.row _ i hi fun j hj hji => ?_)
              have hjk := endp_last hL hk (B2 rfl) (by rw [hpl]) j hj hji
              by_cases ej : j = k
              · subst ej
                unfold upD
                rw [if_pos rfl, e']
              · rw [hDk j (by omega), hDp j (by omega), ← e, nth_take (by omega) (by have := hT.len; omega)]
          · have hb : b2 = false := by simpa using hb
            subst hb
            simp (disch := omega) [Und, hd10', τ9, k9, tg1, tg3, t1, t3, s9, sp, sf, ahop_mapUpd, e1, -Bool.exists_bool]
            refine ⟨fun e1' e2' => absurd ⟨e1', e2'⟩ hd0, fun _ => ?_⟩
            refine hgo (τ.set m o') _ (Only.refl [] _) (Good.more hdp hkk hk hgd hpl hle fun hall => by
              exfalso
              have he := endp_is (L := L) (i := (i : Int)) (k := k) (by rw [hpl]) L.length hk hall
              rw [he, hpl] at hb2
              simp at hb2 <;> omega) fun v ζ z0 z1 z2 z3 => ?_
            subst z0
            simp (disch := omega) [Und, -Bool.exists_bool]
            exact ⟨r2 - 1, by omega, d + 1, by omega, by omega, z1, z2, z3⟩
      · obtain rfl : d = 10 := by omega
        simp (disch := omega) [Und, -Bool.exists_bool]
        obtain ⟨Y1, y1, y2, y3, y4⟩ := hTr.got
        refine ⟨rfl, hTr.only, by rw [hkk]; exact ⟨D', hm', hD', hDD'⟩, Y1, y1, fun y hy => ⟨(y2 y hy).1, (y2 y hy).2.1, (y2 y hy).2.2.1⟩, y3, fun T hT e => y4 T hT e ?_⟩
        rw [hkk]
        have := hT.dig k hk
        omega
end Go.Oct.Log
