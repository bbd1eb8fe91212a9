/- What Ask does with a reading: the walk. -/
import Derived.Test.YtddkghgfbhhcdaaGreatDoorOLogAskI
set_option maxRecDepth 100000
set_option maxHeartbeats 16000000
set_option linter.unusedVariables false
set_option linter.unusedSimpArgs false
namespace Go.Oct.Log
open Go.Oct
theorem OnlyC.set10 {C : List AV → Prop} {S : List Nat} {σ : AH} {i : Nat} {cs : List AV} (hg : σ.get i = some (.cells cs)) (hC : C cs) (o : AObj) : OnlyC C S σ (σ.set i o) :=
  ⟨rfl, Nat.le_refl _, fun z h1 h2 h3 => AH.get_set_other _ _ _ _ fun e => h3 cs (by rw [e]; exact hg) hC⟩
theorem eatA {P m : Nat} {R : Page} {lv : AV} {L : List Pl} (hL5 : L.length ≤ 5) (honce : ∀ j j', j < L.length → j' < L.length → nth L j = nth L j' → j = j') (hm : 0 < m ∧ m < P) : Eats C10 (stA P) L.length (P + 7) m (P + 6) (AI P m R lv L) := by
  refine ⟨fun s hs => ?_, fun Y σ σ' h hO => h.keep hm hO, fun Y y σ v h hy hv h0 hlo => ?_⟩
  · simp at hs; omega
  have gl := h.loop
  have g3 := h.num
  have g2 := h.cell
  have gP := h.page
  obtain ⟨es0, c0, f0, g1, hMA0⟩ := h.mp
  refine yield_of' pl gl get9 rfl rfl (by omega) rfl ?_
  have hnx := h.nx
  have k3 : P + 3 < σ.next := by omega
  have hyl := hy.1
  have hln : alen v = some (.int .i64 L.length) := by
    rcases hv with ⟨rfl, e⟩ | ⟨o, rfl, _⟩
    · subst e; rw [← hyl]; rfl
    · rw [← hyl]; rfl
  have h1 : v.dfd = true ∧ v.cells = [v] ∧ v.one = true := by
    rcases hv with ⟨rfl, e⟩ | ⟨o, rfl, _⟩ <;> exact ⟨rfl, rfl, rfl⟩
  have k4 : ¬ P + 3 = P + 6 := by omega
  simp (disch := omega) [ak_of gl, h0, g3, k3, k4, hln, h1.1, h1.2.1, h1.2.2, w64_succ, eqf1, eqf2, -Bool.exists_bool]
  generalize hβ : AH.set (AH.set σ _ _) (P + 3) _ = β
  have βl : β.lim = 0 := by rw [← hβ]; exact h0
  have βn : β.next = σ.next := by rw [← hβ]; rfl
  have β3 : β.get (P + 3) = some (.cells [.int .i64 (w64 (Y.length + 1))]) := by rw [← hβ]; exact AH.get_set_same _ _ _ k3
  have β6 : β.get (P + 6) = some (.loop 9 0 (envA P) .busy none (P + 5)) := by rw [← hβ, AH.get_set_other _ _ _ _ (by omega)]; exact AH.get_set_same _ _ _ (by show P + 6 < σ.next; omega)
  have βo : ∀ z, z ≠ P + 3 → z ≠ P + 6 → β.get z = σ.get z := fun z z1 z2 => by rw [← hβ, AH.get_set_other _ _ _ _ z1, AH.get_set_other _ _ _ _ z2]
  clear hβ
  have hMA1 : MA L P f0 (cnY Y) es0 β := hMA0.keep fun z z1 z2 => βo z (by omega) (by omega)
  have hCC : ∀ cs, C10 cs → cs.length = 10 := fun _ hh => hh
  have βP := (βo P (by omega) (by omega)).trans gP
  have β2 := (βo (P + 2) (by omega) (by omega)).trans g2
  have βL : LV β lv L := h.lost.same fun o ho hon => βo o (by have := h.low o ho; omega) (by have := h.low o ho; omega)
  refine lp_loop pl (fun r fr ω => ∃ (j : Nat) (es : List PE) (c : Nat) (f : Nat → Nat), j + r = L.length ∧ fr = ⟨[(5, .ptr (some (P, 0))), (6, .ptr (some (P + 2, 0))), (31, v), (32, .int .i64 L.length), (33, .int .i64 j)], []⟩ ∧ OnlyC C10 [P + 1] β ω ∧ ω.get (P + 1) = some (.map (es.map entP) c) ∧
      MA L P f (fun k => if k < j then some (cntL (Y ++ [y]) k) else cnY Y k) es ω)
    ⟨L.length, 0, es0, c0, f0, by omega, rfl, .of (Only.refl _ _), (βo _ (by omega) (by omega)).trans g1, hMA1⟩ ?_
  rintro r _ ω ⟨j, es, c, f, hj, rfl, hω, ω1, hMA⟩
  have ωl := hω.lim.trans βl
  have ωn := hω.next
  have ωP := hω.few hCC βP (by simp) (by simp)
  have ω2 := hω.few hCC β2 (by simp) (by simp)
  by_cases hjl : j < L.length
  · obtain ⟨o, rfl, o1, o2, o3⟩ : ∃ o, v = .slice (some (o, 0)) y.length (.ex y.length) ∧ P + 7 ≤ o ∧ σ.get o = some (.cells (rowOf (AV.int .i64) y)) ∧ y ≠ [] := by
      rcases hv with ⟨_, e⟩ | h
      · subst e; rw [← hyl] at hjl; simp at hjl
      · exact h
    have hrl : (rowOf (AV.int .i64) y).length = y.length := by rw [rowOf_length encI]; omega
    have ωv := hω.few hCC ((βo o (by omega) (by omega)).trans o2) (by rw [hrl]; omega) (by simp; omega)
    obtain ⟨oL, rfl, p1, p2⟩ := βL.at hjl
    have hrlL := rowOf_length encP L
    have ωL := hω.few hCC p1 (by rw [hrlL]; omega) (by have := h.low oL (by simp [obj]); simp; omega)
    have r1 := row_at encP (xs := L) (j := j) hjl
    have q1 : j * 3 + 3 ≤ L.length * 3 := by omega
    have q2 : (j : Int) < L.length := by omega
    have hd := hy.2 j hjl
    obtain ⟨q, hq⟩ : ∃ q : Nat, nth y j = q := ⟨(nth y j).toNat, by omega⟩
    have hq10 : q < 10 := by omega
    have hri := row_int (q := .i64) (xs := y) (j := j) (by omega)
    rw [hq] at hri
    have hri2 : ∀ h : j < (rowOf (AV.int .i64) y).length, (rowOf (AV.int .i64) y)[j] = .int .i64 q := fun h => (List.getElem?_eq_some_iff.1 hri).2
    have b1 := AH.get_lt ωP
    have b2 := AH.get_lt ω2
    have b3 := AH.get_lt ωv
    have b4 := AH.get_lt ωL
    have hlk := lookP (σ := ω) (nth L j) (.ptr none) ω1
    unfold eP at hlk
    rcases hMA.2 j hjl with ⟨n1, n2⟩ | ⟨l, n1, n2, n3, n4, n5⟩
    · rw [n2] at hlk
      simp (disch := omega) [Und, hjl, ωl, ωv, ωP, ω2, ωL, b1, b2, b3, b4, hyl, hri, hri2, hrl, r1, hrlL, q1, q2, eP, ahop_lookup, hlk, isNil, -Bool.exists_bool]
      refine ⟨by omega, ?_⟩
      generalize hκ : AH.push (AH.under ω 0) _ = κ
      have κl : κ.lim = 0 := by rw [← hκ]; rfl
      have κn : κ.next = ω.next + 1 := by rw [← hκ]; rfl
      have κo : ∀ z, z < ω.next → κ.get z = ω.get z := fun z hz => by rw [← hκ, AH.get_push_old _ _ _ (show z ≠ (AH.under ω 0).next by show z ≠ ω.next; omega)]; rfl
      have κk : κ.get ω.next = some (.cells ((List.replicate 10 (0 : Int)).map (AV.int .i64))) := by rw [← hκ]; exact AH.get_push_new _ _
      clear hκ
      have κ1 := (κo (P + 1) (AH.get_lt ω1)).trans ω1
      obtain ⟨es', c', u1, u2⟩ := updP (nth L j) (.ptr (some (ω.next, 0))) (σ := κ) (by omega) κ1
      unfold eP at u1
      obtain ⟨χ, hχ⟩ : ∃ χ, χ = κ.set (P + 1) (.map (es'.map entP) c') := ⟨_, rfl⟩
      rw [← hχ] at u1
      have χl : χ.lim = 0 := by rw [hχ]; exact κl
      have χn : χ.next = ω.next + 1 := by rw [hχ]; exact κn
      have χo : ∀ z, z < ω.next → z ≠ P + 1 → χ.get z = ω.get z := fun z z1 z2 => by rw [hχ, AH.get_set_other _ _ _ _ z2, κo z z1]
      have χk : χ.get ω.next = some (.cells ((List.replicate 10 (0 : Int)).map (AV.int .i64))) := by rw [hχ, AH.get_set_other _ _ _ _ (by omega)]; exact κk
      have χ1 : χ.get (P + 1) = some (.map (es'.map entP) c') := by rw [hχ]; exact AH.get_set_same _ _ _ (AH.get_lt κ1)
      clear hχ
      have χP := (χo P b1 (by omega)).trans ωP
      have χ2 := (χo (P + 2) b2 (by omega)).trans ω2
      have χv := (χo o b3 (by omega)).trans ωv
      have χL := (χo oL b4 (by have := h.low oL (by simp [obj]); omega)).trans ωL
      have d1 := AH.get_lt χP
      have d2 := AH.get_lt χ2
      have d3 := AH.get_lt χv
      have d4 := AH.get_lt χL
      have d5 := AH.get_lt χk
      have hlk2 := lookP (σ := χ) (nth L j) (.ptr none) χ1
      rw [u2, if_pos rfl] at hlk2
      unfold eP at hlk2
      have hcq : ((List.replicate 10 (0 : Int)).map (AV.int .i64))[q]? = some (.int .i64 0) := by
        rw [List.map_replicate, List.getElem?_replicate, if_pos hq10]
      have hcq2 : ∀ h : q < ((List.replicate 10 (0 : Int)).map (AV.int .i64)).length, ((List.replicate 10 (0 : Int)).map (AV.int .i64))[q] = .int .i64 0 := fun h => (List.getElem?_eq_some_iff.1 hcq).2
      have hll : ((List.replicate 10 (0 : Int)).map (AV.int .i64)).length = 10 := rfl
      have x7 : ¬ P + 1 = ω.next := by omega
      have hn0 : cnY Y j = none := by simpa using n1
      have hY0 : Y = [] := by
        unfold cnY at hn0
        split at hn0
        · assumption
        · cases hn0
      have hMA2 : MA L P (upF f j ω.next) (fun k => if k = j then some (List.replicate 10 (0 : Int)) else if k < j then some (cntL (Y ++ [y]) k) else cnY Y k) es' χ := MA.new honce hMA hjl n1 (l := List.replicate 10 0) (o := ω.next) (by show (if j = j then _ else _) = _; rw [if_pos rfl]) (fun k hk => by show (if k = j then _ else _) = _; rw [if_neg hk]) rfl ⟨by omega, Nat.le_refl _⟩ χk (fun z z1 z2 => χo z z2 (by omega)) u2
      have hx1 : nth (List.replicate 10 (0 : Int)) q = 0 := by
        unfold nth
        rw [List.getD_eq_getElem?_getD, List.getElem?_replicate, if_pos hq10]
        rfl
      have hMA3 := MA.add (cn' := fun k => if k < j + 1 then some (cntL (Y ++ [y]) k) else cnY Y k) hMA2 hjl (l := List.replicate 10 (0 : Int)) (by show (if j = j then _ else _) = _; rw [if_pos rfl]) (q := q) (x := w64 (nth (List.replicate 10 (0 : Int)) q + 1)) (by show (if j < j + 1 then _ else _) = _; rw [if_pos (by omega), cntL_snoc hq hq10, hY0, cntL_nil]) fun k hk => by
        show (if k < j + 1 then _ else _) = if k = j then _ else if k < j then _ else _
        rw [if_neg hk]
        by_cases e : k < j
        · rw [if_pos e, if_pos (by omega)]
        · rw [if_neg e, if_neg (by omega)]
      rw [upF_same, hx1, List.map_set] at hMA3
      have hO2 : ∀ ob, Only [P + 1] ω (χ.set ω.next ob) := fun ob => ⟨by show χ.lim = _; omega, by show _ ≤ χ.next; omega, fun z z1 z2 => by rw [AH.get_set_other _ _ _ _ (by omega)]; exact χo z z1 (by simpa using z2)⟩
      generalize hcz : (List.replicate 10 (0 : Int)).map (AV.int .i64) = cz at *
      simp (disch := omega) [Und, ahop_mapUpd, u1, χl, χP, χ2, χv, χL, d1, d2, d3, d4, d5, hyl, hri, hri2, hrl, r1, hrlL, q1, q2, eP, ahop_lookup, hlk2, isNil, χk, hcq, hcq2, hll, x7, χ1, -Bool.exists_bool]
      exact ⟨by omega, by omega, by omega, by omega, r - 1, by omega, j + 1, by omega, by omega, hω.trans (.of (hO2 _)), es', rfl, _, hMA3⟩
    · rw [n2] at hlk
      have hKf : f j < ω.next := AH.get_lt n4
      have hcq : (l.map (AV.int .i64))[q]? = some (.int .i64 (nth l q)) := by
        rw [List.getElem?_map, List.getElem?_eq_getElem (by omega), ← nthE (by omega)]; rfl
      have hcq2 : ∀ h : q < (l.map (AV.int .i64)).length, (l.map (AV.int .i64))[q] = .int .i64 (nth l q) := fun h => (List.getElem?_eq_some_iff.1 hcq).2
      have hll : (l.map (AV.int .i64)).length = 10 := by rw [List.length_map]; exact n5
      have x7 : ¬ P + 1 = f j := by omega
      simp (disch := omega) [Und, hjl, ωl, ωv, ωP, ω2, ωL, b1, b2, b3, b4, hyl, hri, hri2, hrl, r1, hrlL, q1, q2, eP, ahop_lookup, hlk, isNil, n4, hKf, hcq, hcq2, hll, x7, ω1, -Bool.exists_bool]
      have hl2 : cnY Y j = some l := by simpa using n1
      have hl3 : l = cntL Y j := by
        unfold cnY at hl2
        split at hl2
        · cases hl2
        · exact (Option.some.inj hl2).symm
      refine ⟨by omega, by omega, by omega, by omega, by omega, r - 1, by omega, j + 1, by omega, by omega, hω.trans (.set10 n4 hll _), es, rfl, f, ?_⟩
      have := MA.add (cn' := fun k => if k < j + 1 then some (cntL (Y ++ [y]) k) else cnY Y k) hMA hjl n1 (q := q) (x := w64 (nth l q + 1)) (by show (if j < j + 1 then _ else _) = _; rw [if_pos (by omega), cntL_snoc hq hq10, hl3]) fun k hk => by
        show (if k < j + 1 then _ else _) = if k < j then _ else _
        by_cases e : k < j
        · rw [if_pos e, if_pos (by omega)]
        · rw [if_neg e, if_neg (by omega)]
      rw [List.map_set] at this
      exact this
  · obtain rfl : j = L.length := by omega
    simp (disch := omega) [Und, -Bool.exists_bool]
    have ω6 : ω.get (P + 6) = some (.loop 9 0 (envA P) .busy none (P + 5)) := (hω.get _ (by have := AH.get_lt β6; exact this) (by simp) fun cs e => by rw [β6] at e; cases e).trans β6
    refine bd_normal (f := 9) (i := 0) (env := envA P) (st := .busy) (pd := none) (d := P + 5) ω6 ⟨rfl, ⟨?_, ?_, fun z hz hs hc => ?_⟩, ?_⟩
    · show ω.lim = σ.lim; omega
    · show σ.next ≤ ω.next; omega
    · simp at hs
      rw [AH.get_set_other _ _ _ _ (by omega)]
      have e := βo z (by omega) (by omega)
      exact (hω.get z (by omega) (by simp; omega) fun cs e2 => hc cs (e ▸ e2)).trans e
    · have hs : ∀ z, z ≠ P + 6 → (ω.set (P + 6) (.loop 9 0 (envA P) .ready none (P + 5))).get z = ω.get z := fun z hz => AH.get_set_other _ _ _ _ hz
      refine ⟨by show ω.lim = 0; omega, by show P + 7 ≤ ω.next; omega, ?_, ?_, ?_, ?_, h.low, ⟨es, c, f, ?_, ?_⟩, ?_⟩
      · rw [hs _ (by omega), List.length_append, List.length_singleton]
        exact hω.few hCC β3 (by simp) (by simp)
      · rw [hs _ (by omega)]; exact ω2
      · rw [hs _ (by omega)]; exact ωP
      · rcases βL with ⟨e1, e2⟩ | ⟨oL, e1, e2, e3⟩
        · exact .inl ⟨e1, e2⟩
        · have hlo2 := h.low oL (by rw [e1]; simp [obj])
          exact .inr ⟨oL, e1, by rw [hs _ (by omega)]; exact hω.few hCC e2 (by rw [rowOf_length encP]; omega) (by simp; omega), e3⟩
      · rw [hs _ (by omega)]; exact ω1
      · have : MA L P f (cnY (Y ++ [y])) es ω := by
          refine ⟨fun a b ha hb h1 h2 e => hMA.1 a b ha hb (by show (if a < L.length then _ else _ : Option (List Int)).isSome = true; rw [if_pos ha]; rfl) (by show (if b < L.length then _ else _ : Option (List Int)).isSome = true; rw [if_pos hb]; rfl) e, fun k hk => ?_⟩
          rcases hMA.2 k hk with ⟨h1, _⟩ | ⟨l, h1, h2⟩
          · have h1 : (if k < L.length then some (cntL (Y ++ [y]) k) else cnY Y k) = none := h1
            rw [if_pos hk] at h1; cases h1
          · have h1 : (if k < L.length then some (cntL (Y ++ [y]) k) else cnY Y k) = some l := h1
            rw [if_pos hk] at h1
            refine .inr ⟨l, ?_, h2⟩
            unfold cnY
            rw [if_neg (by simp)]
            exact h1
        exact this.keep fun z z1 z2 => hs z (by omega)
      · exact AH.get_set_same _ _ _ (by show P + 6 < ω.next; omega)
end Go.Oct.Log
