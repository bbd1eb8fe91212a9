/- Nets: seconds are sent along, walked. -/
import Derived.Test.YtddkghgfbhhcdaaOTriFloA
set_option maxRecDepth 100000
set_option maxHeartbeats 4000000
set_option linter.unusedVariables false
set_option linter.unusedSimpArgs false
namespace Go.Oct.Tri
open Go.Oct
section
variable {T : Int} {nC : Bool} {C : List Bool} {aA : AV} {E : List Ed} {n i : Nat} {L : List Int}
/-- What a call that says how much a place wants is to do. -/
structure Goal (gf : Nat) (gys : List AV) (g : Nat → Int) (P : Option Nat → AH → Prop) (B n i go : Nat) : Prop where
  pl : pl.contains gf = true
  nn : go ≠ n
  lt : go < B
  ni : go ≠ i
  keep : ∀ o σ σ', P o σ → σ'.lim = σ.lim → σ.next ≤ σ'.next → (∀ k, k < B → k ≠ i → σ'.get k = σ.get k) → P o σ'
  no : ∀ σ p K, P none σ → B ≤ σ.next → p < 17 → g p ≤ 0 → (∀ σ', Only [] σ σ' → K (.int .i64 (g p)) σ') → Call prog O (.fn gf) (.int .i64 p :: gys) σ K
  yes : ∀ σ p K, P none σ → B ≤ σ.next → p < 17 → 0 < g p → (∀ σ', Only [go] σ σ' → P (some p) σ' → K (.int .i64 (g p)) σ') → Call prog O (.fn gf) (.int .i64 p :: gys) σ K
/-- How things stand while seconds are sent along. -/
structure AJ (T : Int) (nC : Bool) (C : List Bool) (aA : AV) (E : List Ed) (n i : Nat) (L : List Int) (gf : Nat) (gys : List AV) (b : Int) (R : List Bool) (F : List Int) (B : Nat) (D : List Bool) (h : List Int) (σ : AH) : Prop where
  net : NetI T nC C aA E n i h L σ
  next : B + 6 ≤ σ.next
  nB : n < B
  iB : i < B
  nb : σ.get B = some (.cells [.ptr (some (n, 0))])
  bb : σ.get (B + 1) = some (.cells [.int .i64 b])
  rb : σ.get (B + 2) = some (.cells (rC R F))
  gb : σ.get (B + 3) = some (.cells [.func (.func gf) [] gys])
  db : σ.get (B + 4) = some (.cells (bC D))
  ab : σ.get (B + 5) = some (.cells [.func (.func 131) [] [.ptr (some (B + 3, 0)), .ptr (some (B, 0)), .ptr (some (B + 1, 0)), .ptr (some (B + 4, 0)), .ptr (some (B + 2, 0)), .ptr (some (B + 5, 0))]])
  dl : D.length = 17
  rl : R.length = 17
  fl : F.length = 17
theorem AJ.keep {gf : Nat} {gys : List AV} {b : Int} {R : List Bool} {F : List Int} {B : Nat} {D : List Bool} {h : List Int} {σ σ' : AH} (hj : AJ T nC C aA E n i L gf gys b R F B D h σ) (hl : σ'.lim = σ.lim) (hx : σ.next ≤ σ'.next) (hg : ∀ k, (k = n ∨ k = i ∨ B ≤ k ∧ k < B + 6) → σ'.get k = σ.get k) : AJ T nC C aA E n i L gf gys b R F B D h σ' := by
  obtain ⟨h1, h2, h3, h4, h5, h6, h7, h8, h9, h10, h11, h12, h13⟩ := hj
  exact ⟨h1.stay hl (hg _ (by omega)) (hg _ (by omega)), by omega, h3, h4, (hg _ (by omega)).trans h5, (hg _ (by omega)).trans h6, (hg _ (by omega)).trans h7, (hg _ (by omega)).trans h8, (hg _ (by omega)).trans h9, (hg _ (by omega)).trans h10, h11, h12, h13⟩
/-- What a call of along leaves. -/
structure AEnd (T : Int) (nC : Bool) (C : List Bool) (aA : AV) (E : List Ed) (n i : Nat) (L : List Int) (gf : Nat) (gys : List AV) (b : Int) (R : List Bool) (F : List Int) (B go : Nat) (g : Nat → Int) (P : Option Nat → AH → Prop) (h : List Int) (p : Nat) (most : Int) (σ : AH) (D' : List Bool) (h' : List Int) (ps : Nat) (w : Int) (σ' : AH) : Prop where
  aj : AJ T nC C aA E n i L gf gys b R F B D' h' σ'
  at' : P (some ps) σ'
  sent : Sent E b F g h h' p ps w
  most : w ≤ most
  touch : Touch (B + 6) σ σ'
  old : ∀ k, k < B → k ≠ i → k ≠ go → σ'.get k = σ.get k
structure ANone (T : Int) (nC : Bool) (C : List Bool) (aA : AV) (E : List Ed) (n i : Nat) (L : List Int) (gf : Nat) (gys : List AV) (b : Int) (R : List Bool) (F : List Int) (B : Nat) (g : Nat → Int) (P : Option Nat → AH → Prop) (h : List Int) (p : Nat) (D : List Bool) (σ : AH) (D' : List Bool) (σ' : AH) : Prop where
  aj : AJ T nC C aA E n i L gf gys b R F B D' h σ'
  at' : P none σ'
  dead : Dead E h b F g D'
  sub : ∀ x, nth D x = true → nth D' x = true
  own : nth D' p = true
  touch : Touch (B + 6) σ σ'
  old : ∀ k, k < B → σ'.get k = σ.get k
/-- The steps from a place, while seconds are sent along. -/
structure BY (T : Int) (nC : Bool) (C : List Bool) (aA : AV) (E : List Ed) (n i : Nat) (L : List Int) (gf : Nat) (gys : List AV) (b : Int) (R : List Bool) (F : List Int) (B : Nat) (g : Nat → Int) (P : Option Nat → AH → Prop) (h : List Int) (p : Nat) (most : Int) (D : List Bool) (n0 n1 : Nat) (σ0 : AH) (env : Env) (m : Nat) (σ : AH) : Prop where
  mid : ∃ D', AJ T nC C aA E n i L gf gys b R F B D' h σ ∧ Dead E h b F g D' ∧ (∀ x, nth D x = true → nth D' x = true) ∧ ∀ q j w, j < m → Stp E h b p q j w → nth F q = nth F p + 1 → nth D' q = true
  at' : P none σ
  next : n1 + 5 ≤ σ.next
  low : ∀ k, k < n0 → (B + 6 ≤ k ∨ k < B) → σ.get k = σ0.get k
  c1 : σ.get n0 = some (.cells [.int .i64 p])
  c2 : σ.get (n0 + 1) = some (.cells [.int .i64 most])
  c3 : σ.get (n0 + 2) = some (.cells [.int .i64 0])
  b1 : σ.get n1 = some (.cells [.ptr (some (n, 0))])
  b3 : σ.get (n1 + 1) = some (.cells [.int .i64 p])
  b2 : σ.get (n1 + 2) = some (.cells [.int .i64 b])
  mark : σ.get (n1 + 3) = some .dfr
  loop : σ.get (n1 + 4) = some (.loop 131 0 env .ready none (n1 + 3))
theorem along_call (hE : okE E) {gf : Nat} {gys : List AV} {g : Nat → Int} {P : Option Nat → AH → Prop} {B go : Nat} (hg : Goal gf gys g P B n i go) {b : Int} {R : List Bool} {F : List Int} (hF : ∀ q, q < 17 → 0 ≤ nth F q ∧ nth F q ≤ 17) {h : List Int} :
    ∀ (d p : Nat) (most : Int) (D : List Bool) (σ : AH) (K : AV → AH → Prop), p < 17 → 18 ≤ nth F p + d → 0 < most → most ≤ 1000000000 → AJ T nC C aA E n i L gf gys b R F B D h σ → P none σ → Dead E h b F g D →
      (∀ σ' D', ANone T nC C aA E n i L gf gys b R F B g P h p D σ D' σ' → K (.int .i64 0) σ') →
      (∀ σ' D' h' ps w, AEnd T nC C aA E n i L gf gys b R F B go g P h p most σ D' h' ps w σ' → K (.int .i64 w) σ') →
      Call prog O (.fn 131) [.int .i64 p, .int .i64 most, .ptr (some (B + 3, 0)), .ptr (some (B, 0)), .ptr (some (B + 1, 0)), .ptr (some (B + 4, 0)), .ptr (some (B + 2, 0)), .ptr (some (B + 5, 0))] σ K := by
  intro d
  induction d with
  | zero => intro p most D σ K hp hd; have := hF p hp; omega
  | succ d ih =>
    intro p most D σ K hp hd hm1 hm2 haj hP hD hk0 hk1
    refine @call_of' _ _ pl _ _ _ _ _ _ _ ⟨K⟩ get131 ((oo (by decide)).2 _) rfl ?_
    have haj0 := haj
    obtain ⟨h1, h2, h3, h4, h5, h6, h7, h8, h9, h10, h11, h12, h13⟩ := haj
    have hl0 := h1.lim
    have hgp := hg.pl
    simp at hgp
    simp (disch := omega) [eqf1, eqf2, hl0, h8, hgp, -Bool.exists_bool]
    generalize hσ1 : AH.push _ (.cells [Oct.L.z 0]) = σ1
    have a0 : σ1.lim = 0 := by rw [← hσ1]; exact hl0
    have an : σ1.next = σ.next + 3 := by rw [← hσ1]; rfl
    have ag : ∀ k, k < σ.next → σ1.get k = σ.get k := fun k hk => by rw [← hσ1]; simp (disch := omega) [eqf1, eqf2]
    have a1 : σ1.get σ.next = some (.cells [.int .i64 p]) := by rw [← hσ1]; simp (disch := omega) [eqf1, eqf2]
    have a2 : σ1.get (σ.next + 1) = some (.cells [.int .i64 most]) := by rw [← hσ1]; simp (disch := omega) [eqf1, eqf2]
    have a3 : σ1.get (σ.next + 2) = some (.cells [.int .i64 0]) := by rw [← hσ1]; simp (disch := omega) [eqf1, eqf2]
    have hP1 : P none σ1 := hg.keep none σ σ1 hP (a0.trans hl0.symm) (by omega) fun k hk _ => ag k (by omega)
    by_cases hgo : 0 < g p
    · refine hg.yes σ1 p _ hP1 (by omega) hp hgo fun σ2 ho hP2 => ?_
      have b0 : σ2.lim = 0 := ho.lim.trans a0
      have bn := ho.next
      have bg : ∀ k, k < σ1.next → k ≠ go → σ2.get k = σ1.get k := fun k hk hne => ho.get k hk (by simpa using hne)
      have glt := hg.lt
      have b1 : σ2.get σ.next = _ := (bg _ (by omega) (by omega)).trans a1
      have b2 : σ2.get (σ.next + 1) = _ := (bg _ (by omega) (by omega)).trans a2
      have b3 : σ2.get (σ.next + 2) = _ := (bg _ (by omega) (by omega)).trans a3
      have b4 := AH.get_lt b3
      simp (disch := omega) [Und, b0, b2, b3, b4, hgo, -Bool.exists_bool]
      have gn := hg.nn
      have gi := hg.ni
      have og : ∀ k, k ≠ go → k < σ.next → (σ2.set (σ.next + 1 + 1) (.cells [.int .i64 (min (g p) most)])).get k = σ.get k := fun k h1 h2 => by
        rw [AH.get_set_other _ _ _ _ (by omega), bg k (by omega) h1, ag k h2]
      refine hk1 _ D h p _ ⟨haj0.keep (b0.trans hl0.symm) (by simp; omega) fun k hk => og k (by omega) (by omega), hg.keep _ _ _ hP2 rfl (by simp) fun k hk _ => AH.get_set_other _ _ _ _ (by omega), sent_here h1.bd (by omega) (by omega) hp, by omega, ⟨b0.trans hl0.symm, by simp; omega, fun k h1 h2 => og k (by omega) h2⟩, fun k h1 h2 h3 => og k h3 (by omega)⟩
    · refine hg.no σ1 p _ hP1 (by omega) hp (by omega) fun σ2 ho => ?_
      have b0 : σ2.lim = 0 := ho.lim.trans a0
      have bn := ho.next
      have bg : ∀ k, k < σ1.next → σ2.get k = σ1.get k := fun k hk => ho.get k hk (by simp)
      have b1 : σ2.get σ.next = _ := (bg _ (by omega)).trans a1
      have b2 : σ2.get (σ.next + 1) = _ := (bg _ (by omega)).trans a2
      have b3 : σ2.get (σ.next + 2) = _ := (bg _ (by omega)).trans a3
      have bnb : σ2.get B = _ := (bg _ (by omega)).trans ((ag _ (by omega)).trans h5)
      have bbb : σ2.get (B + 1) = _ := (bg _ (by omega)).trans ((ag _ (by omega)).trans h6)
      simp (disch := omega) [Und, b0, b1, b2, b3, bnb, bbb, hgo, -Bool.exists_bool]
      refine steps_call ?_
      simp (disch := omega) [Und, -Bool.exists_bool]
      refine rg_of (h := 149) (xs := []) (ys := [.ptr (some (σ2.next, 0)), .ptr (some (σ2.next + 2, 0)), .ptr (some (σ2.next + 1, 0))]) rfl ?_
      generalize hυ1 : AH.push _ (.cells [.int .i64 b]) = υ1
      have w0 : υ1.lim = 0 := by rw [← hυ1]; exact b0
      have wn : υ1.next = σ2.next + 3 := by rw [← hυ1]; rfl
      have wg : ∀ k, k < σ2.next → υ1.get k = σ2.get k := fun k hk => by rw [← hυ1]; simp (disch := omega) [eqf1, eqf2]
      have wb1 : υ1.get σ2.next = some (.cells [.ptr (some (n, 0))]) := by rw [← hυ1]; simp (disch := omega) [eqf1, eqf2]
      have wb3 : υ1.get (σ2.next + 1) = some (.cells [.int .i64 p]) := by rw [← hυ1]; simp (disch := omega) [eqf1, eqf2]
      have wb2 : υ1.get (σ2.next + 2) = some (.cells [.int .i64 b]) := by rw [← hυ1]; simp (disch := omega) [eqf1, eqf2]
      show Call prog O (.fn 149) [.func (.yield (υ1.next + 1)) [] [], .ptr (some (σ2.next, 0)), .ptr (some (σ2.next + 2, 0)), .ptr (some (σ2.next + 1, 0))] _ _
      generalize henv : (List.cons _ _ : Env) = env
      rw [wn]
      have hbd := h1.bd
      refine steps1_ok (T := T) (nC := nC) (C := C) (aA := aA) (n := n) (i := i) (h := h) (L := L) hE (b1 := σ2.next) (b2 := σ2.next + 2) (b3 := σ2.next + 1) (lo := σ2.next + 5) (lm := 0) (b := b) (p := p)
        (I := fun m s => BY T nC C aA E n i L gf gys b R F B g P h p most D σ.next σ2.next σ env m s) (J := fun s => ∃ D' h' ps w, AJ T nC C aA E n i L gf gys b R F B D' h' s ∧ P (some ps) s ∧ Sent E b F g h h' p ps w ∧ w ≤ most ∧ σ2.next + 5 ≤ s.next ∧ (∀ k, k < σ.next → (B + 6 ≤ k ∨ k < B ∧ k ≠ i ∧ k ≠ go) → s.get k = σ.get k) ∧
          s.get (σ.next + 2) = some (.cells [.int .i64 w]) ∧ s.get (σ2.next + 3) = some .dfr ∧ s.get (σ2.next + 4) = some (.loop 131 0 env .done (some .ret) (σ2.next + 3)))
        (fun m s hI => ?_) (fun m s s' hI ho => ?_) (fun m s hI hm hno => ?_) (fun m s q w hI hm hs => ?_) ?_ (fun s hI => ?_) (fun s hj => ?_)
      · obtain ⟨⟨D', y0, _⟩, _, y1, y2, y3, y4, y5, y6, y7, y8, y9, y10⟩ := hI
        exact ⟨y0.net.r, y6, y8, y7, y1, by omega, by omega, by omega, y0.net.lim, by omega⟩
      · obtain ⟨⟨D', y0, z0, z1, z2⟩, yP, y1, y2, y3, y4, y5, y6, y7, y8, y9, y10⟩ := hI
        have og : ∀ k, k < s.next → s'.get k = s.get k := fun k hk => ho.get k hk (by simp)
        have hnx := ho.next
        have hny := y0.next
        exact ⟨⟨D', y0.keep ho.lim ho.next fun k hk => og k (by omega), z0, z1, z2⟩, hg.keep _ _ _ yP ho.lim ho.next fun k hk _ => og k (by omega), by omega, fun k h1 h2 => (og k (by omega)).trans (y2 k h1 h2), (og _ (by omega)).trans y3, (og _ (by omega)).trans y4, (og _ (by omega)).trans y5, (og _ (by omega)).trans y6, (og _ (by omega)).trans y7, (og _ (by omega)).trans y8, (og _ (by omega)).trans y9, (og _ (by omega)).trans y10⟩
      · obtain ⟨⟨D', y0, z0, z1, z2⟩, yP, y1, y2, y3, y4, y5, y6, y7, y8, y9, y10⟩ := hI
        refine ⟨⟨D', y0, z0, z1, fun q j w hj hs hf => ?_⟩, yP, y1, y2, y3, y4, y5, y6, y7, y8, y9, y10⟩
        by_cases e : j = m
        · subst e; exact absurd hs (hno q w)
        · exact z2 q j w (by omega) hs hf
      · obtain ⟨⟨D', y0, z0, z1, z2⟩, yP, y1, y2, y3, y4, y5, y6, y7, y8, y9, y10⟩ := hI
        obtain ⟨_, q17⟩ := stp_lt hE hs
        have yl := y0.net.lim
        refine yield_of' pl y10 get131 rfl rfl (by omega) rfl ?_
        subst henv
        simp (disch := omega) [yl, Und, -Bool.exists_bool]
        generalize hs1 : AH.set (s.push _) s.next _ = s1
        have x0 : s1.lim = 0 := by rw [← hs1]; exact yl
        have xn : s1.next = s.next + 1 := by rw [← hs1]; rfl
        have xg : ∀ k, k < s.next → s1.get k = s.get k := fun k hk => by rw [← hs1, AH.get_set_other _ _ _ _ (by omega), AH.get_push_old _ _ _ (by omega)]
        have xs : s1.get s.next = some (.cells [.int .i64 m, .int .i64 q, .int .i64 w]) := by rw [← hs1, AH.get_set_same _ _ _ (Nat.lt_succ_self _)]
        have x7 : s1.get (σ2.next + 3 + 1) = _ := (xg (σ2.next + 4) (by omega)).trans y10
        rw [ak_of x7]
        have r5 := AH.get_lt x7
        generalize hob : AObj.loop _ _ _ LoopState.busy none (σ2.next + 3) = ob
        generalize hs2 : s1.set (σ2.next + 3 + 1) ob = s2
        have t0' : s2.lim = 0 := by rw [← hs2]; exact x0
        have tn' : s2.next = s1.next := by rw [← hs2]; rfl
        have tg' : ∀ k, k ≠ σ2.next + 4 → s2.get k = s1.get k := fun k hk => by rw [← hs2, AH.get_set_other _ _ _ _ hk]
        have t7' : s2.get (σ2.next + 3 + 1) = some ob := by rw [← hs2, AH.get_set_same _ _ _ r5]
        rw [← hob] at t7'
        have tall : ∀ k, k < s.next → k ≠ σ2.next + 4 → s2.get k = s.get k := fun k h1 h2 => (tg' k h2).trans (xg k h1)
        have ynx := y0.next
        have hp17 : (p : Int) < 17 := by omega
        have hq17 : (q : Int) < 17 := by omega
        have q16 : q ≤ 16 := by omega
        have p16 : p ≤ 16 := by omega
        have tB : s2.get B = _ := (tall B (by omega) (by omega)).trans y0.nb
        have tR : s2.get (B + 2) = _ := (tall _ (by omega) (by omega)).trans y0.rb
        have tD : s2.get (B + 4) = _ := (tall _ (by omega) (by omega)).trans y0.db
        have tA : s2.get (B + 5) = _ := (tall _ (by omega) (by omega)).trans y0.ab
        have tc1 : s2.get σ.next = _ := (tall _ (by omega) (by omega)).trans y3
        have tc2 : s2.get (σ.next + 1) = _ := (tall _ (by omega) (by omega)).trans y4
        have ts' : s2.get s.next = _ := (tg' s.next (by omega)).trans xs
        have hDl := bC_len y0.dl
        have hDq := bC_get y0.dl q17
        have hRl := rC_len h12 h13
        have hRq := rC_far h12 h13 q17
        have hRp := rC_far h12 h13 hp
        have l17q : 17 + q + 1 ≤ 34 := by omega
        have l17p : 17 + p + 1 ≤ 34 := by omega
        have hFp := hF p hp
        have hFq := hF q q17
        have yaj : AJ T nC C aA E n i L gf gys b R F B D' h s2 := y0.keep (t0'.trans yl.symm) (by omega) fun k hk => tall k (by omega) (by omega)
        have yP2 : P none s2 := hg.keep none s s2 yP (t0'.trans yl.symm) (by omega) fun k hk _ => tall k (by omega) (by omega)
        generalize henv : (List.cons _ _ : Env) = env at hob t7' ⊢
        have mk : ∀ (D'' : List Bool) (s' : AH), AJ T nC C aA E n i L gf gys b R F B D'' h s' → Dead E h b F g D'' → (∀ x, nth D' x = true → nth D'' x = true) → (nth F q = nth F p + 1 → nth D'' q = true) → P none s' → s'.lim = s.lim → s.next ≤ s'.next → (∀ k, (B + 6 ≤ k ∨ k < B) → k < s.next → k ≠ σ2.next + 4 → s'.get k = s.get k) →
            s'.get (σ2.next + 4) = some (.loop 131 0 env .ready none (σ2.next + 3)) → BY T nC C aA E n i L gf gys b R F B g P h p most D σ.next σ2.next σ env (m + 1) s' ∧ Touch (σ2.next + 5) s s' := fun D'' s' k1 k2 k3 k4 k5 k6 k7 k8 k9 => by
          refine ⟨⟨⟨D'', k1, k2, fun x hx => k3 x (z1 x hx), fun q' j w' hj hs' hf' => ?_⟩, k5, by omega, fun k h1 h2 => (k8 k h2 (by omega) (by omega)).trans (y2 k h1 h2), (k8 _ (by omega) (by omega) (by omega)).trans y3, (k8 _ (by omega) (by omega) (by omega)).trans y4, (k8 _ (by omega) (by omega) (by omega)).trans y5, (k8 _ (by omega) (by omega) (by omega)).trans y6, (k8 _ (by omega) (by omega) (by omega)).trans y7, (k8 _ (by omega) (by omega) (by omega)).trans y8, (k8 _ (by omega) (by omega) (by omega)).trans y9, k9⟩, ⟨k6, k7, fun k h1 h2 => k8 k (by omega) h2 (by omega)⟩⟩
          by_cases e : j = m
          · subst e
            obtain ⟨rfl, _⟩ := stp_same hE hs' hs
            exact k4 hf'
          · exact k3 q' (z2 q' j w' (by omega) hs' hf')
        have again : (nth F q = nth F p + 1 → nth D' q = true) → BY T nC C aA E n i L gf gys b R F B g P h p most D σ.next σ2.next σ env (m + 1) (s2.set (σ2.next + 3 + 1) (.loop 131 0 env .ready none (σ2.next + 3))) ∧ Touch (σ2.next + 5) s (s2.set (σ2.next + 3 + 1) (.loop 131 0 env .ready none (σ2.next + 3))) := fun hx =>
          mk D' _ (yaj.keep rfl (by simp) fun k hk => AH.get_set_other _ _ _ _ (by omega)) z0 (fun _ h => h) hx (hg.keep none _ _ yP2 rfl (by simp) fun k hk _ => AH.get_set_other _ _ _ _ (by omega)) (t0'.trans yl.symm) (by simp; omega) (fun k h1 h2 h3 => by rw [AH.get_set_other _ _ _ _ (by omega)]; exact tall k h2 h3) (AH.get_set_same _ _ _ (by omega))
        cases hDD : nth D' q with
        | true =>
          rw [hDD] at hDq
          simp (disch := omega) [eqf1, eqf2, t0', tB, tR, tD, tA, tc1, tc2, ts', hp17, hq17, p16, q16, hDl, hDq, hRl, hRp, hRq, l17p, l17q, Und, -Bool.exists_bool, -getElem?_pos]
          exact bd_normal t7' (.inl ⟨rfl, again fun _ => hDD⟩)
        | false =>
          rw [hDD] at hDq
          by_cases hff : nth F q = nth F p + 1
          · simp (disch := omega) [eqf1, eqf2, t0', tB, tR, tD, tA, tc1, tc2, ts', hp17, hq17, p16, q16, hDl, hDq, hRl, hRp, hRq, l17p, l17q, hff, Und, -Bool.exists_bool, -getElem?_pos]
            have hmw : 0 < min most w := by have := hs.2.2.1; omega
            refine ih q (min most w) D' s2 _ q17 (by omega) hmw (by omega) yaj yP2 z0 (fun σ3 D3 hn3 => ?_) (fun σ3 D3 h' ps w' he3 => ?_)
            · obtain ⟨n1, n2, n3, n4, n5, n6, nold⟩ := hn3
              have k7 : σ3.get (σ2.next + 3 + 1) = _ := (n6.get (σ2.next + 4) (by omega) (by omega)).trans t7'
              simp (disch := omega) [Und, -Bool.exists_bool]
              have n7 := n6.next
              have n8 := n1.next
              refine bd_normal k7 (.inl ⟨rfl, mk D3 _ (n1.keep rfl (by simp) fun k hk => AH.get_set_other _ _ _ _ (by omega)) n3 n4 (fun _ => n5) (hg.keep none _ _ n2 rfl (by simp) fun k hk _ => AH.get_set_other _ _ _ _ (by omega)) (n6.lim.trans (t0'.trans yl.symm)) (by simp; omega) (fun k h1 h2 h3 => ?_) (AH.get_set_same _ _ _ (AH.get_lt k7))⟩)
              rw [AH.get_set_other _ _ _ _ (by omega)]
              rcases h1 with h1 | h1
              · rw [n6.get k h1 (by omega), tall k h2 h3]
              · rw [nold k h1, tall k h2 h3]
            · obtain ⟨n1, n2, n3, n4, n6, nold⟩ := he3
              have k7 : σ3.get (σ2.next + 3 + 1) = _ := (n6.get (σ2.next + 4) (by omega) (by omega)).trans t7'
              have n7 := n6.next
              have n8 := n1.next
              have n0 := n1.net.lim
              obtain ⟨hm', hsn⟩ := sent_step hE hs hff (show w' ≤ w by omega) n3 hbd
              have hpos := n3.pos
              have hl' := n1.net.bd.1
              have gN := n1.net.net
              have gA := n1.net.ang
              have gB := n1.nb
              have lA := AH.get_lt gA
              obtain ⟨r1, r2, r3, r4, r5'⟩ := gRow_get hl' hm
              have rl' := gRow_len E h' hl'
              have rs := fun y => gRow_set E h' m y hl' hm
              have nl := netC_len (T := T) (nC := nC) (C := C) (aA := aA) (i := i) (m := E.length) (L := L)
              have hll := n1.net.ll
              have hbm := n1.net.bd.2 m hm
              obtain ⟨e1, e2, e3, e4, e5, e6⟩ := hE.2 m hm
              have hE24 := hE.1
              have gc1 : σ3.get σ.next = _ := (n6.get σ.next (by omega) (by omega)).trans tc1
              have gc3 : σ3.get (σ.next + 2) = _ := (n6.get (σ.next + 2) (by omega) (by omega)).trans ((tall _ (by omega) (by omega)).trans y5)
              have lc3 := AH.get_lt gc3
              have gcs : σ3.get s.next = _ := (n6.get s.next (by omega) (by omega)).trans ts'
              have hmE : (m : Int) < E.length := by omega
              have i5 : m * 5 + 5 ≤ E.length * 5 := by omega
              have i1 : m * 5 + 1 ≤ E.length * 5 := by omega
              have i3 : m * 5 + 2 + 1 ≤ E.length * 5 := by omega
              have hw0 : ¬ w' = 0 := by omega
              have iB := n1.iB
              have i4 : ¬ i = σ.next + 1 + 1 := by omega
              have fin : ∀ (h'' : List Int) (s' : AH), h'' = h'.set m (if (nth E m).u = p then nth h' m + w' else nth h' m - w') → s'.get i = some (.cells (gRow E h'')) → s'.get (σ.next + 2) = some (.cells [.int .i64 w']) → (∀ k, k ≠ i → k ≠ σ.next + 2 → k ≠ σ2.next + 4 → s'.get k = σ3.get k) → s'.lim = σ3.lim → s'.next = σ3.next → s'.get (σ2.next + 4) = some (.loop 131 0 env .done (some .ret) (σ2.next + 3)) →
                  ∃ D' h' ps w, AJ T nC C aA E n i L gf gys b R F B D' h' s' ∧ P (some ps) s' ∧ Sent E b F g h h' p ps w ∧ w ≤ most ∧ σ2.next + 5 ≤ s'.next ∧ (∀ k, k < σ.next → (B + 6 ≤ k ∨ k < B ∧ k ≠ i ∧ k ≠ go) → s'.get k = σ.get k) ∧
                    s'.get (σ.next + 2) = some (.cells [.int .i64 w]) ∧ s'.get (σ2.next + 3) = some .dfr ∧ s'.get (σ2.next + 4) = some (.loop 131 0 env .done (some .ret) (σ2.next + 3)) := fun h'' s' q0 q1 q2 q3 q4 q5 q6 => by
                subst q0
                obtain ⟨⟨v1, v2, v3, v4, v5, v6⟩, u2, u3, u4, u5, u6, u7, u8, u9, u10, u11, u12, u13⟩ := n1
                refine ⟨D3, _, ps, w', ⟨⟨q4.trans v1, (q3 n (by omega) (by omega) (by omega)).trans v2, q1, v4, v5, hsn.bd⟩, by omega, u3, u4, (q3 _ (by omega) (by omega) (by omega)).trans u5, (q3 _ (by omega) (by omega) (by omega)).trans u6, (q3 _ (by omega) (by omega) (by omega)).trans u7, (q3 _ (by omega) (by omega) (by omega)).trans u8, (q3 _ (by omega) (by omega) (by omega)).trans u9, (q3 _ (by omega) (by omega) (by omega)).trans u10, u11, u12, u13⟩,
                  hg.keep _ _ _ n2 q4 (by omega) (fun k hk hne => q3 k hne (by omega) (by omega)), hsn, by omega, by omega, fun k h1 h2 => ?_, q2, ?_, q6⟩
                · rcases h2 with h2 | ⟨h2, h3, h4⟩
                  · rw [q3 k (by omega) (by omega) (by omega), n6.get k h2 (by omega), tall k (by omega) (by omega), y2 k h1 (.inl h2)]
                  · rw [q3 k h3 (by omega) (by omega), nold k h2 h3 h4, tall k (by omega) (by omega), y2 k h1 (.inr h2)]
                · rw [q3 _ (by omega) (by omega) (by omega), n6.get _ (by omega) (by omega), tall _ (by omega) (by omega)]; exact y9
              by_cases hu : (nth E m).u = p
              · have hu' : ((nth E m).u : Int) = p := by omega
                simp (disch := omega) [eqf1, eqf2, n0, gN, gA, gB, gc1, gc3, gcs, lA, lc3, r1, r3, rl', rs, nl, hll, hmE, i5, i1, i3, i4, hw0, eq_true hu', Und, -Bool.exists_bool, -getElem?_pos]
                generalize hσ4 : AH.set (σ3.set i _) (σ.next + 1 + 1) _ = σ4
                have v0 : σ4.lim = σ3.lim := by rw [← hσ4]; rfl
                have vn : σ4.next = σ3.next := by rw [← hσ4]; rfl
                have vg : ∀ k, k ≠ i → k ≠ σ.next + 2 → σ4.get k = σ3.get k := fun k h1 h2 => by rw [← hσ4, AH.get_set_other _ _ _ _ h2, AH.get_set_other _ _ _ _ h1]
                have vi : σ4.get i = some (.cells (gRow E (h'.set m (nth h' m + w')))) := by rw [← hσ4, AH.get_set_other _ _ _ _ i4, AH.get_set_same _ _ _ lA]
                have vc : σ4.get (σ.next + 2) = some (.cells [.int .i64 w']) := by rw [← hσ4]; exact AH.get_set_same _ _ _ lc3
                have vl : σ4.get (σ2.next + 3 + 1) = _ := (vg (σ2.next + 4) (by omega) (by omega)).trans k7
                obtain ⟨x1, x2, x3, x4, z1, z2, z3, z4, z5, z6, z7, z8, z9⟩ := fin _ (σ4.set (σ2.next + 3 + 1) (.loop 131 0 env .done (some .ret) (σ2.next + 3))) rfl (by rw [if_pos hu, AH.get_set_other _ _ _ _ (by omega)]; exact vi) (by rw [AH.get_set_other _ _ _ _ (by omega)]; exact vc) (fun k h1 h2 h3 => by rw [AH.get_set_other _ _ _ _ h3]; exact vg k h1 h2) v0 vn (AH.get_set_same _ _ _ (AH.get_lt vl))
                exact bd_ret vl (.inr ⟨rfl, x1, x2, z1, x3, z2, x4, z3, z4, z5, z6, z7, z8, z9⟩)
              · have hu' : ¬ ((nth E m).u : Int) = p := by omega
                simp (disch := omega) [eqf1, eqf2, n0, gN, gA, gB, gc1, gc3, gcs, lA, lc3, r1, r3, rl', rs, nl, hll, hmE, i5, i1, i3, i4, hw0, hu', Und, -Bool.exists_bool, -getElem?_pos]
                generalize hσ4 : AH.set (σ3.set i _) (σ.next + 1 + 1) _ = σ4
                have v0 : σ4.lim = σ3.lim := by rw [← hσ4]; rfl
                have vn : σ4.next = σ3.next := by rw [← hσ4]; rfl
                have vg : ∀ k, k ≠ i → k ≠ σ.next + 2 → σ4.get k = σ3.get k := fun k h1 h2 => by rw [← hσ4, AH.get_set_other _ _ _ _ h2, AH.get_set_other _ _ _ _ h1]
                have vi : σ4.get i = some (.cells (gRow E (h'.set m (nth h' m - w')))) := by rw [← hσ4, AH.get_set_other _ _ _ _ i4, AH.get_set_same _ _ _ lA]
                have vc : σ4.get (σ.next + 2) = some (.cells [.int .i64 w']) := by rw [← hσ4]; exact AH.get_set_same _ _ _ lc3
                have vl : σ4.get (σ2.next + 3 + 1) = _ := (vg (σ2.next + 4) (by omega) (by omega)).trans k7
                obtain ⟨x1, x2, x3, x4, z1, z2, z3, z4, z5, z6, z7, z8, z9⟩ := fin _ (σ4.set (σ2.next + 3 + 1) (.loop 131 0 env .done (some .ret) (σ2.next + 3))) rfl (by rw [if_neg hu, AH.get_set_other _ _ _ _ (by omega)]; exact vi) (by rw [AH.get_set_other _ _ _ _ (by omega)]; exact vc) (fun k h1 h2 h3 => by rw [AH.get_set_other _ _ _ _ h3]; exact vg k h1 h2) v0 vn (AH.get_set_same _ _ _ (AH.get_lt vl))
                exact bd_ret vl (.inr ⟨rfl, x1, x2, z1, x3, z2, x4, z3, z4, z5, z6, z7, z8, z9⟩)
          · have hff1 : ¬ nth F q = w64 (nth F p + 1) := by rw [w64_id _ (by omega) (by omega)]; exact hff
            simp (disch := omega) [eqf1, eqf2, t0', tB, tR, tD, tA, tc1, tc2, ts', hp17, hq17, p16, q16, hDl, hDq, hRl, hRp, hRq, l17p, l17q, hff, hff1, Und, -Bool.exists_bool, -getElem?_pos]
            exact bd_normal t7' (.inl ⟨rfl, again fun h => absurd h hff⟩)
      · refine ⟨⟨D, ?_, hD, fun _ h => h, fun q j w hj => by omega⟩, ?_, by simp [wn], fun k h1 h2 => ?_, ?_, ?_, ?_, ?_, ?_, ?_, ?_, ?_⟩
        · refine haj0.keep (w0.trans hl0.symm) (by simp [wn]; omega) fun k hk => ?_
          simp (disch := omega) [eqf1, eqf2, wn, wg k (by omega), bg k (by omega), ag k (by omega)]
        · refine hg.keep none _ _ hP1 (w0.trans a0.symm) (by simp [wn]; omega) fun k hk _ => ?_
          simp (disch := omega) [eqf1, eqf2, wn, wg k (by omega), bg k (by omega)]
        · simp (disch := omega) [eqf1, eqf2, wn, wg k (by omega), bg k (by omega), ag k (by omega)]
        · simp (disch := omega) [eqf1, eqf2, wn, wg σ.next (by omega), b1]
        · simp (disch := omega) [eqf1, eqf2, wn, wg (σ.next + 1) (by omega), b2]
        · simp (disch := omega) [eqf1, eqf2, wn, wg (σ.next + 2) (by omega), b3]
        · simp (disch := omega) [eqf1, eqf2, wn, wb1]
        · simp (disch := omega) [eqf1, eqf2, wn, wb3]
        · simp (disch := omega) [eqf1, eqf2, wn, wb2]
        · simp (disch := omega) [eqf1, eqf2, wn]
        · simp (disch := omega) [eqf1, eqf2, wn]
      · obtain ⟨⟨D', y0, z0, z1, z2⟩, yP, y1, y2, y3, y4, y5, y6, y7, y8, y9, y10⟩ := hI
        have yl := y0.net.lim
        refine ⟨_, _, _, _, _, _, y10, by simp, by rw [yl]; omega, ?_⟩
        subst henv
        generalize hs4 : s.set (σ2.next + 3 + 1) _ = s4
        have f0 : s4.lim = 0 := by rw [← hs4]; exact yl
        have fn : s4.next = s.next := by rw [← hs4]; rfl
        have fg : ∀ k, k ≠ σ2.next + 4 → s4.get k = s.get k := fun k hk => by rw [← hs4]; exact AH.get_set_other _ _ _ _ hk
        have ynx := y0.next
        have hp17 : (p : Int) < 17 := by omega
        have p16 : p ≤ 16 := by omega
        have hDl := bC_len y0.dl
        have hDs := bC_set D' p true
        have f1 : s4.get σ.next = _ := (fg _ (by omega)).trans y3
        have f3 : s4.get (σ.next + 2) = _ := (fg _ (by omega)).trans y5
        have fD : s4.get (B + 4) = _ := (fg _ (by omega)).trans y0.db
        have lD := AH.get_lt fD
        have l3 := AH.get_lt f3
        simp (disch := omega) [eqf1, eqf2, f0, f1, f3, fD, lD, l3, hp17, p16, hDl, hDs, Und, -Bool.exists_bool, -getElem?_pos]
        generalize hs5 : AH.set (s4.set (B + 4) _) (σ.next + 1 + 1) _ = s5
        have q0 : s5.lim = 0 := by rw [← hs5]; exact f0
        have qn : s5.next = s4.next := by rw [← hs5]; rfl
        have qg : ∀ k, k ≠ B + 4 → k ≠ σ.next + 2 → s5.get k = s4.get k := fun k h1 h2 => by rw [← hs5, AH.get_set_other _ _ _ _ h2, AH.get_set_other _ _ _ _ h1]
        have qD : s5.get (B + 4) = some (.cells (bC (D'.set p true))) := by rw [← hs5, AH.get_set_other _ _ _ _ (by omega), AH.get_set_same _ _ _ lD]
        have qc : s5.get (σ.next + 2) = some (.cells [.int .i64 0]) := by rw [← hs5]; exact AH.get_set_same _ _ _ l3
        have qm : s5.get (σ2.next + 3) = some .dfr := by rw [qg _ (by omega) (by omega), fg _ (by omega)]; exact y9
        rw [retP_mark qm (by omega)]
        have qc' : (s5.set (σ2.next + 3) .dead).get (σ.next + 1 + 1) = _ := (AH.get_set_other _ _ _ _ (by omega)).trans qc
        generalize hs6 : s5.set (σ2.next + 3) .dead = s6 at *
        have p0 : s6.lim = 0 := by rw [← hs6]; exact q0
        have pn : s6.next = s5.next := by rw [← hs6]; rfl
        have pg : ∀ k, k ≠ σ2.next + 3 → s6.get k = s5.get k := fun k h1 => by rw [← hs6, AH.get_set_other _ _ _ _ h1]
        simp (disch := omega) [qc', -Bool.exists_bool]
        have pall : ∀ k, k < σ2.next → k ≠ B + 4 → k ≠ σ.next + 2 → s6.get k = s.get k := fun k h1 h2 h3 => by rw [pg k (by omega), qg k h2 h3, fg k (by omega)]
        have hDp : p < D'.length := by rw [y0.dl]; exact hp
        refine hk0 s6 (D'.set p true) ⟨?_, hg.keep none s s6 yP (p0.trans yl.symm) (by omega) (fun k h1 h2 => pall k (by omega) (by omega) (by omega)), ?_, fun x hx => ?_, by rw [nth_set hDp, if_pos rfl], ⟨p0.trans hl0.symm, by omega, fun k h1 h2 => ?_⟩, fun k hk => by rw [pall k (by omega) (by omega) (by omega), y2 k (by omega) (.inr hk)]⟩
        · obtain ⟨u1, u2, u3, u4, u5, u6, u7, u8, u9, u10, u11, u12, u13⟩ := y0
          exact ⟨u1.stay (p0.trans yl.symm) (pall n (by omega) (by omega) (by omega)) (pall i (by omega) (by omega) (by omega)), by omega, u3, u4, (pall _ (by omega) (by omega) (by omega)).trans u5, (pall _ (by omega) (by omega) (by omega)).trans u6, (pall _ (by omega) (by omega) (by omega)).trans u7, (pall _ (by omega) (by omega) (by omega)).trans u8, (pg _ (by omega)).trans qD, (pall _ (by omega) (by omega) (by omega)).trans u10, by simpa using u11, u12, u13⟩
        · intro x hx17 hx
          rw [nth_set hDp] at hx
          by_cases e : x = p
          · subst e
            refine ⟨by omega, fun q j w hs hf => ?_⟩
            rw [nth_set hDp]
            split
            · rfl
            · exact z2 q j w hs.1 hs hf
          · rw [if_neg e] at hx
            obtain ⟨c1, c2⟩ := z0 x hx17 hx
            refine ⟨c1, fun q j w hs hf => ?_⟩
            rw [nth_set hDp]
            split
            · rfl
            · exact c2 q j w hs hf
        · rw [nth_set hDp]
          split
          · rfl
          · exact z1 x hx
        · rw [pall k (by omega) (by omega) (by omega), y2 k h2 (.inl h1)]
      · obtain ⟨D', h', ps, w, j0, jP, js, jm, jn, jlow, jc, jd, jl⟩ := hj
        have yl := j0.net.lim
        refine ⟨_, _, _, _, _, _, jl, by simp, by rw [yl]; omega, ?_⟩
        generalize hs4 : s.set (σ2.next + 3 + 1) _ = s4
        have f0 : s4.lim = 0 := by rw [← hs4]; exact yl
        have fn : s4.next = s.next := by rw [← hs4]; rfl
        have fg : ∀ k, k ≠ σ2.next + 4 → s4.get k = s.get k := fun k hk => by rw [← hs4]; exact AH.get_set_other _ _ _ _ hk
        subst henv
        simp (disch := omega) [eqf1, eqf2, f0, Und, -Bool.exists_bool, -getElem?_pos]
        have qm : s4.get (σ2.next + 3) = some .dfr := (fg _ (by omega)).trans jd
        rw [retP_mark qm (by omega)]
        generalize hs6 : s4.set (σ2.next + 3) .dead = s6
        have p0 : s6.lim = 0 := by rw [← hs6]; exact f0
        have pn : s6.next = s4.next := by rw [← hs6]; rfl
        have pg : ∀ k, k ≠ σ2.next + 3 → s6.get k = s4.get k := fun k h1 => by rw [← hs6, AH.get_set_other _ _ _ _ h1]
        have qc' : s6.get (σ.next + 1 + 1) = some (.cells [.int .i64 w]) := by rw [pg _ (by omega), fg _ (by omega)]; exact jc
        simp (disch := omega) [qc', -Bool.exists_bool]
        have pall : ∀ k, k < σ2.next → s6.get k = s.get k := fun k h1 => by rw [pg k (by omega), fg k (by omega)]
        refine hk1 s6 D' h' ps w ⟨j0.keep (p0.trans yl.symm) (by omega) fun k hk => ?_, hg.keep _ _ _ jP (p0.trans yl.symm) (by omega) (fun k h1 h2 => pall k (by omega)), js, jm, ⟨p0.trans hl0.symm, by omega, fun k h1 h2 => ?_⟩, fun k h1 h2 h3 => by rw [pall k (by omega), jlow k (by omega) (.inr ⟨h1, h2, h3⟩)]⟩
        · have := j0.nB
          have := j0.iB
          exact pall k (by omega)
        · rw [pall k (by omega), jlow k h2 (.inl h1)]
end
end Go.Oct.Tri
