/- Nets: an angle is changed as far as it can be, walked. -/
import Derived.Test.YtddkghgfbhhcdaaOTriFloU
set_option maxRecDepth 100000
set_option maxHeartbeats 8000000
set_option linter.unusedVariables false
set_option linter.unusedSimpArgs false
namespace Go.Oct.Tri
open Go.Oct
/-- What an angle is changed from, to, and how much it can be. -/
def chF (E : List Ed) (k : Nat) (more : Bool) : Nat := bif more then (nth E k).v else (nth E k).u
def chT (E : List Ed) (k : Nat) (more : Bool) : Nat := bif more then (nth E k).u else (nth E k).v
def chL (E : List Ed) (h : List Int) (k : Nat) (more : Bool) : Int := bif more then (nth E k).hi - nth h k else nth h k - (nth E k).lo
def chG (to : Nat) (left : Int) (p : Nat) : Int := if p = to then left else 0
def oneB (p : Nat) : List Bool := bF.set p true
theorem oneB_len (p : Nat) : (oneB p).length = 17 := by simp [oneB, bF_len]
theorem oneB_get {p q : Nat} (hp : p < 17) : nth (oneB p) q = decide (q = p) := by
  unfold oneB
  rw [nth_set (by rw [bF_len]; exact hp), bF_no]
  by_cases e : q = p <;> simp [e]
section
variable {N : Nat} {nC : Bool} {aA : AV} {C : List Bool} {A : List An}
theorem isCl_cl2 (hok : okNet N C A) {h : List Int} (hc : isCl N C A h) : Cl2 (edges C A) (fun p => if p < 16 then Bt0 N C p else 0) h := by
  refine ⟨hc.1, fun p hp => ?_⟩
  by_cases e : p < 16
  · rw [if_pos e]; exact hc.2 p e
  · rw [if_neg e]
    refine sAt_none _ _ _ fun x hx hat => ?_
    have := nth_lt_mem (okE_edges hok) x hx
    rcases hat with h | h <;> omega
theorem change_step (hok : okNet N C A) {F : List Int} {h h' : List Int} {k : Nat} {more : Bool} {w : Int} (hk : k < (edges C A).length) (hc : isCl N C A h) (hw : w ≤ chL (edges C A) h k more)
    (hs : Sent (edges C A) k F (chG (chT (edges C A) k more) (chL (edges C A) h k more)) h h' (chF (edges C A) k more) (chT (edges C A) k more) w) :
    nth h' k = nth h k ∧ isCl N C A (h'.set k (bif more then nth h' k + w else nth h' k - w)) := by
  have hE := okE_edges hok
  obtain ⟨e1, e2, e3, e4, e5, e6⟩ := hE.2 k hk
  have hb := hs.ban k hk rfl
  have hl := hs.bd.1
  have hp := hs.pos
  have hin := hc.1.2 k hk
  refine ⟨hb, ⟨by simpa using hl, fun j hj => ?_⟩, fun p hp16 => ?_⟩
  · rw [nth_set (by omega)]
    by_cases e : j = k
    · subst e
      rw [if_pos rfl, hb]
      unfold chL at hw
      cases more <;> simp at hw ⊢ <;> omega
    · rw [if_neg e]; exact hs.bd.2 j hj
  · rw [sAt_set _ _ _ _ _ hk hl, hs.sum p, hc.2 p hp16]
    have hat : (nth (edges C A) k).at p ↔ p = (nth (edges C A) k).u ∨ p = (nth (edges C A) k).v := by
      unfold Ed.at; constructor <;> intro h <;> omega
    unfold dl sg chF chT
    by_cases h1 : p = (nth (edges C A) k).u
    · rw [if_pos (hat.2 (.inl h1)), if_pos (show p < 8 by omega)]
      have h2 : ¬ p = (nth (edges C A) k).v := by omega
      cases more with
      | true => simp only [cond_true]; rw [if_neg h2, if_pos h1]; omega
      | false => simp only [cond_false]; rw [if_pos h1, if_neg h2]; omega
    · by_cases h2 : p = (nth (edges C A) k).v
      · rw [if_pos (hat.2 (.inr h2)), if_neg (show ¬ p < 8 by omega)]
        cases more with
        | true => simp only [cond_true]; rw [if_pos h2, if_neg h1]; omega
        | false => simp only [cond_false]; rw [if_neg h1, if_pos h2]; omega
      · have hn : ¬ (nth (edges C A) k).at p := fun h => by rcases hat.1 h with h | h <;> contradiction
        rw [if_neg hn]
        cases more with
        | true => simp only [cond_true]; rw [if_neg h2, if_neg h1]; omega
        | false => simp only [cond_false]; rw [if_neg h1, if_neg h2]; omega
/-- The last one that an angle can be. -/
def Endmost (N : Nat) (C : List Bool) (A : List An) (k : Nat) (more : Bool) (x : Int) : Prop := ∀ f, isCl N C A f → bif more then nth f k ≤ x else x ≤ nth f k
theorem change_end (hok : okNet N C A) {R : List Bool} {F : List Int} {h : List Int} {k : Nat} {more : Bool} (hk : k < (edges C A).length) (hc : isCl N C A h) (hr : Reached (edges C A) h k (oneB (chF (edges C A) k more)) R F) {D : List Bool}
    (hD : Dead (edges C A) h k F (chG (chT (edges C A) k more) (chL (edges C A) h k more)) D) (hDp : nth D (chF (edges C A) k more) = true) (hl : 0 < chL (edges C A) h k more) : Endmost N C A k more (nth h k) := by
  have hE := okE_edges hok
  obtain ⟨e1, e2, e3, e4, e5, e6⟩ := hE.2 k hk
  have hf17 : chF (edges C A) k more < 17 := by unfold chF; cases more <;> simp <;> omega
  have ht17 : chT (edges C A) k more < 17 := by unfold chT; cases more <;> simp <;> omega
  have hng := no_goal hr (g := chG (chT (edges C A) k more) (chL (edges C A) h k more)) fun s hs hS => by
    rw [oneB_get hf17] at hS
    simp at hS
    subst hS
    refine ⟨fun p => decide (p < 17) && nth D p, by simp [hs, hDp], fun p hp => ?_⟩
    simp at hp
    obtain ⟨c1, c2⟩ := hD p hp.1 hp.2
    refine ⟨c1, fun q i w hs hf => ?_⟩
    have := (stp_lt hE hs).2
    simp [this, c2 q i w hs hf]
  have hRt : nth R (chT (edges C A) k more) = false := by
    cases h1 : nth R (chT (edges C A) k more) with
    | false => rfl
    | true =>
      have := hng _ ht17 h1
      unfold chG at this
      rw [if_pos rfl] at this; omega
  have hRf : nth R (chF (edges C A) k more) = true := (hr.src _ hf17 (by rw [oneB_get hf17]; simp)).1
  intro f hf
  obtain ⟨a, b⟩ := end_of hE (isCl_cl2 hok hf) (isCl_cl2 hok hc) hk hr.clo
  unfold chF at hRf
  unfold chT at hRt
  cases more with
  | true => exact a hRf hRt
  | false => exact b hRf hRt
def PC (b9 b10 to : Nat) (left : Int) (o : Option Nat) (σ : AH) : Prop := σ.get b9 = some (.cells [.int .i64 to]) ∧ σ.get b10 = some (.cells [.int .i64 left])
theorem change_goal {b9 b10 to n i B : Nat} {left : Int} (h1 : b9 < B) (h2 : b10 < B) (h3 : b9 ≠ n) (h4 : b9 ≠ i) (h5 : b10 ≠ i) : Goal 98 [.ptr (some (b9, 0)), .ptr (some (b10, 0))] (chG to left) (PC b9 b10 to left) B n i b9 := by
  refine ⟨by decide, h3, h1, h4, fun o σ σ' hP hl hx hg => ⟨(hg _ h1 h4).trans hP.1, (hg _ h2 h5).trans hP.2⟩, fun σ p K hP hB hp hg hk => ?_, fun σ p K hP hB hp hg hk => ?_⟩
  all_goals
    obtain ⟨p1, p2⟩ := hP
    refine @call_of' _ _ pl _ _ _ _ _ _ _ ⟨K⟩ get98 ((oo (by decide)).2 _) rfl ?_
    unfold chG at hg hk
    by_cases e : p = to
    · subst e
      rw [if_pos rfl] at hg hk
      simp (disch := omega) [Und, p1, p2, -Bool.exists_bool]
      first | exact hk σ (Only.refl _ _) | exact hk σ (Only.refl _ _) ⟨p1, p2⟩
    · rw [if_neg e] at hg hk
      first
      | (exfalso; omega)
      | (have e' : ¬ (p : Int) = to := by omega
         simp (disch := omega) [Und, p1, p2, e, e', -Bool.exists_bool]
         exact hk σ (Only.refl _ _))
theorem change_call (hok : okNet N C A) {n i : Nat} {h L : List Int} {σ : AH} {k : Nat} {more : Bool} (hk : k < (edges C A).length) (hn : NetI N nC C aA (edges C A) n i h L σ) (hc : isCl N C A h) {K : AV → AH → Prop}
    (hK : ∀ h' σ', NetI N nC C aA (edges C A) n i h' L σ' → isCl N C A h' → Endmost N C A k more (nth h' k) → Only [i] σ σ' → K (.int .i64 (nth h' k)) σ') :
    Call prog O (.fn 46) [.ptr (some (n, 0)), .int .i64 k, .bool more] σ K := by
  refine @call_of' _ _ pl _ _ _ _ _ _ _ ⟨K⟩ get46 ((oo (by decide)).2 _) rfl ?_
  have t0 := hn.lim
  have tnn := hn.net
  have tan := hn.ang
  have ll := hn.ll
  have hnl := netC_len (T := (N : Int)) (nC := nC) (C := C) (aA := aA) (i := i) (m := (edges C A).length) (L := L)
  have ltn := AH.get_lt tnn
  have lti := AH.get_lt tan
  have hE := okE_edges hok
  obtain ⟨e1, e2, e3, e4, e5, e6⟩ := hE.2 k hk
  have hkl : (k : Int) < (edges C A).length := by omega
  have hlen := gRow_len (edges C A) h hn.bd.1
  have hat := gRow_at (edges C A) h k hn.bd.1 hk
  obtain ⟨r1, r2, r3, r4, r5⟩ := gRow_get hn.bd.1 hk
  have i5 : k * 5 + 5 ≤ (edges C A).length * 5 := by omega
  have i1 : k * 5 + 1 ≤ (edges C A).length * 5 := by omega
  have i2 : k * 5 + 1 + 1 ≤ (edges C A).length * 5 := by omega
  have hbd := hn.bd.2 k hk
  have hmo := more_ok (nth (edges C A) k).u (nth (edges C A) k).v (nth h k) (nth (edges C A) k).lo (nth (edges C A) k).hi (by omega) (by omega) (by omega) (by omega)
  have hle := less_ok (nth (edges C A) k).u (nth (edges C A) k).v (nth h k) (nth (edges C A) k).lo (nth (edges C A) k).hi (by omega) (by omega) (by omega) (by omega)
  have x1 : i < σ.next + 1 + 1 := by omega
  have x2 : σ.next < σ.next + 1 + 1 := by omega
  have x3 : σ.next + 1 < σ.next + 1 + 1 := by omega
  cases more with
  | true =>
    simp (disch := omega) [eqf1, eqf2, Und, t0, tnn, tan, hnl, ll, hkl, hlen, hat, r1, r2, i5, i1, i2, hmo, hle, lti, x1, x2, x3, -Bool.exists_bool, -getElem?_pos]
    generalize hτ : AH.set _ (σ.next + 1) _ = τ
    have a0 : τ.lim = 0 := by rw [← hτ]; rfl
    have an : τ.next = σ.next + 2 := by rw [← hτ]; rfl
    have ag : ∀ q, q < σ.next → τ.get q = σ.get q := fun q hq => by rw [← hτ]; simp (disch := omega) [eqf1, eqf2]
    have a9 : τ.get σ.next = some (.cells [.int .i64 (chT (edges C A) k true)]) := by rw [← hτ]; simp (disch := omega) [eqf1, eqf2, x1, x2, x3]; rfl
    have a10 : τ.get (σ.next + 1) = some (.cells [.int .i64 (chL (edges C A) h k true)]) := by rw [← hτ]; simp (disch := omega) [eqf1, eqf2, x1, x2, x3]; rfl
    clear hτ
    have hf17 : chF (edges C A) k true < 17 := by unfold chF; simp; omega
    refine lp_loop pl (fun k2 fr υ => ∃ (h' : List Int) (rest : Env), k2 = (chL (edges C A) h' k true).toNat ∧ fr = ⟨(0, .ptr (some (n, 0))) :: (1, .int .i64 k) :: (2, .bool true) :: (7, .ptr (some (i, k * 5))) :: (8, .int .i64 (chF (edges C A) k true)) :: (9, .ptr (some (σ.next, 0))) :: (10, .ptr (some (σ.next + 1, 0))) :: rest, []⟩ ∧
        NetI N nC C aA (edges C A) n i h' L υ ∧ isCl N C A h' ∧ υ.get σ.next = some (.cells [.int .i64 (chT (edges C A) k true)]) ∧ υ.get (σ.next + 1) = some (.cells [.int .i64 (chL (edges C A) h' k true)]) ∧ σ.next + 2 ≤ υ.next ∧ ∀ q, q < σ.next → q ≠ i → υ.get q = σ.get q)
      ⟨(chL (edges C A) h k true).toNat, h, _, rfl, rfl, hn.stay (a0.trans t0.symm) (ag n ltn) (ag i lti), hc, a9, a10, by omega, fun q hq _ => ag q hq⟩ ?_
    rintro k2 _ υ ⟨h', rest, rfl, rfl, vN, vc, v9, v10, vn, vg⟩
    have v0 := vN.lim
    have vnn := vN.net
    have van := vN.ang
    have hlen' := gRow_len (edges C A) h' vN.bd.1
    obtain ⟨r1', r2', r3', r4', r5'⟩ := gRow_get vN.bd.1 hk
    have i3 : k * 5 + 2 + 1 ≤ (edges C A).length * 5 := by omega
    by_cases hpos : 0 < chL (edges C A) h' k true
    · have hf17' : (chF (edges C A) k true : Int) < 17 := by omega
      have hf16 : chF (edges C A) k true ≤ 16 := by omega
      simp (disch := omega) [eqf1, eqf2, Und, v0, v9, v10, hpos, hf17', hf16, -Bool.exists_bool, -getElem?_pos]
      refine ⟨by omega, ?_⟩
      have htk : ([AV.bool false, AV.bool false, AV.bool false, AV.bool false, AV.bool false, AV.bool false, AV.bool false, AV.bool false, AV.bool false, AV.bool false, AV.bool false, AV.bool false, AV.bool false, AV.bool false, AV.bool false, AV.bool false, AV.bool false].set (chF (edges C A) k true) (AV.bool true)) = bC (oneB (chF (edges C A) k true)) := by
        unfold oneB
        rw [← bC_set]; rfl
      rw [htk]
      have h17 : (bC (oneB (chF (edges C A) k true))).take 17 = bC (oneB (chF (edges C A) k true)) := List.take_of_length_le (by rw [bC_len (oneB_len _)]; omega)
      rw [h17]
      generalize hρ : AH.set (υ.push _) υ.next _ = ρ
      have p0 : ρ.lim = 0 := by rw [← hρ]; exact v0
      have pn : ρ.next = υ.next + 1 := by rw [← hρ]; rfl
      have pg : ∀ q, q < υ.next → ρ.get q = υ.get q := fun q hq => by rw [← hρ, AH.get_set_other _ _ _ _ (by omega), AH.get_push_old _ _ _ (by omega)]
      clear hρ
      have lvn := AH.get_lt vnn
      have lvi := AH.get_lt van
      refine reached_call (σ := ρ.under (υ.next + 1)) (lm := υ.next + 1) hE rfl (by show υ.next + 1 ≤ ρ.next; omega) (T := (N : Int)) (nC := nC) (C := C) (aA := aA) (n := n) (i := i) (h := h') (L := L) ⟨(pg n lvn).trans vnn, (pg i lvi).trans van, vN.ne, vN.ll, vN.bd⟩ (oneB_len _) fun R F ω hR ho => ?_
      have o1 := ho.next
      have og : ∀ q, q < ρ.next → ω.get q = ρ.get q := fun q hq => ho.get q hq (by simp)
      have onx : ρ.next ≤ ω.next := o1
      simp (disch := omega) [eqf1, eqf2, Und, p0, -Bool.exists_bool, -getElem?_pos]
      generalize hω0 : ω.under 0 = ω0
      have w0 : ω0.lim = 0 := by rw [← hω0]; rfl
      have wn : ω0.next = ω.next := by rw [← hω0]; rfl
      have wg : ∀ q, ω0.get q = ω.get q := fun q => by rw [← hω0]; rfl
      clear hω0
      have wall : ∀ q, q < υ.next → ω0.get q = υ.get q := fun q hq => by rw [wg, og q (by omega), pg q hq]
      have wN : NetI N nC C aA (edges C A) n i h' L ω0 := vN.stay (w0.trans v0.symm) (wall n lvn) (wall i lvi)
      have hgoal := change_goal (b9 := σ.next) (b10 := σ.next + 1) (to := chT (edges C A) k true) (n := n) (i := i) (B := ω0.next) (left := chL (edges C A) h' k true) (by omega) (by omega) (by omega) (by omega) (by omega)
      have hl64 : chL (edges C A) h' k true ≤ 1000000000 := by
        have hb3 := vN.bd.2 k hk
        unfold chL; simp; omega
      refine send_call hE hgoal hR.rl hR.fl hR.all wN (b := k) ⟨(wall _ (by omega)).trans v9, (wall _ (by omega)).trans v10⟩ hf17 hpos hl64 (fun s4 D c1 c2 c3 c4 c5 => ?_) (fun s4 h4 ps w c1 c2 c3 c4 c5 => ?_)
      · have cN := c1.ang
        simp (disch := omega) [eqf1, eqf2, Und, cN, hlen', r3', i3, -Bool.exists_bool, -getElem?_pos]
        refine hK h' s4 c1 vc (change_end hok hk vc hR c4 c3 hpos) ⟨c1.lim.trans t0.symm, by have := c5.next; omega, fun q q1 q2 => ?_⟩
        rw [c5.get q (by omega) (by simp), wall q (by omega)]; exact vg q q1 (by simpa using q2)
      · have cp := c3.pos
        have cw0 : ¬ w = 0 := by omega
        have hps : ps = chT (edges C A) k true := by
          have := c3.goal
          unfold chG at this
          by_cases e : ps = chT (edges C A) k true
          · exact e
          · rw [if_neg e] at this; omega
        rw [hps] at c3
        obtain ⟨hb4, hc4⟩ := change_step hok hk vc c4 c3
        have cN := c1.ang
        have c0 := c1.lim
        have lci := AH.get_lt cN
        have hlen4 := gRow_len (edges C A) h4 c1.bd.1
        obtain ⟨s1, s2, s3, s5, s6⟩ := gRow_get c1.bd.1 hk
        have hgs := fun y => gRow_set (edges C A) h4 k y c1.bd.1 hk
        have d9 : s4.get σ.next = some (.cells [.int .i64 (chT (edges C A) k true)]) := c2.1
        have d10 : s4.get (σ.next + 1) = some (.cells [.int .i64 (chL (edges C A) h' k true)]) := c2.2
        have ld10 := AH.get_lt d10
        have hb5 := c1.bd.2 k hk
        have hchL : chL (edges C A) (h4.set k (bif true then nth h4 k + w else nth h4 k - w)) k true = chL (edges C A) h' k true - w := by
          unfold chL
          rw [nth_set (by rw [c1.bd.1]; exact hk), if_pos rfl, hb4]
          simp; omega
        simp only [cond_true, cond_false] at hchL hc4
        simp (disch := omega) [eqf1, eqf2, Und, c0, cw0, cN, lci, d10, ld10, hlen4, s3, i3, hgs, -Bool.exists_bool, -getElem?_pos]
        refine ⟨_, ?_, _, rfl, ⟨c0, ?_, ?_, vN.ne, vN.ll, hc4.1⟩, hc4, d9, hchL.symm, by have := c5.next; omega, fun q q1 q2 => ?_⟩
        · rw [hchL]; omega
        · rw [AH.get_set_other _ _ _ _ vN.ne, AH.get_set_other _ _ _ _ (by omega)]; exact c1.net
        · exact AH.get_set_same _ _ _ (by exact lci)
        · rw [if_neg q2, if_neg (by omega), c5.get q (by omega) (by simp; omega), wall q (by omega)]; exact vg q q1 q2
    · simp (disch := omega) [eqf1, eqf2, Und, v0, van, v9, v10, hpos, hlen', r3', i3, -Bool.exists_bool, -getElem?_pos]
      refine hK h' υ vN vc (fun f hf => ?_) ⟨v0.trans t0.symm, by omega, fun q h1 h2 => vg q h1 (by simpa using h2)⟩
      have hb2 := hf.1.2 k hk
      unfold chL at hpos
      simp at hpos ⊢
      omega
  | false =>
    simp (disch := omega) [eqf1, eqf2, Und, t0, tnn, tan, hnl, ll, hkl, hlen, hat, r1, r2, i5, i1, i2, hmo, hle, lti, x1, x2, x3, -Bool.exists_bool, -getElem?_pos]
    generalize hτ : AH.set _ (σ.next + 1) _ = τ
    have a0 : τ.lim = 0 := by rw [← hτ]; rfl
    have an : τ.next = σ.next + 2 := by rw [← hτ]; rfl
    have ag : ∀ q, q < σ.next → τ.get q = σ.get q := fun q hq => by rw [← hτ]; simp (disch := omega) [eqf1, eqf2]
    have a9 : τ.get σ.next = some (.cells [.int .i64 (chT (edges C A) k false)]) := by rw [← hτ]; simp (disch := omega) [eqf1, eqf2, x1, x2, x3]; rfl
    have a10 : τ.get (σ.next + 1) = some (.cells [.int .i64 (chL (edges C A) h k false)]) := by rw [← hτ]; simp (disch := omega) [eqf1, eqf2, x1, x2, x3]; rfl
    clear hτ
    have hf17 : chF (edges C A) k false < 17 := by unfold chF; simp; omega
    refine lp_loop pl (fun k2 fr υ => ∃ (h' : List Int) (rest : Env), k2 = (chL (edges C A) h' k false).toNat ∧ fr = ⟨(0, .ptr (some (n, 0))) :: (1, .int .i64 k) :: (2, .bool false) :: (7, .ptr (some (i, k * 5))) :: (8, .int .i64 (chF (edges C A) k false)) :: (9, .ptr (some (σ.next, 0))) :: (10, .ptr (some (σ.next + 1, 0))) :: rest, []⟩ ∧
        NetI N nC C aA (edges C A) n i h' L υ ∧ isCl N C A h' ∧ υ.get σ.next = some (.cells [.int .i64 (chT (edges C A) k false)]) ∧ υ.get (σ.next + 1) = some (.cells [.int .i64 (chL (edges C A) h' k false)]) ∧ σ.next + 2 ≤ υ.next ∧ ∀ q, q < σ.next → q ≠ i → υ.get q = σ.get q)
      ⟨(chL (edges C A) h k false).toNat, h, _, rfl, rfl, hn.stay (a0.trans t0.symm) (ag n ltn) (ag i lti), hc, a9, a10, by omega, fun q hq _ => ag q hq⟩ ?_
    rintro k2 _ υ ⟨h', rest, rfl, rfl, vN, vc, v9, v10, vn, vg⟩
    have v0 := vN.lim
    have vnn := vN.net
    have van := vN.ang
    have hlen' := gRow_len (edges C A) h' vN.bd.1
    obtain ⟨r1', r2', r3', r4', r5'⟩ := gRow_get vN.bd.1 hk
    have i3 : k * 5 + 2 + 1 ≤ (edges C A).length * 5 := by omega
    by_cases hpos : 0 < chL (edges C A) h' k false
    · have hf17' : (chF (edges C A) k false : Int) < 17 := by omega
      have hf16 : chF (edges C A) k false ≤ 16 := by omega
      simp (disch := omega) [eqf1, eqf2, Und, v0, v9, v10, hpos, hf17', hf16, -Bool.exists_bool, -getElem?_pos]
      refine ⟨by omega, ?_⟩
      have htk : ([AV.bool false, AV.bool false, AV.bool false, AV.bool false, AV.bool false, AV.bool false, AV.bool false, AV.bool false, AV.bool false, AV.bool false, AV.bool false, AV.bool false, AV.bool false, AV.bool false, AV.bool false, AV.bool false, AV.bool false].set (chF (edges C A) k false) (AV.bool true)) = bC (oneB (chF (edges C A) k false)) := by
        unfold oneB
        rw [← bC_set]; rfl
      rw [htk]
      have h17 : (bC (oneB (chF (edges C A) k false))).take 17 = bC (oneB (chF (edges C A) k false)) := List.take_of_length_le (by rw [bC_len (oneB_len _)]; omega)
      rw [h17]
      generalize hρ : AH.set (υ.push _) υ.next _ = ρ
      have p0 : ρ.lim = 0 := by rw [← hρ]; exact v0
      have pn : ρ.next = υ.next + 1 := by rw [← hρ]; rfl
      have pg : ∀ q, q < υ.next → ρ.get q = υ.get q := fun q hq => by rw [← hρ, AH.get_set_other _ _ _ _ (by omega), AH.get_push_old _ _ _ (by omega)]
      clear hρ
      have lvn := AH.get_lt vnn
      have lvi := AH.get_lt van
      refine reached_call (σ := ρ.under (υ.next + 1)) (lm := υ.next + 1) hE rfl (by show υ.next + 1 ≤ ρ.next; omega) (T := (N : Int)) (nC := nC) (C := C) (aA := aA) (n := n) (i := i) (h := h') (L := L) ⟨(pg n lvn).trans vnn, (pg i lvi).trans van, vN.ne, vN.ll, vN.bd⟩ (oneB_len _) fun R F ω hR ho => ?_
      have o1 := ho.next
      have og : ∀ q, q < ρ.next → ω.get q = ρ.get q := fun q hq => ho.get q hq (by simp)
      have onx : ρ.next ≤ ω.next := o1
      simp (disch := omega) [eqf1, eqf2, Und, p0, -Bool.exists_bool, -getElem?_pos]
      generalize hω0 : ω.under 0 = ω0
      have w0 : ω0.lim = 0 := by rw [← hω0]; rfl
      have wn : ω0.next = ω.next := by rw [← hω0]; rfl
      have wg : ∀ q, ω0.get q = ω.get q := fun q => by rw [← hω0]; rfl
      clear hω0
      have wall : ∀ q, q < υ.next → ω0.get q = υ.get q := fun q hq => by rw [wg, og q (by omega), pg q hq]
      have wN : NetI N nC C aA (edges C A) n i h' L ω0 := vN.stay (w0.trans v0.symm) (wall n lvn) (wall i lvi)
      have hgoal := change_goal (b9 := σ.next) (b10 := σ.next + 1) (to := chT (edges C A) k false) (n := n) (i := i) (B := ω0.next) (left := chL (edges C A) h' k false) (by omega) (by omega) (by omega) (by omega) (by omega)
      have hl64 : chL (edges C A) h' k false ≤ 1000000000 := by
        have hb3 := vN.bd.2 k hk
        unfold chL; simp; omega
      refine send_call hE hgoal hR.rl hR.fl hR.all wN (b := k) ⟨(wall _ (by omega)).trans v9, (wall _ (by omega)).trans v10⟩ hf17 hpos hl64 (fun s4 D c1 c2 c3 c4 c5 => ?_) (fun s4 h4 ps w c1 c2 c3 c4 c5 => ?_)
      · have cN := c1.ang
        simp (disch := omega) [eqf1, eqf2, Und, cN, hlen', r3', i3, -Bool.exists_bool, -getElem?_pos]
        refine hK h' s4 c1 vc (change_end hok hk vc hR c4 c3 hpos) ⟨c1.lim.trans t0.symm, by have := c5.next; omega, fun q q1 q2 => ?_⟩
        rw [c5.get q (by omega) (by simp), wall q (by omega)]; exact vg q q1 (by simpa using q2)
      · have cp := c3.pos
        have cw0 : ¬ w = 0 := by omega
        have hps : ps = chT (edges C A) k false := by
          have := c3.goal
          unfold chG at this
          by_cases e : ps = chT (edges C A) k false
          · exact e
          · rw [if_neg e] at this; omega
        rw [hps] at c3
        obtain ⟨hb4, hc4⟩ := change_step hok hk vc c4 c3
        have cN := c1.ang
        have c0 := c1.lim
        have lci := AH.get_lt cN
        have hlen4 := gRow_len (edges C A) h4 c1.bd.1
        obtain ⟨s1, s2, s3, s5, s6⟩ := gRow_get c1.bd.1 hk
        have hgs := fun y => gRow_set (edges C A) h4 k y c1.bd.1 hk
        have d9 : s4.get σ.next = some (.cells [.int .i64 (chT (edges C A) k false)]) := c2.1
        have d10 : s4.get (σ.next + 1) = some (.cells [.int .i64 (chL (edges C A) h' k false)]) := c2.2
        have ld10 := AH.get_lt d10
        have hb5 := c1.bd.2 k hk
        have hchL : chL (edges C A) (h4.set k (bif false then nth h4 k + w else nth h4 k - w)) k false = chL (edges C A) h' k false - w := by
          unfold chL
          rw [nth_set (by rw [c1.bd.1]; exact hk), if_pos rfl, hb4]
          simp; omega
        simp only [cond_true, cond_false] at hchL hc4
        simp (disch := omega) [eqf1, eqf2, Und, c0, cw0, cN, lci, d10, ld10, hlen4, s3, i3, hgs, -Bool.exists_bool, -getElem?_pos]
        refine ⟨_, ?_, _, rfl, ⟨c0, ?_, ?_, vN.ne, vN.ll, hc4.1⟩, hc4, d9, hchL.symm, by have := c5.next; omega, fun q q1 q2 => ?_⟩
        · rw [hchL]; omega
        · rw [AH.get_set_other _ _ _ _ vN.ne, AH.get_set_other _ _ _ _ (by omega)]; exact c1.net
        · exact AH.get_set_same _ _ _ (by exact lci)
        · rw [if_neg q2, if_neg (by omega), c5.get q (by omega) (by simp; omega), wall q (by omega)]; exact vg q q1 q2
    · simp (disch := omega) [eqf1, eqf2, Und, v0, van, v9, v10, hpos, hlen', r3', i3, -Bool.exists_bool, -getElem?_pos]
      refine hK h' υ vN vc (fun f hf => ?_) ⟨v0.trans t0.symm, by omega, fun q h1 h2 => vg q h1 (by simpa using h2)⟩
      have hb2 := hf.1.2 k hk
      unfold chL at hpos
      simp at hpos ⊢
      omega
end
end Go.Oct.Tri
