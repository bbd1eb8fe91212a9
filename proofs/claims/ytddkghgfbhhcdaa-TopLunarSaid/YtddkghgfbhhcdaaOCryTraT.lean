/- Trials: what Trial answers. -/
import Derived.Test.YtddkghgfbhhcdaaOCryTraJ
set_option maxRecDepth 100000
set_option maxHeartbeats 4000000
set_option linter.unusedVariables false
set_option linter.unusedSimpArgs false
namespace Go.Oct.Cry.Sx
open Go.Oct
theorem retP_mark {res : List ARes} {K : AV → AH → Prop} {env : Env} {d : Nat} {σ : AH} {x : AEx} (hx : x = .normal ∨ x = .ret) (h0 : σ.lim = 0) (hd : σ.get d = some .dfr) (h : OptK (aresults env (σ.set d .dead) res) fun vs => K (oneOf vs) (σ.set d .dead)) : RetP res K x ⟨env, [d]⟩ σ := by
  have e : takeMarks σ [d] = some (σ.set d .dead) := by simp only [takeMarks, hd, h0, Nat.zero_le, if_true]
  rcases hx with rfl | rfl
  · show OptK (takeMarks σ [d]) _
    rw [e]
    exact ⟨_, rfl, h⟩
  · show OptK (takeMarks σ [d]) _
    rw [e]
    exact ⟨_, rfl, h⟩
theorem indices_ok {nT nS : Bool} {s : Sext} {σ : AH} {K : AV → AH → Prop} (hk : K (.func (.func 144) [] [.ptr (some (σ.next, 0))]) (σ.push (.cells (cSx nT nS s)))) :
    Call prog O (.fn 120) [eSx nT nS s] σ K := by
  refine @call_of' _ _ pl _ _ _ _ _ _ _ ⟨K⟩ get120 ((oo (by decide)).2 _) rfl ?_
  simp (disch := omega) []
  exact hk
theorem indices1_ok {nT nS : Bool} {s : Sext} (hs : okS s) {b l : Nat} {I : Nat → AH → Prop} (hI : ∀ m σ, I m σ → σ.get b = some (.cells (cSx nT nS s)))
    (hstep : ∀ (m : Nat) σ, I m σ → (m : Int) ≤ s.ih - s.il → Call prog O (.yield l) [.int .i64 (s.il + m)] σ (fun r σ' => r = .bool true ∧ I (m + 1) σ'))
    {σ : AH} (h0 : I 0 σ) {K : AV → AH → Prop} (hk : ∀ σ', I (s.ih - s.il + 1).toNat σ' → K (.tuple []) σ') : Call prog O (.fn 144) [.func (.yield l) [] [], .ptr (some (b, 0))] σ K := by
  have hix := hs.idx
  refine @call_of' _ _ pl _ _ _ _ _ _ _ ⟨K⟩ get144 ((oo (by decide)).2 _) rfl ?_
  have hb := hI 0 σ h0
  simp (disch := omega) [hb]
  refine lp_loop pl (fun k fr σ => ∃ m : Nat, (m : Int) + k = s.ih - s.il + 1 ∧ fr = ⟨[(0, .func (.yield l) [] []), (1, .ptr (some (b, 0))), (3, .int .i64 (s.il + m))], []⟩ ∧ I m σ) ⟨(s.ih - s.il + 1).toNat, 0, by omega, by simp, h0⟩ ?_
  rintro k _ σ ⟨m, hm, rfl, hi0⟩
  have hb := hI m σ hi0
  by_cases hmk : (m : Int) ≤ s.ih - s.il
  · have hm1 : s.il + (m : Int) ≤ s.ih := by omega
    simp (disch := omega) [Und, hb, hm1]
    refine (hstep m σ hi0 hmk).mono ?_
    rintro r σ' ⟨rfl, hi1⟩
    simp (disch := omega) [Und, -Bool.exists_bool]
    exact ⟨k - 1, by omega, m + 1, by omega, by omega, hi1⟩
  · have hm1 : ¬ s.il + (m : Int) ≤ s.ih := by omega
    simp (disch := omega) [Und, hb, hm1]
    obtain rfl : m = (s.ih - s.il + 1).toNat := by omega
    exact hk σ hi0
theorem tables1_ok {s : Sext} (hs : okS s) {nS : Bool} {n B m lo c : Nat} {F : AV} {bs : List Bool} {es : List ME} {σ : AH} (h0 : σ.lim = 0) (hq : n + 2 ≤ σ.next) (hB : 3 ≤ B ∧ B + 1 < n) (hm : 3 ≤ m ∧ m < n) (hlo : 3 ≤ lo)
    (gn : σ.get (n + 1) = some (.loop 32 0 (envT F) .ready none n)) (gB : σ.get B = some (.cells (cSx false nS s))) (gt : σ.get (B + 1) = some (.cells (bs.map AV.bool ++ [AV.map (some m)]))) (hbl : bs.length = 12)
    (gm : σ.get m = some (.map (es.map ent) c)) (hM : MapS lo σ es 8) (hMn : ∀ t, ∀ z ∈ obj (mgl es t), z < n) (g1 : σ.get 1 = some (.cells [.vsl true []])) (g2 : σ.get 2 = some (.cells [.int .i64 0, .int .i64 0]))
    {K : AV → AH → Prop} (hK : ∀ p σ', σ'.lim = 0 → σ.next ≤ p → p ≤ σ'.next → σ'.get (n + 1) = some (.loop 32 0 (envT F) .ready none n) → TabS s p σ' → (∀ z, z < σ.next → z ≠ 1 → z ≠ 2 → z ≠ n + 1 → σ'.get z = σ.get z) → K (.tuple []) σ') :
    Call prog O (.fn 119) [.func (.yield (n + 1)) [] [], .ptr (some (B, 0)), .ptr (some (B + 1, 0))] σ K := by
  have hix := hs.idx
  obtain ⟨q, hqq⟩ : ∃ q, q = σ.next := ⟨_, rfl⟩
  refine @call_of' _ _ pl _ _ _ _ _ _ _ ⟨K⟩ get119 ((oo (by decide)).2 _) rfl ?_
  have k1 : B < σ.next := by omega
  have k3 : ¬ B = σ.next := by omega
  have k4 : B < σ.next + 1 := by omega
  simp (disch := omega) [h0, gB, k1, k3, k4, -Bool.exists_bool]
  refine indices_ok ?_
  simp (disch := omega) [Und, -Bool.exists_bool]
  generalize hη : AH.push (AH.push σ _) _ = η
  have ηn : η.next = q + 2 := by rw [← hη]; show σ.next + 2 = _; omega
  refine rg_of (h := 144) (xs := []) (ys := [.ptr (some (σ.next + 1, 0))]) rfl ?_
  rw [ηn, ← hqq]
  show Call prog O (.fn 144) [.func (.yield (q + 3)) [] [], .ptr (some (q + 1, 0))] _ _
  rw [← hη]
  generalize hσ0 : AH.push (AH.push (AH.push (AH.push σ _) _) _) _ = σ0
  have s0 : σ0.lim = 0 := by rw [← hσ0]; exact h0
  have sn : σ0.next = q + 4 := by rw [← hσ0]; show σ.next + 4 = _; omega
  have so : ∀ z, z < q → σ0.get z = σ.get z := fun z hz => by
    have e1 : ¬ z = q := by omega
    have e2 : ¬ z = q + 1 := by omega
    have e3 : ¬ z = q + 1 + 1 := by omega
    have e4 : ¬ z = q + 1 + 1 + 1 := by omega
    rw [← hσ0]; simp (disch := omega) [← hqq, e1, e2, e3, e4]
  have sq : σ0.get q = some (.cells [.func (.yield (n + 1)) [] []]) := by rw [← hσ0]; simp (disch := omega) [← hqq, show ¬ q = q + 1 by omega, show ¬ q = q + 1 + 1 by omega, show ¬ q = q + 1 + 1 + 1 by omega]
  have sb : σ0.get (q + 1) = some (.cells (cSx false nS s)) := by rw [← hσ0]; simp (disch := omega) [← hqq, show ¬ q + 1 = q + 1 + 1 by omega, show ¬ q + 1 = q + 1 + 1 + 1 by omega]
  have sd : σ0.get (q + 2) = some .dfr := by rw [← hσ0]; simp (disch := omega) [← hqq, show ¬ q + 2 = q + 1 + 1 + 1 by omega]
  have sl : σ0.get (q + 3) = some (.loop 119 0 (envB B q (.func (.func 144) [] [.ptr (some (q + 1, 0))])) .ready none (q + 2)) := by rw [← hσ0]; simp [← hqq]
  clear hσ0
  refine indices1_ok hs (nT := false) (nS := nS) (I := fun _ τ => τ.lim = 0 ∧ q + 4 ≤ τ.next ∧ τ.get (q + 3) = some (.loop 119 0 (envB B q (.func (.func 144) [] [.ptr (some (q + 1, 0))])) .ready none (q + 2)) ∧ τ.get (n + 1) = some (.loop 32 0 (envT F) .ready none n) ∧ TabS s (q + 4) τ ∧ ∀ z, z < q + 4 → z ≠ 1 → z ≠ 2 → z ≠ n + 1 → z ≠ q + 3 → τ.get z = σ0.get z)
    (fun _ τ ⟨_, _, _, _, _, h6⟩ => (h6 _ (by omega) (by omega) (by omega) (by omega) (by omega)).trans sb) (fun j τ ⟨t0, t1, t2, t3, t4, t5⟩ hj => ?_) ⟨s0, by omega, sl, (so _ (by omega)).trans gn, .inl ⟨(so _ (by omega)).trans g1, (so _ (by omega)).trans g2⟩, fun _ _ _ _ _ _ => rfl⟩ ?_
  · have tz : ∀ z, z < q → z ≠ 1 → z ≠ 2 → z ≠ n + 1 → τ.get z = σ.get z := fun z a b c d => (t5 z (by omega) b c d (by omega)).trans (so z a)
    refine (table_step hs (nS := nS) (n := n) (p := q + 4) (q := q) (B := B) (m := m) (lo := lo) (c := c) (F := F) (i := s.il + j) (bs := bs) (es := es) ⟨by omega, by omega⟩ t0 rfl t1 (by omega) hB hm hlo t2 t3 ((t5 q (by omega) (by omega) (by omega) (by omega) (by omega)).trans sq)
      ((tz B (by omega) (by omega) (by omega) (by omega)).trans gB) ((tz (B + 1) (by omega) (by omega) (by omega) (by omega)).trans gt) hbl ((tz m (by omega) (by omega) (by omega) (by omega)).trans gm) (fun t => ?_) hMn t4).mono ?_
    · obtain ⟨xs, x1, x2, x3⟩ := hM t
      refine ⟨xs, ?_, x2, x3⟩
      rcases x1 with h | ⟨o, e1, e2, e3, e4⟩
      · exact .inl h
      · have := hMn t o (by rw [e1]; simp [obj])
        exact .inr ⟨o, e1, e2, (tz o (by omega) (by omega) (by omega) (by omega)).trans e3, e4⟩
    · rintro r τ' ⟨rfl, y0, y1, y2, y3, y4, y5⟩
      exact ⟨rfl, y0, by omega, y2, y3, y4, fun z z1 z2 z3 z4 z5 => (y5 z z1 z2 z3 z4 z5).trans (t5 z z1 z2 z3 z4 z5)⟩
  · intro τ ⟨t0, t1, t2, t3, t4, t5⟩
    refine ⟨_, _, _, _, _, _, t2, by simp, by rw [t0]; omega, ?_⟩
    have td := (t5 (q + 2) (by omega) (by omega) (by omega) (by omega) (by omega)).trans sd
    simp (disch := omega) [Und, t0, td, -Bool.exists_bool]
    refine retP_mark (.inl rfl) t0 (by rw [AH.get_set_other _ _ _ _ (by omega)]; exact td) ?_
    refine ⟨[], rfl, ?_⟩
    have sk : ∀ z, z < τ.next → z ≠ q + 2 → z ≠ q + 3 → (AH.set (AH.set τ (q + 2 + 1) (.loop 119 0 (envB B q (.func (.func 144) [] [.ptr (some (q + 1, 0))])) .exhausted none (q + 2))) (q + 2) .dead).get z = τ.get z := fun z hz a b => by rw [AH.get_set_other _ _ _ _ a, AH.get_set_other _ _ _ _ b]
    refine hK (q + 4) _ t0 (by omega) t1 ((sk _ (by omega) (by omega) (by omega)).trans t3) ?_ fun z hz z1 z2 z3 => by rw [sk z (by omega) (by omega) (by omega), t5 z (by omega) z1 z2 z3 (by omega)]; exact so z (by omega)
    exact (t4.keep (σ' := AH.set τ (q + 2 + 1) (.loop 119 0 (envB B q (.func (.func 144) [] [.ptr (some (q + 1, 0))])) .exhausted none (q + 2))) (x := q + 3) (fun z _ h => AH.get_set_other _ _ _ _ h) (by omega) (by omega)).keep (x := q + 2) (fun z _ h => AH.get_set_other _ _ _ _ h) (by omega) (by omega)
theorem retK_mark {res : List ARes} {v : AV} {env : Env} {d : Nat} {σ : AH} (h0 : σ.lim = 0) (hd : σ.get d = some .dfr) (h : OptK (aresults env (σ.set d .dead) res) fun vs => fzV 8 (σ.set d .dead).cel (oneOf vs) = v) : RetK res v .ret ⟨env, [d]⟩ σ := by
  have e : takeMarks σ [d] = some (σ.set d .dead) := by simp only [takeMarks, hd, h0, Nat.zero_le, if_true]
  show OptK (takeMarks σ [d]) _
  rw [e]
  exact ⟨_, rfl, h⟩
theorem abound_slf (n m : Nat) : abound n m (some (.int .i64 n)) = some n := by simp [abound]
theorem aslS_wh {z i n : Nat} {c : ACap} (hc : c = .op z ∨ c = .ex n) : aslS z (.slice (some (i, 0)) n c) none (some (.int .i64 n)) (some (.int .i64 n)) = some (.slice (some (i, 0)) n (.ex n)) := by
  rcases hc with rfl | rfl
  · have e : (ACap.op z).sure n = n := rfl
    have e2 : (ACap.op z).less z 0 (some n) = some (.ex n) := rfl
    simp only [aslS, e, abounds, abound_slf]
    simp [abound, e2]
  · have e : (ACap.ex n).sure n = n := rfl
    have e2 : (ACap.ex n).less z 0 (some n) = some (.ex n) := rfl
    simp only [aslS, e, abounds, abound_slf]
    simp [abound, e2]
theorem tables_ok {nS : Bool} {s : Sext} {bs : List Bool} {m : Nat} {σ : AH} {K : AV → AH → Prop} (h0 : σ.lim ≤ σ.next) (hk : K (.func (.func 119) [] [.ptr (some (σ.next, 0)), .ptr (some (σ.next + 1, 0))]) ((σ.push (.cells (cSx false nS s))).push (.cells (bs.map AV.bool ++ [AV.map (some m)])))) :
    Call prog O (.fn 72) [eSx false nS s, .agg (bs.map AV.bool ++ [AV.map (some m)])] σ K := by
  refine @call_of' _ _ pl _ _ _ _ _ _ _ ⟨K⟩ get72 ((oo (by decide)).2 _) rfl ?_
  simp (disch := omega) []
  exact hk
/-- What Trial answers. -/
inductive TrialV (s : Sext) : AV → Prop
  | bad (a b e : Int) : e ≠ 0 → TrialV s (.tuple [vl eSpan true [], .agg [.int .i64 a, .int .i64 b], .int .i64 e])
  | ok (L : List Span) (a b : Int) : okS s → okL s L → s.il ≤ a → a ≤ b → b ≤ s.ih → TrialV s (.tuple [vl eSpan false L, .agg [.int .i64 a, .int .i64 b], .int .i64 0])
theorem Trial_ok (nT nS nl : Bool) (s : Sext) (l : List Tr) (hT : s.tab.length < 2 ^ 62) (hS : s.sh.length < 2 ^ 62) (hl : l.length < 2 ^ 62) (hn : nT = true → s.tab = []) : ∃ v, TrialV s v ∧ ans prog O 32 [eSx nT nS s, vl eTr nl l] = some v := by
  obtain ⟨v, hv, hop⟩ := opened_ok nT nS nl s l hT hS hl
  cases hv with
  | bad cs e he hc1 hc2 =>
    refine ⟨_, .bad 0 0 e he, ?_⟩
    refine fn_of' pl get32 (oo (by decide)) rfl rfl ?_
    match cs, hc1 with
    | [d1, d2, d3, d4, d5, d6], _ =>
      simp at hc2
      obtain ⟨f1, f2, f3, f4, f5, f6⟩ := hc2
      simp (disch := omega) [Und, hop, he, f1, f2, f3, f4, f5, f6, -Bool.exists_bool]
      rfl
  | ok hs ht =>
    have hnT : nT = false := by
      cases nT with
      | false => rfl
      | true => have := hs.len; rw [hn rfl] at this; simp at this
    subst hnT
    refine fn_ex pl _ get32 (oo (by decide)) rfl rfl ?_
    simp (disch := omega) [Und, hop, -Bool.exists_bool]
    generalize hσ : AH.under (AH.set (AH.push _ _) 3 _) 4 = σ0
    have s0 : σ0.lim = 4 := by rw [← hσ]; rfl
    have sn : σ0.next = 4 := by rw [← hσ]; rfl
    have g1 : σ0.get 1 = some (.cells [.vsl true []]) := by rw [← hσ]; simp
    have g2 : σ0.get 2 = some (.cells [.int .i64 0, .int .i64 0]) := by rw [← hσ]; simp
    have g3 : σ0.get 3 = some (.cells (cSx false nS s)) := by rw [← hσ]; simp
    clear hσ
    refine heard_call false nS nl s l hs ht (by omega) fun bs m es c σ1 hbl hm gm hM hO => ?_
    have n1 := hO.next
    have a1 := (hO.get 1 (by omega) (by simp)).trans g1
    have a2 := (hO.get 2 (by omega) (by simp)).trans g2
    have a3 := (hO.get 3 (by omega) (by simp)).trans g3
    have mlt := AH.get_lt gm
    simp (disch := omega) [Und, -Bool.exists_bool]
    refine tables_ok (by show 0 ≤ σ1.next; omega) ?_
    simp (disch := omega) [Und, -Bool.exists_bool]
    obtain ⟨B, hB⟩ : ∃ B, B = σ1.next := ⟨_, rfl⟩
    generalize hη : AH.push (AH.push (AH.under σ1 0) _) _ = η
    have ηn : η.next = B + 2 := by rw [← hη, hB]; rfl
    have ηl : η.lim = 0 := by rw [← hη]; rfl
    have ηo : ∀ z, z < B → η.get z = σ1.get z := fun z hz => by
      have e1 : ¬ z = σ1.next := by omega
      have e2 : ¬ z = σ1.next + 1 := by omega
      rw [← hη]; simp (disch := omega) [e1, e2]
    have ηB : η.get B = some (.cells (cSx false nS s)) := by rw [← hη, hB]; simp
    have ηt : η.get (B + 1) = some (.cells (bs.map AV.bool ++ [AV.map (some m)])) := by rw [← hη, hB]; simp
    clear hη
    refine rg_of (h := 119) (xs := []) (ys := [.ptr (some (B, 0)), .ptr (some (B + 1, 0))]) (by rw [hB]; rfl) ?_
    rw [ηn]
    show Call prog O (.fn 119) [.func (.yield (B + 2 + 1)) [] [], .ptr (some (B, 0)), .ptr (some (B + 1, 0))] _ _
    generalize hZ : AH.push (AH.push η _) _ = Z
    have Zl : Z.lim = 0 := by rw [← hZ]; exact ηl
    have Zn : Z.next = B + 4 := by rw [← hZ]; show η.next + 2 = _; omega
    have Zo : ∀ z, z < B + 2 → Z.get z = η.get z := fun z hz => by
      have e1 : ¬ z = η.next := by omega
      have e2 : ¬ z = η.next + 1 := by omega
      rw [← hZ]; simp (disch := omega) [e1, e2]
    have Zd : Z.get (B + 2) = some .dfr := by rw [← hZ, ← ηn]; simp
    have Zy : Z.get (B + 2 + 1) = some (.loop 32 0 (envT (.func (.func 119) [] [.ptr (some (B, 0)), .ptr (some (B + 1, 0))])) .ready none (B + 2)) := by rw [← hZ, ← ηn, hB]; simp
    clear hZ
    refine tables1_ok hs (nS := nS) (n := B + 2) (B := B) (m := m) (lo := m + 2) (c := c) (bs := bs) (es := es) (F := .func (.func 119) [] [.ptr (some (B, 0)), .ptr (some (B + 1, 0))]) Zl (by omega) ⟨by omega, by omega⟩ ⟨by omega, by omega⟩ (by omega) Zy ((Zo B (by omega)).trans ηB) ((Zo (B + 1) (by omega)).trans ηt) hbl ((Zo m (by omega)).trans ((ηo m (by omega)).trans gm)) (fun t => ?_) (fun t z hz => ?_) ((Zo 1 (by omega)).trans ((ηo 1 (by omega)).trans a1)) ((Zo 2 (by omega)).trans ((ηo 2 (by omega)).trans a2)) fun p τ t0 tp tn ty tT tk => ?_
    · obtain ⟨xs, x1, x2, x3⟩ := hM t
      refine ⟨xs, ?_, x2, x3⟩
      rcases x1 with h | ⟨o, e1, e2, e3, e4⟩
      · exact .inl h
      · have := AH.get_lt e3
        exact .inr ⟨o, e1, e2, (Zo o (by omega)).trans ((ηo o (by omega)).trans e3), e4⟩
    · obtain ⟨xs, x1, _⟩ := hM t
      have := (x1.obj_lt z hz).2
      omega
    refine ⟨_, _, _, _, _, _, ty, by simp, by rw [t0]; omega, ?_⟩
    have td : τ.get (B + 2) = some .dfr := (tk (B + 2) (by omega) (by omega) (by omega) (by omega)).trans Zd
    have hk1 := tT.keep (σ' := τ.set (B + 2 + 1) (.loop 32 0 (envT (.func (.func 119) [] [.ptr (some (B, 0)), .ptr (some (B + 1, 0))])) .exhausted none (B + 2))) (x := B + 2 + 1) (fun z _ h => AH.get_set_other _ _ _ _ h) (by omega) (by omega)
    have hd1 : (τ.set (B + 2 + 1) (.loop 32 0 (envT (.func (.func 119) [] [.ptr (some (B, 0)), .ptr (some (B + 1, 0))])) .exhausted none (B + 2))).get (B + 2) = some .dfr := by rw [AH.get_set_other _ _ _ _ (by omega)]; exact td
    have hn1 : (τ.set (B + 2 + 1) (.loop 32 0 (envT (.func (.func 119) [] [.ptr (some (B, 0)), .ptr (some (B + 1, 0))])) .exhausted none (B + 2))).next = τ.next := rfl
    have hl1 : (τ.set (B + 2 + 1) (.loop 32 0 (envT (.func (.func 119) [] [.ptr (some (B, 0)), .ptr (some (B + 1, 0))])) .exhausted none (B + 2))).lim = 0 := t0
    generalize τ.set (B + 2 + 1) _ = ω at hk1 hd1 hn1 hl1 ⊢
    have w1 : 1 < ω.next := by omega
    have w2 : 2 < ω.next := by omega
    rcases hk1 with ⟨b1, b2⟩ | ⟨tv, L, a, b, b1, b2, b3, b4, b5, b6, b7⟩
    · simp (disch := omega) [Und, hl1, b1, b2, w1, w2, -Bool.exists_bool]
      refine ⟨_, .bad 0 0 54 (by decide), retK_mark hl1 (by rw [AH.get_set_other _ _ _ _ (by omega), AH.get_set_other _ _ _ _ (by omega)]; exact hd1) ?_⟩
      have y1 : ¬ 1 = B + 2 := by omega
      have y2 : ¬ 2 = B + 2 := by omega
      have y3 : ¬ B = 0 := by omega
      simp (disch := omega) [y1, y2, y3, w1, w2, -Bool.exists_bool]
      rfl
    · obtain ⟨o, oc, rfl, c1, c2, c3⟩ := id b3
      have hsl := aslS_wh (i := o) c3
      simp (disch := omega) [Und, hl1, b1, b2, w1, w2, hsl, -Bool.exists_bool]
      refine ⟨_, .ok L a b hs b4 b5 b6 b7, retK_mark hl1 (by rw [AH.get_set_other _ _ _ _ (by omega), AH.get_set_other _ _ _ _ (by omega)]; exact hd1) ?_⟩
      have y1 : ¬ 1 = B + 2 := by omega
      have y2 : ¬ 2 = B + 2 := by omega
      have y3 : ¬ B = 0 := by omega
      simp (disch := omega) [y1, y2, y3, w1, w2, -Bool.exists_bool]
      exact fz_whole encSpan flatSp (o := o) (xs := L) (c := .ex L.length) (AH.cel_get (by rw [AH.get_set_other _ _ _ _ (by omega), AH.get_set_other _ _ _ _ (by omega), AH.get_set_other _ _ _ _ (by omega)]; exact c2)) (.inr rfl) 5
end Go.Oct.Cry.Sx
