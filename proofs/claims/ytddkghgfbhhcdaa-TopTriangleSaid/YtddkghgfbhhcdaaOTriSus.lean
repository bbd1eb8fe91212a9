/- Nets: Suspects of the program. -/
import Derived.Test.YtddkghgfbhhcdaaOTriEndL
set_option maxRecDepth 100000
set_option maxHeartbeats 8000000
set_option linter.unusedVariables false
set_option linter.unusedSimpArgs false
namespace Go.Oct.Tri
open Go.Oct
open Classical in
/-- Do some angles close? -/
noncomputable def clB (T : Int) (C : List Bool) (A : List An) : Bool := decide (∃ h, isCl T C A h)
theorem clB_true {T : Int} {C : List Bool} {A : List An} : clB T C A = true ↔ ∃ h, isCl T C A h := by unfold clB; simp
/-- The angles that are suspect. -/
noncomputable def susF (T : Int) (C : List Bool) (A : List An) (i : Nat) : Bool := clB T C (setA A i 0 648000)
noncomputable def susL (T : Int) (C : List Bool) (A : List An) : List Int := sel (susF T C A) A.length
inductive SusV (T : Int) (C : List Bool) (A : List An) : AV → Prop
  | bad : ¬ okNet T C A → SusV T C A (.tuple [vs true [], .int .i64 60])
  | none (h : List Int) : okNet T C A → isCl T C A h → SusV T C A (.tuple [vs true [], .int .i64 4])
  | ok (nl : Bool) : okNet T C A → (∀ h, ¬ isCl T C A h) → SusV T C A (.tuple [vs nl (susL T C A), .int .i64 0])
theorem setA_same {A : List An} {k : Nat} (hk : k < A.length) (h1 : (nth A k).lo = 0) (h2 : (nth A k).hi = 648000) : setA A k 0 648000 = A := by
  refine ext_nth (setA_len _ _ _ _) fun j hj => ?_
  rw [setA_nth hk]
  by_cases e : j = k
  · rw [if_pos e, e, ← h1, ← h2]
  · rw [if_neg e]
theorem rowAn_set2 {A : List An} {k : Nat} (hk : k < A.length) (lo hi : Int) : putCells (rowOf eAn A) (k * 4 + 2) [.int .i64 lo, .int .i64 hi] = rowOf eAn (setA A k lo hi) := by
  unfold setA
  induction A generalizing k with
  | nil => simp at hk
  | cons x A ih =>
    cases k with
    | zero => rfl
    | succ k =>
      have h1 := ih (k := k) (by simpa using hk)
      have h2 := putCells_app (eAn x).cells [.int .i64 lo, .int .i64 hi] (rowOf eAn A) (k * 4 + 2)
      rw [h1] at h2
      have e1 : (k + 1) * 4 + 2 = (eAn x).cells.length + (k * 4 + 2) := by simp; omega
      rw [e1]
      exact h2
theorem Suspects_ok (T : Int) (nC : Bool) (C : List Bool) (nA : Bool) (A : List An) (hC : C.length < 2 ^ 62) (hA : A.length < 2 ^ 62) : ∃ v, SusV T C A v ∧ ans prog O 22 [eNet T nC C nA A] = some v := by
  refine fn_ex pl _ get22 (oo (by decide)) rfl rfl ?_
  have he : AV.agg [.int .i64 T, vl AV.bool nC C, vl eAn nA A] = eNetW T nC C (vl eAn nA A) := rfl
  simp (disch := omega) [eNet, -Bool.exists_bool]
  rw [he]
  refine settled_call (A := A) hC hA rfl (.vl nA) (fun σ' h1 h2 => ?_) (fun σ' hok hpr h2 => ?_) (fun n i h L σ' hok hn hc _ => ?_)
  · simp (disch := omega) [Und, -Bool.exists_bool]
    exact .bad h1
  · have hno : ∀ h, ¬ isCl T C A h := fun h hc => by
      obtain ⟨N, rfl⟩ : ∃ N : Nat, T = N := ⟨T.toNat, by have := hok.1; omega⟩
      exact not_proved hok hc hpr
    have hN := hok.1
    have hA3 := hok.2.2.1
    have s0 : σ'.lim = 0 := h2.lim
    have sn := h2.next
    simp at sn
    have sg : σ'.get 0 = some (.cells [.int .i64 T, vl AV.bool nC C, vl eAn nA A]) := by rw [h2.get 0 (by simp) (by simp)]; simp
    simp (disch := omega) [Und, s0, sg, eqf1, eqf2, -Bool.exists_bool]
    generalize hτ : AH.set _ σ'.next _ = τ
    have t0 : τ.lim = 0 := by rw [← hτ]; exact s0
    have tn : τ.next = σ'.next + 1 := by rw [← hτ]; rfl
    have tg : τ.get 0 = some (.cells [.int .i64 T, vl AV.bool nC C, vl eAn nA A]) := by rw [← hτ, AH.get_set_other _ _ _ _ (by omega), AH.get_push_old _ _ _ (by omega)]; exact sg
    have tf : τ.get σ'.next = some (.cells [.int .i64 0, .int .i64 648000]) := by rw [← hτ, AH.get_set_same _ _ _ (Nat.lt_succ_self _)]
    clear hτ
    refine lp_loop pl (fun k fr υ => ∃ (i : Nat) (v : AV), k + i = A.length ∧ fr = ⟨[(1, .ptr (some (0, 0))), (6, .ptr (some (σ'.next, 0))), (7, v), (26, .int .i64 A.length), (27, .int .i64 i)], []⟩ ∧ υ.lim = 0 ∧ τ.next ≤ υ.next ∧
        (∀ q, q < τ.next → υ.get q = τ.get q) ∧ Buf τ.next 1 (AV.int .i64) υ v (sel (susF T C A) i))
      ⟨A.length, 0, .vsl true [], by omega, rfl, t0, Nat.le_refl _, fun _ _ => rfl, by rw [sel_zero]; exact Buf.nil⟩ ?_
    rintro k _ υ ⟨i, v, hi, rfl, v0, vn, vg, vb⟩
    have vg0 : υ.get 0 = _ := (vg 0 (by omega)).trans tg
    have vgf : υ.get σ'.next = _ := (vg _ (by omega)).trans tf
    have lvf := AH.get_lt vgf
    by_cases hiA : i < A.length
    · have hiA' : (i : Int) < A.length := by omega
      have hsl := sel_len (susF T C A) i
      by_cases hfree : (nth A i).lo = 0 ∧ (nth A i).hi = 648000
      · simp (disch := omega) [Und, eqf1, eqf2, v0, vg0, vgf, lvf, hiA', eq_true hfree.1, eq_true hfree.2, -Bool.exists_bool]
        refine ⟨k - 1, by omega, i + 1, by omega, v, ⟨rfl, by omega⟩, vn, vg, ?_⟩
        have hF : susF T C A i = false := by
          unfold susF
          rw [setA_same hiA hfree.1 hfree.2]
          cases h : clB T C A with
          | false => rfl
          | true => obtain ⟨f, hf⟩ := clB_true.1 h; exact absurd hf (hno f)
        rw [sel_succ, if_neg (by rw [hF]; simp), List.append_nil]; exact vb
      · simp (disch := omega) [Und, eqf1, eqf2, v0, vg0, vgf, lvf, hiA', -Bool.exists_bool]
        refine ⟨fun h1 h2 => absurd ⟨h1, h2⟩ hfree, fun _ => ?_⟩
        generalize hυ1 : AH.set (υ.push _) υ.next _ = υ1
        have u0 : υ1.lim = 0 := by rw [← hυ1]; exact v0
        have un : υ1.next = υ.next + 1 := by rw [← hυ1]; rfl
        have ug : ∀ q, q < υ.next → υ1.get q = υ.get q := fun q hq => by rw [← hυ1, AH.get_set_other _ _ _ _ (by omega), AH.get_push_old _ _ _ (by omega)]
        have u9 : υ1.get υ.next = some (.cells [.int .i64 T, vl AV.bool nC C, vl eAn nA A]) := by rw [← hυ1, AH.get_set_same _ _ _ (Nat.lt_succ_self _)]
        clear hυ1
        refine lit0_app (lo := υ.next + 1) (σ := υ1.push (.cells [])) (ys := A) (e := eAn) encAn (Nat.le_refl _) (by show υ.next + 1 ≤ υ1.next + 1; omega) (by rw [← un]; exact AH.get_push_new _ _) (vl_src encAn nA A) (by simp only [topBytes]; omega) fun w σ1 w1 w2 w3 => ?_
        obtain ⟨o, c, rfl, o3, g, hc⟩ := w1
        have x0 : σ1.lim = 0 := w2.lim.trans u0
        have xn := w2.next
        simp at xn
        have xg : ∀ q, q < υ1.next → σ1.get q = υ1.get q := fun q hq => by rw [w2.get q (by simp; omega) (by simp), AH.get_push_old _ _ _ (by omega)]
        have x9 : σ1.get υ.next = _ := (xg _ (by omega)).trans u9
        have xf : σ1.get σ'.next = _ := (xg _ (by omega)).trans ((ug _ lvf).trans vgf)
        have lo := AH.get_lt g
        have l9 := AH.get_lt x9
        have rl := rowOf_length encAn A
        have rs := rowAn_set2 hiA 0 648000
        have i4 : i * 4 + 2 + 2 ≤ A.length * 4 := by omega
        have ne1 : ¬ o = υ.next := by omega
        have ne2 : ¬ o = σ'.next := by omega
        simp at rs
        simp (disch := omega) [Und, eqf1, eqf2, x0, x9, xf, g, rl, rs, i4, lo, l9, ne1, ne2, hiA', -Bool.exists_bool, -getElem?_pos]
        generalize hσ2 : AH.set (σ1.set υ.next _) o _ = σ2
        have y0 : σ2.lim = 0 := by rw [← hσ2]; exact x0
        have yn : σ2.next = σ1.next := by rw [← hσ2]; rfl
        have yg : ∀ q, q ≠ o → q ≠ υ.next → σ2.get q = σ1.get q := fun q h1 h2 => by rw [← hσ2, AH.get_set_other _ _ _ _ h1, AH.get_set_other _ _ _ _ h2]
        have yo : σ2.get o = some (.cells (rowOf eAn (setA A i 0 648000))) := by rw [← hσ2]; exact AH.get_set_same _ _ _ lo
        clear hσ2
        have he2 : AV.agg [.int .i64 T, vl AV.bool nC C, .slice (some (o, 0)) A.length c] = eNetW T nC C (.slice (some (o, 0)) (setA A i 0 648000).length c) := by rw [setA_len]; rfl
        rw [he2]
        have hok2 := okNet_setA hok hiA (lo := 0) (hi := 648000) (by omega) (by omega) (by omega)
        have yall : ∀ q, q < υ.next → σ2.get q = υ.get q := fun q hq => by rw [yg q (by omega) (by omega), xg q (by omega), ug q hq]
        refine settled_call (A := setA A i 0 648000) hC (by rw [setA_len]; exact hA) y0 (.sl o c yo (by rw [setA_len]; exact hc)) (fun σ3 h1 h2 => absurd hok2 h1) (fun σ3 _ hpr o3' => ?_) (fun n i' h L σ3 _ hn hcl o3' => ?_)
        · have hF : susF T C A i = false := by
            cases h : susF T C A i with
            | false => rfl
            | true =>
              obtain ⟨f, hf⟩ := clB_true.1 h
              obtain ⟨N, rfl⟩ : ∃ N : Nat, T = N := ⟨T.toNat, by omega⟩
              exact absurd hpr (not_proved hok2 hf)
          have z1 := o3'.next
          simp (disch := omega) [Und, -Bool.exists_bool]
          refine ⟨k - 1, by omega, i + 1, by omega, v, ⟨rfl, by omega⟩, o3'.lim.trans y0, by omega, fun q hq => ?_, ?_⟩
          · rw [o3'.get q (by omega) (by simp), yall q (by omega)]; exact vg q hq
          · rw [sel_succ, if_neg (by rw [hF]; simp), List.append_nil]
            exact vb.keep fun q _ hq => by rw [o3'.get q (by omega) (by simp), yall q hq]
        · have hF : susF T C A i = true := clB_true.2 ⟨h, hcl⟩
          have z1 := o3'.next
          have z0 := o3'.lim.trans y0
          simp (disch := omega) [Und, -Bool.exists_bool]
          refine (vb.keep (σ' := σ3) fun q _ hq => by rw [o3'.get q (by omega) (by simp), yall q hq]).push encI (by omega) (by omega) (i : Int) (by simp only [topBytes]; omega) rfl fun v' σ4 q1 q2 => ?_
          have q3 := q2.next
          simp (disch := omega) [Und, -Bool.exists_bool]
          refine ⟨k - 1, by omega, i + 1, by omega, v', ⟨rfl, by omega⟩, q2.lim.trans z0, by omega, fun q hq => ?_, ?_⟩
          · rw [q2.get q hq, o3'.get q (by omega) (by simp), yall q (by omega)]; exact vg q hq
          · rw [sel_succ, if_pos hF]; exact q1
    · obtain rfl : i = A.length := by omega
      simp (disch := omega) [Und, v0, -Bool.exists_bool]
      have hfz : ∃ nl, fzV 7 υ.cel v = vs nl (susL T C A) := by
        rcases vb with ⟨rfl, hx⟩ | ⟨o, rfl, o1, o2, _⟩
        · refine ⟨true, ?_⟩
          unfold susL; rw [hx]; rfl
        · exact ⟨false, fz_whole encI flatI (f := υ.cel) (o := o) (xs := sel (susF T C A) A.length) (c := .op 1) (by simp [o2]) (.inl rfl) 5⟩
      obtain ⟨nl, hfz⟩ := hfz
      rw [hfz]
      exact .ok nl hok hno
  · simp (disch := omega) [Und, -Bool.exists_bool]
    exact .none h hok hc
end Go.Oct.Tri
