/- Posts: the program's search. -/
import Derived.Test.YtpgjndgpackffaaDoorOShopPosA
import Derived.Test.YtpgjndgpackffaaDoorOT4
set_option maxRecDepth 100000
set_option maxHeartbeats 2000000
set_option linter.unusedVariables false
set_option linter.unusedSimpArgs false
namespace Go.Oct.Shop
open Go.Oct
/-- A slice, nil or in an object of its own. -/
def SlO (lo : Nat) (σ : AH) (v : AV) (g : List Int) : Prop := (v = .vsl true [] ∧ g = []) ∨ Whole lo 1 (AV.int .i64) σ v g
theorem SlO.keep {lo : Nat} {σ σ' : AH} {v : AV} {g : List Int} (h : SlO lo σ v g) (hk : ∀ i, lo ≤ i → i < σ.next → σ'.get i = σ.get i) : SlO lo σ' v g := by
  rcases h with h | ⟨i, c, rfl, h2, h3, h4⟩
  · exact .inl h
  · exact .inr ⟨i, c, rfl, h2, by rw [hk i h2 (AH.get_lt h3)]; exact h3, h4⟩
theorem SlO.lower {lo lo' : Nat} {σ : AH} {v : AV} {g : List Int} (h : SlO lo σ v g) (hl : lo' ≤ lo) : SlO lo' σ v g := by
  rcases h with h | h
  · exact .inl h
  · exact .inr (h.lower hl)
theorem SlO.snap {lo : Nat} {σ : AH} {v : AV} {g : List Int} (h : SlO lo σ v g) : ∃ nl S, Snap σ v S (vs nl g) ∧ (closed 8 v = true → vs nl g = v) := by
  rcases h with ⟨rfl, rfl⟩ | h
  · exact ⟨true, [], Snap.vl σ (AV.int .i64) true ([] : List Int), fun _ => rfl⟩
  · exact ⟨false, _, h.view.snap encI flatI, fun hc => by rw [h.view.closed] at hc; cases hc⟩
theorem SlO.len {lo : Nat} {σ : AH} {v : AV} {g : List Int} (h : SlO lo σ v g) : alen v = some (.int .i64 g.length) := by
  rcases h with ⟨rfl, rfl⟩ | h
  · rfl
  · exact h.len
theorem imap_get' {xs : List Int} {i : Nat} (h : i < xs.length) : (xs.map (AV.int .i64))[i]? = some (.int .i64 (nth xs i)) := by
  rw [nth_eq h]; simp [h]
theorem whole_srcP {lo : Nat} {σ : AH} {v : AV} {xs : List Int} (h : Whole lo 1 (AV.int .i64) σ v xs) : lenOf v = some xs.length ∧ srcOf σ 1 xs.length v = some (rowOf (AV.int .i64) xs) := by
  obtain ⟨i, c, rfl, h2, h3, h4⟩ := h
  refine ⟨rfl, ?_⟩
  simp only [srcOf, cellsAt, row_def, h3, rowOf_length encI, Nat.zero_add, Nat.le_refl, if_true, List.drop_zero]
  rw [← rowOf_length encI, List.take_length]
theorem Clone_ok {lo : Nat} {σ : AH} {v : AV} {g : List Int} (h : SlO lo σ v g) (hg : g.length < 2 ^ 40) (hlo : lo ≤ σ.next) (hlim : σ.lim ≤ σ.next) (K : AV → AH → Prop)
    (hk : ∀ r σ', SlO σ.next σ' r g → Only [] σ σ' → K r σ') : Call prog O (.fn 93) [v] σ K := by
  refine @call_of' _ _ pl _ _ _ _ _ _ _ ⟨K⟩ get93 ((oo (by decide)).2 _) rfl ?_
  rcases h with ⟨rfl, rfl⟩ | h
  · simp +contextual (disch := omega) []
    exact hk _ _ (.inl ⟨rfl, rfl⟩) (Only.refl _ _)
  · have hv : isNil .slice v = some false := by obtain ⟨i, c, rfl, _⟩ := h; rfl
    simp +contextual (disch := omega) [hv]
    have h2 := h.stay (Only.push [] σ (.cells [])) (fun _ _ h => by cases h)
    obtain ⟨h3, h4⟩ := whole_srcP h2
    refine (Whole.lit0 (lo := σ.next) (z := 1) (e := AV.int .i64) (σ := σ) (Nat.le_refl _)).app (ys := g) encI hlim (Nat.le_succ _) h3 h4 (by simp only [topBytes, List.length_nil]; omega) fun v' σ' hw hgr => ?_
    rw [List.nil_append] at hw
    simp +contextual (disch := omega) []
    refine hk _ _ (.inr hw) ⟨hgr.lim, Nat.le_trans (Nat.le_succ _) hgr.next, fun k hk2 _ => ?_⟩
    have := hgr.get k hk2
    rw [this, get_push, if_neg (by omega)]
theorem SlO.cel {lo : Nat} {σ : AH} {v : AV} {g : List Int} (h : SlO lo σ v g) : v.cells = [v] ∧ v.dfd = true ∧ v.one = true := by
  rcases h with ⟨rfl, rfl⟩ | ⟨i, c, rfl, h2, h3, h4⟩
  · exact ⟨rfl, rfl, rfl⟩
  · exact ⟨rfl, rfl, rfl⟩
theorem SlO.fz {lo : Nat} {σ : AH} {v : AV} {g : List Int} (h : SlO lo σ v g) (k : Nat) : ∃ nl, fzV (k + 2) σ.cel v = vs nl g := by
  rcases h with ⟨rfl, rfl⟩ | h
  · exact ⟨true, rfl⟩
  · exact ⟨false, h.fz encI flatI k⟩
/-- What the search keeps. -/
structure PJ (nM nT : Bool) (M : List Mn) (T : List Int) (σ : AH) (st : PSt) : Prop where
  lim : σ.lim = 0
  nx : 6 ≤ σ.next
  g0 : σ.get 0 = some (.cells [vl eMn nM M])
  g1 : σ.get 1 = some (.cells [vs nT T])
  g2 : ∃ w, σ.get 2 = some (.cells [w]) ∧ SlO 6 σ w st.best
  g3 : σ.get 3 = some (.cells [.int .i64 st.wages])
  g4 : σ.get 4 = some (.cells [.bool st.found])
  g5 : σ.get 5 = some (.cells [.func (.func 91) [] [.ptr (some (1, 0)), .ptr (some (0, 0)), .ptr (some (4, 0)), .ptr (some (3, 0)), .ptr (some (2, 0)), .ptr (some (5, 0))]])
theorem wage_bd {M : List Mn} {T : List Int} (h : okTk M T) {so : List Int} (hs : ∀ q, q < so.length → 0 ≤ nth so q ∧ nth so q < M.length) : ∀ j, j ≤ so.length → 0 ≤ wage M (so.take j) ∧ wage M (so.take j) ≤ 10000 * (j : Int)
  | 0, _ => by simp [wage]
  | j + 1, hj => by
    have h1 := wage_bd h hs j (by omega)
    have h2 := hs j (by omega)
    have h3 := (h.2.1 (nth so j).toNat (by omega)).2
    rw [take_succ_nth (by omega), wage_app]
    omega
theorem abound_self (n m : Nat) : abound n m (some (.int .i64 n)) = some n := by
  simp [abound]
theorem sl3 {lo : Nat} {σ : AH} {v : AV} {so : List Int} (h : SlO lo σ v so) : ∃ u, aslS 1 v none (some (.int .i64 so.length)) (some (.int .i64 so.length)) = some u ∧ ((u = .vsl true [] ∧ so = []) ∨ ∃ i, u = .slice (some (i, 0)) so.length (.ex so.length) ∧ lo ≤ i ∧ σ.get i = some (.cells (rowOf (AV.int .i64) so))) := by
  rcases h with ⟨rfl, rfl⟩ | ⟨i, c, rfl, h2, h3, h4⟩
  · exact ⟨.vsl true [], by rfl, .inl ⟨rfl, rfl⟩⟩
  · refine ⟨.slice (some (i, 0)) so.length (.ex so.length), ?_, .inr ⟨i, rfl, h2, h3⟩⟩
    have e : c.sure so.length = so.length := by rcases h4 with rfl | rfl <;> rfl
    have e2 : c.less 1 0 (some so.length) = some (.ex so.length) := by rcases h4 with rfl | rfl <;> rfl
    simp only [aslS, e, abounds, abound_self]
    simp [abound, e2]
/-- One element more behind a slice that is full: an object of its own. -/
theorem push_full {σ : AH} {i : Nat} {so : List Int} (h : σ.get i = some (.cells (rowOf (AV.int .i64) so))) (hl : so.length ≤ 1000) (w : Int) {k : AV → AH → Prop} (hk : ∀ v' σ', Whole σ.next 1 (AV.int .i64) σ' v' (so ++ [w]) → Only [] σ σ' → k v' σ') :
    OptK2 (aappend 1 8 (.slice (some (i, 0)) so.length (.ex so.length)) (.slice (some (σ.next, 0)) 1 (.ex 1)) (σ.push (.cells [.int .i64 w]))) k := by
  have hi := AH.get_lt h
  have hrow : (σ.push (.cells [.int .i64 w])).row i = some (rowOf (AV.int .i64) so) := by rw [row_def, AH.get_push_old _ _ _ (by omega), h]
  have hsz : (so.length + 1) * 8 ≤ topBytes := by simp only [topBytes]; omega
  have hlen : (rowOf (AV.int .i64) so).length = so.length * 1 := rowOf_length encI so
  have hc : cellsAt (σ.push (.cells [.int .i64 w])) (so.length * 1) (some (i, 0)) = some (rowOf (AV.int .i64) so) := by
    simp only [cellsAt, hrow, Nat.zero_add, hlen, Nat.le_refl, if_true, List.drop_zero]
    rw [← hlen, List.take_length]
  have hn : cellsAt (σ.push (.cells [.int .i64 w])) (1 * 1) (some (σ.next, 0)) = some [.int .i64 w] := by
    simp [cellsAt, row_def]
  have hone : [AV.int .i64 w].all AV.one = true := rfl
  simp only [aappend, dstOf, lenOf, srcOf, hn, if_neg (show ¬ (1 : Nat) = 0 by omega), agrow]
  rw [if_neg (show ¬ so.length + 1 ≤ so.length by omega)]
  simp only [hsz, hone, and_self, if_true, hc, optK2_some]
  refine hk _ _ ⟨σ.next + 1, .op 1, by simp, by omega, ?_, .inl rfl⟩ ((Only.push _ _ _).trans (Only.push _ _ _))
  rw [show σ.next + 1 = (σ.push (.cells [.int .i64 w])).next from rfl, AH.get_push_new, rowOf_append]
  rfl
theorem SlO.push {lo : Nat} {σ : AH} {v : AV} {g : List Int} (h : SlO lo σ v g) (hlim : σ.lim ≤ lo) (hlo : lo ≤ σ.next) (hg : g.length < 2 ^ 40) (w : Int) {k : AV → AH → Prop} (hk : ∀ v' σ', SlO lo σ' v' (g ++ [w]) → Keep lo σ σ' → k v' σ') :
    OptK2 (aappend 1 8 v (.slice (some (σ.next, 0)) 1 (.ex 1)) (σ.push (.cells [.int .i64 w]))) k := by
  rcases h with ⟨rfl, rfl⟩ | h
  · refine (Buf.nil (lo := lo) (z := 1) (e := AV.int .i64) (σ := σ)).push encI hlim hlo w (by simp only [topBytes, List.length_nil]; omega) rfl fun v' σ' h1 h2 => hk v' σ' (.inr (h1.whole (by simp))) h2.toKeep
  · exact h.push encI hlim hlo w (by simp only [topBytes]; omega) rfl fun v' σ' h1 h2 => hk v' σ' (.inr h1) h2.toKeep
theorem join_leaf {nM nT : Bool} {M : List Mn} {T : List Int} (hok : okTk M T) (so : List Int) (v : AV) (σ : AH) (st : PSt) (K : AV → AH → Prop) (hd : so.length = T.length) (hs : ∀ q, q < so.length → 0 ≤ nth so q ∧ nth so q < M.length) (hv : SlO 6 σ v so) (hp : PJ nM nT M T σ st)
    (hK : ∀ σ', PJ nM nT M T σ' (srch M T 0 so st) → σ.next ≤ σ'.next → (∀ i, 6 ≤ i → i < σ.next → σ'.get i = σ.get i) → K (.tuple []) σ') :
    Call prog O (.fn 91) [v, .ptr (some (1, 0)), .ptr (some (0, 0)), .ptr (some (4, 0)), .ptr (some (3, 0)), .ptr (some (2, 0)), .ptr (some (5, 0))] σ K := by
  obtain ⟨hl0, hn, g0, g1, ⟨w, g2, hw⟩, g3, g4, g5⟩ := hp
  have hlT := hok.1
  have hvl := hv.len
  have hl1 := AH.get_lt g1
  have hwb := wage_bd hok hs
  refine @call_of' _ _ pl _ _ _ _ _ _ _ ⟨K⟩ get91 ((oo (by decide)).2 _) rfl ?_
  simp (disch := omega) [hl0, g0, g1, hvl, hl1, hd, -Bool.exists_bool]
  refine lp_loop pl (fun k fr τ => ∃ (j : Nat) (u : AV), j + k = so.length ∧ fr = ⟨[(0, v), (2, .ptr (some (0, 0))), (3, .ptr (some (4, 0))), (4, .ptr (some (3, 0))), (5, .ptr (some (2, 0))), (8, u), (18, v), (19, .int .i64 (T.length : Nat)), (20, .int .i64 j)], []⟩ ∧
      τ.lim = 0 ∧ σ.next ≤ τ.next ∧ (∀ i, i < σ.next → τ.get i = σ.get i) ∧ Buf σ.next 1 (AV.int .i64) τ u ((so.take j).map fun m => (nth M m.toNat).wg))
    ⟨so.length, 0, .vsl true [], by omega, rfl, hl0, Nat.le_refl _, fun _ _ => rfl, Buf.nil⟩ ?_
  rintro k _ τ ⟨j, u, hj, rfl, t0, tn, tg, hb⟩
  have e0 := (tg 0 (by omega)).trans g0
  have e2 := (tg 2 (by omega)).trans g2
  have e3 := (tg 3 (by omega)).trans g3
  have e4 := (tg 4 (by omega)).trans g4
  have l0 := AH.get_lt e0
  have l2 := AH.get_lt e2
  have l3 := AH.get_lt e3
  have l4 := AH.get_lt e4
  by_cases hjl : j < so.length
  · have hsj := hs j hjl
    rcases hv with ⟨rfl, rfl⟩ | ⟨i, c, rfl, i1, i2, i3⟩
    · simp at hjl
    have ei := (tg i (AH.get_lt i2)).trans i2
    have li := AH.get_lt ei
    have hgj : (rowOf (AV.int .i64) so)[j]? = some (.int .i64 (nth so j)) := by
      have := rowI_eq so
      unfold rowI at this
      rw [this, imap_get' hjl]
    simp (disch := omega) [Und, t0, e0, l0, ei, li, hgj, hsj, hjl, show j < T.length by omega, -Bool.exists_bool]
    refine ⟨by rw [rowOf_length encI]; omega, ?_⟩
    refine hb.push encI (by omega) (by omega) (nth M (nth so j).toNat).wg (by simp only [topBytes, List.length_map, List.length_take]; omega) rfl fun u' τ' h3 h4 => ?_
    have t4 := h4.lim
    have t5 := h4.next
    simp (disch := omega) [-Bool.exists_bool]
    exact ⟨k - 1, by omega, j + 1, by omega, u', ⟨rfl, by omega⟩, by omega, by omega, (fun i hi => (h4.get i hi).trans (tg i hi)), by rw [← List.map_take, take_succ_nth hjl, List.map_append]; exact h3⟩
  · obtain rfl : j = so.length := by omega
    rw [List.take_length] at hb
    have hsum := sum_ok (List.map (fun m => (nth M m.toNat).wg) so).isEmpty (List.map (fun m => (nth M m.toNat).wg) so) (by simp; omega) (fun j hj => by
      have := hwb j (by simpa using hj)
      rw [← List.map_take]
      unfold wage at this
      simp at hj
      omega)
    simp (disch := omega) [Und, t0, e0, l0, show ¬ so.length < T.length by omega, -Bool.exists_bool]
    refine hb.call encI flatI (by omega) (oo (args := []) (by decide)).1 hsum fun τ1 h1 => ?_
    have q0 : τ1.lim = 0 := h1.lim.trans t0
    have qn := h1.next
    have qg : ∀ i, i < σ.next → τ1.get i = σ.get i := fun i hi => by
      rw [h1.get i (by omega) fun h => by have := (hb.obj_lt i h).1; omega]
      exact tg i hi
    have f2 := (qg 2 (by omega)).trans g2
    have f3 := (qg 3 (by omega)).trans g3
    have f4 := (qg 4 (by omega)).trans g4
    have m2 := AH.get_lt f2
    have m3 := AH.get_lt f3
    have m4 := AH.get_lt f4
    have hwsum : (so.map fun m => (nth M m.toNat).wg).sum = wage M so := rfl
    rw [hwsum]
    have keep : PJ nM nT M T τ1 st := ⟨q0, by omega, (qg 0 (by omega)).trans g0, (qg 1 (by omega)).trans g1, ⟨w, f2, hw.keep fun i _ hi => qg i hi⟩, f3, f4, (qg 5 (by omega)).trans g5⟩
    by_cases hbet : st.found = false ∨ wage M so < st.wages
    · have hsr : srch M T 0 so st = ⟨true, wage M so, so⟩ := if_pos hbet
      rw [hsr] at hK
      have rest : ∀ (w2 : AV) (τ2 : AH), SlO τ1.next τ2 w2 so → Only [] τ1 τ2 → K (.tuple []) (((τ2.set 2 (.cells [w2])).set 3 (.cells [.int .i64 (wage M so)])).set 4 (.cells [.bool true])) := fun w2 τ2 hw2 ho => by
        have og : ∀ i, i < τ1.next → τ2.get i = τ1.get i := fun i hi => ho.get i hi (by simp)
        have on := ho.next
        have ol : τ2.lim = 0 := ho.lim.trans q0
        generalize hτ3 : ((τ2.set 2 (.cells [w2])).set 3 (.cells [.int .i64 (wage M so)])).set 4 (.cells [.bool true]) = τ3
        have x0 : τ3.lim = 0 := by rw [← hτ3]; exact ol
        have xn : τ3.next = τ2.next := by rw [← hτ3]; rfl
        have xg : ∀ i, i ≠ 2 → i ≠ 3 → i ≠ 4 → τ3.get i = τ2.get i := fun i a b c => by rw [← hτ3, AH.get_set_other _ _ _ _ (by omega), AH.get_set_other _ _ _ _ (by omega), AH.get_set_other _ _ _ _ (by omega)]
        have x2 : τ3.get 2 = some (.cells [w2]) := by rw [← hτ3, AH.get_set_other _ _ _ _ (by omega), AH.get_set_other _ _ _ _ (by omega)]; simp [AH.get_set_same, show 2 < τ2.next by omega]
        have x3 : τ3.get 3 = some (.cells [.int .i64 (wage M so)]) := by rw [← hτ3, AH.get_set_other _ _ _ _ (by omega)]; simp [AH.get_set_same, show 3 < τ2.next by omega]
        have x4 : τ3.get 4 = some (.cells [.bool true]) := by rw [← hτ3]; simp [AH.get_set_same, show 4 < τ2.next by omega]
        have xall : ∀ i, i < σ.next → i ≠ 2 → i ≠ 3 → i ≠ 4 → τ3.get i = σ.get i := fun i h a b c => by rw [xg i a b c, og i (by omega), qg i h]
        refine hK τ3 ⟨x0, by omega, (xall 0 (by omega) (by omega) (by omega) (by omega)).trans g0, (xall 1 (by omega) (by omega) (by omega) (by omega)).trans g1, ⟨w2, x2, ?_⟩, x3, x4, (xall 5 (by omega) (by omega) (by omega) (by omega)).trans g5⟩ (by omega) fun i h6 hi => xall i hi (by omega) (by omega) (by omega)
        exact (hw2.lower (by omega)).keep fun i h6 _ => xg i (by omega) (by omega) (by omega)
      have hv1 : SlO 6 τ1 v so := hv.keep fun i _ hi => qg i hi
      have stores : ∀ (w2 : AV) (τ2 : AH), SlO τ1.next τ2 w2 so → Only [] τ1 τ2 → τ2.lim = 0 ∧ 6 ≤ τ2.next ∧ τ2.get 2 = some (.cells [w]) ∧ τ2.get 3 = some (.cells [.int .i64 st.wages]) ∧ τ2.get 4 = some (.cells [.bool st.found]) := fun w2 τ2 _ ho => by
        have og : ∀ i, i < τ1.next → τ2.get i = τ1.get i := fun i hi => ho.get i hi (by simp)
        exact ⟨ho.lim.trans q0, by have := ho.next; omega, (og 2 m2).trans f2, (og 3 m3).trans f3, (og 4 m4).trans f4⟩
      by_cases hf : st.found = false
      · simp (disch := omega) [q0, f3, f4, m3, m4, hf, -Bool.exists_bool]
        refine Clone_ok hv1 (by omega) (by omega) (by omega) _ fun w2 τ2 hw2 ho => ?_
        obtain ⟨s0, s1, s2, s3, s4⟩ := stores w2 τ2 hw2 ho
        obtain ⟨z1, z2, z3⟩ := hw2.cel
        simp (disch := omega) [s0, s2, s3, s4, z1, z2, z3, -Bool.exists_bool]
        exact rest w2 τ2 hw2 ho
      · have hf' : st.found = true := by simpa using hf
        have hlt : wage M so < st.wages := by
          rcases hbet with h | h
          · exact absurd h hf
          · exact h
        simp (disch := omega) [q0, f3, f4, m3, m4, hf', hlt, -Bool.exists_bool]
        refine Clone_ok hv1 (by omega) (by omega) (by omega) _ fun w2 τ2 hw2 ho => ?_
        obtain ⟨s0, s1, s2, s3, s4⟩ := stores w2 τ2 hw2 ho
        obtain ⟨z1, z2, z3⟩ := hw2.cel
        simp (disch := omega) [s0, s2, s3, s4, z1, z2, z3, -Bool.exists_bool]
        exact rest w2 τ2 hw2 ho
    · have hsr : srch M T 0 so st = st := if_neg hbet
      rw [hsr] at hK
      have hf' : st.found = true := by
        cases h : st.found with
        | true => rfl
        | false => exact absurd (.inl h) hbet
      have hlt : ¬ wage M so < st.wages := fun h => hbet (.inr h)
      simp (disch := omega) [q0, f3, f4, m3, m4, hf', hlt, -Bool.exists_bool]
      exact hK τ1 keep (by omega) fun i _ hi => qg i hi
theorem join_call {nM nT : Bool} {M : List Mn} {T : List Int} (hok : okTk M T) : ∀ (d : Nat) (so : List Int) (v : AV) (σ : AH) (st : PSt) (K : AV → AH → Prop), so.length + d = T.length → (∀ q, q < so.length → 0 ≤ nth so q ∧ nth so q < M.length) → SlO 6 σ v so → PJ nM nT M T σ st →
    (∀ σ', PJ nM nT M T σ' (srch M T d so st) → σ.next ≤ σ'.next → (∀ i, 6 ≤ i → i < σ.next → σ'.get i = σ.get i) → K (.tuple []) σ') →
    Call prog O (.fn 91) [v, .ptr (some (1, 0)), .ptr (some (0, 0)), .ptr (some (4, 0)), .ptr (some (3, 0)), .ptr (some (2, 0)), .ptr (some (5, 0))] σ K
  | 0, so, v, σ, st, K, hd, hs, hv, hp, hK => join_leaf hok so v σ st K hd hs hv hp hK
  | d + 1, so, v, σ, st, K, hd, hs, hv, hp, hK => by
    have hp0 := hp
    obtain ⟨hl0, hn, g0, g1, ⟨w, g2, hw⟩, g3, g4, g5⟩ := hp
    have hlT := hok.1
    have hvl := hv.len
    have hl0' := AH.get_lt g0
    have hl1 := AH.get_lt g1
    refine @call_of' _ _ pl _ _ _ _ _ _ _ ⟨K⟩ get91 ((oo (by decide)).2 _) rfl ?_
    have e : ¬ (so.length : Int) = T.length := by omega
    simp (disch := omega) [hl0, g0, g1, hvl, hl0', hl1, e, -Bool.exists_bool]
    refine lp_loop pl (fun k fr τ => ∃ m : Nat, m + k = M.length ∧ fr = ⟨[(0, v), (1, .ptr (some (1, 0))), (2, .ptr (some (0, 0))), (6, .ptr (some (5, 0))), (46, .int .i64 M.length), (47, .int .i64 m)], []⟩ ∧
        PJ nM nT M T τ (srchTo M T d so m st) ∧ σ.next ≤ τ.next ∧ (∀ i, 6 ≤ i → i < σ.next → τ.get i = σ.get i))
      ⟨M.length, 0, by omega, rfl, hp0, Nat.le_refl _, fun _ _ _ => rfl⟩ ?_
    rintro k _ τ ⟨m, hm, rfl, hpj, tn, tg⟩
    obtain ⟨t0, tx, e0, e1, ⟨u, e2, hu⟩, e3, e4, e5⟩ := id hpj
    have l0 := AH.get_lt e0
    have l1 := AH.get_lt e1
    have l5 := AH.get_lt e5
    have hv1 : SlO 6 τ v so := hv.keep tg
    by_cases hml : m < M.length
    · have hmn := hok.2.1 m hml
      have htk := hok.2.2 so.length (by omega)
      have h1 := has_ok (nth M m) (nth T so.length) hmn htk
      have hsl : so.length < T.length := by omega
      have hstep := srchTo_succ M T d so m st
      have hab : ablP M T so m = (hasS (nth M m) (nth T so.length) && !so.contains (m : Int)) := rfl
      cases hh : hasS (nth M m) (nth T so.length) with
      | false =>
        rw [hh] at h1 hab
        rw [hab] at hstep
        simp at hstep
        simp (disch := omega) [Und, t0, e0, e1, e5, l0, l1, l5, hml, hvl, hsl, h1, -Bool.exists_bool]
        exact ⟨k - 1, by omega, m + 1, by omega, by omega, by rw [hstep]; exact hpj, tn, tg⟩
      | true =>
        rw [hh] at h1 hab
        obtain ⟨nl, S, hsn, hcl⟩ := hv1.snap
        have hc := Contains_ok nl so (m : Int) (by omega)
        have hpc : ∀ (r : Bool), ans prog O 95 [vs nl so, .int .i64 m] = some (.bool r) → ∀ (k1 : Kn (AV → Prop)) (k2 : Kn (AV → AH → Prop)), k1.k (.bool r) → k2.k (.bool r) τ → (if closed 8 v = true then @Ok1 AV (ans prog O 95 [v, .int .i64 m]) k1 else @PcI prog O (closed 8 v) 95 [v, .int .i64 m] τ k2) := fun r hc k1 k2 h1 h2 => by
          by_cases hc8 : closed 8 v = true
          · rw [if_pos hc8]
            rw [hcl hc8] at hc
            rw [hc, ok1_some]
            exact h1
          · rw [if_neg hc8]
            exact pc_scal (.cons hsn (.cons (Snap.int _ _ _) .nil)) (fun h => by rw [hcl h]) (by simp) (oo (args := []) (by decide)).1 hc rfl h2
        by_cases hin : so.contains (m : Int) = true
        · rw [hin] at hc hab
          rw [hab] at hstep
          simp at hstep
          simp (disch := omega) [Und, t0, e0, e1, e5, l0, l1, l5, hml, hvl, hsl, h1, -Bool.exists_bool]
          refine hpc true hc _ _ ?_ ?_
          all_goals
            simp (disch := omega) [Und, t0, e0, e1, e5, l0, l1, l5, hml, hvl, hsl, h1, -Bool.exists_bool]
            exact ⟨k - 1, by omega, m + 1, by omega, by omega, by rw [hstep]; exact hpj, tn, tg⟩
        · have hin' : so.contains (m : Int) = false := by simpa using hin
          rw [hin'] at hc hab
          rw [hab] at hstep
          simp at hstep
          obtain ⟨x, x1, x2⟩ := sl3 hv1
          have fin : ∀ (v' : AV) (σ1 : AH) (K' : AV → AH → Prop), Whole τ.next 1 (AV.int .i64) σ1 v' (so ++ [(m : Int)]) → Only [] τ σ1 → (∀ σ2, PJ nM nT M T σ2 (srchTo M T d so (m + 1) st) → τ.next ≤ σ2.next → (∀ i, 6 ≤ i → i < τ.next → σ2.get i = τ.get i) → K' (.tuple []) σ2) →
              Call prog O (.fn 91) [v', .ptr (some (1, 0)), .ptr (some (0, 0)), .ptr (some (4, 0)), .ptr (some (3, 0)), .ptr (some (2, 0)), .ptr (some (5, 0))] σ1 K' := fun v' σ1 K' h3 h4 hK' => by
            have og : ∀ i, i < τ.next → σ1.get i = τ.get i := fun i hi => h4.get i hi (by simp)
            have on := h4.next
            have p1 : PJ nM nT M T σ1 (srchTo M T d so m st) := ⟨h4.lim.trans t0, by omega, (og 0 (by omega)).trans e0, (og 1 (by omega)).trans e1, ⟨u, (og 2 (by omega)).trans e2, hu.keep fun i _ hi => og i hi⟩, (og 3 (by omega)).trans e3, (og 4 (by omega)).trans e4, (og 5 (by omega)).trans e5⟩
            refine join_call hok d (so ++ [(m : Int)]) v' σ1 _ K' (by simp; omega) (fun q hq => ?_) (.inr (h3.lower (by omega))) p1 fun σ2 p2 n2 g2 => hK' σ2 (by rw [hstep]; exact p2) (by omega) fun i a b => (g2 i a (by omega)).trans (og i b)
            by_cases hqs : q < so.length
            · rw [nth_append_left hqs]; exact hs q hqs
            · have : q = so.length := by simp at hq; omega
              subst this
              rw [nth_append_right (by omega) (by simp), Nat.sub_self]
              show 0 ≤ (m : Int) ∧ (m : Int) < M.length
              omega
          simp (disch := omega) [Und, t0, e0, e1, e5, l0, l1, l5, hml, hvl, hsl, h1, -Bool.exists_bool]
          refine hpc false hc _ _ ?_ ?_
          all_goals
            simp (disch := omega) [Und, t0, e0, e1, e5, l0, l1, l5, hml, hvl, hsl, h1, x1, -Bool.exists_bool]
          all_goals
            have hun := under_zero t0
            rcases x2 with ⟨rfl, rfl⟩ | ⟨i, rfl, i1, i2⟩
            · simp (disch := omega) [t0, hun, -Bool.exists_bool]
              refine (Buf.nil (lo := τ.next) (e := AV.int .i64) (z := 1) (σ := τ.under τ.next)).push encI (by simp [AH.under]) (by simp [AH.under]) (m : Int) (by simp [topBytes]) rfl fun v' σ1 h3 h4 => ?_
              have hw3 : Whole τ.next 1 (AV.int .i64) σ1 v' ([] ++ [(m : Int)]) := h3.whole (by simp)
              have og : ∀ i, i < τ.next → σ1.get i = τ.get i := fun i hi => h4.only.get i hi (by simp [obj])
              have qn : τ.next ≤ σ1.next := h4.next
              generalize hσ : σ1.under τ.lim = σ2
              have hσ' := hσ
              rw [t0] at hσ'
              have q0 : σ2.lim = 0 := by rw [← hσ']; rfl
              have q2 : σ2.next = σ1.next := by rw [← hσ']; rfl
              have qg : ∀ i, σ2.get i = σ1.get i := fun i => by rw [← hσ']; rfl
              have q5 := (qg 5).trans ((og 5 (by omega)).trans e5)
              simp (disch := omega) [q0, q5, hσ, hσ', -Bool.exists_bool]
              have hw4 : Whole τ.next 1 (AV.int .i64) σ2 v' ([] ++ [(m : Int)]) := by
                obtain ⟨i, c, a1, a2, a3, a4⟩ := hw3
                exact ⟨i, c, a1, a2, by rw [qg]; exact a3, a4⟩
              refine fin v' σ2 _ hw4 ⟨q0.trans t0.symm, by omega, fun i hi _ => (qg i).trans (og i hi)⟩ fun σ3 p2 n2 g2 => ?_
              simp (disch := omega) [-Bool.exists_bool]
              exact ⟨k - 1, by omega, m + 1, by omega, by omega, p2, by omega, fun i a b => (g2 i a (by omega)).trans (tg i a b)⟩
            · have i4 := AH.get_lt i2
              have i5 : ¬ i = 5 := by omega
              simp (disch := omega) [t0, hun, i4, i5, -Bool.exists_bool]
              refine push_full i2 (by omega) (m : Int) fun v' σ1 h3 h4 => ?_
              have og : ∀ i, i < τ.next → σ1.get i = τ.get i := fun i hi => h4.get i hi (by simp)
              have q0 : σ1.lim = 0 := h4.lim.trans t0
              have q5 := (og 5 (by omega)).trans e5
              have qn := h4.next
              simp (disch := omega) [q0, q5, -Bool.exists_bool]
              refine fin v' σ1 _ h3 h4 fun σ2 p2 n2 g2 => ?_
              simp (disch := omega) [-Bool.exists_bool]
              exact ⟨k - 1, by omega, m + 1, by omega, by omega, p2, by omega, fun i a b => (g2 i a (by omega)).trans (tg i a b)⟩
    · obtain rfl : m = M.length := by omega
      simp (disch := omega) [Und, t0, -Bool.exists_bool]
      exact hK τ hpj tn tg
theorem posts_ok {nM nT : Bool} {M : List Mn} {T : List Int} (hok : okTk M T) :
    ∃ v, (∃ nl, v = .tuple [vs nl (specP M T T.length []).best, .int .i64 (specP M T T.length []).wages, .bool (specP M T T.length []).found]) ∧ ans prog O 74 [vl eMn nM M, vs nT T] = some v := by
  have hsr : srch M T T.length [] ⟨false, 0, []⟩ = specP M T T.length [] := by
    rw [srch_spec]
    have hb := (spec_best M T T.length [] (by simp)).2.2
    unfold joinP
    generalize specP M T T.length [] = r at *
    obtain ⟨rf, rw', rb⟩ := r
    cases rf with
    | true => simp [wage]
    | false =>
      obtain ⟨h1, h2⟩ := hb rfl
      simp at h1 h2 ⊢
      exact ⟨h2.symm, h1⟩
  refine fn_ex pl _ get74 (oo (by decide)) rfl rfl ?_
  simp (disch := omega) [-Bool.exists_bool]
  refine join_call (nM := nM) (nT := nT) hok T.length [] (.vsl true []) _ ⟨false, 0, []⟩ _ (by simp) (fun q hq => by simp at hq) (.inl ⟨rfl, rfl⟩) ⟨rfl, Nat.le_refl 6, by simp, by simp, ⟨.vsl true [], by simp, .inl ⟨rfl, rfl⟩⟩, by simp, by simp, by simp⟩ fun σ p n g => ?_
  rw [hsr] at p
  obtain ⟨t0, tx, e0, e1, ⟨u, e2, hu⟩, e3, e4, e5⟩ := p
  have l2 := AH.get_lt e2
  have l3 := AH.get_lt e3
  have l4 := AH.get_lt e4
  obtain ⟨z1, z2, z3⟩ := hu.cel
  simp (disch := omega) [t0, e2, e3, e4, l2, l3, l4, z1, z2, z3, -Bool.exists_bool]
  generalize hτ : AH.set _ 4 _ = τ
  have hu2 : SlO 6 τ u (specP M T T.length []).best := hu.keep fun i h6 _ => by rw [← hτ, AH.get_set_other _ _ _ _ (by omega), AH.get_set_other _ _ _ _ (by omega), AH.get_set_other _ _ _ _ (by omega)]
  obtain ⟨nl, hf⟩ := hu2.fz 5
  exact ⟨nl, hf⟩
end Go.Oct.Shop
