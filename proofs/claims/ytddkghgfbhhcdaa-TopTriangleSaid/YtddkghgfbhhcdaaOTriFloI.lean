/- Nets: the proof that is told, walked. -/
import Derived.Test.YtddkghgfbhhcdaaOTriFloH
set_option maxRecDepth 100000
set_option maxHeartbeats 4000000
set_option linter.unusedVariables false
set_option linter.unusedSimpArgs false
namespace Go.Oct.Tri
open Go.Oct
/-- The numbers below some that have a property. -/
def sel (f : Nat → Bool) (j : Nat) : List Int := (List.filter f (List.range j)).map fun (k : Nat) => (k : Int)
theorem sel_zero (f : Nat → Bool) : sel f 0 = [] := rfl
theorem sel_succ (f : Nat → Bool) (j : Nat) : sel f (j + 1) = sel f j ++ if f j = true then [(j : Int)] else [] := by
  unfold sel
  rw [List.range_succ, List.filter_append, List.map_append]
  congr 1
  cases h : f j <;> simp [List.filter, h]
theorem sel_len (f : Nat → Bool) (j : Nat) : (sel f j).length ≤ j := by
  unfold sel
  rw [List.length_map]
  have := List.length_filter_le f (List.range j)
  simpa using this
/-- Triangles and closed stations that a proof tells. -/
def pT (R : List Bool) (small : Bool) (j : Nat) : List Int := sel (fun t => nth R t == small) j
def pS (C : List Bool) (R : List Bool) (small : Bool) (j : Nat) : List Int := sel (fun s => nth C s && (nth R (8 + s) == small)) j
theorem buf_cel {α : Type} {lo z : Nat} {e : α → AV} {σ : AH} {v : AV} {g : List α} (h : Buf lo z e σ v g) : v.cells = [v] ∧ v.dfd = true ∧ v.one = true := by
  rcases h with ⟨rfl, rfl⟩ | ⟨i, rfl, h2, h3, h4⟩
  · exact ⟨rfl, rfl, rfl⟩
  · exact ⟨rfl, rfl, rfl⟩
section
variable {N : Nat} {nC : Bool} {C : List Bool} {aA : AV} {E : List Ed} {n i : Nat}
theorem proof_call (hE : okE E) {small : Bool} {σ : AH} {h L : List Int} (hT : 1 ≤ N ∧ N ≤ 8) (hC : C.length ≤ 8) (hn : NetI N nC C aA E n i h L σ) {K : AV → AH → Prop}
    (hk : ∀ R F v1 v2 σ', Reached E h (-1) (fromL L N) R F → Only [] σ σ' → Buf σ.next 1 (AV.int .i64) σ' v1 (pT R small N) → Buf σ.next 1 (AV.int .i64) σ' v2 (pS C R small C.length) → K (.agg [v1, v2, .bool small]) σ') :
    Call prog O (.fn 103) [.ptr (some (n, 0)), .bool small] σ K := by
  refine @call_of' _ _ pl _ _ _ _ _ _ _ ⟨K⟩ get103 ((oo (by decide)).2 _) rfl ?_
  have t0 := hn.lim
  have tnn := hn.net
  have ll := hn.ll
  have hnl := netC_len (T := (N : Int)) (nC := nC) (C := C) (aA := aA) (i := i) (m := E.length) (L := L)
  have ltn := AH.get_lt tnn
  have lti := AH.get_lt hn.ang
  simp (disch := omega) [eqf1, eqf2, Und, t0, tnn, hnl, ll, -Bool.exists_bool, -getElem?_pos]
  generalize hτ : AH.push σ _ = τ
  have a0 : τ.lim = 0 := by rw [← hτ]; exact t0
  have an : τ.next = σ.next + 1 := by rw [← hτ]; rfl
  have ag : ∀ k, k < σ.next → τ.get k = σ.get k := fun k hk => by rw [← hτ, AH.get_push_old _ _ _ (by omega)]
  have a4 : ∃ cs, τ.get σ.next = some (.cells cs) ∧ cs.length = 3 := by rw [← hτ]; exact ⟨_, AH.get_push_new _ _, rfl⟩
  clear hτ
  obtain ⟨c4, a4, a5⟩ := a4
  refine lp_loop pl (fun k2 fr υ => ∃ j : Nat, k2 + j = N ∧ fr = ⟨[(0, .ptr (some (n, 0))), (1, .bool small), (4, .ptr (some (σ.next, 0))), (5, .ptr (some (σ.next + 1, 0))), (16, .int .i64 N), (17, .int .i64 j)], []⟩ ∧
      υ.lim = 0 ∧ υ.next = τ.next + 1 ∧ (∀ k, k < τ.next → υ.get k = τ.get k) ∧ υ.get τ.next = some (.cells (bC (fromL L j))))
    ⟨N, 0, by omega, rfl, a0, rfl, fun k hk => by simp (disch := omega) [eqf1, eqf2], by rw [fromL_zero]; simp; rfl⟩ ?_
  rintro k2 _ υ ⟨j, hj, rfl, v0, vn, vg, vb⟩
  have vnn := (vg n (by omega)).trans ((ag n ltn).trans tnn)
  have hbl := bC_len (fromL_len L j)
  rw [an] at vb
  by_cases hjN : j < N
  · have h1' : (j : Int) < N := by omega
    have h2' : (j : Int) < 17 := by omega
    have h3' : j ≤ 16 := by omega
    have h4' : 4 + j + 1 ≤ 4 + 17 := by omega
    have hnp := netC_L (T := (N : Int)) (nC := nC) (C := C) (aA := aA) (i := i) (m := E.length) (L := L) (k := j) (by omega)
    have hbs := bC_set (fromL L j) j (decide (0 < nth L j))
    rw [fromL_succ L (by omega)] at hbs
    have lvb := AH.get_lt vb
    simp (disch := omega) [eqf1, eqf2, Und, v0, vnn, vb, lvb, hnl, ll, hnp, hbl, hbs, h1', h2', h3', h4', -Bool.exists_bool, -getElem?_pos]
    refine ⟨k2 - 1, by omega, j + 1, by omega, by omega, vn, fun k hk => ?_, ?_⟩
    · rw [if_neg (by omega)]; exact vg k hk
    · rw [an]; simp [lvb]
  · obtain rfl : j = N := by omega
    have h17 : (bC (fromL L j)).take 17 = bC (fromL L j) := List.take_of_length_le (by omega)
    simp (disch := omega) [eqf1, eqf2, Und, v0, vb, hbl, h17, -Bool.exists_bool, -getElem?_pos]
    have un : NetI j nC C aA E n i h L υ := hn.stay (v0.trans t0.symm) ((vg n (by omega)).trans (ag n ltn)) ((vg i (by omega)).trans (ag i lti))
    refine reached_call hE v0 (Nat.zero_le _) un.r (fromL_len L j) fun R F ω hR ho => ?_
    have o0 := ho.lim.trans v0
    have onx := ho.next
    have og : ∀ k, k < υ.next → ω.get k = υ.get k := fun k hk => ho.get k hk (by simp)
    have onn := (og n (by omega)).trans vnn
    have ltn2 := AH.get_lt onn
    have hRl := rC_len hR.rl hR.fl
    have hRo : (rC R F).all AV.one = true := by simp [rC, Function.comp_def]
    have hpc : putCells [AV.bool false, AV.bool false, AV.bool false, AV.bool false, AV.bool false, AV.bool false, AV.bool false, AV.bool false, AV.bool false, AV.bool false, AV.bool false, AV.bool false, AV.bool false, AV.bool false, AV.bool false, AV.bool false, AV.bool false, Oct.L.z 0, Oct.L.z 0, Oct.L.z 0, Oct.L.z 0, Oct.L.z 0, Oct.L.z 0, Oct.L.z 0, Oct.L.z 0, Oct.L.z 0, Oct.L.z 0, Oct.L.z 0, Oct.L.z 0, Oct.L.z 0, Oct.L.z 0, Oct.L.z 0, Oct.L.z 0, Oct.L.z 0] 0 (rC R F) = rC R F := putCells_full (by rw [hRl]; rfl)
    simp (disch := omega) [eqf1, eqf2, Und, o0, onn, cells_rC, hRl, hRo, hpc, hnl, ll, -Bool.exists_bool, -getElem?_pos]
    generalize hω1 : AH.set (AH.push _ _) (ω.next + 1) _ = ω1
    have w0 : ω1.lim = 0 := by rw [← hω1]; exact o0
    have wn : ω1.next = ω.next + 2 := by rw [← hω1]; rfl
    have wg : ∀ k, k < ω.next → ω1.get k = ω.get k := fun k hk => by rw [← hω1]; simp (disch := omega) [eqf1, eqf2]
    have wr : ω1.get ω.next = some (.cells (rC R F)) := by rw [← hω1]; simp (disch := omega) [eqf1, eqf2]
    have wp : ω1.get (ω.next + 1) = some (.cells [.vsl true [], .vsl true [], .bool small]) := by rw [← hω1]; simp (disch := omega) [eqf1, eqf2]
    have wnn := (wg n (by omega)).trans onn
    have w4 : ω1.get σ.next = some (.cells c4) := by rw [wg _ (by omega), og _ (by omega), vg _ (by omega)]; exact a4
    clear hω1
    refine lp_loop pl (fun k2 fr s => ∃ (t : Nat) (v1 : AV), k2 + t = j ∧ fr = ⟨[(0, .ptr (some (n, 0))), (1, .bool small), (4, .ptr (some (σ.next, 0))), (7, .ptr (some (ω.next, 0))), (8, .ptr (some (ω.next + 1, 0))), (39, .int .i64 j), (40, .int .i64 t)], []⟩ ∧
        s.lim = 0 ∧ ω1.next ≤ s.next ∧ (∀ k, k < ω.next + 1 → s.get k = ω1.get k) ∧ s.get (ω.next + 1) = some (.cells [v1, .vsl true [], .bool small]) ∧ Buf (ω.next + 2) 1 (AV.int .i64) s v1 (pT R small t))
      ⟨j, 0, .vsl true [], by omega, rfl, w0, Nat.le_refl _, fun _ _ => rfl, wp, by unfold pT; rw [sel_zero]; exact Buf.nil⟩ ?_
    rintro k3 _ s ⟨t, v1, ht, rfl, s0, sn, sg, sp, sb⟩
    have sr : s.get ω.next = _ := (sg ω.next (by omega)).trans wr
    have snn : s.get n = _ := (sg n (by omega)).trans wnn
    by_cases htN : t < j
    · have h1' : (t : Int) < j := by omega
      have h2' : (t : Int) < 17 := by omega
      have h3' : t ≤ 33 := by omega
      have hRt := rC_is (F := F) hR.rl (q := t) (by omega)
      have lsp := AH.get_lt sp
      have hpl := sel_len (fun t => nth R t == small) t
      by_cases hb : nth R t = small
      · simp (disch := omega) [eqf1, eqf2, Und, s0, sp, sr, hRl, hRt, hb, h1', h2', h3', -Bool.exists_bool, -getElem?_pos]
        refine sb.push encI (by omega) (by omega) (t : Int) (by unfold pT; simp only [topBytes]; omega) rfl fun v' s' q1 q2 => ?_
        obtain ⟨x1, x2, x3⟩ := buf_cel q1
        have y0 := q2.lim.trans s0
        have yn := q2.next
        have yp : s'.get (ω.next + 1) = _ := (q2.get _ (by omega)).trans sp
        have lyp := AH.get_lt yp
        simp (disch := omega) [eqf1, eqf2, Und, y0, yp, lyp, x1, x2, x3, -Bool.exists_bool, -getElem?_pos]
        refine ⟨k3 - 1, by omega, t + 1, by omega, by omega, by omega, fun k hk => ?_, ?_⟩
        · rw [if_neg (by omega), q2.get k (by omega)]; exact sg k hk
        · have : pT R small (t + 1) = pT R small t ++ [(t : Int)] := by
            unfold pT; rw [sel_succ, if_pos (by simp [hb])]
          rw [this]
          exact q1.keep fun k h1 h2 => AH.get_set_other _ _ _ _ (by omega)
      · simp (disch := omega) [eqf1, eqf2, Und, s0, sp, sr, hRl, hRt, hb, h1', h2', h3', -Bool.exists_bool, -getElem?_pos]
        refine ⟨k3 - 1, by omega, t + 1, by omega, by omega, sn, sg, ?_⟩
        have : pT R small (t + 1) = pT R small t := by
          unfold pT; rw [sel_succ, if_neg (by simp [hb])]; simp
        rw [this]; exact sb
    · obtain rfl : t = j := by omega
      have hnl' : 2 ≤ 4 + L.length := by omega
      simp (disch := omega) [eqf1, eqf2, Und, s0, snn, hnl, hnl', -Bool.exists_bool, -getElem?_pos]
      refine lp_loop pl (fun k2 fr s => ∃ (q : Nat) (v2 : AV), k2 + q = C.length ∧ fr = ⟨[(1, .bool small), (4, .ptr (some (σ.next, 0))), (7, .ptr (some (ω.next, 0))), (8, .ptr (some (ω.next + 1, 0))), (60, vl AV.bool nC C), (61, .int .i64 C.length), (62, .int .i64 q)], []⟩ ∧
          s.lim = 0 ∧ ω1.next ≤ s.next ∧ (∀ k, k < ω.next + 1 → s.get k = ω1.get k) ∧ s.get (ω.next + 1) = some (.cells [v1, v2, .bool small]) ∧ Buf (ω.next + 2) 1 (AV.int .i64) s v1 (pT R small t) ∧ Buf (ω.next + 2) 1 (AV.int .i64) s v2 (pS C R small q) ∧ ∀ x ∈ obj v1, x ∉ obj v2)
        ⟨C.length, 0, .vsl true [], by omega, rfl, s0, sn, sg, sp, sb, by unfold pS; rw [sel_zero]; exact Buf.nil, fun x _ h => by cases h⟩ ?_
      rintro k4 _ s1 ⟨q, v2, hq, rfl, u0, un1, ug, up, ub1, ub2, ud⟩
      have ur : s1.get ω.next = _ := (ug ω.next (by omega)).trans wr
      have lup := AH.get_lt up
      by_cases hqC : q < C.length
      · have h1' : (q : Int) < C.length := by omega
        have h2' : 8 + (q : Int) < 17 := by omega
        have h3' : 8 + q ≤ 33 := by omega
        have h5' : (8 + (q : Int)).toNat = 8 + q := by omega
        have hRq := rC_is (F := F) hR.rl (q := 8 + q) (by omega)
        have hql : (pS C R small q).length ≤ q := sel_len _ q
        have hsz : ((pS C R small q).length + 1) * 8 ≤ topBytes := by simp only [topBytes]; omega
        have h6' : 0 ≤ 8 + (q : Int) := by omega
        by_cases hb : nth C q = true
        · by_cases hb2 : nth R (8 + q) = small
          · simp (disch := omega) [eqf1, eqf2, Und, u0, up, ur, hRl, hRq, hb, hb2, h1', h2', h3', h5', h6', -Bool.exists_bool, -getElem?_pos]
            refine ub2.push encI (by omega) (by omega) (q : Int) hsz rfl fun v' s' q1 q2 => ?_
            obtain ⟨x1, x2, x3⟩ := buf_cel q1
            have y0 := q2.lim.trans u0
            have yn := q2.next
            have yp : s'.get (ω.next + 1) = _ := (q2.get _ (by omega)).trans up
            have lyp := AH.get_lt yp
            simp (disch := omega) [eqf1, eqf2, Und, y0, yp, lyp, x1, x2, x3, -Bool.exists_bool, -getElem?_pos]
            refine ⟨k4 - 1, by omega, q + 1, by omega, by omega, by omega, fun k hk => ?_, ?_, ?_, fun x hx hx2 => ?_⟩
            · rw [if_neg (by omega), q2.get k (by omega)]; exact ug k hk
            · refine (ub1.stay q2.only fun x hx => ud x hx).keep fun k h1 h2 => AH.get_set_other _ _ _ _ (by omega)
            · have : pS C R small (q + 1) = pS C R small q ++ [(q : Int)] := by
                unfold pS; rw [sel_succ, if_pos (by simp [hb, hb2])]
              rw [this]
              exact q1.keep fun k h1 h2 => AH.get_set_other _ _ _ _ (by omega)
            · rcases q2.fresh x hx2 with h | h
              · exact ud x hx h
              · have := (ub1.obj_lt x hx).2; omega
          · simp (disch := omega) [eqf1, eqf2, Und, u0, up, ur, hRl, hRq, hb, hb2, h1', h2', h3', h5', h6', -Bool.exists_bool, -getElem?_pos]
            refine ⟨k4 - 1, by omega, q + 1, by omega, by omega, un1, ug, ub1, ?_, ud⟩
            have : pS C R small (q + 1) = pS C R small q := by
              unfold pS; rw [sel_succ, if_neg (by simp [hb2])]; simp
            rw [this]; exact ub2
        · have hb' : nth C q = false := by simpa using hb
          simp (disch := omega) [eqf1, eqf2, Und, u0, up, ur, hRl, hRq, hb', h1', h2', h3', h5', h6', -Bool.exists_bool, -getElem?_pos]
          refine ⟨k4 - 1, by omega, q + 1, by omega, by omega, un1, ug, ub1, ?_, ud⟩
          have : pS C R small (q + 1) = pS C R small q := by
            unfold pS; rw [sel_succ, if_neg (by simp [hb'])]; simp
          rw [this]; exact ub2
      · obtain rfl : q = C.length := by omega
        obtain ⟨x1, x2, x3⟩ := buf_cel ub1
        obtain ⟨z1, z2, z3⟩ := buf_cel ub2
        have u4 : s1.get σ.next = _ := (ug σ.next (by omega)).trans w4
        have lu4 := AH.get_lt u4
        have hpc2 : putCells c4 0 [v1, v2, AV.bool small] = [v1, v2, AV.bool small] := putCells_full (by rw [a5]; rfl)
        simp (disch := omega) [eqf1, eqf2, Und, u0, up, u4, lu4, a5, x1, x2, x3, z1, z2, z3, hpc2, -Bool.exists_bool, -getElem?_pos]
        have low : ∀ x, ω.next + 2 ≤ x → (s1.set σ.next (.cells [v1, v2, .bool small])).get x = s1.get x := fun x hx => AH.get_set_other _ _ _ _ (by omega)
        have lo2 : ∀ {v : AV} {xs : List Int}, Buf (ω.next + 2) 1 (AV.int .i64) s1 v xs → Buf σ.next 1 (AV.int .i64) (s1.set σ.next (.cells [v1, v2, .bool small])) v xs := fun hb => by
          rcases hb with h | ⟨i, h1, h2, h3, h4⟩
          · exact .inl h
          · exact .inr ⟨i, h1, by omega, (low i h2).trans h3, h4⟩
        exact hk R F v1 v2 _ hR ⟨u0.trans t0.symm, by show σ.next ≤ s1.next; omega, fun k hk _ => by rw [AH.get_set_other _ _ _ _ (by omega), ug k (by omega), wg k (by omega), og k (by omega), vg k (by omega), ag k hk]⟩ (lo2 ub1) (lo2 ub2)
end
end Go.Oct.Tri
