/- Logs: where true tracks are, as the specification finds it. -/
import Derived.Test.YtddclpecmjibkaaDoorOFixRefN
set_option maxRecDepth 100000
set_option maxHeartbeats 8000000
set_option linter.unusedVariables false
set_option linter.unusedSimpArgs false
namespace Go.Oct.Fix
open Go.Oct
theorem encS : Enc sS 1 := ⟨fun _ => rfl, fun _ => rfl, fun _ => rfl, by decide⟩
/-- Step by step, before a run: the part's points. -/
theorem fw_run {E N : Span} {S : List Stp} {i : Nat} (hi : i < S.length) (h : isRun (nth S i) = true) (p : Nat) : fw E N S i p = can E N (rns S) (sgs S S.length) (rnT S i).length p := by
  rw [fw_can E N S i (by omega)]
  have hl := sgs_len (S := S) i (by omega)
  have hs := rnT_succ hi
  rw [if_pos h] at hs
  have hg : sgs S (i + 1) = sgs S i ++ [[]] := by simp only [sgs]; rw [if_pos h]
  have hl2 : (rnT S (i + 1)).length = (rnT S i).length + 1 := by rw [hs]; simp
  have e1 : i + (S.length - i) = S.length := by omega
  have e2 : i + 1 + (S.length - (i + 1)) = S.length := by omega
  refine can_congr _ (fun j hj => ?_) (fun j hj => ?_) p
  · have := rnT_keep (S := S) (i := i) (d := S.length - i) (by omega) hj
    rw [e1, rnT_all] at this
    exact this.symm
  · have := sgs_keep (S := S) (i := i + 1) (d := S.length - (i + 1)) (by omega) j (by omega)
    rw [e2] at this
    rw [this, hg, nth_app_lo (by omega)]
theorem fw_end {E N : Span} {S : List Stp} (p : Nat) : fw E N S S.length p = can E N (rns S) (sgs S S.length) (rns S).length p := by
  rw [fw_can E N S S.length (Nat.le_refl _), rnT_all]
/-- A set that nobody writes. -/
def eSet (f : Nat → Bool) : AV := vl AV.bool false (bl f)
theorem rowS (ps : List Nat) : rowOf sS ps = ps.map sS := by
  unfold rowOf
  induction ps with
  | nil => rfl
  | cons p ps ih => rw [List.flatMap_cons, ih]; rfl
theorem fz_sets {σ : AH} {ps : List Nat} {co : Nat} {F : Nat → Nat → Bool} (k : Nat) (hco : σ.get co = some (.cells (rowOf sS ps))) (hp : ∀ j, j < ps.length → σ.get (nth ps j) = some (.cells (seaC (F j)))) : fzV (k + 3) σ.cel (.slice (some (co, 0)) ps.length (.op 1)) = vl eSet false ((List.range ps.length).map F) := by
  have hc2 : σ.cel co = some (rowOf sS ps) := AH.cel_get hco
  have hz : (ACap.op 1).cellsOf ps.length (ps.length) = some 1 := by simp [ACap.cellsOf]
  show (match σ.cel co with
    | some cs => if 0 ≤ cs.length then
        match (ACap.op 1).cellsOf ps.length (cs.length - 0) with
        | some z => AV.vsl false (chunks z ps.length ((cs.drop 0).map fun x => (fzV (k + 2) σ.cel x).na))
        | none => .undef
      else .undef
    | none => .undef) = _
  rw [hc2, rowS]
  simp only [Nat.zero_le, if_true, List.drop_zero, Nat.sub_zero, List.length_map, hz, List.map_map]
  have hm : ps.map ((fun x => (fzV (k + 2) σ.cel x).na) ∘ sS) = ((List.range ps.length).map F).map eSet := by
    refine List.ext_getElem? fun j => ?_
    rw [List.getElem?_map, List.getElem?_map, List.getElem?_map]
    by_cases hj : j < ps.length
    · have e1 : ps[j]? = some (nth ps j) := nth_get? hj
      rw [e1, List.getElem?_range hj]
      simp only [Option.map_some, Function.comp_apply]
      have := fz_bl (hp j hj) k
      show some ((fzV (k + 2) σ.cel (.slice (some (nth ps j, 0)) 3600 (.ex 3600))).na) = _
      rw [this]; rfl
    · rw [List.getElem?_eq_none (by omega), List.getElem?_eq_none (by simp; omega)]; rfl
  rw [hm]
  have := chunks_one (((List.range ps.length).map F).map eSet)
  rw [List.length_map, List.length_map, List.length_range] at this
  rw [this]
  simp only [vl, List.map_map]
  rfl
/-- What is known behind some steps. -/
structure AI (E N : Span) (nS : Bool) (S : List Stp) (i : Nat) (σ : AH) (p : Nat) (ov bv : AV) (ps : List Nat) : Prop where
  lim : σ.lim = 0
  g0 : σ.get 0 = some (.cells [.int .i64 E.lo, .int .i64 E.hi, .int .i64 N.lo, .int .i64 N.hi, vl eStp nS S])
  p1 : 1 ≤ p
  gp : σ.get p = some (.cells (seaC (fw E N S i)))
  bo : Buf 1 1 sS σ ov ps
  bb : Buf 1 10 eStp σ bv (rnT S i)
  dis : ∀ z ∈ obj ov, z ∉ obj bv
  len : ps.length = (rnT S i).length
  lt : ∀ j, j < ps.length → nth ps j < p
  inc : ∀ j k, j < k → k < ps.length → nth ps j < nth ps k
  pj : ∀ j, j < ps.length → 1 ≤ nth ps j ∧ σ.get (nth ps j) = some (.cells (seaC (can E N (rns S) (sgs S S.length) j))) ∧ nth ps j ∉ obj ov ∧ nth ps j ∉ obj bv
  po : p ∉ obj ov
  pb : p ∉ obj bv
theorem AI.stay {E N : Span} {nS : Bool} {S : List Stp} {i : Nat} {σ σ' : AH} {p : Nat} {ov bv : AV} {ps : List Nat} (h : AI E N nS S i σ p ov bv ps) (hl : σ'.lim = σ.lim) (hg : ∀ z, z < σ.next → σ'.get z = σ.get z) : AI E N nS S i σ' p ov bv ps := by
  obtain ⟨h1, h2, h3, h4, h5, h6, h7, h8, h9, h10, h11, h12, h13⟩ := h
  refine ⟨hl.trans h1, (hg _ (AH.get_lt h2)).trans h2, h3, (hg _ (AH.get_lt h4)).trans h4, h5.keep fun z _ hz => hg z hz, h6.keep fun z _ hz => hg z hz, h7, h8, h9, h10, fun j hj => ?_, h12, h13⟩
  obtain ⟨a, b, c, d⟩ := h11 j hj
  exact ⟨a, (hg _ (AH.get_lt b)).trans b, c, d⟩
/-- Another step, that is not a run. -/
theorem AI.held {E N : Span} {nS : Bool} {S : List Stp} {i : Nat} {σ σ' : AH} {p p' : Nat} {ov bv : AV} {ps : List Nat} (h : AI E N nS S i σ p ov bv ps) (hi : i < S.length) (hk : (nth S i).k ≠ 2) (ho : Only [] σ σ') (hp : σ.next ≤ p') (hg : σ'.get p' = some (.cells (seaC fun n => fw E N S i n && hldN (nth S i) n))) : AI E N nS S (i + 1) σ' p' ov bv ps := by
  have hr : isRun (nth S i) = false := by unfold isRun; exact decide_eq_false hk
  have hs := rnT_succ hi
  rw [if_neg (by rw [hr]; simp), List.append_nil] at hs
  obtain ⟨h1, h2, h3, h4, h5, h6, h7, h8, h9, h10, h11, h12, h13⟩ := h.stay ho.lim fun z hz => ho.get z hz (by simp)
  have hpl := AH.get_lt h.gp
  refine ⟨h1, h2, by omega, ?_, h5, by rw [hs]; exact h6, h7, by rw [hs]; exact h8, fun j hj => by have := h9 j hj; omega, h10, h11, fun hz => ?_, fun hz => ?_⟩
  · rw [hg]
    refine congrArg (fun c => some (AObj.cells c)) (seaC_congr fun n _ => ?_)
    simp only [fw]
    rw [if_neg (by rw [hr]; simp)]
  · have := (h.bo.obj_lt _ hz).2; omega
  · have := (h.bb.obj_lt _ hz).2; omega
/-- A run: both lists have grown. -/
theorem AI.run {E N : Span} {nS : Bool} {S : List Stp} {i : Nat} {σ σ1 σ2 σ3 : AH} {p p' : Nat} {ov bv ov' bv' : AV} {ps : List Nat} (h : AI E N nS S i σ p ov bv ps) (hi : i < S.length) (hk : (nth S i).k = 2) (b1 : Buf 1 1 sS σ1 ov' (ps ++ [p])) (g1 : Grew 1 ov ov' σ σ1) (b2 : Buf 1 10 eStp σ2 bv' (rnT S i ++ [nth S i])) (g2 : Grew 1 bv bv' σ1 σ2) (ho : Only [] σ2 σ3) (hp : σ2.next ≤ p') (hg : σ3.get p' = some (.cells (seaC (mv (nth S i) (fw E N S i))))) : AI E N nS S (i + 1) σ3 p' ov' bv' (ps ++ [p]) := by
  have hr : isRun (nth S i) = true := by unfold isRun; exact decide_eq_true hk
  have hs := rnT_succ hi
  rw [if_pos hr] at hs
  have hpl := AH.get_lt h.gp
  have n1 := g1.next
  have n2 := g2.next
  have n3 := ho.next
  have old : ∀ z, z < σ.next → z ∉ obj ov → z ∉ obj bv → σ3.get z = σ.get z := fun z hz ho1 hb1 => by
    rw [ho.get z (by omega) (by simp), g2.only.get z (by omega) hb1, g1.only.get z hz ho1]
  have hbo : ∀ z ∈ obj ov', z ∈ obj ov ∨ σ.next ≤ z := g1.fresh
  have hbb : ∀ z ∈ obj bv', z ∈ obj bv ∨ σ1.next ≤ z := g2.fresh
  have l1 := b1.obj_lt
  have l2 := b2.obj_lt
  have lo := h.bo.obj_lt
  have lb := h.bb.obj_lt
  have nlen : (ps ++ [p]).length = ps.length + 1 := by simp
  have hlo : ∀ j, j < ps.length → nth (ps ++ [p]) j = nth ps j := fun j hj => nth_app_lo hj
  have hhi : nth (ps ++ [p]) ps.length = p := nth_app_hi
  refine ⟨by rw [ho.lim, g2.lim, g1.lim, h.lim], ?_, by have := h.p1; omega, ?_, ?_, ?_, ?_, by rw [hs, nlen, List.length_append, h.len]; rfl, fun j hj => ?_, fun j k hjk hk => ?_, fun j hj => ?_, fun hz => ?_, fun hz => ?_⟩
  · rw [ho.get 0 (by have := AH.get_lt h.g0; omega) (by simp), g2.get 0 (by omega), g1.get 0 (by omega)]; exact h.g0
  · rw [hg]
    refine congrArg (fun c => some (AObj.cells c)) (seaC_congr fun n _ => ?_)
    simp only [fw]
    rw [if_pos hr]
  · refine (b1.stay g2.only fun z hz hz2 => ?_).keep fun z _ hz => ho.get z hz (by simp)
    rcases hbo z hz with h1 | h1
    · exact h.dis z h1 hz2
    · have := (lb z hz2).2; omega
  · rw [hs]; exact b2.keep fun z _ hz => ho.get z hz (by simp)
  · intro z hz hz2
    rcases hbb z hz2 with h2 | h2
    · rcases hbo z hz with h1 | h1
      · exact h.dis z h1 h2
      · have := (lb z h2).2; omega
    · have := (l1 z hz).2; omega
  · rw [nlen] at hj
    by_cases e : j = ps.length
    · rw [e, hhi]; omega
    · rw [hlo j (by omega)]; have := h.lt j (by omega); omega
  · rw [nlen] at hk
    by_cases e : k = ps.length
    · rw [e, hhi, hlo j (by omega)]; exact h.lt j (by omega)
    · rw [hlo j (by omega), hlo k (by omega)]; exact h.inc j k hjk (by omega)
  · rw [nlen] at hj
    by_cases e : j = ps.length
    · rw [e, hhi]
      refine ⟨h.p1, ?_, fun hz => ?_, fun hz => ?_⟩
      · rw [old p hpl h.po h.pb, h.gp]
        refine congrArg (fun c => some (AObj.cells c)) (seaC_congr fun n _ => ?_)
        rw [fw_run hi hr, h.len]
      · rcases hbo _ hz with h1 | h1
        · exact h.po h1
        · omega
      · rcases hbb _ hz with h1 | h1
        · exact h.pb h1
        · omega
    · rw [hlo j (by omega)]
      obtain ⟨a, b, c, d⟩ := h.pj j (by omega)
      have lj := AH.get_lt b
      refine ⟨a, (old _ lj c d).trans b, fun hz => ?_, fun hz => ?_⟩
      · rcases hbo _ hz with h1 | h1
        · exact c h1
        · omega
      · rcases hbb _ hz with h1 | h1
        · exact d h1
        · omega
  · have := (l1 _ hz).2; omega
  · have := (l2 _ hz).2; omega
end Go.Oct.Fix
