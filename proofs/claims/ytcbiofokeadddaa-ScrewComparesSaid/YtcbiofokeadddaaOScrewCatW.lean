/- Lists of readings, one behind the other. -/
import Derived.Test.YtcbiofokeadddaaOScrewSpanW
set_option maxRecDepth 100000
set_option maxHeartbeats 4000000
set_option linter.unusedVariables false
set_option linter.unusedSimpArgs false
namespace Go.Oct.Screw
open Go.Oct
abbrev eRds : Bool × List Rd → AV := eRv eRd
theorem encRds : Enc eRds 1 := ⟨fun _ => rfl, fun _ => rfl, fun _ => rfl, by decide⟩
theorem flatRds : flatE eRds := fun x c hc k f => by
  have : c = vl eRd x.1 x.2 := List.mem_singleton.1 hc
  subst this
  exact ⟨rfl, rfl⟩
@[simp] theorem aidx_rds {nl : Bool} {xs : List (Bool × List Rd)} (q : IntKind) (i : Int) : aidx 1 (vl eRds nl xs) (.int q i) = if 0 ≤ i ∧ i < (xs.length : Int) then some (.vptr [vl eRd (nth xs i.toNat).1 (nth xs i.toNat).2] 0) else none :=
  aidx_vl (e := eRds) (fun _ => rfl) q i
def cat (R : List (Bool × List Rd)) (j : Nat) : List Rd := (R.take j).flatMap (·.2)
theorem cat_succ {R : List (Bool × List Rd)} {j : Nat} (h : j < R.length) : cat R (j + 1) = cat R j ++ (nth R j).2 := by
  unfold cat; rw [take_succ_nth h, List.flatMap_append]; simp
theorem cat_le {R : List (Bool × List Rd)} {j k : Nat} (h : j ≤ k) : (cat R j).length ≤ (cat R k).length := by
  induction k with
  | zero => obtain rfl : j = 0 := by omega
            exact Nat.le_refl _
  | succ k ih =>
    by_cases e : j = k + 1
    · subst e; exact Nat.le_refl _
    · have := ih (by omega)
      by_cases hk : k < R.length
      · rw [cat_succ hk, List.length_append]; omega
      · have : cat R (k + 1) = cat R k := by unfold cat; rw [List.take_of_length_le (by omega), List.take_of_length_le (by omega)]
        rw [this]; assumption
def zRd : List AV := [.int .i64 0, .int .i64 0, .int .i64 0, .int .i64 0, .int .i64 0, .int .i64 0]
def acapS (x : AV) (σ : AH) : Option (AV × AH) := match x with
  | .slice _ _ (.ex c) => some (.int .i64 c, σ)
  | .vsl true _ => some (.int .i64 0, σ)
  | _ => none
@[simp] theorem ahop_cap (ρ : Opd → AV) (σ : AH) (s : Opd) : ahop ρ σ (.cap s) = acapS (ρ s) σ := by
  simp only [ahop, acapS]
  rfl
@[simp] theorem acapS_nil (σ : AH) (l : List AV) : acapS (.vsl true l) σ = some (.int .i64 0, σ) := rfl
theorem Grow_ok {σ : AH} (n : Nat) (hn : n < 2 ^ 30) (K : AV → AH → Prop) (h0 : n = 0 → K (.vsl true []) σ) (h1 : 0 < n → K (.slice (some (σ.next, 0)) 0 (.op 6)) (σ.push (.cells (zcells zRd n)))) : Call prog O (.fn 104) [.vsl true [], .int .i64 n] σ K := by
  refine @call_of' _ _ pl _ _ _ _ _ _ _ ⟨K⟩ get104 ((oo (by decide)).2 _) rfl ?_
  have hs : aslS 6 (.vsl true []) none (some (.int .i64 0)) none = some (.vsl true []) := rfl
  have hz : 0 < n → aappendZ 48 [.int .i64 0, .int .i64 0, .int .i64 0, .int .i64 0, .int .i64 0, .int .i64 0] (.vsl true []) (.int .i64 n) σ = some (.slice (some (σ.next, 0)) n (.op 6), σ.push (.cells (zcells zRd n))) := fun h => by
    have hone : (zcells zRd n).all AV.one = true := by
      rw [zcells_eq, List.all_flatten, List.all_replicate]
      simp [zRd]
    simp only [aappendZ, dstOf]
    rw [if_neg (by simp only [topBytes]; omega), if_neg (by omega)]
    simp only [agrow, Int.toNat_natCast]
    rw [if_neg (by omega)]
    show (if (0 + n) * 48 ≤ topBytes ∧ (zcells zRd n).all AV.one = true then _ else _) = _
    rw [if_pos ⟨by simp only [topBytes]; omega, hone⟩]
    simp [cellsAt]
    rfl
  have hsl : aslS 6 (.slice (some (σ.next, 0)) n (.op 6)) none (some (.int .i64 0)) none = some (.slice (some (σ.next, 0)) 0 (.op 6)) := by
    have hs : ∀ c : Nat, (ACap.op c).sure n = n := fun c => rfl
    have hb : abounds n n none (some (.int .i64 0)) none = some (0, 0, none) := by rw [abounds_h, if_pos (by omega)]; rfl
    simp only [aslS, hs, hb]
    rfl
  simp +contextual (disch := omega) [Und, hs, hz, hsl]
  exact ⟨h1, h0⟩
/-- More elements, where there is room. -/
theorem room_app {σ : AH} {i : Nat} {rest : List AV} {xs ys : List Rd} {b : Bool} (hg : σ.get i = some (.cells (rowOf eRd xs ++ rest))) (hlim : σ.lim ≤ i) (hr : ys.length * 6 ≤ rest.length)
    {k : AV → AH → Prop} (hk : ∀ σ', σ'.lim = σ.lim → σ'.get i = some (.cells (rowOf eRd (xs ++ ys) ++ rest.drop (ys.length * 6))) → k (.slice (some (i, 0)) (xs.length + ys.length) (.op 6)) σ') :
    OptK2 (aappend 6 48 (.slice (some (i, 0)) xs.length (.op 6)) (vl eRd b ys) σ) k := by
  obtain ⟨hl, hs⟩ := vl_src (σ := σ) encRd b ys
  simp only [aappend, dstOf, hl]
  by_cases h0 : ys.length = 0
  · rw [if_pos h0, optK2_some]
    have hy : ys = [] := List.eq_nil_of_length_eq_zero h0
    subst hy
    exact hk σ rfl (by simpa using hg)
  · rw [if_neg h0]
    simp only [hs]
    have hown : σ.own i = some (rowOf eRd xs ++ rest) := by simp [hg, hlim]
    have hone := rowOf_one encRd ys
    have hlx := rowOf_length encRd xs
    have hly := rowOf_length encRd ys
    simp only [agrow, if_true, hown]
    rw [if_pos (by rw [List.length_append, hlx]; omega), if_pos hone, optK2_some]
    refine hk _ rfl ?_
    rw [AH.get_set_same _ _ _ (AH.get_lt hg), Nat.zero_add, ← hlx, putCells_app _ _ _ (by omega), rowOf_append, hly]
theorem Concat_ok (R : List (Bool × List Rd)) (hR : R.length < 2 ^ 30) (hc : (cat R R.length).length < 2 ^ 30) : ∃ b, ans prog O 83 [vl eRds false R] = some (vl eRd b (cat R R.length)) ∧ (b = true → cat R R.length = []) := by
  refine ⟨decide ((cat R R.length).length = 0), ?_, fun h => List.eq_nil_of_length_eq_zero (by simpa using h)⟩
  refine fn_of' pl get83 (oo (by decide)) rfl rfl ?_
  simp +contextual (disch := omega) []
  refine lp_loop pl (fun k fr σ => ∃ j, j + k = R.length ∧ fr = ⟨[(0, vl eRds false R), (3, .int .i64 (cat R j).length), (9, vl eRds false R), (10, .int .i64 R.length), (11, .int .i64 j)], []⟩ ∧ σ = ⟨0, 0, .leaf⟩) ⟨R.length, 0, by omega, rfl, rfl⟩ ?_
  rintro k _ _ ⟨j, hj, rfl, rfl⟩
  by_cases hjl : j < R.length
  · have h1 := cat_succ hjl
    have h2 := congrArg List.length h1
    rw [List.length_append] at h2
    have h3 := cat_le (R := R) (j := j + 1) (k := R.length) (by omega)
    simp +contextual (disch := omega) [Und, hjl]
    exact ⟨by omega, fun _ => ⟨k - 1, by omega, j + 1, by omega, by omega, by omega⟩⟩
  · obtain rfl : j = R.length := by omega
    simp +contextual (disch := omega) [Und]
    refine Grow_ok (cat R R.length).length hc _ (fun h0 => ?_) (fun h0 => ?_)
    · simp +contextual (disch := omega) [Und, h0]
      refine lp_loop pl (fun k fr σ => ∃ j, j + k = R.length ∧ fr = ⟨[(6, .vsl true []), (25, vl eRds false R), (26, .int .i64 R.length), (27, .int .i64 j)], []⟩ ∧ σ = ⟨0, 0, .leaf⟩) ⟨R.length, 0, by omega, rfl, rfl⟩ ?_
      rintro k _ _ ⟨j, hj, rfl, rfl⟩
      by_cases hjl : j < R.length
      · have h1 := cat_succ hjl
        have h2 := congrArg List.length h1
        rw [List.length_append] at h2
        have h3 := cat_le (R := R) (j := j + 1) (k := R.length) (by omega)
        have h4 : (nth R j).2 = [] := List.eq_nil_of_length_eq_zero (by omega)
        have ha : aappend 6 48 (.vsl true []) (vl eRd (nth R j).1 []) ⟨0, 0, .leaf⟩ = some (.vsl true [], ⟨0, 0, .leaf⟩) := rfl
        simp +contextual (disch := omega) [Und, hjl, h4, ha]
        exact ⟨k - 1, by omega, j + 1, by omega, by omega⟩
      · simp +contextual (disch := omega) [Und, hjl]
        rw [List.eq_nil_of_length_eq_zero h0]; rfl
    · simp +contextual (disch := omega) [Und]
      refine lp_loop pl (fun k fr σ => ∃ j rest, j + k = R.length ∧ fr = ⟨[(6, .slice (some (0, 0)) (cat R j).length (.op 6)), (25, vl eRds false R), (26, .int .i64 R.length), (27, .int .i64 j)], []⟩ ∧ σ.lim = 0 ∧ σ.get 0 = some (.cells (rowOf eRd (cat R j) ++ rest)) ∧ rest.length = ((cat R R.length).length - (cat R j).length) * 6) ⟨R.length, 0, _, by omega, rfl, rfl, by simp [cat, rowOf]; rfl, by simp [zcells_length, zRd, cat]⟩ ?_
      rintro k _ σ ⟨j, rest, hj, rfl, s1, s2, s3⟩
      by_cases hjl : j < R.length
      · have h1 := cat_succ hjl
        have h2 := congrArg List.length h1
        rw [List.length_append] at h2
        have h3 := cat_le (R := R) (j := j + 1) (k := R.length) (by omega)
        simp +contextual (disch := omega) [Und, hjl]
        refine room_app s2 (by omega) (by rw [s3]; omega) fun σ' t1 t2 => ?_
        simp +contextual (disch := omega) [Und]
        refine ⟨k - 1, by omega, j + 1, by omega, ⟨h2.symm, by omega⟩, by rw [t1]; exact s1, _, by rw [h1]; exact t2, by rw [List.length_drop, s3]; omega⟩
      · obtain rfl : j = R.length := by omega
        simp +contextual (disch := omega) [Und]
        have hr0 : rest = [] := List.eq_nil_of_length_eq_zero (by rw [s3]; omega)
        rw [hr0, List.append_nil] at s2
        have hw : Whole 0 6 eRd σ (.slice (some (0, 0)) (cat R R.length).length (.op 6)) (cat R R.length) := ⟨0, _, rfl, Nat.le_refl _, s2, .inl rfl⟩
        rw [hw.fz encRd flatRd 6, decide_eq_false]
        intro h; rw [h] at h0; simp at h0
end Go.Oct.Screw
