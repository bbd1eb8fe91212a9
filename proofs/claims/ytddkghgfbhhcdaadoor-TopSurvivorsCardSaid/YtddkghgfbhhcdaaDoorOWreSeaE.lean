/- Logs: what holds at a place of a track; runs. -/
import Derived.Test.YtddkghgfbhhcdaaDoorOWreSeaD
set_option maxRecDepth 100000
set_option maxHeartbeats 4000000
set_option linter.unusedVariables false
set_option linter.unusedSimpArgs false
namespace Go.Oct.Wre.Fx
open Go.Oct
theorem fits1_call {s : Stp} {e n : Int} (h : okStp s) (hk : s.k ≠ 2) (hl : s.cl.length < 2 ^ 60) (he : 0 ≤ e ∧ e ≤ 59) (hn : 0 ≤ n ∧ n ≤ 59) {σ : AH} {K : AV → AH → Prop} (hK : ∀ σ', Only [] σ σ' → K (.bool (!hld s e n)) σ') :
    Call prog O (.fn 112) [eStp s, .vptr [.int .i64 e, .int .i64 n] 0] σ K := by
  refine @call_of' _ _ pl _ _ _ _ _ _ _ ⟨K⟩ get112 ((oo (by decide)).2 _) rfl ?_
  rcases (show s.k = 1 ∨ s.k = 3 by rcases h with h | h | h <;> omega) with k | k
  · have h1 := sight_ok s e n k h he hn
    unfold eStp at h1
    rw [k] at h1
    simp (disch := omega) [eStp, k, h1, Und, -Bool.exists_bool]
    exact hK _ (Only.push [] σ _)
  · have h1 := long_ok s e n k hl
    unfold eStp at h1
    rw [k] at h1
    simp (disch := omega) [eStp, k, h1, Und, -Bool.exists_bool]
    exact hK _ (Only.push [] σ _)
def okPart (g : List Stp) : Prop := ∀ j, j < g.length → okStp (nth g j) ∧ (nth g j).k ≠ 2 ∧ (nth g j).cl.length < 2 ^ 60
theorem allH_iff {g : List Stp} {e n : Int} : allH g e n = true ↔ ∀ j, j < g.length → hld (nth g j) e n = true := by
  unfold allH
  rw [List.all_eq_true]
  constructor
  · intro h j hj; exact h _ (nth_mem hj)
  · intro h s hs
    obtain ⟨j, hj, rfl⟩ := mem_nth.1 hs
    exact h j hj
theorem IndexFits_ok (nl : Bool) (g : List Stp) (hx : g.length < 2 ^ 62) (hg : okPart g) {e n : Int} (he : 0 ≤ e ∧ e ≤ 59) (hn : 0 ≤ n ∧ n ≤ 59) :
    ∃ r : Int, ans prog O 137 [vl eStp nl g, .func (.func 112) [] [.vptr [.int .i64 e, .int .i64 n] 0]] = some (.int .i64 r) ∧ (0 ≤ r ↔ allH g e n = false) := by
  obtain ⟨v, ⟨r, rfl, h1⟩, h2⟩ : ∃ v, (∃ r : Int, v = .int .i64 r ∧ (0 ≤ r ↔ allH g e n = false)) ∧ ans prog O 137 [vl eStp nl g, .func (.func 112) [] [.vptr [.int .i64 e, .int .i64 n] 0]] = some v := by
    refine fn_ex pl _ get137 (oo (by decide)) rfl rfl ?_
    simp (disch := omega) [-Bool.exists_bool]
    refine lp_loop pl (fun k fr σ => ∃ j : Nat, j + k = g.length ∧ (∀ q, q < j → hld (nth g q) e n = true) ∧ fr = ⟨[(0, vl eStp nl g), (1, .func (.func 112) [] [.vptr [.int .i64 e, .int .i64 n] 0]), (7, .int .i64 g.length), (8, .int .i64 j)], []⟩ ∧ σ.lim = 0) ⟨g.length, 0, by omega, fun q hq => by omega, rfl, rfl⟩ ?_
    rintro k _ σ ⟨j, hj, hjq, rfl, s0⟩
    by_cases hjl : j < g.length
    · have hjl' : (j : Int) < g.length := by omega
      simp (disch := omega) [Und, hjl', s0, -Bool.exists_bool]
      obtain ⟨g1, g2, g3⟩ := hg j hjl
      refine fits1_call (s := nth g j) g1 g2 g3 he hn fun σ' ho => ?_
      have ol := ho.lim
      cases hb : hld (nth g j) e n
      · have hno : allH g e n = false := by
          cases h : allH g e n with
          | false => rfl
          | true => rw [allH_iff.1 h j hjl] at hb; cases hb
        simp (disch := omega) [Und, hjl', s0, ol, hno, -Bool.exists_bool]
      · simp (disch := omega) [Und, hjl', s0, ol, -Bool.exists_bool]
        exact ⟨k - 1, by omega, j + 1, by omega, fun q hq => by
          by_cases e : q = j
          · rw [e]; exact hb
          · exact hjq q (by omega), by omega⟩
    · obtain rfl : j = g.length := by omega
      have hall : allH g e n = true := allH_iff.2 hjq
      simp (disch := omega) [Und, s0, hall, -Bool.exists_bool]
  exact ⟨r, h2, h1⟩
theorem ContainsFits_ok (nl : Bool) (g : List Stp) (hx : g.length < 2 ^ 62) (hg : okPart g) {e n : Int} (he : 0 ≤ e ∧ e ≤ 59) (hn : 0 ≤ n ∧ n ≤ 59) :
    ans prog O 111 [vl eStp nl g, .func (.func 112) [] [.vptr [.int .i64 e, .int .i64 n] 0]] = some (.bool (!allH g e n)) := by
  obtain ⟨r, h1, h2⟩ := IndexFits_ok nl g hx hg he hn
  refine fn_of' pl get111 (oo (by decide)) rfl rfl ?_
  cases hb : allH g e n
  · have h3 : 0 ≤ r := h2.2 hb
    simp (disch := omega) [h1, h3, -Bool.exists_bool]
  · have h3 : ¬ 0 ≤ r := fun h => by rw [h2.1 h] at hb; cases hb
    simp (disch := omega) [h1, h3, -Bool.exists_bool]
def eSeg (g : List Stp) : AV := vl eStp g.isEmpty g
@[simp] theorem aidx_seg {nl : Bool} {xs : List (List Stp)} (q : IntKind) (i : Int) : aidx 1 (vl eSeg nl xs) (.int q i) = if 0 ≤ i ∧ i < (xs.length : Int) then some (.vptr [eSeg (nth xs i.toNat)] 0) else none :=
  aidx_vl (e := eSeg) (fun _ => rfl) q i
theorem fits_call {o i : Nat} {cs : List AV} {nl : Bool} {G : List (List Stp)} {e n : Int} {σ : AH} (hg : σ.get o = some (.cells cs)) (h8 : cs.length = 8) (h6 : cs[6]? = some (vl eSeg nl G)) (hi : i < G.length) (hp : okPart (nth G i)) (hz : (nth G i).length < 2 ^ 62) (hl : σ.lim ≤ σ.next) (he : 0 ≤ e ∧ e ≤ 59) (hn : 0 ≤ n ∧ n ≤ 59) {K : AV → AH → Prop}
    (hK : ∀ σ', Only [] σ σ' → K (.bool (allH (nth G i) e n)) σ') : Call prog O (.fn 80) [.ptr (some (o, 0)), .int .i64 i, .agg [.int .i64 e, .int .i64 n]] σ K := by
  have hcf := ContainsFits_ok (nth G i).isEmpty (nth G i) hz hp he hn
  have hi' : (i : Int) < G.length := by omega
  have lo := AH.get_lt hg
  have q1 : ¬ o = σ.next := by omega
  refine @call_of' _ _ pl _ _ _ _ _ _ _ ⟨K⟩ get80 ((oo (by decide)).2 _) rfl ?_
  simp (disch := omega) [hg, h8, h6, hi', hi, hl, q1, Und, -Bool.exists_bool, -getElem?_pos]
  refine pc_scal (.cons (Snap.vl _ _ _ _) (.cons (SnapK.func .nil (.cons (SnapK.ptr (cs := [.int .i64 e, .int .i64 n]) (by simp) (.cons (SnapK.int _ _ _ _) (.cons (SnapK.int _ _ _ _) .nil))) .nil)).snap .nil)) (fun h => by cases h) (by simp) (oo (args := []) (by decide)).1 hcf rfl ?_
  simp (disch := omega) [Und, -Bool.exists_bool]
  exact hK _ (Only.push [] σ _)
end Go.Oct.Wre.Fx
