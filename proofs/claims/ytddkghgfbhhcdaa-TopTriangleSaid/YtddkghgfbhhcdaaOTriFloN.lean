/- Nets: how they lie in the heap; the steps from a place. -/
import Derived.Test.YtddkghgfbhhcdaaOTriFloQ
import Derived.Test.YtddkghgfbhhcdaaOT4
set_option maxRecDepth 100000
set_option maxHeartbeats 2000000
set_option linter.unusedVariables false
set_option linter.unusedSimpArgs false
namespace Go.Oct.Tri
open Go.Oct
/-- An angle of a net, as it is given. -/
structure An where
  t : Int
  s : Int
  lo : Int
  hi : Int
deriving DecidableEq
instance : Inhabited An := ⟨⟨0, 0, 0, 0⟩⟩
def eAn (a : An) : AV := .agg [.int .i64 a.t, .int .i64 a.s, .int .i64 a.lo, .int .i64 a.hi]
theorem encAn : Enc eAn 4 := ⟨fun _ => rfl, fun _ => rfl, fun _ => rfl, by decide⟩
@[simp] theorem cells_eAn (a : An) : (eAn a).cells = [.int .i64 a.t, .int .i64 a.s, .int .i64 a.lo, .int .i64 a.hi] := (rfl)
@[simp] theorem aidx_eAn {nl : Bool} {xs : List An} (q : IntKind) (i : Int) : aidx 4 (vl eAn nl xs) (.int q i) = if 0 ≤ i ∧ i < (xs.length : Int) then some (.vptr [.int .i64 (nth xs i.toNat).t, .int .i64 (nth xs i.toNat).s, .int .i64 (nth xs i.toNat).lo, .int .i64 (nth xs i.toNat).hi] 0) else none :=
  aidx_vl (e := eAn) (fun _ => rfl) q i
@[simp] theorem aidx_bool {nl : Bool} {xs : List Bool} (q : IntKind) (i : Int) : aidx 1 (vl AV.bool nl xs) (.int q i) = if 0 ≤ i ∧ i < (xs.length : Int) then some (.vptr [.bool (nth xs i.toNat)] 0) else none :=
  aidx_vl (e := AV.bool) (fun _ => rfl) q i
/-- The angles that are being given seconds, in cells. -/
def gRow : List Ed → List Int → List AV
  | e :: E, x :: h => .int .i64 e.u :: .int .i64 e.v :: .int .i64 x :: .int .i64 e.lo :: .int .i64 e.hi :: gRow E h
  | _, _ => []
theorem gRow_len : ∀ (E : List Ed) (h : List Int), h.length = E.length → (gRow E h).length = E.length * 5
  | [], _, _ => by cases ‹List Int› <;> rfl
  | e :: E, [], h => by simp at h
  | e :: E, x :: h, hl => by
    simp only [gRow, List.length_cons, gRow_len E h (by simpa using hl)]
    omega
theorem gRow_at : ∀ (E : List Ed) (h : List Int) (i : Nat), h.length = E.length → i < E.length →
    ((gRow E h).drop (i * 5)).take 5 = [.int .i64 (nth E i).u, .int .i64 (nth E i).v, .int .i64 (nth h i), .int .i64 (nth E i).lo, .int .i64 (nth E i).hi]
  | [], _, _, _, hi => by simp at hi
  | e :: E, [], _, h, _ => by simp at h
  | e :: E, x :: h, 0, _, _ => rfl
  | e :: E, x :: h, i + 1, hl, hi => by
    have := gRow_at E h i (by simpa using hl) (by simpa using hi)
    rw [Nat.succ_mul]
    simp only [gRow, nth_succ]
    exact this
theorem gRow_get {E : List Ed} {h : List Int} {i : Nat} (hl : h.length = E.length) (hi : i < E.length) :
    (gRow E h)[i * 5]? = some (.int .i64 (nth E i).u) ∧ (gRow E h)[i * 5 + 1]? = some (.int .i64 (nth E i).v) ∧ (gRow E h)[i * 5 + 2]? = some (.int .i64 (nth h i)) ∧
    (gRow E h)[i * 5 + 3]? = some (.int .i64 (nth E i).lo) ∧ (gRow E h)[i * 5 + 4]? = some (.int .i64 (nth E i).hi) := by
  have key : ∀ k, k < 5 → (gRow E h)[i * 5 + k]? = [AV.int .i64 (nth E i).u, .int .i64 (nth E i).v, .int .i64 (nth h i), .int .i64 (nth E i).lo, .int .i64 (nth E i).hi][k]? := fun k hk => by
    rw [← gRow_at E h i hl hi, List.getElem?_take, if_pos hk, List.getElem?_drop]
  exact ⟨key 0 (by omega), key 1 (by omega), key 2 (by omega), key 3 (by omega), key 4 (by omega)⟩
theorem gRow_set : ∀ (E : List Ed) (h : List Int) (i : Nat) (y : Int), h.length = E.length → i < E.length → (gRow E h).set (i * 5 + 2) (.int .i64 y) = gRow E (h.set i y)
  | [], _, _, _, _, hi => by simp at hi
  | e :: E, [], _, _, h, _ => by simp at h
  | e :: E, x :: h, 0, y, _, _ => rfl
  | e :: E, x :: h, i + 1, y, hl, hi => by
    have := gRow_set E h i y (by simpa using hl) (by simpa using hi)
    rw [show (i + 1) * 5 + 2 = (i * 5 + 2) + 1 + 1 + 1 + 1 + 1 by omega]
    simp only [gRow, List.set_cons_succ, this]
/-- A net that is being given seconds, in cells: what was given, its angles, what places lack. -/
def netC (T : Int) (nC : Bool) (C : List Bool) (aA : AV) (i m : Nat) (L : List Int) : List AV :=
  .int .i64 T :: vl AV.bool nC C :: aA :: .slice (some (i, 0)) m (.op 5) :: L.map (AV.int .i64)
section
variable {T : Int} {nC : Bool} {aA : AV} {C : List Bool} {A : List An} {i m : Nat} {L : List Int}
@[simp] theorem netC_0 : (netC T nC C aA i m L)[0]? = some (.int .i64 T) := (rfl)
@[simp] theorem netC_1 : (netC T nC C aA i m L)[1]? = some (vl AV.bool nC C) := (rfl)
@[simp] theorem netC_2 : (netC T nC C aA i m L)[2]? = some aA := (rfl)
@[simp] theorem netC_3 : (netC T nC C aA i m L)[3]? = some (.slice (some (i, 0)) m (.op 5)) := (rfl)
theorem netC_L {k : Nat} (hk : k < L.length) : (netC T nC C aA i m L)[4 + k]? = some (.int .i64 (nth L k)) := by
  rw [Nat.add_comm]
  show (L.map (AV.int .i64))[k]? = _
  rw [List.getElem?_map, nth_get? hk]; rfl
theorem netC_len : (netC T nC C aA i m L).length = 4 + L.length := by simp [netC]; omega
theorem netC_set {k : Nat} (y : Int) : (netC T nC C aA i m L).set (4 + k) (.int .i64 y) = netC T nC C aA i m (L.set k y) := by
  rw [Nat.add_comm]
  simp [netC, List.map_set]
end
/-- A net at n, its angles at i. -/
structure NetI (T : Int) (nC : Bool) (C : List Bool) (aA : AV) (E : List Ed) (n i : Nat) (h L : List Int) (σ : AH) : Prop where
  lim : σ.lim = 0
  net : σ.get n = some (.cells (netC T nC C aA i E.length L))
  ang : σ.get i = some (.cells (gRow E h))
  ne : n ≠ i
  ll : L.length = 17
  bd : inE E h
/-- The same, to be read alone. -/
structure NetR (T : Int) (nC : Bool) (C : List Bool) (aA : AV) (E : List Ed) (n i : Nat) (h L : List Int) (σ : AH) : Prop where
  net : σ.get n = some (.cells (netC T nC C aA i E.length L))
  ang : σ.get i = some (.cells (gRow E h))
  ne : n ≠ i
  ll : L.length = 17
  bd : inE E h
section
variable {T : Int} {nC : Bool} {C : List Bool} {aA : AV} {E : List Ed} {n i : Nat} {h L : List Int} {σ σ' : AH}
theorem NetI.r (hn : NetI T nC C aA E n i h L σ) : NetR T nC C aA E n i h L σ := ⟨hn.net, hn.ang, hn.ne, hn.ll, hn.bd⟩
theorem NetI.stay (hn : NetI T nC C aA E n i h L σ) (hl : σ'.lim = σ.lim) (h1 : σ'.get n = σ.get n) (h2 : σ'.get i = σ.get i) : NetI T nC C aA E n i h L σ' :=
  ⟨hl.trans hn.lim, h1.trans hn.net, h2.trans hn.ang, hn.ne, hn.ll, hn.bd⟩
end
theorem more_ok (u v h lo hi : Int) (h1 : 0 ≤ h) (h2 : h ≤ 648000) (h3 : 0 ≤ hi) (h4 : hi ≤ 648000) : ans prog O 95 [.agg [.int .i64 u, .int .i64 v, .int .i64 h, .int .i64 lo, .int .i64 hi]] = some (.int .i64 (hi - h)) := by
  refine fn_of' pl get95 (oo (by decide)) rfl rfl ?_
  simp (disch := omega) [-Bool.exists_bool]
theorem less_ok (u v h lo hi : Int) (h1 : 0 ≤ h) (h2 : h ≤ 648000) (h3 : 0 ≤ lo) (h4 : lo ≤ 648000) : ans prog O 94 [.agg [.int .i64 u, .int .i64 v, .int .i64 h, .int .i64 lo, .int .i64 hi]] = some (.int .i64 (h - lo)) := by
  refine fn_of' pl get94 (oo (by decide)) rfl rfl ?_
  simp (disch := omega) [-Bool.exists_bool]
theorem steps_call {n : Nat} {p b : Int} {σ : AH} {K : AV → AH → Prop}
    (hk : K (.func (.func 149) [] [.ptr (some (σ.next, 0)), .ptr (some (σ.next + 2, 0)), .ptr (some (σ.next + 1, 0))]) (((σ.push (.cells [.ptr (some (n, 0))])).push (.cells [.int .i64 p])).push (.cells [.int .i64 b]))) :
    Call prog O (.fn 132) [.ptr (some (n, 0)), .int .i64 p, .int .i64 b] σ K := by
  refine @call_of' _ _ pl _ _ _ _ _ _ _ ⟨K⟩ get132 ((oo (by decide)).2 _) rfl ?_
  simp (disch := omega) []
  exact hk
end Go.Oct.Tri
