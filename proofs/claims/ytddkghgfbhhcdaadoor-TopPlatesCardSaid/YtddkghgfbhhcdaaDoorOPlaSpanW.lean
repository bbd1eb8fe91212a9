/- Spans of errors: the walk. -/
import Derived.Test.YtddkghgfbhhcdaaDoorOPlaAsked
import Derived.Test.YtddkghgfbhhcdaaDoorOT4
set_option maxRecDepth 100000
set_option maxHeartbeats 4000000
set_option linter.unusedVariables false
set_option linter.unusedSimpArgs false
namespace Go.Oct.Pla
open Go.Oct
theorem okay_ask {T : List Int} {M : Int} {l : List Rd} (h : askE T M l = 0) : okSet T M ∧ l.length ≤ 24 ∧ okRds T l := by
  unfold askE at h
  split at h
  · rename_i h1
    split at h
    · rename_i h2
      exact ⟨h1, by have := h2.1; omega, h2.2⟩
    · omega
  · omega
theorem nth_mir {l : List Rd} {j : Nat} (h : j < l.length) : nth (l.map mir) j = mir (nth l j) := by
  rw [nth_eq (by simpa using h), nth_eq h, List.getElem_map]
theorem okRds_mir {T : List Int} {l : List Rd} (h : okRds T l) : okRds T (l.map mir) := by
  intro j hj
  rw [List.length_map] at hj
  rw [nth_mir hj]
  have := h j hj
  unfold okRd at this ⊢
  simp only [mir]
  omega
theorem cons_mem {l : List Rd} {k : Con} : k ∈ cons l ↔ ∃ r ∈ l, k = ⟨ndA r, ndB r, r.v + r.w⟩ ∨ k = ⟨ndB r, ndA r, r.w - r.v⟩ := by
  unfold cons
  rw [List.mem_flatMap]
  constructor
  · rintro ⟨r, hr, h⟩
    simp only [consOf, List.mem_cons, List.not_mem_nil, or_false] at h
    exact ⟨r, hr, h⟩
  · rintro ⟨r, hr, h⟩
    exact ⟨r, hr, by simpa [consOf] using h⟩
/-- Errors agree with a reading. -/
def Agree (x : Nat → Int) (r : Rd) : Prop := -r.w ≤ x (ndA r) - x (ndB r) - r.v ∧ x (ndA r) - x (ndB r) - r.v ≤ r.w
instance (x : Nat → Int) (r : Rd) : Decidable (Agree x r) := by unfold Agree; infer_instance
theorem con_agree {l : List Rd} {x : Nat → Int} : (∀ k ∈ cons l, x k.p ≤ x k.q + k.c) ↔ ∀ r ∈ l, Agree x r := by
  constructor
  · intro h r hr
    have h1 := h _ (cons_mem.2 ⟨r, hr, .inl rfl⟩)
    have h2 := h _ (cons_mem.2 ⟨r, hr, .inr rfl⟩)
    simp only at h1 h2
    unfold Agree
    omega
  · intro h k hk
    obtain ⟨r, hr, hk⟩ := cons_mem.1 hk
    have := h r hr
    unfold Agree at this
    rcases hk with rfl | rfl <;> simp only <;> omega
theorem agree_mir {x : Nat → Int} {r : Rd} : Agree x (mir r) ↔ Agree (fun c => -x c) r := by
  show (-r.w ≤ x (ndA r) - x (ndB r) - -r.v ∧ x (ndA r) - x (ndB r) - -r.v ≤ r.w) ↔ (-r.w ≤ -x (ndA r) - -x (ndB r) - r.v ∧ -x (ndA r) - -x (ndB r) - r.v ≤ r.w)
  omega
theorem feas_mir {T : List Int} {M : Int} {l : List Rd} {x : Nat → Int} : Feas T M (cons (l.map mir)) x ↔ Feas T M (cons l) (fun c => -x c) := by
  constructor
  · intro h
    refine ⟨fun i hi => by have := h.base i hi; show -x (9 * i) = 0; omega, fun c hc => by have := h.bnd c hc; show -M ≤ -x c ∧ -x c ≤ M; omega, ?_⟩
    refine con_agree.2 fun r hr => agree_mir.1 ?_
    exact con_agree.1 h.con _ (List.mem_map_of_mem hr)
  · intro h
    refine ⟨fun i hi => by have : -x (9 * i) = 0 := h.base i hi; omega, fun c hc => by have : -M ≤ -x c ∧ -x c ≤ M := h.bnd c hc; omega, ?_⟩
    refine con_agree.2 fun r hr => ?_
    obtain ⟨s, hs, rfl⟩ := List.mem_map.1 hr
    exact agree_mir.2 (con_agree.1 h.con _ hs)
theorem flatSp : flatE eSpan := fun x c hc k f => by
  simp only [eSpan, cells_agg, List.mem_cons, List.not_mem_nil, or_false] at hc
  rcases hc with rfl | rfl <;> exact ⟨rfl, rfl⟩
theorem trim_op {z o n : Nat} (hn : n < 2 ^ 62) : aslS z (.slice (some (o, 0)) n (.op z)) none (some (.int .i64 n)) (some (.int .i64 n)) = some (.slice (some (o, 0)) n (.ex n)) := by
  have hs : ∀ c : Nat, (ACap.op c).sure n = n := fun c => rfl
  have hle : ACap.less z 0 (some n) (.op z) = some (.ex n) := by simp [ACap.less]
  simp only [aslS, hs, abounds_hm]
  rw [if_pos (by omega), if_pos (by omega)]
  simp only [Int.toNat_natCast, hle, Option.map_some, Nat.zero_mul, Nat.add_zero, Nat.sub_zero]
/-- The least errors. -/
def Least (T : List Int) (M : Int) (K : List Con) (d : Nat → Int) : Prop := Feas T M K d ∧ ∀ x, Feas T M K x → ∀ c, V T c → d c ≤ x c
def spanRow (T : List Int) (lo hi : Nat → Int) (i n : Nat) : List Span := (List.range n).map fun k => ⟨lo (9 * i + k), hi (9 * i + k)⟩
def spanRows (T : List Int) (lo hi : Nat → Int) (n : Nat) : List (List Span) := (List.range n).map fun i => spanRow T lo hi i (tn T i + 1)
/-- Rows of a result. -/
def fr0 {α : Type} (R : List (List α)) : List (Bool × List α) := R.map fun r => (false, r)
@[simp] theorem fr0_len {α : Type} (R : List (List α)) : (fr0 R).length = R.length := List.length_map ..
theorem fr0_nth {α : Type} {R : List (List α)} {i : Nat} (h : i < R.length) : nth (fr0 R) i = (false, nth R i) := by
  unfold fr0
  rw [nth_eq (by simpa using h), nth_eq h, List.getElem_map]
/-- What Spans answers. -/
inductive SpOK (T : List Int) (M : Int) (l : List Rd) : AV → Prop
  | bad (h : askE T M l ≠ 0) : SpOK T M l (.tuple [.vsl true [], .int .i64 (askE T M l)])
  | none (h : askE T M l = 0) (hn : ∀ x, ¬ Feas T M (cons l) x) : SpOK T M l (.tuple [.vsl true [], .int .i64 4])
  | some (lo hi : Nat → Int) (h : askE T M l = 0) (hl : Least T M (cons l) lo) (hh : Great T M (cons l) hi) : SpOK T M l (.tuple [vl eSpans false (fr0 (spanRows T lo hi T.length)), .int .i64 0])
theorem Spans_ok (nT nl : Bool) (T : List Int) (M : Int) (l : List Rd) (hT : T.length < 2 ^ 62) (hn : nl = true → l = []) (hl : l.length < 2 ^ 62) : ∃ v, SpOK T M l v ∧ ans prog O 20 [eSet nT T M, vl eRd nl l] = some v := by
  by_cases ha : askE T M l = 0
  · obtain ⟨hs, hl24, hr⟩ := okay_ask ha
    have ho := okay_of hs hr
    obtain ⟨v1, ⟨e1, ok1, rfl, l1, t1, f1⟩, g1⟩ := greatest_ok nT nl T M l hs hr hl24
    obtain ⟨v2, ⟨e2, ok2, rfl, l2, t2, f2⟩, g2⟩ := greatest_ok nT nl T M (l.map mir) hs (okRds_mir hr) (by simpa using hl24)
    have hm := mirrored_ok nl l hn (by omega) (fun j hj => by have := hr j hj; unfold okRd at this; omega)
    by_cases hok : ok1 = true ∧ ok2 = true
    · obtain ⟨rfl, rfl⟩ := hok
      have hh : Great T M (cons l) (fun c => nth e1 c) := ⟨(t1 rfl).1, (t1 rfl).2⟩
      have hll : Least T M (cons l) (fun c => -nth e2 c) := ⟨feas_mir.1 (t2 rfl).1, fun x hx c hc => by
        have := (t2 rfl).2 (fun c => -x c) (feas_mir.2 (by simpa using hx)) c hc
        simp only at this ⊢; omega⟩
      refine ⟨_, .some _ _ ha hll hh, ?_⟩
      obtain ⟨lo, hlo⟩ : ∃ lo : Nat → Int, lo = fun c => -nth e2 c := ⟨_, rfl⟩
      obtain ⟨hi, hhi⟩ : ∃ hi : Nat → Int, hi = fun c => nth e1 c := ⟨_, rfl⟩
      rw [← hlo] at hll ⊢
      rw [← hhi] at hh ⊢
      have hT4 : T.length ≤ 4 := ho.len
      have htn : ∀ i, i < T.length → (tn T i : Int) = nth T i ∧ 1 ≤ tn T i ∧ tn T i ≤ 8 := fun i hi => by have := hs.2 i hi; unfold tn; omega
      refine fn_of' pl get20 (oo (by decide)) rfl rfl ?_
      have hp1 := fun bs hb => put36 (bs := bs) l1 hb
      have hp2 := fun bs hb => put36 (bs := bs) l2 hb
      simp +contextual (disch := omega) [ha, g1, g2, hm, l1, l2]
      refine lp_loop pl (fun k fr σ => ∃ i v, i + k = T.length ∧ fr = ⟨[(7, .ptr (some (1, 0))), (9, .ptr (some (2, 0))), (11, v), (42, vs nT T), (43, .int .i64 T.length), (44, .int .i64 i)], []⟩ ∧ σ.lim = 0 ∧ 3 ≤ σ.next ∧ σ.get 1 = some (.cells (ints e1)) ∧ σ.get 2 = some (.cells (ints e2)) ∧ RowsB 3 2 eSpan σ v (spanRows T lo hi i))
        ⟨T.length, 0, _, by omega, rfl, rfl, Nat.le_refl _, by simp [hp1], by simp [hp2], RowsB.nil⟩ ?_
      rintro k _ σ ⟨i, v, hik, rfl, h1, h2, h3, h4, h5⟩
      by_cases hil : i < T.length
      · have hti := htn i hil
        simp +contextual (disch := omega) [Und, hil]
        refine lp_loop pl (fun k2 fr σ2 => ∃ m w, m + k2 = tn T i + 1 ∧ fr = ⟨[(7, .ptr (some (1, 0))), (9, .ptr (some (2, 0))), (11, v), (12, .int .i64 i), (14, w), (42, vs nT T), (43, .int .i64 T.length), (44, .int .i64 i), (50, .int .i64 (nth T i + 1)), (51, .int .i64 m)], []⟩ ∧ Keep σ.next σ σ2 ∧ Buf σ.next 2 eSpan σ2 w (spanRow T lo hi i m))
          ⟨tn T i + 1, 0, _, by omega, rfl, Keep.refl _ _, Buf.nil⟩ ?_
        rintro k2 _ σ2 ⟨m, w, hmk, rfl, y1, y2⟩
        have z1 : σ2.get 1 = some (.cells (ints e1)) := (y1.get 1 (by omega)).trans h3
        have z2 : σ2.get 2 = some (.cells (ints e2)) := (y1.get 2 (by omega)).trans h4
        by_cases hml : m < tn T i + 1
        · have hmT : (m : Int) < nth T i + 1 := by omega
          have i1 := ints_get (e := e1) (c := i * 9 + m) (by omega)
          have i2 := ints_get (e := e2) (c := i * 9 + m) (by omega)
          have hV : V T (i * 9 + m) := by
            unfold V
            rw [show (i * 9 + m) / 9 = i by omega, show (i * 9 + m) % 9 = m by omega]
            exact ⟨hil, by omega⟩
          have hb : -M ≤ -nth e2 (i * 9 + m) ∧ -nth e2 (i * 9 + m) ≤ M := by have := hll.1.bnd _ hV; rw [hlo] at this; exact this
          have hM := hs.1.2
          simp +contextual (disch := omega) [Und, hmT, z1, z2, l1, l2, i1, i2]
          refine ⟨by omega, by omega, by omega, by omega, by omega, by omega, ?_⟩
          have hsl : (spanRow T lo hi i m).length = m := by unfold spanRow; simp
          refine y2.push encSpan (by rw [y1.lim]; omega) y1.next ⟨-nth e2 (i * 9 + m), nth e1 (i * 9 + m)⟩ (by rw [hsl]; simp only [topBytes]; omega) rfl fun v' σ3 b1 b2 => ?_
          simp +contextual (disch := omega) []
          refine ⟨k2 - 1, by omega, m + 1, by omega, _, ⟨rfl, by omega⟩, y1.trans b2.toKeep, ?_⟩
          have : spanRow T lo hi i (m + 1) = spanRow T lo hi i m ++ [⟨-nth e2 (i * 9 + m), nth e1 (i * 9 + m)⟩] := by
            unfold spanRow
            rw [List.range_succ, List.map_append, hlo, hhi, Nat.mul_comm 9 i]
            rfl
          rw [this]
          exact b1
        · have hmT : ¬ (m : Int) < nth T i + 1 := by omega
          have hsl : (spanRow T lo hi i m).length = m := by unfold spanRow; simp
          have hw : m = tn T i + 1 := by omega
          rcases y2 with ⟨_, h⟩ | ⟨o, rfl, o1, o2, o3⟩
          · rw [h] at hsl; simp only [List.length_nil] at hsl; omega
          have htr := trim_op (z := 2) (o := o) (n := m) (by omega)
          rw [hsl]
          simp +contextual (disch := omega) [Und, hmT, z1, z2, hsl, htr]
          have hrl : (spanRows T lo hi i).length = i := by unfold spanRows; simp
          refine (h5.stay y1 (Nat.le_refl _)).push (by rw [y1.lim]; omega) (by have := y1.next; omega) (spanRow T lo hi i m) (by omega) o2 (fun hc => by have := (h5.obj_lt _ hc).2; omega) hsl.symm (.inr rfl) (by rw [hrl]; simp only [topBytes]; omega) fun v' σ3 b1 b2 => ?_
          simp +contextual (disch := omega) []
          have hold : ∀ j, j < 3 → σ3.get j = σ2.get j := fun j hj => b2.get j hj
          have hrow : spanRows T lo hi (i + 1) = spanRows T lo hi i ++ [spanRow T lo hi i m] := by
            unfold spanRows
            rw [List.range_succ, List.map_append, hw]; rfl
          have hn2 := y1.next
          have hn3 := b2.next
          refine ⟨k - 1, by omega, i + 1, by omega, _, ⟨rfl, by omega⟩, by rw [b2.lim, y1.lim]; exact h1, by omega, (hold 1 (by omega)).trans z1, (hold 2 (by omega)).trans z2, ?_⟩
          rw [hrow]; exact b1
      · obtain rfl : i = T.length := by omega
        simp +contextual (disch := omega) [Und]
        have hf := h5.fz encSpan flatSp 4
        have hT1 := hs.1.1.1
        have hne : (spanRows T lo hi T.length).isEmpty = false := by
          cases hq : spanRows T lo hi T.length with
          | nil => have := congrArg List.length hq; unfold spanRows at this; simp only [List.length_map, List.length_range, List.length_nil] at this; omega
          | cons => rfl
        rw [hne] at hf
        exact hf
    · refine ⟨_, .none ha ?_, ?_⟩
      · intro x hx
        cases ok1 with
        | false => exact f1 rfl x hx
        | true =>
          cases ok2 with
          | false => exact f2 rfl (fun c => -x c) (feas_mir.2 (by simpa using hx))
          | true => exact hok ⟨rfl, rfl⟩
      · refine fn_of' pl get20 (oo (by decide)) rfl rfl ?_
        have hok2 : ok1 = true → ok2 = true → False := fun a b => hok ⟨a, b⟩
        simp +contextual (disch := omega) [ha, g1, g2, hm, l1, l2, Und]
        exact fun a b => absurd ⟨a, b⟩ hok
  · refine ⟨_, .bad ha, ?_⟩
    refine fn_of' pl get20 (oo (by decide)) rfl rfl ?_
    simp +contextual (disch := omega) [ha]
end Go.Oct.Pla
