/- The theory, part T1. -/
import Derived.Test.YtddkghgfbhhcdaaGreatDoorOT0
import Derived.Laws.IdiomStrings
import Derived.Laws.CopyRow
import Derived.Laws.AppendOwn
import Derived.Laws.OwnMore
import Derived.Laws.BytesString
import Derived.AtR
import Derived.RangeFuncNested
/- Operations on the heap: reads, writes and new blocks. -/
section
set_option linter.unusedVariables false
set_option linter.unusedSimpArgs false
set_option linter.unusedSectionVars false
namespace Go.Oct
variable [Gl]
open Go.RowKit

section
variable {P : Program} {LC : LCode} {N : Nat → Nat} {B0 : Nat} {w0 : World} {φ : Phi} {σ : AH} {w : World} {ρ : Opd → AV} {ρc : Operand → Value}

/-- What an operation on the heap leaves. -/
def HPost (P : Program) (LC : LCode) (N : Nat → Nat) (B0 : Nat) (w0 : World) (φ : Phi) (σ : AH) (w : World) (s : Sem Value) (v : AV) (σ' : AH) : Prop :=
  ∃ φ' w' v', s.run P w = .ok v' w' ∧ VR φ' v v' ∧ Ext φ φ' σ σ' ∧ R LC N B0 w0 φ' σ' w'

theorem getElem?_putCells : ∀ (ys xs : List AV) (off j : Nat), (putCells xs off ys)[j]? = if off ≤ j ∧ j < off + ys.length ∧ j < xs.length then ys[j - off]? else xs[j]?
  | [], xs, off, j => by
    rw [if_neg (by simp; omega)]; rfl
  | y :: ys, xs, off, j => by
    rw [putCells, getElem?_putCells ys]
    simp only [List.length_set, List.length_cons]
    by_cases h1 : off + 1 ≤ j ∧ j < off + 1 + ys.length ∧ j < xs.length
    · rw [if_pos h1, if_pos (by omega)]
      rw [show j - off = (j - (off + 1)) + 1 by omega, List.getElem?_cons_succ]
    · rw [if_neg h1, List.getElem?_set]
      by_cases h2 : off = j
      · subst h2
        by_cases h3 : off < xs.length
        · rw [if_pos rfl, if_pos h3, if_pos (by omega)]
          simp
        · rw [if_pos rfl, if_neg h3, if_neg (by omega), List.getElem?_eq_none (by omega)]
      · rw [if_neg h2]
        by_cases h4 : off ≤ j ∧ j < off + (ys.length + 1) ∧ j < xs.length
        · exfalso; omega
        · rw [if_neg h4]

/-- Cells of a block, some of them. -/
theorem key_cells {b p : Nat} {cs : List AV} (key : ∃ (c : Array Value) (e : TypeId) (fr : Nat × Nat), w.heap[b]? = some (.cells c e fr) ∧ ∀ (j : Nat) (x : AV), cs[j]? = some x → ∃ v, c[p + j]? = some v ∧ VR φ x v)
    (off n : Nat) (hl : off + n ≤ cs.length) :
    ∃ vs : List Value, vs.length = n ∧ (∀ (j : Nat) (v : Value), vs[j]? = some v → w.cell? ⟨b, p + off + j, none⟩ = some v) ∧ VRL φ ((cs.drop off).take n) vs := by
  obtain ⟨c, e, fr, h1, h2⟩ := key
  have hlen : ((c.toList.drop (p + off)).take n).length = n := by
    rw [List.length_take, List.length_drop]
    by_cases hn : n = 0
    · simp [hn]
    · have hlt : off + (n - 1) < cs.length := by omega
      obtain ⟨v, hv, _⟩ := h2 (off + (n - 1)) _ (List.getElem?_eq_getElem hlt)
      have := (Array.getElem?_eq_some_iff.1 hv).1
      simp only [Array.length_toList]
      omega
  refine ⟨(c.toList.drop (p + off)).take n, hlen, ?_, VRL.of_get (by rw [hlen, List.length_take, List.length_drop]; omega) ?_⟩
  · intro j v hv
    rw [List.getElem?_take] at hv
    split at hv
    · rw [List.getElem?_drop] at hv
      rw [cell_of_row w b _ c e fr h1]
      simpa using hv
    · cases hv
  · intro j x v hx hv
    rw [List.getElem?_take] at hx hv
    split at hx
    · rename_i hj
      rw [if_pos hj, List.getElem?_drop] at hv
      rw [List.getElem?_drop] at hx
      obtain ⟨v', hv', hr'⟩ := h2 _ _ hx
      rw [← Nat.add_assoc] at hv'
      have hv2 : c[p + off + j]? = some v := by simpa using hv
      rw [hv2] at hv'
      cases hv'
      exact hr'
    · cases hx
/-- The cells of an object that may be read, in the world. -/
theorem row_cells (h : R LC N B0 w0 φ σ w) {i : Nat} {pl : Place} (hi : φ i = some pl) {cs : List AV} (hr : σ.row i = some cs) (off n : Nat) (hl : off + n ≤ cs.length) :
    ∃ vs : List Value, vs.length = n ∧ (∀ (j : Nat) (v : Value), vs[j]? = some v → w.cell? ⟨pl.b, pl.o + off + j, none⟩ = some v) ∧ VRL φ ((cs.drop off).take n) vs := by
  obtain ⟨o, hg, ho⟩ := h.obj i pl hi
  refine key_cells ?_ off n hl
  unfold AH.row at hr
  rw [hg] at hr
  cases o <;> simp only [reduceCtorEq, Option.some.injEq] at hr
  · subst hr
    obtain ⟨c, e, fr, h1, _, _, _, h4⟩ := ho
    exact ⟨c, e, _, h1, h4⟩
  · subst hr
    exact ho
/-- What no one will write, in the world. -/
theorem has_cells (h : R LC N B0 w0 φ σ w) {b o : Nat} {cs : List AV} (hh : φ.has b o cs) (off n : Nat) (hl : off + n ≤ cs.length) :
    ∃ vs : List Value, vs.length = n ∧ (∀ (j : Nat) (v : Value), vs[j]? = some v → w.cell? ⟨b, o + off + j, none⟩ = some v) ∧ VRL φ ((cs.drop off).take n) vs := by
  obtain ⟨o0, cs0, d, h1, rfl, t, h3⟩ := hh
  obtain ⟨_, ⟨c, e, fr, h4, h5⟩, _⟩ := h.frz b o0 _ h1
  refine key_cells ⟨c, e, fr, h4, fun j x hx => ?_⟩ off n hl
  have hj : j < cs.length := (List.getElem?_eq_some_iff.1 hx).1
  have hx2 : cs0[d + j]? = some x := by
    rw [← List.getElem?_drop, h3, List.getElem?_append_left hj]; exact hx
  obtain ⟨v, v1, v2⟩ := h5 _ _ hx2
  exact ⟨v, by rw [Nat.add_assoc]; exact v1, v2.mono φ.bare_le⟩

theorem own_row {i : Nat} {cs : List AV} (h : σ.own i = some cs) : σ.row i = some cs ∧ σ.lim ≤ i ∧ σ.get i = some (.cells cs) := by
  unfold AH.own at h
  split at h
  · rename_i hl
    split at h
    · rename_i c hg
      cases h
      exact ⟨by simp [AH.row, hg], hl, hg⟩
    · cases h
  · cases h

theorem one_ok {x : AV} {v : Value} (h : VR φ x v) (ho : x.one = true) : v.oneCell' = true := by
  cases h <;> first | rfl | cases ho
theorem ones_ok {xs : List AV} {vs : List Value} (h : VRL φ xs vs) (ho : xs.all AV.one = true) : ∀ v ∈ vs, v.oneCell' = true := by
  intro v hv
  obtain ⟨i, hi, rfl⟩ := List.getElem_of_mem hv
  have hx : i < xs.length := by rw [h.1]; exact hi
  have := h.2 i
  rw [List.getD_eq_getElem?_getD, List.getD_eq_getElem?_getD, List.getElem?_eq_getElem hx, List.getElem?_eq_getElem hi] at this
  exact one_ok this (List.all_eq_true.1 ho _ (List.getElem_mem hx))

/-- Values are written into a row of which no string shares anything. -/
theorem put_row {b p : Nat} {t : TypeId} {fr : Nat × Nat} : ∀ (us : List Value) (k : Nat) {c : Array Value} {w : World}, w.heap[b]? = some (.cells c t fr) → frF fr c.size → p + k + us.length ≤ c.size → (∀ v ∈ us, v.oneCell' = true) →
    (storeCells ⟨b, p, none⟩ us k).run P w = .ok () (w.setRow b (c.toList.take (p + k) ++ us ++ c.toList.drop (p + k + us.length)).toArray) := by
  intro us
  induction us with
  | nil =>
    intro k c w hb hf hl h1
    have e : (c.toList.take (p + k) ++ [] ++ c.toList.drop (p + k + ([] : List Value).length)).toArray = c := by simp
    rw [e, setRow_self w b c t fr hb]
    rfl
  | cons u us ih =>
    intro k c w hb hf hl h1
    simp only [List.length_cons] at hl
    have hk : p + k < c.size := by omega
    have ha : (⟨b, p, none⟩ : Addr).add k = ⟨b, p + k, none⟩ := by unfold Addr.add; split <;> simp_all
    have hnf : w.frozen? ⟨b, p + k, none⟩ = false := by
      have := hf (p + k) hk
      simp only [World.frozen?, hb]
      simp
      omega
    have hcl : w.cell? ⟨b, p + k, none⟩ = some c[p + k] := by simp [World.cell?, hb, hk]
    have one : (store ((⟨b, p, none⟩ : Addr).add k) u).run P w = .ok () (w.setRow b (c.setIfInBounds (p + k) u)) := by
      rw [ha, run_store P w _ u _ (h1 u (List.mem_cons_self ..)), hcl]
      simp [hnf, setCell_eq_setRow w b (p + k) c t fr u hb]
    have rest := ih (k + 1) (c := c.setIfInBounds (p + k) u) (w := w.setRow b (c.setIfInBounds (p + k) u)) (setRow_heap w b c _ t _ hb) (by simpa using hf) (by rw [Array.size_setIfInBounds]; omega) (fun v hv => h1 v (List.mem_cons_of_mem _ hv))
    simp only [storeCells, Sem.run_bind, one, Result.andThen_ok, rest, setRow_setRow]
    have e := list_seg_step c.toList (p + k) u us (by rw [Array.length_toList]; omega)
    rw [Array.toList_setIfInBounds, show p + (k + 1) = p + k + 1 by omega, e]
    rfl
/-- Cells are written into an object. -/
theorem write_ok (h : R LC N B0 w0 φ σ w) {i : Nat} {pl : Place} (hi : φ i = some pl) {cs : List AV} (hown : σ.own i = some cs) {off : Nat} {ys : List AV} {us : List Value} (hu : VRL φ ys us) (ho : ys.all AV.one = true)
    (hl : off + ys.length ≤ cs.length) : ∃ w', (storeCells ⟨pl.b, pl.o + off, none⟩ us).run P w = .ok () w' ∧ R LC N B0 w0 φ (σ.set i (.cells (putCells cs off ys))) w' := by
  obtain ⟨hr, hlim, hg⟩ := own_row hown
  obtain ⟨o, hg', ho'⟩ := h.obj i pl hi
  rw [hg] at hg'
  cases hg'
  obtain ⟨c, e, fr, h1, hf, h2, h3, h4⟩ := ho'
  have hus : us.length = ys.length := hu.1.symm
  have hst := put_row (P := P) (p := pl.o + off) us 0 h1 hf (by rw [h2, hus]; omega) (ones_ok hu ho)
  simp only [Nat.add_zero] at hst
  refine ⟨_, hst, ?_⟩
  refine h.set hi hlim hg rfl _ ⟨rfl, rfl, rfl, by simp, fun k hk => setRow_other w pl.b k _ hk⟩ ?_
  have hsz : ((c.toList.take (pl.o + off) ++ us ++ c.toList.drop (pl.o + off + us.length)).toArray).size = c.size := by
    simp only [List.size_toArray, List.length_append, List.length_take, List.length_drop, Array.length_toList]
    omega
  refine ⟨_, e, fr, setRow_heap w pl.b c _ e _ h1, by rw [hsz]; exact hf, ?_, by rw [putCells_length]; exact h3, ?_⟩
  · simp only [List.size_toArray, List.length_append, List.length_take, List.length_drop, Array.length_toList]
    omega
  · intro j x hx
    rw [getElem?_putCells] at hx
    have hc : ∀ k, ((c.toList.take (pl.o + off) ++ us ++ c.toList.drop (pl.o + off + us.length)).toArray)[pl.o + k]? = if off ≤ k ∧ k < off + us.length then us[k - off]? else c[pl.o + k]? := by
      intro k
      rw [List.getElem?_toArray]
      have hlt : (c.toList.take (pl.o + off)).length = pl.o + off := by
        rw [List.length_take, Array.length_toList]; omega
      by_cases hk : k < off
      · rw [if_neg (by omega), List.append_assoc, List.getElem?_append_left (by omega), List.getElem?_take, if_pos (by omega)]
        simp
      · by_cases hk2 : k < off + us.length
        · rw [if_pos (by omega), List.append_assoc, List.getElem?_append_right (by omega), List.getElem?_append_left (by omega)]
          congr 1; omega
        · rw [if_neg (by omega), List.append_assoc, List.getElem?_append_right (by omega), List.getElem?_append_right (by omega), List.getElem?_drop]
          rw [show pl.o + off + us.length + (pl.o + k - (c.toList.take (pl.o + off)).length - us.length) = pl.o + k by omega]
          simp
    rw [hc j]
    split at hx
    · rename_i hcond
      rw [if_pos (by omega)]
      exact hu.get? hx
    · rename_i hcond
      by_cases hin : off ≤ j ∧ j < off + us.length
      · exfalso
        have : j < cs.length := (List.getElem?_eq_some_iff.1 hx).1
        omega
      · rw [if_neg hin]
        exact h4 j x hx

/-- A new row. -/
theorem new_ok (h : R LC N B0 w0 φ σ w) (t : TypeId) {xs : List AV} {vs : Array Value} (hs : VRL φ xs vs.toList) :
    ∃ φ', (newRow t vs).run P w = .ok ⟨w.heap.size, 0, none⟩ (w.alloc (.cells vs t)) ∧ φ' σ.next = some ⟨w.heap.size, 0, vs.size⟩ ∧ Ext φ φ' σ (σ.push (.cells xs)) ∧ R LC N B0 w0 φ' (σ.push (.cells xs)) (w.alloc (.cells vs t)) := by
  have hle := Phi.le_put (pl := ⟨w.heap.size, 0, vs.size⟩) h.fresh
  obtain ⟨h1, h2⟩ := h.push (w' := w.alloc (.cells vs t)) (.cells xs) (.cells vs t) vs.size rfl rfl rfl rfl ⟨vs, t, (0, 0), heap_alloc_new w _, frF0 _, by simp, by rw [hs.1, Array.length_toList]; exact Nat.le_refl _, fun j x hx => by
    obtain ⟨v, hv, hr⟩ := hs.get? hx
    exact ⟨v, by simpa using hv, hr.mono hle⟩⟩
  exact ⟨_, by simp [newRow], Phi.put_same _ _ _, h2, h1⟩

theorem h_alloc (h : R LC N B0 w0 φ σ w) {t : TypeId} {z : AV} (hz : zeroOf P t = some z) : HPost P LC N B0 w0 φ σ w (Instr.alloc t true (.tuple #[])) (.ptr (some (σ.next, 0))) (σ.push (.cells z.cells)) := by
  obtain ⟨v, z1, z2, z3⟩ := zero_ok (φ := φ) hz
  obtain ⟨φ', n1, n2, n3, n4⟩ := new_ok (P := P) h t z3
  refine ⟨φ', _, .pointer (some ⟨w.heap.size, 0, none⟩), ?_, ?_, n3, n4⟩
  · simp only [Instr.alloc, Sem.run_bind, z1, Result.andThen_ok, newVar, n1]
    simp
  · have := VR.ptr (φ := φ') σ.next 0 ⟨w.heap.size, 0, v.cells.size⟩ n2
    simpa using this

theorem h_box (h : R LC N B0 w0 φ σ w) (t : TypeId) {x : AV} {v : Value} (hx : VR φ x v) (hd : x.dfd = true) : HPost P LC N B0 w0 φ σ w (Instr.box t v) (.ptr (some (σ.next, 0))) (σ.push (.cells x.cells)) := by
  obtain ⟨φ', n1, n2, n3, n4⟩ := new_ok (P := P) h t (hx.cells_size hd)
  refine ⟨φ', _, .pointer (some ⟨w.heap.size, 0, none⟩), ?_, ?_, n3, n4⟩
  · simp only [Instr.box, newVar, Sem.run_bind, n1]
    simp
  · have := VR.ptr (φ := φ') σ.next 0 ⟨w.heap.size, 0, v.cells.size⟩ n2
    simpa using this

theorem load_key {t : TypeId} {g : Bool} {n : Nat} (hg : aggOf P t = some g) (hn : sizeOf? P t = some n) (h1 : (g || n == 1) = true) {b p o : Nat} {cs : List AV} (hl : o + n ≤ cs.length)
    (hc : ∃ vs : List Value, vs.length = n ∧ (∀ (j : Nat) (v : Value), vs[j]? = some v → w.cell? ⟨b, p + o + j, none⟩ = some v) ∧ VRL φ ((cs.drop o).take n) vs) {v : AV} (hv : partV g n cs o = some v) :
    ∃ v', (Instr.loadAt t (.pointer (some ⟨b, p + o, none⟩))).run P w = .ok v' w ∧ VR φ v v' := by
  obtain ⟨vs, r1, r2, r3⟩ := hc
  unfold aggOf at hg
  cases hu : P.underlying t with
  | none => simp [hu] at hg
  | some d =>
    have hz := run_size hn w
    cases g with
    | true =>
      simp only [partV, if_true, Option.some.injEq] at hv
      subst hv
      have hload := run_loadCells_list (P := P) w ⟨b, p + o, none⟩ vs (fun j v hj => by rw [addr_add]; exact r2 j v hj)
      rw [r1] at hload
      refine ⟨.agg vs.toArray, ?_, r3.agg⟩
      cases d <;> simp [hu] at hg <;> simp [Instr.loadAt, Instr.sureAddr, loadVar, isAgg, run_underlying hu, hz, hload]
    | false =>
      have hn1 : n = 1 := by simpa using h1
      subst hn1
      simp only [partV, Bool.false_eq_true, if_false] at hv
      obtain ⟨u, hu2, hr2⟩ := r3.get? (i := 0) (x := v) (by simpa using hv)
      have hc := r2 0 u hu2
      simp only [Nat.add_zero] at hc
      refine ⟨u, ?_, hr2⟩
      cases d <;> simp [hu] at hg <;> simp [Instr.loadAt, Instr.sureAddr, loadVar, isAgg, run_underlying hu, hc]
theorem load_ok (h : R LC N B0 w0 φ σ w) {t : TypeId} {g : Bool} {n : Nat} (hg : aggOf P t = some g) (hn : sizeOf? P t = some n) (h1 : (g || n == 1) = true) {i o : Nat} {a : Value} (hx : VR φ (.ptr (some (i, o))) a)
    {cs : List AV} (hr : σ.row i = some cs) (hl : o + n ≤ cs.length) {v : AV} (hv : partV g n cs o = some v) : ∃ v', (Instr.loadAt t a).run P w = .ok v' w ∧ VR φ v v' := by
  cases hx with
  | ptr _ _ pl hp => exact load_key hg hn h1 hl (row_cells h hp hr o n hl) hv
theorem load_okV (h : R LC N B0 w0 φ σ w) {t : TypeId} {g : Bool} {n : Nat} (hg : aggOf P t = some g) (hn : sizeOf? P t = some n) (h1 : (g || n == 1) = true) {cs : List AV} {o : Nat} {a : Value} (hx : VR φ (.vptr cs o) a)
    (hl : o + n ≤ cs.length) {v : AV} (hv : partV g n cs o = some v) : ∃ v', (Instr.loadAt t a).run P w = .ok v' w ∧ VR φ v v' := by
  cases hx with
  | vptr _ _ b p hh => exact load_key hg hn h1 hl (has_cells h hh o n hl) hv
theorem h_loadV (h : R LC N B0 w0 φ σ w) {t : TypeId} {g : Bool} {n : Nat} (hg : aggOf P t = some g) (hn : sizeOf? P t = some n) (h1 : (g || n == 1) = true) {cs : List AV} {o : Nat} {a : Value} (hx : VR φ (.vptr cs o) a)
    (hl : o + n ≤ cs.length) {v : AV} (hv : partV g n cs o = some v) : HPost P LC N B0 w0 φ σ w (Instr.loadAt t a) v σ := by
  obtain ⟨v', h1', h2⟩ := load_okV h hg hn h1 hx hl hv
  exact ⟨φ, w, v', h1', h2, Ext.refl _ _, h⟩

theorem h_load (h : R LC N B0 w0 φ σ w) {t : TypeId} {g : Bool} {n : Nat} (hg : aggOf P t = some g) (hn : sizeOf? P t = some n) (h1 : (g || n == 1) = true) {i o : Nat} {a : Value} (hx : VR φ (.ptr (some (i, o))) a)
    {cs : List AV} (hr : σ.row i = some cs) (hl : o + n ≤ cs.length) {v : AV} (hv : partV g n cs o = some v) : HPost P LC N B0 w0 φ σ w (Instr.loadAt t a) v σ := by
  obtain ⟨v', h1', h2⟩ := load_ok h hg hn h1 hx hr hl hv
  exact ⟨φ, w, v', h1', h2, Ext.refl _ _, h⟩

theorem h_store (h : R LC N B0 w0 φ σ w) {t : TypeId} {n : Nat} (hn : sizeOf? P t = some n) {i o : Nat} {a : Value} (hx : VR φ (.ptr (some (i, o))) a) {x : AV} {u : Value} (hu : VR φ x u) (hd : x.dfd = true) (hl : x.cells.length = n)
    {cs : List AV} (hown : σ.own i = some cs) (hb : o + n ≤ cs.length) (ho : x.cells.all AV.one = true) :
    ∃ w', (Instr.storeAt t a u).run P w = .ok () w' ∧ R LC N B0 w0 φ (σ.set i (.cells (putCells cs o x.cells))) w' := by
  cases hx with
  | ptr _ _ pl hp =>
    have hc := hu.cells_size hd
    obtain ⟨w', h1, h2⟩ := write_ok (P := P) h hp hown hc ho (by rw [hl]; exact hb)
    refine ⟨w', ?_, h2⟩
    have hsz : u.cells.size = n := by have := hc.1; rw [hl] at this; simpa using this.symm
    simp [Instr.storeAt, Instr.sureAddr, storeVar, run_size hn, hsz, h1]

theorem Ext.set (φ : Phi) (σ : AH) (i : Nat) (o : AObj) : Ext φ φ σ (σ.set i o) := ⟨φ.le_refl, fun _ _ h => .inl h, fun i h h' => by simp at h'; omega, Nat.le_refl _, rfl, fun _ _ _ h => .inl h⟩

theorem h_mkMap (h : R LC N B0 w0 φ σ w) (t : TypeId) : HPost P LC N B0 w0 φ σ w (Instr.makeMap t none) (.map (some σ.next)) (σ.push (.map [] 0)) := by
  obtain ⟨h1, h2⟩ := h.push (w' := w.alloc (.map #[] 0)) (.map [] 0) (.map #[] 0) 0 rfl rfl rfl rfl ⟨#[], heap_alloc_new w _, rfl, fun j e c he => by simp at he⟩
  refine ⟨_, _, .map (some w.heap.size), ?_, ?_, h2, h1⟩
  · simp [Instr.makeMap]
  · exact .map σ.next ⟨w.heap.size, 0, 0⟩ (Phi.put_same _ _ _)

theorem flatten_replicate_get {α : Type} (zs : List α) : ∀ (k j : Nat), ((List.replicate k zs).flatten)[j]? = if j < k * zs.length then zs[j % zs.length]? else none
  | 0, j => by simp
  | k + 1, j => by
    rw [List.replicate_succ, List.flatten_cons]
    by_cases h : j < zs.length
    · rw [List.getElem?_append_left h, if_pos (by rw [Nat.succ_mul]; omega), Nat.mod_eq_of_lt h]
    · rw [List.getElem?_append_right (by omega), flatten_replicate_get zs k]
      by_cases h2 : j - zs.length < k * zs.length
      · rw [if_pos h2, if_pos (by rw [Nat.succ_mul]; omega)]
        congr 1
        conv => rhs; rw [show j = (j - zs.length) + zs.length by omega]
        rw [Nat.add_mod_right]
      · rw [if_neg h2, if_neg (by rw [Nat.succ_mul]; omega)]
theorem zcells_get (zs : List AV) (k j : Nat) : (zcells zs k)[j]? = if j < k * zs.length then zs[j % zs.length]? else none := by
  unfold zcells
  split
  · rename_i v
    rw [List.getElem?_replicate]
    simp only [List.length_cons, List.length_nil, Nat.zero_add, Nat.mul_one, Nat.mod_one]
    rfl
  · exact flatten_replicate_get zs k j
theorem zcells_length (zs : List AV) (k : Nat) : (zcells zs k).length = k * zs.length := by
  unfold zcells
  split
  · simp
  · simp
theorem zcells_ok {zs : List AV} {zv : Array Value} (hz : VRL φ zs zv.toList) (k : Nat) : VRL φ (zcells zs k) (Builtin.zeroCells zv k).toList := by
  have hl : zs.length = zv.size := by have := hz.1; simpa using this
  refine VRL.of_get (by rw [zcells_length, hl]; simp [size_zeroCells]) ?_
  intro j x v hx hv
  rw [zcells_get] at hx
  split at hx
  · rename_i hj
    obtain ⟨u, hu, hr⟩ := hz.get? hx
    have hu2 : zv[j % zv.size]? = some u := by rw [← hl]; simpa using hu
    have hv2 : (Builtin.zeroCells zv k)[j]? = some v := by simpa using hv
    have : v = u := by
      unfold Builtin.zeroCells at hv2
      rw [Array.getElem?_map, Array.getElem?_range] at hv2
      rw [if_pos (by rw [← hl]; exact hj)] at hv2
      simp only [Option.map_some, Option.some.injEq] at hv2
      rw [← hv2]
      have hlt : j % zv.size < zv.size := (Array.getElem?_eq_some_iff.1 hu2).1
      rw [getElem!_pos zv _ hlt]
      rw [Array.getElem?_eq_getElem hlt] at hu2
      exact Option.some.inj hu2
    rw [this]; exact hr
  · cases hx

theorem h_bslice (h : R LC N B0 w0 φ σ w) {t e : TypeId} {z : AV} {n len : Nat} {ps : List (Nat × Nat × Opd)} {parts : Array (Nat × Operand)} (hρ : OpdR φ ρ ρc) (hu : P.underlying t = some (.slice e)) (hz : zeroOf P e = some z)
    (hn : sizeOf? P e = some n) (hzn : z.cells.length = n) (h0 : 0 < n) (hmax : len * n ≤ 2 ^ 24) (hp : compParts (fun i => some (i * n, n)) parts.toList = some ps) {cs : List AV} (hc : afill ρ (zcells z.cells len) ps = some cs) :
    HPost P LC N B0 w0 φ σ w (Instr.buildSlice t len (parts.map fun (i, x) => (i, ρc x))) (.slice (some (σ.next, 0)) len (.ex len)) (σ.push (.cells cs)) := by
  obtain ⟨v, z1, z2, z3⟩ := zero_ok (φ := φ) hz
  have hzs : v.cells.size = n := by have := z3.1; rw [hzn] at this; simpa using this.symm
  have hzc : VRL φ (zcells z.cells len) ((Array.range (len * n)).map (v.cells[· % v.cells.size]!)).toList := by
    have := zcells_ok z3 len
    unfold Builtin.zeroCells at this
    simpa only [hzs] using this
  obtain ⟨vs', h1, h2⟩ := fill_ok hρ _ _ _ cs _ hp hzc hc
  obtain ⟨φ', n1, n2, n3, n4⟩ := new_ok (P := P) h e h2
  refine ⟨φ', _, .slice (some ⟨w.heap.size, 0, none⟩) len len, ?_, ?_, n3, n4⟩
  · have hm : ¬ (len * n > 2 ^ 24) := by omega
    have h1' : Instr.fill (fun i => some (i * n, n)) ((Array.range (len * n)).map (v.cells[· % v.cells.size]!)) (parts.map fun (i, x) => (i, ρc x)).toList = some vs' := by
      rw [Array.toList_map]
      exact h1
    simp only [Instr.buildSlice, Sem.run_bind, run_underlying hu, Result.andThen_ok, run_size hn, if_neg hm]
    by_cases hln : len * n = 0
    · rw [if_pos hln]
      have e1 : ((Array.range (len * n)).map ((#[] : Array Value)[· % (#[] : Array Value).size]!)) = ((Array.range (len * n)).map (v.cells[· % v.cells.size]!)) := by rw [hln]; simp
      simp only [Sem.run_pure, Result.andThen_ok, e1, h1', Sem.run_bind, n1]
    · rw [if_neg hln]
      simp only [Sem.run_bind, z1, Sem.run_pure, Result.andThen_ok, h1', n1]
  · exact .sliceX σ.next 0 ⟨w.heap.size, 0, vs'.size⟩ _ _ _ n2 rfl (fun _ => rfl) (Nat.le_refl _)

/-- A new row that is in no one's hands. -/
theorem R.note (h : R LC N B0 w0 φ σ w) (vs : Array Value) (t : TypeId) :
    R LC N B0 w0 { φ with fz := fun b o cs => φ.fz b o cs ∨ (b = w.heap.size ∧ o = 0 ∧ cs = .ex vs.toList), gl := fun g cs h => .inl (φ.gl g cs h) } σ (w.alloc (.cells vs t)) ∧
    Ext φ { φ with fz := fun b o cs => φ.fz b o cs ∨ (b = w.heap.size ∧ o = 0 ∧ cs = .ex vs.toList), gl := fun g cs h => .inl (φ.gl g cs h) } σ σ ∧ (φ.fz w.heap.size 0 (.ex vs.toList) ∨ (w.heap.size = w.heap.size ∧ 0 = 0 ∧ FzK.ex vs.toList = .ex vs.toList)) := by
  have hold : ∀ k, k < w.heap.size → (w.alloc (.cells vs t)).heap[k]? = w.heap[k]? := by
    intro k hk
    show (w.heap.push _)[k]? = _
    rw [Array.getElem?_push, if_neg (by omega)]
  have hsz : (w.alloc (.cells vs t)).heap.size = w.heap.size + 1 := by show (w.heap.push _).size = _; simp
  have hg := h.grown (w' := w.alloc (.cells vs t)) ⟨rfl, rfl, rfl, by omega, hold⟩
  have hle : φ.le { φ with fz := fun b o cs => φ.fz b o cs ∨ (b = w.heap.size ∧ o = 0 ∧ cs = .ex vs.toList), gl := fun g cs h => .inl (φ.gl g cs h) } := ⟨fun _ _ e => e, fun _ _ _ e => .inl e, rfl⟩
  refine ⟨⟨hg.below, hg.size, hg.dom, fun i pl e => ?_, hg.own, hg.base, fun b o cs e => ?_⟩, ⟨hle, fun i pl e => .inl e, fun i h1 h2 => by omega, Nat.le_refl _, rfl, fun b o cs e => ?_⟩, .inr ⟨rfl, rfl, rfl⟩⟩
  · obtain ⟨ob, u1, u2⟩ := hg.obj i pl e
    exact ⟨ob, u1, u2.mono hle⟩
  · rcases e with e | ⟨rfl, rfl, rfl⟩
    · obtain ⟨y1, ⟨c, tt, ff, y2, y3⟩, y4⟩ := hg.frz b o cs e
      exact ⟨y1, ⟨c, tt, ff, y2, y3.mono (Phi.bare_mono hle)⟩, y4⟩
    · refine ⟨by omega, ⟨vs, t, (0, 0), heap_alloc_new w _, fun j v hj => by simpa using hj⟩, fun i pl ob e _ _ => ?_⟩
      have := (h.dom i pl e).2
      omega
  · rcases e with e | ⟨rfl, _, _⟩
    · exact .inl e
    · have := h.base
      have := h.size
      exact .inr (by omega)
theorem h_tslice (h : R LC N B0 w0 φ σ w) {t e : TypeId} {z : AV} {n len : Nat} {ps : List (Nat × Nat × Opd)} {parts : Array (Nat × Operand)} (hρ : OpdR φ ρ ρc) (hu : P.underlying t = some (.slice e)) (hz : zeroOf P e = some z)
    (hn : sizeOf? P e = some n) (hzn : z.cells.length = n) (h0 : 0 < n) (hmax : len * n ≤ 2 ^ 24) (hp : compParts (fun i => some (i * n, n)) parts.toList = some ps) {cs : List AV} (hc : afill ρ (zcells z.cells len) ps = some cs) :
    HPost P LC N B0 w0 φ σ w (Instr.buildSlice t len (parts.map fun (i, x) => (i, ρc x))) (.tsl len cs) σ := by
  obtain ⟨v, z1, z2, z3⟩ := zero_ok (φ := φ) hz
  have hzs : v.cells.size = n := by have := z3.1; rw [hzn] at this; simpa using this.symm
  have hzc : VRL φ (zcells z.cells len) ((Array.range (len * n)).map (v.cells[· % v.cells.size]!)).toList := by
    have := zcells_ok z3 len
    unfold Builtin.zeroCells at this
    simpa only [hzs] using this
  obtain ⟨vs', h1, h2⟩ := fill_ok hρ _ _ _ cs _ hp hzc hc
  obtain ⟨n4, n3, n2⟩ := R.note h vs' e
  have n1 : (newRow e vs').run P w = .ok ⟨w.heap.size, 0, none⟩ (w.alloc (.cells vs' e)) := by simp [newRow]
  refine ⟨_, _, .slice (some ⟨w.heap.size, 0, none⟩) len len, ?_, ?_, n3, n4⟩
  · have hm : ¬ (len * n > 2 ^ 24) := by omega
    have h1' : Instr.fill (fun i => some (i * n, n)) ((Array.range (len * n)).map (v.cells[· % v.cells.size]!)) (parts.map fun (i, x) => (i, ρc x)).toList = some vs' := by
      rw [Array.toList_map]
      exact h1
    simp only [Instr.buildSlice, Sem.run_bind, run_underlying hu, Result.andThen_ok, run_size hn, if_neg hm]
    by_cases hln : len * n = 0
    · rw [if_pos hln]
      have e1 : ((Array.range (len * n)).map ((#[] : Array Value)[· % (#[] : Array Value).size]!)) = ((Array.range (len * n)).map (v.cells[· % v.cells.size]!)) := by rw [hln]; simp
      simp only [Sem.run_pure, Result.andThen_ok, e1, h1', Sem.run_bind, n1]
    · rw [if_neg hln]
      simp only [Sem.run_bind, z1, Sem.run_pure, Result.andThen_ok, h1', n1]
  · exact .tsl len cs vs'.toList w.heap.size n2 h2.1 (h2.mono n3.le).2

theorem h_mkSlice (h : R LC N B0 w0 φ σ w) {t e : TypeId} {i : TypeInfo} {zero : AV} (hu : P.underlying t = some (.slice e)) (hi : P.info? e = some i) (hz : i.zero.bind cvt = some zero) (hzn : zero.cells.length = i.size) (h0 : 0 < i.size)
    {kl kc : IntKind} {l c : Int} (hl : 0 ≤ l) (hlc : l ≤ c) (hb : c * i.bytes ≤ topBytes) (hc : c ≤ topBytes) :
    HPost P LC N B0 w0 φ σ w (Instr.makeSlice t (.int kl l) (.int kc c)) (.slice (some (σ.next, 0)) l.toNat (.ex c.toNat)) (σ.push (.cells (zcells zero.cells c.toNat))) := by
  obtain ⟨zv, hz1, hz2⟩ : ∃ zv, i.zero = some zv ∧ cvt zv = some zero := by
    cases hq : i.zero with
    | none => simp [hq] at hz
    | some zv => exact ⟨zv, rfl, by simpa [hq] using hz⟩
  have z3 := (cvt_ok (φ := φ) hz2).cells_size (cvt_dfd hz2)
  have hzs : zv.cells.size = i.size := by have := z3.1; rw [hzn] at this; simpa using this.symm
  have hzc := zcells_ok z3 c.toNat
  obtain ⟨φ', n1, n2, n3, n4⟩ := new_ok (P := P) h e hzc
  simp only [topBytes] at hb hc
  have wl : IntKind.i64.wrap l = l := by rw [← wr_eq]; simp only [wr]; rw [if_pos (by omega)]
  have wc : IntKind.i64.wrap c = c := by rw [← wr_eq]; simp only [wr]; rw [if_pos (by omega)]
  have hsz : (sizeOf e).run P w = .ok i.size w := by simp [sizeOf, typeInfo, hi]
  refine ⟨φ', _, .slice (some ⟨w.heap.size, 0, none⟩) l.toNat c.toNat, ?_, ?_, n3, n4⟩
  · have e1 : ∀ (zero : Array Value), (c.toNat * i.size ≠ 0 → zero = zv.cells) → ((Array.range (c.toNat * i.size)).map (zero[· % zero.size]!)) = Builtin.zeroCells zv.cells c.toNat := by
      intro zero hzero
      unfold Builtin.zeroCells
      rw [hzs]
      by_cases hq : c.toNat * i.size = 0
      · rw [hq]; simp
      · rw [hzero hq, hzs]
    have hbig : ¬ (281474976710656 < (i.bytes : Int) * c) := by rw [Int.mul_comm]; omega
    have t1 : (decide (c < 0) || decide ((i.bytes : Int) * c > 2 ^ 48) || decide (l < 0) || decide (l > c)) = false := by
      simp; omega
    simp only [Instr.makeSlice, Sem.run_bind, run_underlying hu, Result.andThen_ok, asInt, asIntOf, Sem.run_pure, typeInfo, run_program, hi, wl, wc, t1, Bool.false_eq_true, if_false, run_askRoom, hsz]
    by_cases hq : c.toNat * i.size = 0
    · rw [if_pos hq]
      simp only [Sem.run_bind, Sem.run_pure, Result.andThen_ok]
      rw [e1 #[] (fun h => absurd hq h)]
      simp only [n1, Result.andThen_ok]
    · rw [if_neg hq]
      simp only [zeroValue, typeInfo, hi, hz1, Sem.run_bind, run_program, Sem.run_pure, Result.andThen_ok]
      rw [e1 zv.cells (fun _ => rfl)]
      simp only [Sem.run_bind, n1, Result.andThen_ok, Sem.run_pure]
  · exact .sliceX σ.next 0 ⟨w.heap.size, 0, _⟩ _ _ _ n2 rfl (fun _ => rfl) (by omega)


/-- A string's bytes, as a slice that no one will write. -/
theorem h_s2b (h : R LC N B0 w0 φ σ w) {src dst e : TypeId} (hs : P.underlying src = some .string) (hd : P.underlying dst = some (.slice e)) (he : P.underlying e = some (.int .u8)) (s : ByteArray) :
    HPost P LC N B0 w0 φ σ w (convert src dst (.string s)) (.slice (some (σ.next, 0)) s.size (.op 1)) (σ.push (.cells (s.data.toList.map fun b => .int .u8 b.toNat))) := by
  have hrun := run_bytes_of_string (P := P) w src dst e s hs hd he
  have hle := Phi.le_put (pl := ⟨w.heap.size, 0, grownCap w s.size 0 e * 1⟩) h.fresh
  obtain ⟨h1, h2⟩ := h.push (w' := w.drew.alloc (.cells (bytesRow s (grownCap w s.size 0 e)) e ((bytesRow s (grownCap w s.size 0 e)).size, (bytesRow s (grownCap w s.size 0 e)).size + 1))) (.cells (s.data.toList.map fun b => .int .u8 b.toNat)) _ (grownCap w s.size 0 e * 1) rfl rfl rfl rfl
    ⟨_, e, _, heap_alloc_new w.drew _, fun k hk h => by omega, by
      have hg := grownCap_ge w s.size 0 e
      have hs2 : s.data.size = s.size := rfl
      simp only [bytesRow, Array.size_append, Array.size_map, Array.size_replicate]
      omega, by
      have hg := grownCap_ge w s.size 0 e
      have hs2 : s.data.size = s.size := rfl
      simp only [List.length_map, Array.length_toList]
      omega, fun j x hx => by
      rw [List.getElem?_map] at hx
      obtain ⟨b, hb, rfl⟩ := Option.map_eq_some_iff.1 hx
      have hj : j < s.data.size := by
        have := (List.getElem?_eq_some_iff.1 hb).1
        simpa using this
      refine ⟨.int .u8 (s.data[j].toNat : Int), by rw [Nat.zero_add]; exact bytesRow_at s _ j hj, ?_⟩
      have : b = s.data[j] := by
        have := (List.getElem?_eq_some_iff.1 hb).2
        rw [← this]; simp
      rw [this]; exact .int _ _⟩
  refine ⟨_, _, _, hrun, ?_, h2, h1⟩
  exact .sliceO σ.next 0 ⟨w.heap.size, 0, grownCap w s.size 0 e * 1⟩ _ _ _ _ (Phi.put_same _ _ _) rfl (fun _ => rfl) (grownCap_ge w s.size 0 e) (by simp)

theorem bytesA_cons {x : AV} {xs : List AV} {l : List Int} (h : bytesA (x :: xs) = some l) : ∃ k l', x = .int .u8 k ∧ bytesA xs = some l' ∧ l = k :: l' := by
  unfold bytesA at h
  split at h
  · rename_i e; cases e
  · rename_i k r e
    cases e
    obtain ⟨l', h1, h2⟩ := Option.map_eq_some_iff.1 h
    exact ⟨k, l', rfl, h1, h2.symm⟩
  · cases h
theorem bytes_of {φ : Phi} : ∀ {xs : List AV} {vs : List Value} {l : List Int}, VRL φ xs vs → bytesA xs = some l → vs = l.map (Value.int .u8)
  | [], vs, l, h, hb => by
    cases hb
    exact List.eq_nil_of_length_eq_zero (by simpa using h.1.symm)
  | x :: xs, [], l, h, hb => absurd h.1 (by simp)
  | x :: xs, v :: vs, l, h, hb => by
    obtain ⟨k, l', rfl, h1, rfl⟩ := bytesA_cons hb
    have h0 := h.head
    cases h0
    rw [List.map_cons, bytes_of h.tail h1]
/-- The string of a slice of bytes. -/
theorem h_b2s (h : R LC N B0 w0 φ σ w) {src dst e : TypeId} (hs : P.underlying src = some (.slice e)) (hd : P.underlying dst = some .string) (he : P.underlying e = some (.int .u8)) {i o n : Nat} {c : ACap} {v : Value} (hv : VR φ (.slice (some (i, o)) n c) v) {cs : List AV} (hr : σ.row i = some cs)
    (hn : 0 < n) (hl : o + n ≤ cs.length) {l : List Int} (hb : bytesA ((cs.drop o).take n) = some l) : HPost P LC N B0 w0 φ σ w (convert src dst v) (.str (strA l)) σ := by
  have main : ∀ (pl : Place) (k : Nat) (ad : Addr), φ i = some pl → (k ≠ 0 → ad = ⟨pl.b, pl.o + o, none⟩) → n ≤ k → HPost P LC N B0 w0 φ σ w (convert src dst (.slice (some ad) n k)) (.str (strA l)) σ := by
    intro pl k ad hp ha hk
    obtain ⟨vs, r1, r2, r3⟩ := row_cells h hp hr o n hl
    have e1 := ha (by omega)
    subst e1
    have hld : (loadCells ⟨pl.b, pl.o + o, none⟩ n).run P w = .ok vs.toArray w := by
      rw [← r1]
      refine run_loadCells_list w _ vs fun j v hj => ?_
      have : (⟨pl.b, pl.o + o, none⟩ : Addr).add j = ⟨pl.b, pl.o + o + j, none⟩ := by unfold Addr.add; split <;> simp_all
      rw [this]
      exact r2 j v hj
    rw [bytes_of r3 hb] at hld
    have hrun := (run_convert_bytes_string (P := P) w src dst e (some ⟨pl.b, pl.o + o, none⟩) n k hs he hd).trans (run_bytesToString w _ n k l hld)
    exact ⟨φ, w, _, hrun, .str _, Ext.refl _ _, h⟩
  cases hv with
  | sliceX i o pl _ k ad hp hbk had hk => exact main pl k ad hp had hk
  | sliceO i o pl _ _ k ad hp hbk had hk _ => exact main pl k ad hp had hk
theorem run_ap_grow {t u ty e e' : TypeId} {i : TypeInfo} {z : Value} (ht : P.underlying t = some (.slice e)) (hu : P.underlying u = some (.slice e')) (hi : P.info? e = some i) (hz : i.zero = some z)
    (base : Option Addr) (sLen sCap : Nat) (xb : Option Addr) (n c : Nat) (olds news : List Value) (hold : (Builtin.firstCells i.size sLen (.slice base sLen sCap)).run P w.drew = .ok olds.toArray w.drew)
    (hnew : (Builtin.firstCells i.size n (.slice xb n c)).run P w.drew = .ok news.toArray w.drew) (hg : sCap < sLen + n) (h63 : (sLen + n) ≤ 9223372036854775807) (hfit : (sLen + n) * i.bytes ≤ topBytes) :
    (Builtin.append_ #[t, u] ty #[.slice base sLen sCap, .slice xb n c]).run P w =
      .ok (.slice (some ⟨w.heap.size, 0, none⟩) (sLen + n) (grownCap w (sLen + n) sCap e))
        (w.drew.alloc (.cells (olds.toArray ++ news.toArray ++ Builtin.zeroCells z.cells (grownCap w (sLen + n) sCap e - (sLen + n))) e)) := by
  have hn : ¬ (sLen + n ≤ sCap) := by omega
  have h63' : ¬ (9223372036854775807 < ((sLen : Int) + (n : Int))) := by omega
  have h48 := growslice_fits hg (by simpa [topBytes] using hfit)
  have h48' : ¬ (281474976710656 < Builtin.nextslicecap (sLen + n) sCap * i.bytes) := by omega
  simp [Builtin.append_, run_underlying ht, run_underlying hu, sizeOf, typeInfo, zeroValue, hi, hz, Builtin.lenOf, hn, h63', h48', Question.forced, hold, hnew, newRow, grownCap]
  congr 2
  apply Array.ext'
  simp [List.append_assoc]

theorem run_ap_room {t u ty e e' : TypeId} {i : TypeInfo} (ht : P.underlying t = some (.slice e)) (hu : P.underlying u = some (.slice e')) (hi : P.info? e = some i)
    (a : Addr) (sLen sCap : Nat) (xb : Option Addr) (n c : Nat) (news : List Value) (hnew : (Builtin.firstCells i.size n (.slice xb n c)).run P w = .ok news.toArray w) (hg : sLen + n ≤ sCap) {w' : World}
    (hst : (storeCells (a.add (sLen * i.size)) news).run P w = .ok () w') :
    (Builtin.append_ #[t, u] ty #[.slice (some a) sLen sCap, .slice xb n c]).run P w = .ok (.slice (some a) (sLen + n) sCap) w' := by
  simp [Builtin.append_, run_underlying ht, run_underlying hu, sizeOf, typeInfo, hi, Builtin.lenOf, hg, hnew, hst]

theorem run_ap_zero {t u ty e e' : TypeId} {i : TypeInfo} (ht : P.underlying t = some (.slice e)) (hu : P.underlying u = some (.slice e')) (hi : P.info? e = some i)
    (base : Option Addr) (sLen sCap : Nat) (xb : Option Addr) (c : Nat) (hl : sLen ≤ sCap) :
    (Builtin.append_ #[t, u] ty #[.slice base sLen sCap, .slice xb 0 c]).run P w = .ok (.slice base sLen sCap) w := by
  have hf : (Builtin.firstCells i.size 0 (.slice xb 0 c)).run P w = .ok #[] w := by
    cases xb <;> simp [Builtin.firstCells, loadCells, loadCellsFrom]
  cases base <;> simp [Builtin.append_, run_underlying ht, run_underlying hu, sizeOf, typeInfo, hi, Builtin.lenOf, hl, hf, storeCells]

theorem run_apz_grow {t u ty e : TypeId} {k : IntKind} {i : TypeInfo} {z : Value} (ht : P.underlying t = some (.slice e)) (hu : P.underlying u = some (.int k)) (hi : P.info? e = some i) (hz : i.zero = some z) (h0 : 0 < i.size)
    (base : Option Addr) (sLen sCap : Nat) {q : IntKind} {n : Nat} (hm : 0 < n) (hm1 : n * i.bytes ≤ topBytes) (hm2 : n ≤ topBytes) (olds : List Value) (hold : (Builtin.firstCells i.size sLen (.slice base sLen sCap)).run P w.drew = .ok olds.toArray w.drew)
    (hg : sCap < sLen + n) (h63 : (sLen + n) ≤ 9223372036854775807) (hfit : (sLen + n) * i.bytes ≤ topBytes) :
    (Builtin.append_ #[t, u] ty #[.slice base sLen sCap, .int q n]).run P w =
      .ok (.slice (some ⟨w.heap.size, 0, none⟩) (sLen + n) (grownCap w (sLen + n) sCap e))
        (w.drew.alloc (.cells (olds.toArray ++ (Builtin.zeroCells z.cells n) ++ Builtin.zeroCells z.cells (grownCap w (sLen + n) sCap e - (sLen + n))) e)) := by
  have hn : ¬ (sLen + n ≤ sCap) := by omega
  simp only [topBytes] at hm1 hm2
  have h63' : ¬ (9223372036854775807 < ((sLen : Int) + (n : Int))) := by omega
  have h48 := growslice_fits hg (by simpa [topBytes] using hfit)
  have h48' : ¬ (281474976710656 < Builtin.nextslicecap (sLen + n) sCap * i.bytes) := by omega
  have wm : IntKind.i64.wrap n = n := by rw [← wr_eq]; simp only [wr]; rw [if_pos (by omega)]
  have c1 : ¬ (n : Int) < 0 := by omega
  have hcast : ((n * i.bytes : Nat) : Int) = (n : Int) * (i.bytes : Int) := by simp
  have c2 : ¬ (281474976710656 < (n : Int) * (i.bytes : Int)) := by omega
  have c3 : ¬ (n * i.size = 0) := by have := Nat.mul_pos hm h0; omega
  simp [Builtin.append_, run_underlying ht, run_underlying hu, sizeOf, typeInfo, hi, asInt, asIntOf, wm, c1, c2, hn, h63', h48', c3, Question.forced, hold, hz, zeroValue, newRow, grownCap]
theorem run_apz_room {t u ty e : TypeId} {k : IntKind} {i : TypeInfo} {z : Value} (ht : P.underlying t = some (.slice e)) (hu : P.underlying u = some (.int k)) (hi : P.info? e = some i) (hz : i.zero = some z) (h0 : 0 < i.size)
    (a : Addr) (sLen sCap : Nat) {q : IntKind} {n : Nat} (hm : 0 < n) (hm1 : n * i.bytes ≤ topBytes) (hm2 : n ≤ topBytes) (hg : sLen + n ≤ sCap) {w' : World}
    (hst : (storeCells (a.add (sLen * i.size)) (Builtin.zeroCells z.cells n).toList).run P w = .ok () w') :
    (Builtin.append_ #[t, u] ty #[.slice (some a) sLen sCap, .int q n]).run P w = .ok (.slice (some a) (sLen + n) sCap) w' := by
  simp only [topBytes] at hm1 hm2
  have wm : IntKind.i64.wrap n = n := by rw [← wr_eq]; simp only [wr]; rw [if_pos (by omega)]
  have c1 : ¬ (n : Int) < 0 := by omega
  have hcast : ((n * i.bytes : Nat) : Int) = (n : Int) * (i.bytes : Int) := by simp
  have c2 : ¬ (281474976710656 < (n : Int) * (i.bytes : Int)) := by omega
  have c3 : ¬ (n * i.size = 0) := by have := Nat.mul_pos hm h0; omega
  simp [Builtin.append_, run_underlying ht, run_underlying hu, sizeOf, typeInfo, hi, asInt, asIntOf, wm, c1, c2, hg, c3, hz, zeroValue, hst]
theorem run_apz_zero {t u ty e : TypeId} {k : IntKind} {i : TypeInfo} (ht : P.underlying t = some (.slice e)) (hu : P.underlying u = some (.int k)) (hi : P.info? e = some i)
    (base : Option Addr) (sLen sCap : Nat) {q : IntKind} (hl : sLen ≤ sCap) :
    (Builtin.append_ #[t, u] ty #[.slice base sLen sCap, .int q 0]).run P w = .ok (.slice base sLen sCap) w := by
  have w0 : IntKind.i64.wrap 0 = 0 := by rw [← wr_eq]; simp [wr]
  cases base <;> simp [Builtin.append_, run_underlying ht, run_underlying hu, sizeOf, typeInfo, hi, asInt, asIntOf, w0, hl, storeCells]
end
end Go.Oct
end
/- append, copy: in place, or into a new block. -/
section
set_option linter.unusedVariables false
set_option linter.unusedSimpArgs false
set_option linter.unusedSectionVars false
namespace Go.Oct
variable [Gl]
open Go.RowKit

section
variable {P : Program} {LC : LCode} {N : Nat → Nat} {B0 : Nat} {w0 : World} {φ : Phi} {σ : AH} {w : World} {ρ : Opd → AV} {ρc : Operand → Value}

/-- Cells are written into a block. -/
theorem store_block {b p : Nat} {c : Array Value} {e : TypeId} {fr : Nat × Nat} (hb : w.heap[b]? = some (.cells c e fr)) (hf : frF fr c.size) {us : List Value} (hl : p + us.length ≤ c.size) (h1 : ∀ v ∈ us, v.oneCell' = true) :
    ∃ (w' : World) (c' : Array Value), (storeCells ⟨b, p, none⟩ us).run P w = .ok () w' ∧ Turned b w w' ∧ w'.heap[b]? = some (.cells c' e fr) ∧ c'.size = c.size ∧
      ∀ k : Nat, c'[k]? = if p ≤ k ∧ k < p + us.length then us[k - p]? else c[k]? := by
  have hst := put_row (P := P) (p := p) us 0 hb hf (by simpa using hl) h1
  simp only [Nat.add_zero] at hst
  refine ⟨_, _, hst, ⟨rfl, rfl, rfl, by simp, fun k hk => setRow_other w b k _ hk⟩, setRow_heap w b c _ e _ hb, ?_, ?_⟩
  · simp only [List.size_toArray, List.length_append, List.length_take, List.length_drop, Array.length_toList]
    omega
  · intro k
    rw [List.getElem?_toArray]
    have hlt : (c.toList.take p).length = p := by
      rw [List.length_take, Array.length_toList]; omega
    by_cases hk : k < p
    · rw [if_neg (by omega), List.append_assoc, List.getElem?_append_left (by omega), List.getElem?_take, if_pos (by omega)]
      simp
    · by_cases hk2 : k < p + us.length
      · rw [if_pos (by omega), List.append_assoc, List.getElem?_append_right (by omega), List.getElem?_append_left (by omega)]
        congr 1; omega
      · rw [if_neg (by omega), List.append_assoc, List.getElem?_append_right (by omega), List.getElem?_append_right (by omega), List.getElem?_drop]
        rw [show p + us.length + (k - (c.toList.take p).length - us.length) = k by omega]
        simp

/-- The first cells of a slice, as the model reads them. -/
theorem first_ok (h : R LC N B0 w0 φ σ w) {a : Option (Nat × Nat)} {len : Nat} {cap : ACap} {v : Value} (hv : VR φ (.slice a len cap) v) {z n : Nat} (hn : n ≤ len) {xs : List AV} (hc : cellsAt σ (n * z) a = some xs) :
    ∃ vs : List Value, VRL φ xs vs ∧ vs.length = n * z ∧ ∀ w' : World, w'.heap = w.heap → (Builtin.firstCells z n v).run P w' = .ok vs.toArray w' := by
  have main : ∀ (i o : Nat) (pl : Place) (c : Nat) (ad : Addr), a = some (i, o) → φ i = some pl → (c ≠ 0 → ad = ⟨pl.b, pl.o + o, none⟩) → len ≤ c → v = .slice (some ad) len c →
      ∃ vs : List Value, VRL φ xs vs ∧ vs.length = n * z ∧ ∀ w' : World, w'.heap = w.heap → (Builtin.firstCells z n v).run P w' = .ok vs.toArray w' := by
    rintro i o pl c ad rfl hp ha hl rfl
    simp only [cellsAt] at hc
    split at hc
    · rename_i cs hr
      split at hc
      · rename_i hb
        cases hc
        obtain ⟨vs, r1, r2, r3⟩ := row_cells h hp hr o (n * z) hb
        refine ⟨vs, r3, r1, fun w' hw => ?_⟩
        simp only [Builtin.firstCells]
        by_cases hn0 : n * z = 0
        · have : vs = [] := by rw [hn0] at r1; simpa using r1
          subst this
          rw [hn0]
          simp [loadCells, loadCellsFrom]
        · have hc0 : c ≠ 0 := by
            intro hc0
            have : n = 0 := by omega
            rw [this, Nat.zero_mul] at hn0
            exact hn0 rfl
          rw [ha hc0, ← r1]
          refine run_loadCells_list w' _ vs (fun j v hj => ?_)
          rw [addr_add]
          have := r2 j v hj
          unfold World.cell? at this ⊢
          rw [hw]; exact this
      · cases hc
    · cases hc
  cases hv with
  | sliceN =>
    have hn0 : n = 0 := by omega
    subst hn0
    simp only [cellsAt, Nat.zero_mul, if_true, Option.some.injEq] at hc
    subst hc
    exact ⟨[], VRL.nil _, by simp, fun w' _ => by simp [Builtin.firstCells]⟩
  | sliceX i o pl _ c ad hp hb ha hl => exact main i o pl c ad rfl hp ha hl rfl
  | sliceO i o pl _ _ c ad hp hb ha hl _ => exact main i o pl c ad rfl hp ha hl rfl

theorem dst_inv {s : AV} {sv : Value} (hs : VR φ s sv) {a : Option (Nat × Nat)} {len : Nat} {cap : ACap} (hd : dstOf s = some (a, len, cap)) : VR φ (.slice a len cap) sv := by
  cases s <;> simp only [dstOf, reduceCtorEq, Option.some.injEq, Prod.mk.injEq] at hd
  · obtain ⟨rfl, rfl, rfl⟩ := hd
    exact hs
  · rename_i nl es
    cases nl <;> simp only [dstOf, reduceCtorEq, Option.some.injEq, Prod.mk.injEq] at hd
    obtain ⟨rfl, rfl, rfl⟩ := hd
    cases hs
    exact .sliceN
theorem src_inv {x : AV} {xv : Value} (hx : VR φ x xv) {n : Nat} (hl : lenOf x = some n) : ∃ ad c, xv = .slice ad n c ∧ n ≤ c := by
  cases x <;> simp only [lenOf, reduceCtorEq, Option.some.injEq] at hl
  · subst hl
    obtain ⟨ad, c, e, _, h⟩ := ACap.sure_le hx
    exact ⟨ad, c, e, h⟩
  · subst hl
    exact vsl_inv hx
  · subst hl
    cases hx with
    | tsl n cs vs b h hs h1 => exact ⟨_, _, rfl, Nat.le_refl _⟩
/-- The first elements of what is appended, as the model reads them. -/
theorem src_ok (h : R LC N B0 w0 φ σ w) {x : AV} {v : Value} (hv : VR φ x v) {m z n : Nat} (hm : lenOf x = some m) (hn : n ≤ m) {xs : List AV} (hc : srcOf σ z n x = some xs) :
    ∃ vs : List Value, VRL φ xs vs ∧ vs.length = n * z ∧ ∀ w' : World, w'.heap = w.heap → (Builtin.firstCells z n v).run P w' = .ok vs.toArray w' := by
  cases x <;> simp only [srcOf, reduceCtorEq] at hc
  · rename_i a len cap
    simp only [lenOf, Option.some.injEq] at hm
    subst hm
    exact first_ok h hv hn hc
  · rename_i nl es
    simp only [lenOf, Option.some.injEq] at hm
    subst hm
    split at hc
    · rename_i hall
      simp only [Option.some.injEq] at hc
      subst hc
      by_cases hn0 : n = 0
      · subst hn0
        refine ⟨[], by simpa using VRL.nil φ, by simp, fun w' _ => ?_⟩
        cases hv <;> simp [Builtin.firstCells, loadCells, loadCellsFrom]
      · cases hv with
        | vslN => simp at hn; exact absurd hn hn0
        | vsl _ z0 c ad hz0 hl hf =>
          have hne : es ≠ [] := by rintro rfl; simp at hn; exact hn0 hn
          obtain ⟨b, o, rfl, hh⟩ := hf hne
          have hzz : z0 = z := by
            cases es with
            | nil => exact absurd rfl hne
            | cons e es =>
              have := List.all_eq_true.1 hall e (by cases n with | zero => exact absurd rfl hn0 | succ n => simp)
              rw [← hz0 e (List.mem_cons_self ..)]
              simpa using this
          subst hzz
          have hlen : n * z0 ≤ (es.flatMap AV.cells).length := by rw [flatMap_length es hz0]; exact Nat.mul_le_mul_right _ hn
          obtain ⟨vs, r1, r2, r3⟩ := has_cells h hh 0 (n * z0) (by omega)
          rw [List.drop_zero, flatMap_take es n hz0] at r3
          refine ⟨vs, r3, r1, fun w' hw => ?_⟩
          simp only [Builtin.firstCells]
          rw [← r1]
          refine run_loadCells_list w' _ vs (fun j v hj => ?_)
          rw [addr_add]
          have := r2 j v hj
          unfold World.cell? at this ⊢
          rw [hw]; exact this
    · cases hc
  · rename_i m' cs
    simp only [lenOf, Option.some.injEq] at hm
    subst hm
    split at hc
    · rename_i hle
      simp only [Option.some.injEq] at hc
      subst hc
      cases hv with
      | tsl _ _ vs b hf hs h1 =>
        obtain ⟨_, ⟨c, e, fr, y2, y3⟩, _⟩ := h.frz b 0 _ hf
        have hvl : VRL φ cs vs := ⟨hs, h1⟩
        have hlen : (vs.take (n * z)).length = n * z := by rw [List.length_take, ← hs]; omega
        refine ⟨vs.take (n * z), hvl.take _, hlen, fun w' hw => ?_⟩
        have := run_loadCells_list (P := P) w' ⟨b, 0, none⟩ (vs.take (n * z)) (fun j v hj => by
          rw [addr_add]
          have h4 : vs[j]? = some v := by
            rw [List.getElem?_take] at hj
            split at hj
            · exact hj
            · cases hj
          have h5 := y3 j v h4
          simp only [World.cell?, hw, y2] at h5 ⊢
          simpa using h5)
        simp only [Builtin.firstCells]
        rw [hlen] at this
        exact this
    · cases hc

/-- The model's append, whatever is appended. -/
structure Apd (P : Program) (w : World) (S : Sem Value) (e : TypeId) (z bytes : Nat) (zero : Array Value) (sv : Value) (n : Nat) (news : List Value) : Prop where
  grow : ∀ (base : Option Addr) (sLen sCap : Nat) (olds : List Value), sv = .slice base sLen sCap → (Builtin.firstCells z sLen sv).run P w.drew = .ok olds.toArray w.drew → sCap < sLen + n → sLen + n ≤ 9223372036854775807 →
    (sLen + n) * bytes ≤ topBytes → S.run P w = .ok (.slice (some ⟨w.heap.size, 0, none⟩) (sLen + n) (grownCap w (sLen + n) sCap e))
        (w.drew.alloc (.cells (olds.toArray ++ news.toArray ++ Builtin.zeroCells zero (grownCap w (sLen + n) sCap e - (sLen + n))) e))
  room : ∀ (a : Addr) (sLen sCap : Nat) (w' : World), sv = .slice (some a) sLen sCap → sLen + n ≤ sCap → (storeCells (a.add (sLen * z)) news).run P w = .ok () w' → S.run P w = .ok (.slice (some a) (sLen + n) sCap) w'

theorem copied_ok (h : R LC N B0 w0 φ σ w) {S : Sem Value} {e : TypeId} {z bytes : Nat} {zero : Array Value} {sv : Value} {n : Nat} {news : List Value} (ha : Apd P w S e z bytes zero sv n news) (hzero : zero.size = z) (hz : 0 < z) (hby : 0 < bytes)
    {base : Option Addr} {len c : Nat} (hs : sv = .slice base len c) {old new : List AV} {olds : List Value} (ho : VRL φ old olds) (hol : olds.length = len * z) (hold : ∀ w' : World, w'.heap = w.heap → (Builtin.firstCells z len sv).run P w' = .ok olds.toArray w')
    (hn : VRL φ new news) (hnl : news.length = n * z) (hc : c < len + n) (hfit : (len + n) * bytes ≤ topBytes) :
    HPost P LC N B0 w0 φ σ w S (.slice (some (σ.next, 0)) (len + n) (.op z)) (σ.push (.cells (old ++ new))) := by
  have h63 : len + n ≤ 9223372036854775807 := by
    have : len + n ≤ (len + n) * bytes := Nat.le_mul_of_pos_right _ hby
    simp only [topBytes] at hfit
    omega
  have hrun := ha.grow base len c olds hs (hold w.drew rfl) hc h63 hfit
  have hge := grownCap_ge w (len + n) c e
  have hle := Phi.le_put (pl := ⟨w.heap.size, 0, grownCap w (len + n) c e * z⟩) h.fresh
  have hsize : (olds.toArray ++ news.toArray ++ Builtin.zeroCells zero (grownCap w (len + n) c e - (len + n))).size = grownCap w (len + n) c e * z := by
    simp only [Array.size_append, List.size_toArray, size_zeroCells, hol, hnl, hzero, ← Nat.add_mul]
    congr 1; omega
  obtain ⟨h1, h2⟩ := h.push (w' := w.drew.alloc (.cells (olds.toArray ++ news.toArray ++ Builtin.zeroCells zero (grownCap w (len + n) c e - (len + n))) e)) (.cells (old ++ new)) _ (grownCap w (len + n) c e * z) rfl rfl rfl rfl
    ⟨_, e, (0, 0), heap_alloc_new w.drew _, frF0 _, by simp only [hsize]; omega, by
      rw [List.length_append, ho.1, hn.1, hol, hnl, ← Nat.add_mul]
      exact Nat.mul_le_mul_right _ hge, fun j x hx => by
      obtain ⟨v, hv, hr⟩ := (ho.append hn).get? hx
      refine ⟨v, ?_, hr.mono hle⟩
      have hj : j < (olds ++ news).length := (List.getElem?_eq_some_iff.1 hv).1
      simp only [Nat.zero_add]
      rw [Array.getElem?_append_left (by simpa using hj)]
      simpa using hv⟩
  refine ⟨_, _, _, hrun, ?_, h2, h1⟩
  exact .sliceO σ.next 0 ⟨w.heap.size, 0, grownCap w (len + n) c e * z⟩ _ _ _ _ (Phi.put_same _ _ _) rfl (fun _ => rfl) hge (by simp)

theorem grow_ok (h : R LC N B0 w0 φ σ w) {S : Sem Value} {e : TypeId} {z bytes : Nat} {zero : Array Value} {sv : Value} {n : Nat} {news : List Value} (ha : Apd P w S e z bytes zero sv n news) (hzero : zero.size = z) (hz : 0 < z) (hby : 0 < bytes) (hn0 : 0 < n)
    {a : Option (Nat × Nat)} {len : Nat} {cap : ACap} (hs : VR φ (.slice a len cap) sv) {new : List AV} (hn : VRL φ new news) (hnl : news.length = n * z) {v : AV} {σ' : AH} (hv : agrow z bytes a len cap n new σ = some (v, σ')) :
    HPost P LC N B0 w0 φ σ w S v σ' := by
  have cop : ∀ {base : Option Addr} {c : Nat}, sv = .slice base len c → c < len + n → (if (len + n) * bytes ≤ topBytes ∧ new.all AV.one then
        match cellsAt σ (len * z) a with
        | some old => some (AV.slice (some (σ.next, 0)) (len + n) (.op z), σ.push (.cells (old ++ new)))
        | none => none else none) = some (v, σ') → HPost P LC N B0 w0 φ σ w S v σ' := by
    intro base c e1 hc hh
    split at hh
    · rename_i hcond
      split at hh
      · rename_i old hold
        cases hh
        obtain ⟨olds, o1, o2, o3⟩ := first_ok (P := P) h hs (Nat.le_refl _) hold
        exact copied_ok h ha hzero hz hby e1 o1 o2 o3 hn hnl hc hcond.1
      · cases hh
    · cases hh
  -- in place, surely
  have place : ∀ {i o : Nat} {pl : Place} {c : Nat} {cs : List AV}, φ i = some pl → sv = .slice (some ⟨pl.b, pl.o + o, none⟩) len c → len + n ≤ c → σ.own i = some cs → o + (len + n) * z ≤ cs.length → new.all AV.one = true →
      ∃ w', S.run P w = .ok (.slice (some ⟨pl.b, pl.o + o, none⟩) (len + n) c) w' ∧ R LC N B0 w0 φ (σ.set i (.cells (putCells cs (o + len * z) new))) w' := by
    intro i o pl c cs hp e1 hc hown hb ho
    have hnew : new.length = n * z := by rw [hn.1, hnl]
    obtain ⟨w', r1, r2⟩ := write_ok (P := P) h hp hown (off := o + len * z) hn ho (by rw [hnew]; rw [Nat.add_mul] at hb; omega)
    refine ⟨w', ha.room _ _ _ w' e1 hc ?_, r2⟩
    rw [addr_add, Nat.add_assoc]
    exact r1
  unfold agrow at hv
  simp only at hv
  cases hs with
  | sliceN =>
    simp only at hv
    rw [if_neg (by omega)] at hv
    exact cop rfl (by omega) hv
  | sliceX i o pl _ c ad hp hbk had hl =>
    simp only at hv
    split at hv
    · rename_i hc
      split at hv
      · rename_i cs hown
        split at hv
        · rename_i hb
          cases hv
          have hc0 : c ≠ 0 := by omega
          have e1 := had hc0
          subst e1
          obtain ⟨w', r1, r2⟩ := place hp rfl hc hown hb.1 hb.2
          exact ⟨φ, w', _, r1, .sliceX i o pl _ _ _ hp rfl (fun _ => rfl) hc, Ext.set _ _ _ _, r2⟩
        · cases hv
      · cases hv
    · rename_i hc
      exact cop rfl (by omega) hv
  | sliceO i o pl _ z' c ad hp hbk had hl he =>
    simp only at hv
    split at hv
    · rename_i hzz
      subst hzz
      split at hv
      · rename_i cs hown
        obtain ⟨hrow, hlim, hg⟩ := own_row hown
        obtain ⟨ob, hg', hor⟩ := h.obj i pl hp
        rw [hg] at hg'
        cases hg'
        obtain ⟨cc, e', fr, b1, bf, b2, b3, b4⟩ := hor
        split at hv
        · rename_i hb
          split at hv
          · rename_i hone
            cases hv
            have hc : len + n ≤ c := by
              have h1 : (len + n) * z ≤ c * z := by omega
              exact Nat.le_of_mul_le_mul_right h1 hz
            have hc0 : c ≠ 0 := by omega
            have e1 := had hc0
            subst e1
            obtain ⟨w', r1, r2⟩ := place hp rfl hc hown hb hone
            exact ⟨φ, w', _, r1, .sliceO i o pl _ _ _ _ hp rfl (fun _ => rfl) hc he, Ext.set _ _ _ _, r2⟩
          · cases hv
        · rename_i hb
          -- perhaps in place, perhaps not
          split at hv
          · rename_i v1 σ1 hcp
            cases hv
            by_cases hc : c < len + n
            · obtain ⟨φ', w', v', q1, q2, q3, q4⟩ := by
                refine (fun hh => ?_ : _ → HPost P LC N B0 w0 φ σ w S v σ1) hcp
                split at hh
                · rename_i hcond
                  split at hh
                  · rename_i old hold
                    cases hh
                    obtain ⟨olds, o1, o2, o3⟩ := first_ok (P := P) h (.sliceO i o pl _ _ _ _ hp hbk had hl he) (Nat.le_refl _) hold
                    exact copied_ok h ha hzero hz hby rfl o1 o2 o3 hn hnl hc hcond.1
                  · cases hh
                · cases hh
              exact ⟨φ', w', v', q1, q2, q3.trans (Ext.set _ _ _ _), q4.kill i⟩
            · have hc0 : c ≠ 0 := by omega
              have e1 := had hc0
              subst e1
              split at hcp
              · rename_i hcond
                split at hcp
                · rename_i old hold
                  cases hcp
                  obtain ⟨olds, o1, o2, o3⟩ := first_ok (P := P) h (.sliceO i o pl _ _ _ _ hp hbk had hl he) (Nat.le_refl _) hold
                  have hcz : (len + n) * z ≤ c * z := Nat.mul_le_mul_right _ (by omega)
                  rw [Nat.add_mul] at hcz
                  obtain ⟨w', c', s1, s2, s3, s4, s5⟩ := store_block (P := P) (p := pl.o + o + len * z) b1 bf (us := news) (by rw [b2, hnl, ← he]; omega) (ones_ok hn hcond.2)
                  have hrun := ha.room ⟨pl.b, pl.o + o, none⟩ len c w' rfl (by omega) (by rw [addr_add]; exact s1)
                  have hle := Phi.le_put (pl := ⟨pl.b, pl.o + o, pl.ext - o⟩) h.fresh
                  have hcells : cellsAt σ (len * z) (some (i, o)) = some ((cs.drop o).take (len * z)) ∧ o + len * z ≤ cs.length := by
                    simp only [cellsAt, hrow] at hold ⊢
                    split at hold
                    · rename_i hh; exact ⟨by rw [if_pos hh], hh⟩
                    · cases hold
                  rw [hcells.1] at hold
                  cases hold
                  obtain ⟨t1, t2⟩ := h.take hp hlim hg rfl (.cells ((cs.drop o).take (len * z) ++ new)) ⟨pl.b, pl.o + o, pl.ext - o⟩ rfl s2 ⟨c', e', fr, s3, by rw [s4]; exact bf, by simp only; rw [s4, b2]; omega, by
                    rw [List.length_append, o1.1, o2, hn.1, hnl]; simp only; omega, fun j x hx => by
                    rw [s5]
                    have ol : ((cs.drop o).take (len * z)).length = len * z := by rw [o1.1, o2]
                    by_cases hj : j < len * z
                    · rw [List.getElem?_append_left (by omega), List.getElem?_take, if_pos hj, List.getElem?_drop] at hx
                      obtain ⟨u, u1, u2⟩ := b4 _ _ hx
                      refine ⟨u, ?_, u2.mono hle⟩
                      simp only
                      rw [if_neg (by omega), Nat.add_assoc]
                      exact u1
                    · rw [List.getElem?_append_right (by omega)] at hx
                      obtain ⟨u, u1, u2⟩ := hn.get? hx
                      have hlt : j - ((cs.drop o).take (len * z)).length < news.length := (List.getElem?_eq_some_iff.1 u1).1
                      refine ⟨u, ?_, u2.mono hle⟩
                      simp only
                      rw [if_pos (by omega)]
                      rw [← u1]
                      congr 1
                      omega⟩
                  refine ⟨_, w', _, hrun, ?_, t2, t1⟩
                  exact .sliceO σ.next 0 ⟨pl.b, pl.o + o, pl.ext - o⟩ _ _ _ _ (Phi.put_same _ _ _) rfl (fun _ => rfl) (by omega) (by simp only; omega)
                · cases hcp
              · cases hcp
          · cases hv
      · cases hv
    · cases hv

theorem apd_slice {t u ty e e' : TypeId} {i : TypeInfo} {z : Value} (ht : P.underlying t = some (.slice e)) (hu : P.underlying u = some (.slice e')) (hi : P.info? e = some i) (hz : i.zero = some z) (sv : Value) (xb : Option Addr) (n c : Nat) {news : List Value}
    (hnew : ∀ w' : World, w'.heap = w.heap → (Builtin.firstCells i.size n (.slice xb n c)).run P w' = .ok news.toArray w') :
    Apd P w (Builtin.append_ #[t, u] ty #[sv, .slice xb n c]) e i.size i.bytes z.cells sv n news where
  grow := by
    rintro base sLen sCap olds rfl hold hg h63 hfit
    exact run_ap_grow ht hu hi hz base sLen sCap xb n c olds news hold (hnew _ rfl) hg h63 hfit
  room := by
    rintro a sLen sCap w' rfl hg hst
    exact run_ap_room ht hu hi a sLen sCap xb n c news (hnew _ rfl) hg hst
theorem apd_zero {t u ty e : TypeId} {k : IntKind} {i : TypeInfo} {z : Value} (ht : P.underlying t = some (.slice e)) (hu : P.underlying u = some (.int k)) (hi : P.info? e = some i) (hz : i.zero = some z) (h0 : 0 < i.size) (sv : Value) (q : IntKind) {n : Nat}
    (hm : 0 < n) (hm1 : n * i.bytes ≤ topBytes) (hm2 : n ≤ topBytes) : Apd P w (Builtin.append_ #[t, u] ty #[sv, .int q n]) e i.size i.bytes z.cells sv n (Builtin.zeroCells z.cells n).toList where
  grow := by
    rintro base sLen sCap olds rfl hold hg h63 hfit
    rw [Array.toArray_toList]
    exact run_apz_grow ht hu hi hz h0 base sLen sCap hm hm1 hm2 olds hold hg h63 hfit
  room := by
    rintro a sLen sCap w' rfl hg hst
    exact run_apz_room ht hu hi hz h0 a sLen sCap hm hm1 hm2 hg hst

theorem zero_of {i : TypeInfo} {zero : AV} (hz : i.zero.bind cvt = some zero) : ∃ zv, i.zero = some zv ∧ VRL φ zero.cells zv.cells.toList := by
  cases hq : i.zero with
  | none => simp [hq] at hz
  | some zv =>
    have hz2 : cvt zv = some zero := by simpa [hq] using hz
    exact ⟨zv, rfl, (cvt_ok hz2).cells_size (cvt_dfd hz2)⟩

theorem h_append (h : R LC N B0 w0 φ σ w) {t u ty e e' : TypeId} {i : TypeInfo} {zero : AV} (ht : P.underlying t = some (.slice e)) (hu : P.underlying u = some (.slice e')) (hi : P.info? e = some i) (hz : i.zero.bind cvt = some zero)
    (hzl : zero.cells.length = i.size) (h0 : 0 < i.size) (hb : 0 < i.bytes) {s x : AV} {sv xv : Value} (hs : VR φ s sv) (hx : VR φ x xv) {v : AV} {σ' : AH} (hv : aappend i.size i.bytes s x σ = some (v, σ')) :
    HPost P LC N B0 w0 φ σ w (Builtin.append_ #[t, u] ty #[sv, xv]) v σ' := by
  obtain ⟨zv, z1, z2⟩ := zero_of (φ := φ) hz
  have hzs : zv.cells.size = i.size := by have := z2.1; rw [hzl] at this; simpa using this.symm
  simp only [aappend] at hv
  split at hv
  · rename_i a len cap n hd hl
    have hs' := dst_inv hs hd
    obtain ⟨ad, c, rfl, _, hlen⟩ := ACap.sure_le hs'
    obtain ⟨xad, c2, rfl, hxlen⟩ := src_inv hx hl
    split at hv
    · rename_i hn0
      cases hv
      subst hn0
      exact ⟨φ, w, _, run_ap_zero ht hu hi ad len c xad c2 hlen, hs, Ext.refl _ _, h⟩
    · rename_i hn0
      split at hv
      · cases hv
      · rename_i new hnew
        obtain ⟨news, o1, o2, o3⟩ := src_ok (P := P) h hx hl (Nat.le_refl _) hnew
        exact grow_ok h (apd_slice ht hu hi z1 _ xad n c2 o3) hzs h0 hb (by omega) hs' o1 o2 hv
  · cases hv

theorem h_appendZ (h : R LC N B0 w0 φ σ w) {t u ty e : TypeId} {k : IntKind} {i : TypeInfo} {zero : AV} (ht : P.underlying t = some (.slice e)) (hu : P.underlying u = some (.int k)) (hi : P.info? e = some i) (hz : i.zero.bind cvt = some zero)
    (hzl : zero.cells.length = i.size) (h0 : 0 < i.size) (hb : 0 < i.bytes) {s x : AV} {sv xv : Value} (hs : VR φ s sv) (hx : VR φ x xv) {v : AV} {σ' : AH} (hv : aappendZ i.bytes zero.cells s x σ = some (v, σ')) :
    HPost P LC N B0 w0 φ σ w (Builtin.append_ #[t, u] ty #[sv, xv]) v σ' := by
  obtain ⟨zv, z1, z2⟩ := zero_of (φ := φ) hz
  have hzs : zv.cells.size = i.size := by have := z2.1; rw [hzl] at this; simpa using this.symm
  simp only [aappendZ] at hv
  split at hv
  · rename_i a len cap q n hd
    have hs' := dst_inv hs hd
    have hxv := hx.int_inv
    subst hxv
    obtain ⟨ad, c, rfl, _, hlen⟩ := ACap.sure_le hs'
    split at hv
    · cases hv
    · rename_i hcond
      split at hv
      · rename_i hn0
        cases hv
        subst hn0
        exact ⟨φ, w, _, run_apz_zero ht hu hi ad len c hlen, hs, Ext.refl _ _, h⟩
      · rename_i hn0
        obtain ⟨m, rfl⟩ : ∃ m : Nat, n = m := ⟨n.toNat, by omega⟩
        rw [Int.toNat_natCast] at hv
        rw [hzl] at hv
        have hc : ((m * i.bytes : Nat) : Int) = (m : Int) * (i.bytes : Int) := by simp
        exact grow_ok h (apd_zero ht hu hi z1 h0 _ q (by omega) (by omega) (by omega)) hzs h0 hb (by omega) hs' (zcells_ok z2 m) (by rw [Array.length_toList, size_zeroCells, hzs]) hv
  · cases hv

theorem run_copy_ok {t u ty e e' : TypeId} {z : Nat} (ht : P.underlying t = some (.slice e)) (hz : sizeOf? P e = some z) (ad : Addr) (dl c : Nat) (xb : Option Addr) (sl c2 : Nat) {news : List Value}
    (hnew : (Builtin.firstCells z (Nat.min sl dl) (.slice xb sl c2)).run P w = .ok news.toArray w) {w' : World} (hst : (storeCells ad news).run P w = .ok () w') :
    (Builtin.copy_ #[t, u] ty #[.slice (some ad) dl c, .slice xb sl c2]).run P w = .ok (goInt (Nat.min sl dl)) w' := by
  simp only [Builtin.copy_, List.getElem?_toArray, List.getElem?_cons_zero, List.getElem?_cons_succ, Sem.run_bind, run_underlying ht, Result.andThen_ok, Builtin.lenOf, Sem.run_pure, run_size hz, hnew, hst]
theorem run_copy_nil {t u ty e e' : TypeId} {z : Nat} (ht : P.underlying t = some (.slice e)) (hz : sizeOf? P e = some z) (dl c : Nat) (xb : Option Addr) (sl c2 : Nat) {news : List Value}
    (hnew : (Builtin.firstCells z (Nat.min sl dl) (.slice xb sl c2)).run P w = .ok news.toArray w) :
    (Builtin.copy_ #[t, u] ty #[.slice none dl c, .slice xb sl c2]).run P w = .ok (goInt (Nat.min sl dl)) w := by
  simp only [Builtin.copy_, List.getElem?_toArray, List.getElem?_cons_zero, List.getElem?_cons_succ, Sem.run_bind, run_underlying ht, Result.andThen_ok, Builtin.lenOf, Sem.run_pure, run_size hz, hnew]

theorem h_copy (h : R LC N B0 w0 φ σ w) {t u ty e e' : TypeId} {z : Nat} (ht : P.underlying t = some (.slice e)) (hu : P.underlying u = some (.slice e')) (hz : sizeOf? P e = some z) {a : Option (Nat × Nat)} {dl sl : Nat} {dc : ACap} {dv sv : Value} {s : AV}
    (hd : VR φ (.slice a dl dc) dv) (hs : VR φ s sv) (hsl : lenOf s = some sl) {new : List AV} (hnew : srcOf σ z (min sl dl) s = some new) {v : AV} {σ' : AH}
    (hv : (match (generalizing := false) a with
        | none => some (AV.int .i64 ((min sl dl : Nat) : Int), σ)
        | some (i, o) => match (generalizing := false) σ.own i with
          | some cs => if o + min sl dl * z ≤ cs.length ∧ new.all AV.one then some (.int .i64 ((min sl dl : Nat) : Int), σ.set i (.cells (putCells cs o new))) else none
          | none => none) = some (v, σ')) : HPost P LC N B0 w0 φ σ w (Builtin.copy_ #[t, u] ty #[dv, sv]) v σ' := by
  obtain ⟨news, o1, o2, o3⟩ := src_ok (P := P) h hs hsl (Nat.min_le_left sl dl) hnew
  obtain ⟨xad, c2, rfl, hxlen⟩ := src_inv hs hsl
  have main : ∀ (i o : Nat) (pl : Place) (c : Nat) (ad : Addr), a = some (i, o) → φ i = some pl → (c ≠ 0 → ad = ⟨pl.b, pl.o + o, none⟩) → dl ≤ c → dv = .slice (some ad) dl c → HPost P LC N B0 w0 φ σ w (Builtin.copy_ #[t, u] ty #[dv, .slice xad sl c2]) v σ' := by
    rintro i o pl c ad rfl hp had hl rfl
    simp only at hv
    split at hv
    · rename_i cs hown
      split at hv
      · rename_i hb
        cases hv
        have hnl : new.length = min sl dl * z := by rw [o1.1, o2]
        by_cases hm : min sl dl = 0
        · have hn0 : news = [] := by rw [hm, Nat.zero_mul] at o2; simpa using o2
          have hn1 : new = [] := by rw [hm, Nat.zero_mul] at hnl; simpa using hnl
          subst hn0; subst hn1
          obtain ⟨hrow, hlim, hg⟩ := own_row hown
          obtain ⟨ob, hg', hor⟩ := h.obj i pl hp
          rw [hg] at hg'
          cases hg'
          exact ⟨φ, w, _, run_copy_ok (e' := e') ht hz ad dl c xad sl c2 (o3 w rfl) (by simp [storeCells]), .int _ _, Ext.set _ _ _ _, h.set hp hlim hg rfl _ (Turned.refl _ _) hor⟩
        · have hc0 : c ≠ 0 := by omega
          have e1 := had hc0
          subst e1
          obtain ⟨w', r1, r2⟩ := write_ok (P := P) h hp hown (off := o) o1 hb.2 (by omega)
          exact ⟨φ, w', _, run_copy_ok (e' := e') ht hz _ dl c xad sl c2 (o3 w rfl) r1, .int _ _, Ext.set _ _ _ _, r2⟩
      · cases hv
    · cases hv
  cases hd with
  | sliceN =>
    simp only at hv
    cases hv
    exact ⟨φ, w, _, run_copy_nil (e' := e') ht hz 0 0 xad sl c2 (o3 w rfl), .int _ _, Ext.refl _ _, h⟩
  | sliceX i o pl _ c ad hp hb had hl => exact main i o pl c ad rfl hp had hl rfl
  | sliceO i o pl _ _ c ad hp hb had hl _ => exact main i o pl c ad rfl hp had hl rfl
end
end Go.Oct
end
/- Maps. -/
section
set_option linter.unusedVariables false
set_option linter.unusedSimpArgs false
set_option linter.unusedSectionVars false
namespace Go.Oct
variable [Gl]
open Go.RowKit

section
variable {P : Program} {LC : LCode} {N : Nat → Nat} {B0 : Nat} {w0 : World} {φ : Phi} {σ : AH} {w : World} {ρ : Opd → AV} {ρc : Operand → Value}

/-- A key that can be compared with itself passes the model's look at keys. -/
def ChkOk (P : Program) (φ : Phi) (t : TypeId) (s : List Leaf) (D : Nat) : Prop :=
  ∀ (em : Bool) (xs : List AV) (vs : List Value) (r : Bool) (v : Value), eqCells s xs xs = some r → VRL φ xs vs → Val P t vs v → ∀ w, (Instr.checkKey em D t v).run P w = .ok () w

theorem chkFields_ok {D : Nat} {sh : TypeId → Option (List Leaf)} (ih : ∀ t s, sh t = some s → ChkOk P φ t s D ∧ sizeOf? P t = some s.length ∧ ∃ g, aggOf P t = some g ∧ (g = false → s.length = 1)) (em : Bool)
    (vs : Array Value) (XS : List AV) (hv : VRL φ XS vs.toList) (f : Field → PUnit → Sem (ForInStep PUnit))
    (hf : ∀ fd (w : World), fd.name ≠ "_" → (∃ v, (part fd.type vs fd.offset).run P w = .ok v w ∧ (Instr.checkKey em D fd.type v).run P w = .ok () w) → (f fd ⟨⟩).run P w = .ok (.yield ⟨⟩) w) :
    ∀ (fs : List Field) (off : Nat) (s : List Leaf) (r : Bool), shapeFs sh fs off = some s → eqCells s (XS.drop off) (XS.drop off) = some r → ∀ w, (forIn fs PUnit.unit f : Sem PUnit).run P w = .ok ⟨⟩ w
  | [], off, s, r, h, he, w => by simp
  | fd :: fs, off, s, r, h, he, w => by
    simp only [shapeFs] at h
    split at h
    · rename_i hfd
      split at h
      · rename_i s1 hs1
        simp only [Option.map_eq_some_iff] at h
        obtain ⟨s2, hs2, rfl⟩ := h
        obtain ⟨r1, r2, h1, h2, rfl⟩ := eqCells_append s1 he
        obtain ⟨hok, hsz, g, hg, hg1⟩ := ih _ _ hs1
        have hl1 := eqCells_len _ h1
        have hb1 : g = false → off + s1.length ≤ vs.size := by
          intro hg0
          have h4 := hg1 hg0
          have := hv.1
          have h3 := hl1.1
          rw [List.length_take, List.length_drop] at h3
          have hq : vs.toList.length = vs.size := Array.length_toList
          omega
        obtain ⟨a, p1, va⟩ := run_part_val hg hsz vs off hb1 hg1 w
        have p3 := hok em _ _ r1 a h1 ((hv.drop off).take _) va w
        rw [List.drop_drop] at h2
        have p4 := chkFields_ok ih em vs XS hv f hf fs (off + s1.length) s2 r2 hs2 h2 w
        rw [List.forIn_cons, Sem.run_bind, hf fd w hfd.1 ⟨a, by rw [hfd.2]; exact p1, p3⟩]
        simpa using p4
      · cases h
    · cases h

theorem chkItems_ok {D : Nat} {e : TypeId} {s : List Leaf} (hok : ChkOk P φ e s D) (hsz : sizeOf? P e = some s.length) (hg : ∃ g, aggOf P e = some g ∧ (g = false → s.length = 1)) (em : Bool)
    (vs : Array Value) (XS : List AV) (hv : VRL φ XS vs.toList) (f : Nat → PUnit → Sem (ForInStep PUnit))
    (hf : ∀ i (w : World), (∃ v, (part e vs (i * s.length)).run P w = .ok v w ∧ (Instr.checkKey em D e v).run P w = .ok () w) → (f i ⟨⟩).run P w = .ok (.yield ⟨⟩) w) :
    ∀ (k i : Nat) (r : Bool), eqCells (List.replicate k s).flatten (XS.drop (i * s.length)) (XS.drop (i * s.length)) = some r → ∀ w, (forIn (List.range' i k) PUnit.unit f : Sem PUnit).run P w = .ok ⟨⟩ w
  | 0, i, r, he, w => by simp
  | k + 1, i, r, he, w => by
    rw [List.replicate_succ, List.flatten_cons] at he
    obtain ⟨r1, r2, h1, h2, rfl⟩ := eqCells_append s he
    obtain ⟨g, hg, hg1⟩ := hg
    have hl1 := eqCells_len _ h1
    have hb1 : g = false → i * s.length + s.length ≤ vs.size := by
      intro hg0
      have h4 := hg1 hg0
      have := hv.1
      have h3 := hl1.1
      rw [List.length_take, List.length_drop] at h3
      have hq : vs.toList.length = vs.size := Array.length_toList
      omega
    obtain ⟨a, p1, va⟩ := run_part_val hg hsz vs _ hb1 hg1 w
    have p3 := hok em _ _ r1 a h1 ((hv.drop _).take _) va w
    rw [List.drop_drop, ← Nat.succ_mul] at h2
    have p4 := chkItems_ok hok hsz ⟨g, hg, hg1⟩ em vs XS hv f hf k (i + 1) r2 h2 w
    rw [List.range'_succ, List.forIn_cons, Sem.run_bind, hf i w ⟨a, p1, p3⟩]
    simpa using p4

theorem chk_ok (d : Nat) : ∀ (t : TypeId) (s : List Leaf), shape P d t = some s → ∀ D, d ≤ D → ChkOk P φ t s D := by
  induction d with
  | zero => intro t s h; cases h
  | succ d ih =>
    intro t s h D hD
    obtain ⟨D, rfl⟩ : ∃ D', D = D' + 1 := ⟨D - 1, by omega⟩
    intro em xs vs r v he hv v1 w
    simp only [shape] at h
    split at h
    · rename_i hun
      simp [Instr.checkKey, run_underlying hun]
    · rename_i k hun
      simp [Instr.checkKey, run_underlying hun]
    · rename_i hun
      simp [Instr.checkKey, run_underlying hun]
    · rename_i fs hun
      split at h
      · cases h
      · split at h
        · rename_i s' hs'
          split at h
          · cases h
            rcases v1 with ⟨_, rfl⟩ | ⟨a, _⟩
            · simp only [Instr.checkKey, Sem.run_bind, run_underlying hun, Result.andThen_ok]
              rw [← Array.forIn_toList]
              have key := fun f hf => chkFields_ok (P := P) (φ := φ) (D := D) (sh := shape P d) (fun t s h => ⟨ih t s h D (by omega), shape_size h, shape_agg h⟩) em vs.toArray xs (by simpa using hv) f hf fs.toList 0 s r hs' (by simpa using he) w
              rw [key _ ?_]
              · rfl
              · rintro fd w hn ⟨v, q1, q2⟩
                simp [hn, q1, q2]
            · simp [aggOf, hun] at a
          · cases h
        · cases h
    · rename_i n e hun
      split at h
      · rename_i s' hs'
        split at h
        · rename_i hsz2
          cases h
          rcases v1 with ⟨_, rfl⟩ | ⟨a, _⟩
          · obtain ⟨i, hi, _⟩ := size_info hsz2.1
            simp only [Instr.checkKey, Sem.run_bind, run_underlying hun, Result.andThen_ok]
            simp only [Std.Legacy.Range.forIn_eq_forIn_range', Std.Legacy.Range.size, Nat.sub_zero, Nat.add_one_sub_one, Nat.div_one]
            have key := fun f hf => chkItems_ok (P := P) (φ := φ) (ih _ _ hs' D (by omega)) (shape_size hs') (shape_agg hs') em vs.toArray xs (by simpa using hv) f hf n 0 r (by simpa using he) w
            rw [key _ ?_]
            · rfl
            · rintro i w ⟨v, q1, q2⟩
              simp [run_size hsz2.1, q1, q2]
          · simp [aggOf, hun] at a
        · cases h
      · cases h
    · cases h

/-- The type of a map's keys, as the interpreter sees it. -/
structure KeyT (P : Program) (kt : TypeId) (agg : Bool) (sh : List Leaf) : Prop where
  agg : aggOf P kt = some agg
  shape : shape P 20 kt = some sh
theorem keyT_of {kt : TypeId} {agg : Bool} {sh : List Leaf} (h : keyShape P kt = some (agg, sh)) : KeyT P kt agg sh := by
  unfold keyShape at h
  split at h
  · rename_i a s h1 h2
    cases h
    exact ⟨h1, h2⟩
  · cases h

theorem keyEq_cells {agg : Bool} {sh : List Leaf} {a b : AV} {r : Bool} (h : keyEq agg sh a b = some r) :
    ∃ xs ys, eqCells sh xs ys = some r ∧ ((agg = true ∧ a = .agg xs ∧ b = .agg ys) ∨ (agg = false ∧ xs = [a] ∧ ys = [b])) := by
  unfold keyEq at h
  split at h
  · rename_i hagg
    split at h
    · exact ⟨_, _, h, .inl ⟨hagg, rfl, rfl⟩⟩
    · cases h
  · rename_i hagg
    exact ⟨_, _, h, .inr ⟨by simpa using hagg, rfl, rfl⟩⟩
theorem key_val {kt : TypeId} {agg : Bool} {sh : List Leaf} (hk : KeyT P kt agg sh) {a : AV} {va : Value} (ha : VR φ a va) {xs : List AV} (h : (agg = true ∧ a = .agg xs) ∨ (agg = false ∧ xs = [a])) :
    ∃ vs, VRL φ xs vs ∧ Val P kt vs va := by
  rcases h with ⟨rfl, rfl⟩ | ⟨rfl, rfl⟩
  · cases ha with
    | agg _ vs h1 h2 => exact ⟨vs.toList, VRL.of_array h1 h2, .inl ⟨hk.agg, by simp⟩⟩
  · exact ⟨[va], VRL.cons ha (VRL.nil _), .inr ⟨hk.agg, rfl⟩⟩
theorem keyEq_run {kt : TypeId} {agg : Bool} {sh : List Leaf} (hk : KeyT P kt agg sh) {a b : AV} {r : Bool} (h : keyEq agg sh a b = some r) {va vb : Value} (ha : VR φ a va) (hb : VR φ b vb) (w : World) : (Op.equal kt va vb).run P w = .ok r w := by
  obtain ⟨xs, ys, he, hc⟩ := keyEq_cells h
  obtain ⟨vs, v1, v2⟩ := key_val hk ha (xs := xs) (by rcases hc with ⟨h1, h2, h3⟩ | ⟨h1, h2, h3⟩; exact .inl ⟨h1, h2⟩; exact .inr ⟨h1, h2⟩)
  obtain ⟨us, u1, u2⟩ := key_val hk hb (xs := ys) (by rcases hc with ⟨h1, h2, h3⟩ | ⟨h1, h2, h3⟩; exact .inl ⟨h1, h3⟩; exact .inr ⟨h1, h3⟩)
  exact eqIn_ok 20 kt sh hk.shape 10000 (by omega) xs ys vs us r va vb he v1 u1 v2 u2 w
theorem keyChk_run {kt : TypeId} {agg : Bool} {sh : List Leaf} (hk : KeyT P kt agg sh) {a : AV} {r : Bool} (h : keyEq agg sh a a = some r) {va : Value} (ha : VR φ a va) (em : Bool) (w : World) : (Instr.checkKey em 10000 kt va).run P w = .ok () w := by
  obtain ⟨xs, ys, he, hc⟩ := keyEq_cells h
  have hxy : xs = ys := by rcases hc with ⟨_, h2, h3⟩ | ⟨_, h2, h3⟩ <;> simp_all
  subst hxy
  obtain ⟨vs, v1, v2⟩ := key_val hk ha (xs := xs) (by rcases hc with ⟨h1, h2, h3⟩ | ⟨h1, h2, h3⟩; exact .inl ⟨h1, h2⟩; exact .inr ⟨h1, h2⟩)
  exact chk_ok 20 kt sh hk.shape 10000 (by omega) em xs vs r va he v1 v2 w

/-- What a search finds. -/
def FR (φ : Phi) (es : List (AV × AV × Nat)) (ces : List MapEntry) (i : Nat) (res : Option (Nat × AV × Nat)) (cres : Option (Nat × Value)) : Prop :=
  (res = none ∧ cres = none) ∨ ∃ (j : Nat) (e : AV × AV × Nat) (c : MapEntry), es[j]? = some e ∧ ces[j]? = some c ∧ EntR φ e c ∧ res = some (i + j, e.2.1, e.2.2) ∧ cres = some (i + j, c.val)
def EntsR (φ : Phi) (es : List (AV × AV × Nat)) (ces : List MapEntry) : Prop := es.length = ces.length ∧ ∀ (j : Nat) (e : AV × AV × Nat) (c : MapEntry), es[j]? = some e → ces[j]? = some c → EntR φ e c
theorem EntsR.head {e : AV × AV × Nat} {es : List (AV × AV × Nat)} {c : MapEntry} {ces : List MapEntry} (h : EntsR φ (e :: es) (c :: ces)) : EntR φ e c := h.2 0 e c rfl rfl
theorem EntsR.tail {e : AV × AV × Nat} {es : List (AV × AV × Nat)} {c : MapEntry} {ces : List MapEntry} (h : EntsR φ (e :: es) (c :: ces)) : EntsR φ es ces :=
  ⟨by simpa using h.1, fun j e' c' h1 h2 => h.2 (j + 1) e' c' (by simpa using h1) (by simpa using h2)⟩

theorem findAsking_ok {kt : TypeId} {agg : Bool} {sh : List Leaf} (hk : KeyT P kt agg sh) {k : AV} {kc : Value} (hkc : VR φ k kc) : ∀ (es : List (AV × AV × Nat)) (ces : List MapEntry) (i : Nat) (res : Option (Nat × AV × Nat)), EntsR φ es ces →
    findE agg sh k es i = some res → ∃ cres, (∀ w, (Instr.findAsking kt kc ces i).run P w = .ok cres w) ∧ FR φ es ces i res cres
  | [], ces, i, res, hE, h => by
    have : ces = [] := by simpa using hE.1.symm
    subst this
    simp only [findE, Option.some.injEq] at h
    subst h
    exact ⟨none, fun w => by simp [Instr.findAsking], .inl ⟨rfl, rfl⟩⟩
  | (x, v, b) :: es, ces, i, res, hE, h => by
    cases ces with
    | nil => exact absurd hE.1 (by simp)
    | cons c ces =>
      simp only [findE] at h
      have hc := hE.head
      split at h
      · rename_i hq
        cases h
        have hr := keyEq_run (P := P) hk hq hkc hc.1
        exact ⟨some (i, c.val), fun w => by simp [Instr.findAsking, hr], .inr ⟨0, (x, v, b), c, rfl, rfl, hc, rfl, rfl⟩⟩
      · rename_i hq
        have hr := keyEq_run (P := P) hk hq hkc hc.1
        obtain ⟨cres, h1, h2⟩ := findAsking_ok hk hkc es ces (i + 1) res hE.tail h
        refine ⟨cres, fun w => by simp [Instr.findAsking, hr, h1], ?_⟩
        rcases h2 with h2 | ⟨j, e', c', q1, q2, q3, q4, q5⟩
        · exact .inl h2
        · exact .inr ⟨j + 1, e', c', by simpa using q1, by simpa using q2, q3, by rw [q4]; congr 2; omega, by rw [q5]; congr 2; omega⟩
      · cases h

/-- At a plain kind of key the model compares at once. -/
theorem findNow_ok {d : TypeDesc} {l : Leaf} (hd : (l = .int ∧ ∃ q, d = .int q) ∨ (l = .bool ∧ d = .bool) ∨ (l = .str ∧ d = .string)) {k : AV} {kc : Value} (hkc : VR φ k kc) :
    ∀ (es : List (AV × AV × Nat)) (ces : List MapEntry) (i : Nat) (res : Option (Nat × AV × Nat)), EntsR φ es ces → findE false [l] k es i = some res → ∃ cres, Instr.findNow d kc ces i = some cres ∧ FR φ es ces i res cres
  | [], ces, i, res, hE, h => by
    have : ces = [] := by simpa using hE.1.symm
    subst this
    simp only [findE, Option.some.injEq] at h
    subst h
    exact ⟨none, rfl, .inl ⟨rfl, rfl⟩⟩
  | (x, v, b) :: es, ces, i, res, hE, h => by
    cases ces with
    | nil => exact absurd hE.1 (by simp)
    | cons c ces =>
      simp only [findE] at h
      have hc := hE.head
      have same : ∀ r, keyEq false [l] k x = some r → Instr.sameNow d kc c.key = some r := by
        intro r hq
        simp only [keyEq, Bool.false_eq_true, if_false] at hq
        obtain ⟨x', xs, y', ys, q, cc, e1, e2, hq2, rfl, hl⟩ := eqCells_cons hq
        obtain ⟨e3, e4, rfl⟩ := eqCells_nil hq2
        simp only [List.cons.injEq] at e1 e2
        obtain ⟨rfl, _⟩ := e1
        obtain ⟨rfl, _⟩ := e2
        have hx := hc.1
        simp only at hx
        rcases hd with ⟨rfl, q, rfl⟩ | ⟨rfl, rfl⟩ | ⟨rfl, rfl⟩
        · obtain ⟨kk, a, b', rfl, rfl, rfl⟩ := hl
          rw [hkc.int_inv, hx.int_inv]
          simp [Instr.sameNow]
        · obtain ⟨a, b', rfl, rfl, rfl⟩ := hl
          rw [hkc.bool_inv, hx.bool_inv]
          simp [Instr.sameNow]
        · obtain ⟨a, b', rfl, rfl, rfl⟩ := hl
          rw [hkc.str_inv, hx.str_inv]
          simp [Instr.sameNow, beq_toListBytes]
      split at h
      · rename_i hq
        cases h
        exact ⟨some (i, c.val), by simp [Instr.findNow, same _ hq], .inr ⟨0, (x, v, b), c, rfl, rfl, hc, rfl, rfl⟩⟩
      · rename_i hq
        obtain ⟨cres, h1, h2⟩ := findNow_ok hd hkc es ces (i + 1) res hE.tail h
        refine ⟨cres, by simp [Instr.findNow, same _ hq, h1], ?_⟩
        rcases h2 with h2 | ⟨j, e', c', q1, q2, q3, q4, q5⟩
        · exact .inl h2
        · exact .inr ⟨j + 1, e', c', by simpa using q1, by simpa using q2, q3, by rw [q4]; congr 2; omega, by rw [q5]; congr 2; omega⟩
      · cases h

theorem findKey_ok {kt : TypeId} {agg : Bool} {sh : List Leaf} (hk : KeyT P kt agg sh) {k : AV} {kc : Value} (hkc : VR φ k kc) {es : List (AV × AV × Nat)} {ces : List MapEntry} {res : Option (Nat × AV × Nat)} (hE : EntsR φ es ces)
    (h : findE agg sh k es 0 = some res) : ∃ cres, (∀ w, (Instr.findKey kt kc ces).run P w = .ok cres w) ∧ FR φ es ces 0 res cres := by
  have hs := hk.shape
  have hag := hk.agg
  cases hu : P.underlying kt with
  | none => simp [aggOf, hu] at hag
  | some d =>
    have plain : ∀ l, sh = [l] → agg = false → ((l = .int ∧ ∃ q, d = .int q) ∨ (l = .bool ∧ d = .bool) ∨ (l = .str ∧ d = .string)) → ∃ cres, (∀ w, (Instr.findKey kt kc ces).run P w = .ok cres w) ∧ FR φ es ces 0 res cres := by
      rintro l rfl rfl hd
      obtain ⟨cres, h1, h2⟩ := findNow_ok hd hkc es ces 0 res hE h
      exact ⟨cres, fun w => by simp [Instr.findKey, run_underlying hu, h1], h2⟩
    have deep : (∀ v u, Instr.sameNow d v u = none) → ∃ cres, (∀ w, (Instr.findKey kt kc ces).run P w = .ok cres w) ∧ FR φ es ces 0 res cres := by
      intro hd
      obtain ⟨cres, h1, h2⟩ := findAsking_ok (P := P) hk hkc es ces 0 res hE h
      refine ⟨cres, fun w => ?_, h2⟩
      cases ces with
      | nil =>
        have : es = [] := by simpa using hE.1
        subst this
        rcases h2 with ⟨_, rfl⟩ | ⟨j, e, c, q1, _⟩
        · simp [Instr.findKey, run_underlying hu, Instr.findNow]
        · simp at q1
      | cons c ces => simp [Instr.findKey, run_underlying hu, Instr.findNow, hd, h1]
    simp only [shape, hu] at hs
    cases d <;> simp only [reduceCtorEq] at hs
    case bool =>
      split at hs <;> cases hs
      exact plain .bool rfl (by simpa [aggOf, hu] using hag.symm) (.inr (.inl ⟨rfl, rfl⟩))
    case int q =>
      split at hs <;> cases hs
      exact plain .int rfl (by simpa [aggOf, hu] using hag.symm) (.inl ⟨rfl, q, rfl⟩)
    case string =>
      split at hs <;> cases hs
      exact plain .str rfl (by simpa [aggOf, hu] using hag.symm) (.inr (.inr ⟨rfl, rfl⟩))
    case struct fs => exact deep (fun v u => by simp [Instr.sameNow])
    case array n e => exact deep (fun v u => by simp [Instr.sameNow])

theorem map_obj (h : R LC N B0 w0 φ σ w) {i : Nat} {pl : Place} (hi : φ i = some pl) {es : List (AV × AV × Nat)} {c : Nat} (hg : σ.get i = some (.map es c)) :
    ∃ ces : Array MapEntry, w.heap[pl.b]? = some (.map ces c) ∧ EntsR φ es ces.toList := by
  obtain ⟨o, hg', ho⟩ := h.obj i pl hi
  rw [hg] at hg'
  cases hg'
  obtain ⟨ces, h1, h2, h3⟩ := ho
  exact ⟨ces, h1, by simpa using h2.symm, fun j e c h4 h5 => h3 j e c h4 (by simpa using h5)⟩
theorem run_getMap {b : Nat} {ces : Array MapEntry} {c : Nat} (h : w.heap[b]? = some (.map ces c)) : (getObj b).run P w = .ok (.map ces c) w := by
  simp [getObj, Sem.run, h]

theorem h_lookup (h : R LC N B0 w0 φ σ w) {t kt e : TypeId} {agg : Bool} {sh : List Leaf} {zero : AV} (hu : P.underlying t = some (.map kt e)) (hk : KeyT P kt agg sh) (hz : zeroOf P e = some zero) {ok : Bool} {m k : AV} {mc kc : Value}
    (hkc : VR φ k kc) {v : AV} {σ' : AH} (hv : (match m with
      | .map none => match keyEq agg sh k k with
        | some _ => some (if ok then AV.tuple [zero, .bool false] else zero, σ)
        | none => none
      | .map (some i) => match σ.get i with
        | some (.map es _) => match keyEq agg sh k k, findE agg sh k es 0 with
          | some _, some (some (_, v, _)) => some (if ok then AV.tuple [v, .bool true] else v, σ)
          | some _, some none => some (if ok then AV.tuple [zero, .bool false] else zero, σ)
          | _, _ => none
        | _ => none
      | _ => none) = some (v, σ')) (hm : VR φ m mc) : HPost P LC N B0 w0 φ σ w (Instr.lookup t mc kc ok) v σ' := by
  obtain ⟨zv, z1, z2, _⟩ := zero_ok (φ := φ) hz
  have two : ∀ (x : AV) (c : Value) (b : Bool), VR φ x c → VR φ (if ok then AV.tuple [x, .bool b] else x) (if ok then .tuple #[c, .bool b] else c) := by
    intro x c b hx
    cases ok
    · simpa using hx
    · simpa using (VRL.cons hx (VRL.cons (VR.bool b) (VRL.nil φ))).tuple
  split at hv
  · split at hv
    · rename_i r hq
      cases hv
      cases hm
      have hck := keyChk_run (P := P) hk hq hkc true w
      have hfk : (Instr.findKey kt kc []).run P w = .ok none w := by
        obtain ⟨cres, h1, h2⟩ := findKey_ok (P := P) hk hkc (es := []) (ces := []) (res := none) ⟨rfl, by simp⟩ rfl
        rcases h2 with ⟨_, rfl⟩ | ⟨j, e, c, q1, _⟩
        · exact h1 w
        · simp at q1
      exact ⟨φ, w, _, by simp [Instr.lookup, run_underlying hu, hck, hfk, z1], two zero zv false z2, Ext.refl _ _, h⟩
    · cases hv
  · rename_i i
    split at hv
    · rename_i es c hg
      cases hm with
      | map _ pl hp =>
        obtain ⟨ces, m1, m2⟩ := map_obj h hp hg
        have hget := run_getMap (P := P) m1
        split at hv
        · rename_i r j x b hq hf
          cases hv
          have hck := keyChk_run (P := P) hk hq hkc ces.isEmpty w
          obtain ⟨cres, h1, h2⟩ := findKey_ok (P := P) hk hkc m2 hf
          rcases h2 with ⟨h2, _⟩ | ⟨j', e', c', q1, q2, q3, q4, rfl⟩
          · cases h2
          · simp only [Option.some.injEq, Prod.mk.injEq] at q4
            obtain ⟨_, rfl, _⟩ := q4
            exact ⟨φ, w, _, by simp [Instr.lookup, run_underlying hu, hget, hck, h1], two _ c'.val true q3.2.1, Ext.refl _ _, h⟩
        · rename_i r hq hf
          cases hv
          have hck := keyChk_run (P := P) hk hq hkc ces.isEmpty w
          obtain ⟨cres, h1, h2⟩ := findKey_ok (P := P) hk hkc m2 hf
          rcases h2 with ⟨_, rfl⟩ | ⟨j', e', c', q1, q2, q3, q4, rfl⟩
          · exact ⟨φ, w, _, by simp [Instr.lookup, run_underlying hu, hget, hck, h1, z1], two zero zv false z2, Ext.refl _ _, h⟩
          · cases q4
        · cases hv
    · cases hv
  · cases hv

theorem sameBits_leaf {l : Leaf} {x y : AV} (h : leafIs l x y true) {a b : Value} (hx : VR φ x a) (hy : VR φ y b) (n : Nat) : Instr.sameBits n b a = true := by
  cases l
  · obtain ⟨k, p, q, rfl, rfl, hpq⟩ := h
    have : p = q := by simpa using hpq.symm
    rw [hx.int_inv, hy.int_inv, this]
    cases n <;> simp [Instr.sameBits]
  · obtain ⟨p, q, rfl, rfl, hpq⟩ := h
    have : p = q := by simpa using hpq.symm
    rw [hx.bool_inv, hy.bool_inv, this]
    cases n <;> simp [Instr.sameBits]
  · obtain ⟨p, q, rfl, rfl, hpq⟩ := h
    rw [hx.str_inv, hy.str_inv]
    have hpq' : (q == p) = true := by rw [beq_toListBytes]; simp only [beq_iff_eq]; have := hpq.symm; simp only [beq_iff_eq] at this; exact this.symm
    cases n <;> simpa [Instr.sameBits] using hpq'
theorem sameBits_cells (n : Nat) : ∀ (sh : List Leaf) (xs ys : List AV) (vs us : List Value), eqCells sh xs ys = some true → VRL φ xs vs → VRL φ ys us → (us.zip vs).all (fun (x, y) => Instr.sameBits n x y) = true
  | [], xs, ys, vs, us, h, hv, hu => by
    obtain ⟨rfl, rfl, _⟩ := eqCells_nil h
    have : vs = [] := by simpa using hv.1.symm
    subst this
    simp
  | l :: sh, xs, ys, vs, us, h, hv, hu => by
    obtain ⟨x, xs, y, ys, q, c, rfl, rfl, hq, hr, hl⟩ := eqCells_cons h
    cases vs with
    | nil => exact absurd hv.1 (by simp)
    | cons v vs =>
      cases us with
      | nil => exact absurd hu.1 (by simp)
      | cons u us =>
        have hc : c = true ∧ q = true := by cases c <;> cases q <;> simp at hr ⊢
        obtain ⟨rfl, rfl⟩ := hc
        have ih := sameBits_cells n sh xs ys vs us hq hv.tail hu.tail
        simp only [List.zip_cons_cons, List.all_cons, sameBits_leaf hl hv.head hu.head, Bool.true_and]
        exact ih
theorem sameBits_ok {agg : Bool} {sh : List Leaf} {a b : AV} (h : keyEq agg sh a b = some true) {va vb : Value} (ha : VR φ a va) (hb : VR φ b vb) : Instr.sameBits 10000 vb va = true := by
  obtain ⟨xs, ys, he, hc⟩ := keyEq_cells h
  rcases hc with ⟨_, rfl, rfl⟩ | ⟨_, rfl, rfl⟩
  · cases ha with
    | agg _ vs h1 h2 =>
      cases hb with
      | agg _ us h3 h4 =>
        have hl := eqCells_len _ he
        have := sameBits_cells 9999 sh xs ys vs.toList us.toList he (VRL.of_array h1 h2) (VRL.of_array h3 h4)
        show (us.size == vs.size && (us.toList.zip vs.toList).all fun (x, y) => Instr.sameBits 9999 x y) = true
        rw [this]
        simp; omega
  · cases sh with
    | nil => simp [eqCells] at he
    | cons l sh =>
      obtain ⟨x, xs, y, ys, q, c, e1, e2, hq, hr, hl⟩ := eqCells_cons he
      simp only [List.cons.injEq] at e1 e2
      obtain ⟨rfl, _⟩ := e1
      obtain ⟨rfl, _⟩ := e2
      have hc : c = true := by cases c <;> simp at hr ⊢
      subst hc
      exact sameBits_leaf hl ha hb 10000

theorem setE_length (k v : AV) : ∀ (es : List (AV × AV × Nat)) (j : Nat), (setE k v es j).length = es.length
  | [], _ => by simp [setE]
  | _ :: _, 0 => by simp [setE]
  | _ :: es, j + 1 => by simp [setE, setE_length k v es j]
theorem setE_get (k v : AV) : ∀ (es : List (AV × AV × Nat)) (j i : Nat), (setE k v es j)[i]? = if i = j then (es[i]?).map fun e => (k, v, e.2.2) else es[i]?
  | [], j, i => by simp [setE]
  | (x, y, b) :: es, 0, i => by cases i <;> simp [setE]
  | e :: es, j + 1, i => by
    cases i with
    | zero => simp [setE]
    | succ i => simp [setE, setE_get k v es j i]

/-- A map is written. -/
theorem map_set (h : R LC N B0 w0 φ σ w) {i : Nat} {pl : Place} (hp : φ i = some pl) (hlim : σ.lim ≤ i) {es : List (AV × AV × Nat)} {c : Nat} (hg : σ.get i = some (.map es c)) {ces : Array MapEntry} (hces : w.heap[pl.b]? = some (.map ces c))
    {es' : List (AV × AV × Nat)} {ces' : Array MapEntry} {c' : Nat} (hE : EntsR φ es' ces'.toList) :
    ∃ w', (setObj pl.b (.map ces' c')).run P w = .ok () w' ∧ R LC N B0 w0 φ (σ.set i (.map es' c')) w' := by
  have hlt : pl.b < w.heap.size := (Array.getElem?_eq_some_iff.1 hces).1
  refine ⟨{ w with heap := w.heap.setIfInBounds pl.b (.map ces' c') }, by simp [setObj, Sem.run, hces], ?_⟩
  refine h.set hp hlim hg rfl _ ⟨rfl, rfl, rfl, by simp, fun k hk => by simp [Array.getElem?_setIfInBounds, Ne.symm hk]⟩ ?_
  exact ⟨ces', by simp [Array.getElem?_setIfInBounds, hlt], by have := hE.1; simpa using this.symm, fun j e c h1 h2 => hE.2 j e c h1 (by simpa using h2)⟩

theorem FR.found {es : List (AV × AV × Nat)} {ces : Array MapEntry} {j : Nat} {x : AV} {b : Nat} {cres : Option (Nat × Value)} (h : FR φ es ces.toList 0 (some (j, x, b)) cres) :
    ∃ (e : AV × AV × Nat) (c : MapEntry), es[j]? = some e ∧ ces[j]? = some c ∧ EntR φ e c ∧ x = e.2.1 ∧ b = e.2.2 ∧ cres = some (j, c.val) := by
  rcases h with ⟨h, _⟩ | ⟨j', e, c, q1, q2, q3, q4, q5⟩
  · cases h
  · simp only [Nat.zero_add, Option.some.injEq, Prod.mk.injEq] at q4
    obtain ⟨rfl, rfl, rfl⟩ := q4
    exact ⟨e, c, q1, by simpa using q2, q3, rfl, rfl, by rw [q5]; simp⟩
theorem FR.none {es : List (AV × AV × Nat)} {ces : Array MapEntry} {cres : Option (Nat × Value)} (h : FR φ es ces.toList 0 Option.none cres) : cres = Option.none := by
  rcases h with ⟨_, h⟩ | ⟨j', e, c, q1, q2, q3, q4, q5⟩
  · exact h
  · cases q4

theorem findE_key {agg : Bool} {sh : List Leaf} {k : AV} : ∀ (es : List (AV × AV × Nat)) (i j : Nat) (x : AV) (b : Nat), findE agg sh k es i = some (some (j, x, b)) → ∃ e, es[j - i]? = some e ∧ i ≤ j ∧ keyEq agg sh k e.1 = some true
  | [], i, j, x, b, h => by simp [findE] at h
  | (y, v, c) :: es, i, j, x, b, h => by
    simp only [findE] at h
    split at h
    · rename_i hq
      simp only [Option.some.injEq, Prod.mk.injEq] at h
      obtain ⟨rfl, rfl, rfl⟩ := h
      exact ⟨_, by simp; rfl, Nat.le_refl _, hq⟩
    · obtain ⟨e, h1, h2, h3⟩ := findE_key es (i + 1) j x b h
      refine ⟨e, ?_, by omega, h3⟩
      rw [show j - i = (j - (i + 1)) + 1 by omega]
      simpa using h1
    · cases h

theorem ents_modify {es : List (AV × AV × Nat)} {ces : Array MapEntry} (hE : EntsR φ es ces.toList) (j : Nat) {k v : AV} {kc vc : Value} (hk : VR φ k kc) (hv : VR φ v vc) :
    EntsR φ (setE k v es j) (ces.modify j fun e => { e with key := kc, val := vc }).toList := by
  refine ⟨by rw [setE_length, hE.1]; simp, fun i e c h1 h2 => ?_⟩
  rw [setE_get] at h1
  have h2' : (ces.modify j fun e => { e with key := kc, val := vc })[i]? = some c := by rw [← Array.getElem?_toList]; exact h2
  rw [Array.getElem?_modify] at h2'
  by_cases hij : i = j
  · subst hij
    rw [if_pos rfl] at h1 h2'
    obtain ⟨e0, g1, rfl⟩ := Option.map_eq_some_iff.1 h1
    obtain ⟨c0, g2, rfl⟩ := Option.map_eq_some_iff.1 h2'
    obtain ⟨_, _, q3⟩ := hE.2 i e0 c0 g1 (by simpa using g2)
    exact ⟨hk, hv, q3⟩
  · rw [if_neg hij] at h1
    rw [if_neg (Ne.symm hij)] at h2'
    exact hE.2 i e c h1 (by simpa using h2')
theorem ents_push {es : List (AV × AV × Nat)} {ces : Array MapEntry} (hE : EntsR φ es ces.toList) {k v : AV} {kc vc : Value} (b : Nat) (hk : VR φ k kc) (hv : VR φ v vc) : EntsR φ (es ++ [(k, v, b)]) (ces.push { key := kc, val := vc, born := b }).toList := by
  refine ⟨by simp [hE.1], fun i e c h1 h2 => ?_⟩
  rw [Array.toList_push] at h2
  by_cases hi : i < es.length
  · rw [List.getElem?_append_left hi] at h1
    rw [List.getElem?_append_left (by rw [← hE.1]; exact hi)] at h2
    exact hE.2 i e c h1 h2
  · rw [List.getElem?_append_right (by omega)] at h1
    rw [List.getElem?_append_right (by rw [← hE.1]; omega), ← hE.1] at h2
    cases hq : i - es.length with
    | zero =>
      rw [hq] at h1 h2
      simp at h1 h2
      subst h1; subst h2
      exact ⟨hk, hv, rfl⟩
    | succ q => rw [hq] at h1; simp at h1

/-- What a write to a map leaves. -/
def UPost (P : Program) (LC : LCode) (N : Nat → Nat) (B0 : Nat) (w0 : World) (φ : Phi) (w : World) (s : Sem Unit) (σ' : AH) : Prop := ∃ w', s.run P w = .ok () w' ∧ R LC N B0 w0 φ σ' w'

theorem keep_new {old new : Value} (h : Instr.sameBits 10000 old new = true) : (Instr.keyThatStays old new).run P w = .ok new w := by simp [Instr.keyThatStays, h]

def updS (σ : AH) (i : Nat) (k x : AV) (es : List (AV × AV × Nat)) (c : Nat) : Option (Nat × AV × Nat) → AH
  | some (j, _, _) => σ.set i (.map (setE k x es j) c)
  | none => σ.set i (.map (es ++ [(k, x, c)]) (c + 1))
def entV (zero : AV) (c : Nat) : Option (Nat × AV × Nat) → AV
  | some (_, v, b) => .tuple [v, .int .i64 b]
  | none => .tuple [zero, .int .i64 c]
def entS (σ : AH) (i : Nat) (k zero : AV) (es : List (AV × AV × Nat)) (c : Nat) : Option (Nat × AV × Nat) → AH
  | some (j, v, _) => σ.set i (.map (setE k v es j) c)
  | none => σ.set i (.map (es ++ [(k, zero, c)]) (c + 1))
theorem h_mapUpd (h : R LC N B0 w0 φ σ w) {t kt e : TypeId} {agg : Bool} {sh : List Leaf} (hu : P.underlying t = some (.map kt e)) (hk : KeyT P kt agg sh) {k x : AV} {kc xc : Value} {i : Nat} {mc : Value} (hm : VR φ (.map (some i)) mc) (hkc : VR φ k kc) (hxc : VR φ x xc)
    (hlim : σ.lim ≤ i) {es : List (AV × AV × Nat)} {c : Nat} (hg : σ.get i = some (.map es c)) {r : Bool} (hq : keyEq agg sh k k = some r) {res : Option (Nat × AV × Nat)} (hf : findE agg sh k es 0 = some res) :
    UPost P LC N B0 w0 φ w (Instr.mapUpdate t mc kc xc) (updS σ i k x es c res) := by
  cases hm with
  | map _ pl hp =>
    obtain ⟨ces, m1, m2⟩ := map_obj h hp hg
    have hget := run_getMap (P := P) m1
    have hck := keyChk_run (P := P) hk hq hkc false w
    obtain ⟨cres, f1, f2⟩ := findKey_ok (P := P) hk hkc m2 hf
    cases res with
    | none =>
      rw [f2.none] at f1
      obtain ⟨w', s1, s2⟩ := map_set (P := P) (c' := c + 1) h hp hlim hg m1 (ents_push m2 c hkc hxc)
      exact ⟨w', by simp [Instr.mapUpdate, run_underlying hu, hget, hck, f1, s1], s2⟩
    | some p =>
      obtain ⟨j, y, b⟩ := p
      obtain ⟨e0, c0, q1, q2, q3, rfl, rfl, rfl⟩ := f2.found
      obtain ⟨e1, g1, _, g3⟩ := findE_key es 0 j _ _ hf
      simp only [Nat.sub_zero] at g1
      rw [q1] at g1; cases g1
      have hsb := sameBits_ok g3 hkc q3.1
      obtain ⟨w', s1, s2⟩ := map_set (P := P) (c' := c) h hp hlim hg m1 (ents_modify m2 j hkc hxc)
      have hkeep := keep_new (P := P) (w := w) hsb
      exact ⟨w', by simp [Instr.mapUpdate, run_underlying hu, hget, hck, f1, q2, hkeep, s1], s2⟩

theorem h_mapEntry (h : R LC N B0 w0 φ σ w) {t kt e : TypeId} {agg : Bool} {sh : List Leaf} {zero : AV} (hu : P.underlying t = some (.map kt e)) (hk : KeyT P kt agg sh) (hz : zeroOf P e = some zero) {k : AV} {kc : Value} {i : Nat} {mc : Value} (hm : VR φ (.map (some i)) mc) (hkc : VR φ k kc)
    (hlim : σ.lim ≤ i) {es : List (AV × AV × Nat)} {c : Nat} (hg : σ.get i = some (.map es c)) {r : Bool} (hq : keyEq agg sh k k = some r) {res : Option (Nat × AV × Nat)} (hf : findE agg sh k es 0 = some res) :
    HPost P LC N B0 w0 φ σ w (Instr.mapEntry t mc kc) (entV zero c res) (entS σ i k zero es c res) := by
  obtain ⟨zv, z1, z2, _⟩ := zero_ok (φ := φ) hz
  cases hm with
  | map _ pl hp =>
    obtain ⟨ces, m1, m2⟩ := map_obj h hp hg
    have hget := run_getMap (P := P) m1
    have hck := keyChk_run (P := P) hk hq hkc false w
    obtain ⟨cres, f1, f2⟩ := findKey_ok (P := P) hk hkc m2 hf
    cases res with
    | none =>
      rw [f2.none] at f1
      obtain ⟨w', s1, s2⟩ := map_set (P := P) (c' := c + 1) h hp hlim hg m1 (ents_push m2 c hkc z2)
      refine ⟨φ, w', .tuple #[zv, goInt c], by simp [Instr.mapEntry, run_underlying hu, hget, hck, f1, z1, s1], ?_, Ext.set _ _ _ _, s2⟩
      simpa [goInt, entV] using (VRL.cons z2 (VRL.cons (VR.int .i64 c) (VRL.nil φ))).tuple
    | some p =>
      obtain ⟨j, y, b⟩ := p
      obtain ⟨e0, c0, q1, q2, q3, rfl, rfl, rfl⟩ := f2.found
      obtain ⟨e1, g1, _, g3⟩ := findE_key es 0 j _ _ hf
      simp only [Nat.sub_zero] at g1
      rw [q1] at g1; cases g1
      have hsb := sameBits_ok g3 hkc q3.1
      have hkeep := keep_new (P := P) (w := w) hsb
      have hmod : (ces.modify j fun e => { e with key := kc }) = (ces.modify j fun e => { e with key := kc, val := c0.val }) := by
        apply Array.ext
        · simp
        · intro i h1 h2
          rw [Array.getElem_modify, Array.getElem_modify]
          split
          · rename_i hij
            subst hij
            have : ces[j]'(by simpa using h1) = c0 := by
              have hlt : j < ces.size := by simpa using h1
              rw [Array.getElem?_eq_getElem hlt] at q2
              exact Option.some.inj q2
            rw [this]
          · rfl
      obtain ⟨w', s1, s2⟩ := map_set (P := P) (c' := c) h hp hlim hg m1 (ents_modify m2 j hkc q3.2.1)
      refine ⟨φ, w', .tuple #[c0.val, goInt c0.born], by simp [Instr.mapEntry, run_underlying hu, hget, hck, f1, q2, hkeep, hmod, s1], ?_, Ext.set _ _ _ _, s2⟩
      have := (VRL.cons q3.2.1 (VRL.cons (VR.int .i64 c0.born) (VRL.nil φ))).tuple
      rw [← q3.2.2] at this
      simpa [goInt, entV, ← q3.2.2] using this

theorem stampE_ok (v : AV) (n : Int) : ∀ (es es' : List (AV × AV × Nat)), stampE v n es = some es' → ∃ j, es'.length = es.length ∧ (∀ i, es'[i]? = if i = j then (es[i]?).map fun e => (e.1, v, e.2.2) else es[i]?) ∧ (∀ e, es[j]? = some e → (e.2.2 : Int) = n) ∧
    (∀ i e, i < j → es[i]? = some e → (e.2.2 : Int) ≠ n) ∧ j < es.length
  | [], es', h => by simp [stampE] at h
  | (x, u, b) :: es, es', h => by
    simp only [stampE] at h
    split at h
    · rename_i hb
      cases h
      refine ⟨0, by simp, fun i => by cases i <;> simp, fun e he => by simp at he; subst he; exact hb, fun i e hi => by omega, by simp⟩
    · rename_i hb
      obtain ⟨es2, h2, rfl⟩ := Option.map_eq_some_iff.1 h
      obtain ⟨j, q1, q2, q3, q4, q5⟩ := stampE_ok v n es es2 h2
      refine ⟨j + 1, by simp [q1], fun i => ?_, fun e he => q3 e (by simpa using he), fun i e hi he => ?_, by simp; omega⟩
      · cases i with
        | zero => simp
        | succ i => simpa using q2 i
      · cases i with
        | zero => simp at he; subst he; exact hb
        | succ i => exact q4 i e (by omega) (by simpa using he)

theorem h_entryStore (h : R LC N B0 w0 φ σ w) {t : TypeId} {x : AV} {xc : Value} {i : Nat} {mc : Value} (hm : VR φ (.map (some i)) mc) (hxc : VR φ x xc) {q : IntKind} {n : Int}
    (hlim : σ.lim ≤ i) {es es' : List (AV × AV × Nat)} {c : Nat} (hg : σ.get i = some (.map es c)) (hs : stampE x n es = some es') :
    UPost P LC N B0 w0 φ w (Instr.entryStore t mc (.int q n) xc) (σ.set i (.map es' c)) := by
  cases hm with
  | map _ pl hp =>
    obtain ⟨ces, m1, m2⟩ := map_obj h hp hg
    have hget := run_getMap (P := P) m1
    obtain ⟨j, q1, q2, q3, q4, q5⟩ := stampE_ok x n es es' hs
    have hj : j < ces.size := by have := m2.1; simp at this; omega
    have hborn : ∀ (i : Nat) (hi : i < ces.size), ∃ e, es[i]? = some e ∧ e.2.2 = ces[i].born ∧ EntR φ e ces[i] := by
      intro i hi
      have hl : i < es.length := by have := m2.1; simp at this; omega
      have := m2.2 i es[i] ces[i] (List.getElem?_eq_getElem hl) (by simp [hi])
      exact ⟨es[i], List.getElem?_eq_getElem hl, this.2.2, this⟩
    have hfind : ces.findIdx? (fun e => (e.born : Int) == n) = some j := by
      rw [Array.findIdx?_eq_some_iff_getElem]
      refine ⟨hj, ?_, fun i hi => ?_⟩
      · obtain ⟨e, e1, e2, _⟩ := hborn j hj
        have := q3 e e1
        rw [e2] at this
        simpa using this
      · obtain ⟨e, e1, e2, _⟩ := hborn i (by omega)
        have := q4 i e hi e1
        rw [e2] at this
        simpa using this
    have hE : EntsR φ es' (ces.modify j fun e => { e with val := xc }).toList := by
      refine ⟨by rw [q1, m2.1]; simp, fun k e cc h1 h2 => ?_⟩
      rw [q2] at h1
      have h2' : (ces.modify j fun e => { e with val := xc })[k]? = some cc := by rw [← Array.getElem?_toList]; exact h2
      rw [Array.getElem?_modify] at h2'
      by_cases hkj : k = j
      · subst hkj
        rw [if_pos rfl] at h1 h2'
        obtain ⟨e0, g1, rfl⟩ := Option.map_eq_some_iff.1 h1
        obtain ⟨c0, g2, rfl⟩ := Option.map_eq_some_iff.1 h2'
        obtain ⟨p1, _, p3⟩ := m2.2 k e0 c0 g1 (by simpa using g2)
        exact ⟨p1, hxc, p3⟩
      · rw [if_neg hkj] at h1
        rw [if_neg (Ne.symm hkj)] at h2'
        exact m2.2 k e cc h1 (by simpa using h2')
    obtain ⟨w', s1, s2⟩ := map_set (P := P) (c' := c) h hp hlim hg m1 hE
    exact ⟨w', by simp [Instr.entryStore, hget, asInt, asIntOf, hfind, s1], s2⟩
end
end Go.Oct
end
/- Every operation on the heap: joined. -/
section
set_option linter.unusedVariables false
set_option linter.unusedSimpArgs false
set_option linter.unusedSectionVars false
namespace Go.Oct
variable [Gl]
open Go.RowKit

section
variable {P : Program} {LC : LCode} {N : Nat → Nat} {B0 : Nat} {w0 : World} {φ : Phi} {σ : AH} {w : World} {ρ : Opd → AV} {ρc : Operand → Value}

/-- What an operation leaves. -/
def NPost (P : Program) (LC : LCode) (N : Nat → Nat) (B0 : Nat) (w0 : World) (φ : Phi) (σ : AH) (w : World) (s : Sem Next) (v : AV) (σ' : AH) : Prop :=
  ∃ φ' w' n, s.run P w = .ok n w' ∧ ((∃ v', n = .value v' ∧ VR φ' v v') ∨ (n = .skip ∧ v = .undef)) ∧ Ext φ φ' σ σ' ∧ R LC N B0 w0 φ' σ' w'

theorem HPost.next {s : Sem Value} {v : AV} {σ' : AH} (h : HPost P LC N B0 w0 φ σ w s v σ') : NPost P LC N B0 w0 φ σ w (asNext s) v σ' := by
  obtain ⟨φ', w', v', h1, h2, h3, h4⟩ := h
  exact ⟨φ', w', .value v', by simp [asNext, h1], .inl ⟨v', rfl, h2⟩, h3, h4⟩
theorem UPost.next {s : Sem Unit} {σ' : AH} (h : UPost P LC N B0 w0 φ w s σ') (he : Ext φ φ σ σ') : NPost P LC N B0 w0 φ σ w (do s; pure .skip) .undef σ' := by
  obtain ⟨w', h1, h2⟩ := h
  exact ⟨φ, w', .skip, by simp [h1], .inr ⟨rfl, rfl⟩, he, h2⟩
theorem Yields.hpost {s : Sem Value} {v : AV} (hR : R LC N B0 w0 φ σ w) (h : Yields P φ s v) : HPost P LC N B0 w0 φ σ w s v σ := by
  obtain ⟨v', h1, h2⟩ := h w
  exact ⟨φ, w, v', h1, h2, Ext.refl _ _, hR⟩

/-- A builtin on the heap. -/
theorem bh_sound (hR : R LC N B0 w0 φ σ w) (hρ : OpdR φ ρ ρc) {b : Builtin} {ts : Array TypeId} {args : Array Operand} {ho : HOp} (hc : compBuiltin P b ts.toList args.toList = some (.h ho)) {v : AV} {σ' : AH} (hv : ahop ρ σ ho = some (v, σ')) (ty : TypeId) (cs : Array Bool) :
    NPost P LC N B0 w0 φ σ w (builtin b ts ty cs (args.map ρc)) v σ' := by
  unfold compBuiltin at hc
  split at hc
  · rename_i t x hts hargs
    have e1 := args_of hargs
    have e2 : ts = #[t] := by rw [← Array.toArray_toList (xs := ts), hts]
    subst e1; subst e2
    split at hc
    · obtain ⟨y, hy, e⟩ := Option.map_eq_some_iff.1 hc; cases e
    · obtain ⟨y, hy, e⟩ := Option.map_eq_some_iff.1 hc; cases e
    · cases hc
    · rename_i kt e hu
      obtain ⟨y, hy, e⟩ := Option.map_eq_some_iff.1 hc
      cases e
      have hx := hρ.rel _ _ hy
      simp only [ahop] at hv
      have fin : HPost P LC N B0 w0 φ σ w (Builtin.len_ #[t] ty #[ρc x]) v σ' := by
        generalize ρc x = a at hx ⊢
        generalize ρ y = q at hx hv
        split at hv
        · cases hv
          cases hx
          exact ⟨φ, w, .int .i64 0, by simp [Builtin.len_, run_underlying hu, goInt], .int _ _, Ext.refl _ _, hR⟩
        · split at hv
          · rename_i es c hg
            cases hv
            cases hx with
            | map _ pl hp =>
              obtain ⟨ces, m1, m2⟩ := map_obj hR hp hg
              have hl : es.length = ces.size := by have := m2.1; simpa using this
              exact ⟨φ, w, .int .i64 ces.size, by simp [Builtin.len_, run_underlying hu, run_getMap (P := P) m1, goInt], by rw [hl]; exact .int _ _, Ext.refl _ _, hR⟩
          · cases hv
        · cases hv
      simpa [builtin, asNext] using fin.next
    · split at hc <;> cases hc
    · cases hc
  · rename_i t x hts hargs
    have e1 := args_of hargs
    have e2 : ts = #[t] := by rw [← Array.toArray_toList (xs := ts), hts]
    subst e1; subst e2
    split at hc
    · rename_i e hu
      obtain ⟨y, hy, e⟩ := Option.map_eq_some_iff.1 hc
      cases e
      have hx := hρ.rel _ _ hy
      simp only [ahop] at hv
      have fin : HPost P LC N B0 w0 φ σ w (Builtin.cap_ #[t] ty #[ρc x]) v σ' := by
        generalize ρc x = a at hx ⊢
        generalize ρ y = q at hx hv
        split at hv
        · cases hv
          cases hx
          · exact ⟨φ, w, .int .i64 0, by simp [Builtin.cap_, run_underlying hu, goInt], .int _ _, Ext.refl _ _, hR⟩
          · exact ⟨φ, w, _, by simp only [Builtin.cap_]; simp [run_underlying hu, goInt], .int _ _, Ext.refl _ _, hR⟩
        · cases hv
          cases hx
          exact ⟨φ, w, .int .i64 0, by simp [Builtin.cap_, run_underlying hu, goInt], .int _ _, Ext.refl _ _, hR⟩
        · cases hv
      simpa [builtin, asNext] using fin.next
    · cases hc
  · split at hc <;> cases hc
  · split at hc <;> cases hc
  · rename_i t u s x hts hargs
    have e1 := args_of hargs
    have e2 : ts = #[t, u] := by rw [← Array.toArray_toList (xs := ts), hts]
    subst e1; subst e2
    split at hc
    · rename_i e du s' x' ht hu hs hx
      split at hc
      · rename_i i hi
        split at hc
        · rename_i zero hz
          split at hc
          · rename_i hcond
            split at hc
            · rename_i k
              cases hc
              simp only [ahop] at hv
              have := (h_appendZ (ty := ty) hR ht hu hi hz hcond.1 hcond.2.1 hcond.2.2 (hρ.rel _ _ hs) (hρ.rel _ _ hx) hv).next
              simpa [builtin, asNext] using this
            · rename_i e'
              cases hc
              simp only [ahop] at hv
              have := (h_append (ty := ty) hR ht hu hi hz hcond.1 hcond.2.1 hcond.2.2 (hρ.rel _ _ hs) (hρ.rel _ _ hx) hv).next
              simpa [builtin, asNext] using this
            · cases hc
          · cases hc
        · cases hc
      · cases hc
    · cases hc
  · rename_i t u d s hts hargs
    have e1 := args_of hargs
    have e2 : ts = #[t, u] := by rw [← Array.toArray_toList (xs := ts), hts]
    subst e1; subst e2
    split at hc
    · rename_i e e' d' s' ht hu hd hs
      obtain ⟨z, hz, ez⟩ := Option.map_eq_some_iff.1 hc
      cases ez
      simp only [ahop] at hv
      split at hv
      · rename_i a dl dc sl hq hq2
        split at hv
        · rename_i new hnew
          have h1 := hρ.rel _ _ hd
          have h2 := hρ.rel _ _ hs
          have := (h_copy (ty := ty) hR ht hu hz (dst_inv h1 hq) h2 hq2 hnew hv).next
          simpa [builtin, asNext] using this
        · cases hv
      · cases hv
    · cases hc
  · cases hc

theorem hop_sound (hR : R LC N B0 w0 φ σ w) (hρ : OpdR φ ρ ρc) {o : Oper} {ho : HOp} (hc : compOp P o.op = some (.h ho)) {v : AV} {σ' : AH} (hv : ahop ρ σ ho = some (v, σ')) : NPost P LC N B0 w0 φ σ w (execOp ρc o) v σ' := by
  obtain ⟨dst, op, ty, pos, after, guard⟩ := o
  simp only at hc
  cases op <;> simp only [compOp] at hc
  case move x => obtain ⟨y, hy, e⟩ := Option.map_eq_some_iff.1 hc; cases e
  case assign x => obtain ⟨y, hy, e⟩ := Option.map_eq_some_iff.1 hc; cases e
  case pick c a b => split at hc <;> cases hc
  case alloc t =>
    obtain ⟨z, hz, e⟩ := Option.map_eq_some_iff.1 hc
    cases e
    simp only [ahop, Option.some.injEq, Prod.mk.injEq] at hv
    obtain ⟨rfl, rfl⟩ := hv
    exact (h_alloc hR hz).next
  case box t x =>
    obtain ⟨y, hy, e⟩ := Option.map_eq_some_iff.1 hc
    cases e
    simp only [ahop] at hv
    split at hv
    · rename_i hd
      cases hv
      exact (h_box hR t (hρ.rel _ _ hy) hd).next
    · cases hv
  case build t parts =>
    split at hc
    · split at hc
      · obtain ⟨y, hy, e⟩ := Option.map_eq_some_iff.1 hc; cases e
      · cases hc
    · split at hc
      · obtain ⟨y, hy, e⟩ := Option.map_eq_some_iff.1 hc; cases e
      · cases hc
    · cases hc
  case buildSlice t len parts =>
    split at hc
    · rename_i e hu
      split at hc
      · rename_i z n hz hn
        split at hc
        · rename_i hcond
          obtain ⟨ps, hps, ep⟩ := Option.map_eq_some_iff.1 hc
          cases ep
          simp only [ahop] at hv
          split at hv
          · rename_i cs hcs
            cases hv
            exact (h_bslice hR hρ hu hz hn hcond.1 hcond.2.1 hcond.2.2 hps hcs).next
          · cases hv
        · cases hc
      · cases hc
    · cases hc
  case load t a =>
    split at hc
    · rename_i g n a' hg hn ha
      split at hc
      · rename_i hgn
        cases hc
        have hx := hρ.rel _ _ ha
        simp only [ahop] at hv
        split at hv
        · rename_i i o hq
          rw [hq] at hx
          split at hv
          · rename_i cs hr
            split at hv
            · rename_i hl
              obtain ⟨u, hu, e⟩ := Option.map_eq_some_iff.1 hv
              cases e
              exact (h_load hR hg hn hgn hx hr hl hu).next
            · cases hv
          · cases hv
        · rename_i cs o hq
          rw [hq] at hx
          split at hv
          · rename_i hl
            obtain ⟨u, hu, e⟩ := Option.map_eq_some_iff.1 hv
            cases e
            exact (h_loadV hR hg hn hgn hx hl hu).next
          · cases hv
        · cases hv
      · cases hc
    · cases hc
  case store t a x =>
    split at hc
    · rename_i n a' x' hn ha hx1
      cases hc
      have h1 := hρ.rel _ _ ha
      have h2 := hρ.rel _ _ hx1
      simp only [ahop] at hv
      split at hv
      · rename_i i o hq
        rw [hq] at h1
        split at hv
        · rename_i cs hown
          split at hv
          · rename_i hcond
            cases hv
            have := h_store (P := P) hR hn h1 h2 hcond.1 hcond.2.1 hown hcond.2.2.1 hcond.2.2.2
            exact UPost.next this (Ext.set _ _ _ _)
          · cases hv
        · cases hv
      · cases hv
    · cases hc
  case nilCheck x => obtain ⟨y, hy, e⟩ := Option.map_eq_some_iff.1 hc; cases e
  case binOp op t x y yt => obtain ⟨y, hy, e⟩ := Option.map_eq_some_iff.1 hc; cases e
  case unOp op t x => obtain ⟨y, hy, e⟩ := Option.map_eq_some_iff.1 hc; cases e
  case convert src dst x =>
    split at hc
    · cases hc
    · rename_i e y hs hd hy
      split at hc
      · rename_i he
        cases hc
        have hx := hρ.rel _ _ hy
        simp only [ahop] at hv
        split at hv
        · rename_i s hq
          cases hv
          rw [hq] at hx
          generalize hq2 : ρc x = u at hx
          cases hx
          have h := (h_s2b (P := P) hR hs hd he s).next
          simpa [execOp, asNext, hq2] using h
        · cases hv
      · cases hc
    · rename_i e y hs hd hy
      split at hc
      · rename_i he
        cases hc
        have hx := hρ.rel _ _ hy
        simp only [ahop] at hv
        split at hv
        · rename_i i o n cp hq
          rw [hq] at hx
          split at hv
          · rename_i cs hr
            split at hv
            · rename_i hcond
              obtain ⟨l, hb, e2⟩ := Option.map_eq_some_iff.1 hv
              cases e2
              have h := (h_b2s (P := P) hR hs hd he hx hr hcond.1 hcond.2 hb).next
              simpa [execOp, asNext] using h
            · cases hv
          · cases hv
        · cases hv
      · cases hc
    · cases hc
  case makeInterface t x => split at hc <;> cases hc
  case makeFunc fn first captured =>
    cases fn <;> simp only at hc
    case func f => split at hc <;> cases hc
    case method name =>
      split at hc
      · obtain ⟨y, hy, e⟩ := Option.map_eq_some_iff.1 hc; cases e
      · cases hc
    all_goals cases hc
  case makeMap t r =>
    cases r <;> simp only at hc
    case none =>
      cases hc
      simp only [ahop, Option.some.injEq, Prod.mk.injEq] at hv
      obtain ⟨rfl, rfl⟩ := hv
      exact (h_mkMap hR t).next
    case some r => cases hc
  case makeSlice t l c =>
    split at hc
    · rename_i e l' c' hu hl hcc
      split at hc
      · rename_i i hi
        split at hc
        · rename_i zero hz
          split at hc
          · rename_i hcond
            cases hc
            have h1 := hρ.rel _ _ hl
            have h2 := hρ.rel _ _ hcc
            simp only [ahop] at hv
            split at hv
            · rename_i kl nl kc nc hq hq2
              rw [hq] at h1; rw [hq2] at h2
              split at hv
              · rename_i hb
                cases hv
                have := (h_mkSlice (kl := kl) (kc := kc) hR hu hi hz hcond.1 hcond.2 hb.1 hb.2.1 hb.2.2.1 hb.2.2.2).next
                rw [← h1.int_inv, ← h2.int_inv] at this
                exact this
              · cases hv
            · cases hv
          · cases hc
        · cases hc
      · cases hc
    · cases hc
  case slice t x lo hi mx =>
    split at hc
    · split at hc
      · obtain ⟨z, hz, e⟩ := Option.map_eq_some_iff.1 hc; cases e
      · obtain ⟨z, hz, e⟩ := Option.map_eq_some_iff.1 hc; cases e
      · split at hc
        · obtain ⟨z, hz, e⟩ := Option.map_eq_some_iff.1 hc; cases e
        · cases hc
      · split at hc <;> cases hc
      · cases hc
    · cases hc
  case fieldAddr t x f =>
    split at hc
    · split at hc
      · split at hc
        · split at hc <;> cases hc
        · cases hc
      · cases hc
    · cases hc
  case field t x f =>
    split at hc
    · split at hc
      · split at hc <;> cases hc
      · cases hc
    · cases hc
  case indexAddr t x i =>
    split at hc
    · obtain ⟨z, hz, e⟩ := Option.map_eq_some_iff.1 hc; cases e
    · obtain ⟨z, hz, e⟩ := Option.map_eq_some_iff.1 hc; cases e
    · cases hc
  case index t x i =>
    split at hc
    · split at hc <;> cases hc
    · cases hc
    · cases hc
  case lookup t m k ok =>
    split at hc
    · rename_i kt e m' k' hu hm hk1
      split at hc
      · rename_i g s z hks hz
        cases hc
        simp only [ahop] at hv
        exact (h_lookup hR hu (keyT_of hks) hz (hρ.rel _ _ hk1) hv (hρ.rel _ _ hm)).next
      · cases hc
    · cases hc
  case mapUpdate t m k x =>
    split at hc
    · rename_i kt e m' k' x' hu hm hk1 hx1
      obtain ⟨⟨g, s⟩, hks, e⟩ := Option.map_eq_some_iff.1 hc
      cases e
      have h1 := hρ.rel _ _ hm
      simp only [ahop] at hv
      split at hv
      · rename_i i hq
        rw [hq] at h1
        split at hv
        · rename_i hlim
          split at hv
          · rename_i es c hg
            split at hv
            · rename_i r j p1 p2 hq1 hf
              cases hv
              have := h_mapUpd (P := P) hR hu (keyT_of hks) h1 (hρ.rel _ _ hk1) (hρ.rel _ _ hx1) hlim hg hq1 hf
              exact UPost.next this (Ext.set _ _ _ _)
            · rename_i r hq1 hf
              cases hv
              have := h_mapUpd (P := P) hR hu (keyT_of hks) h1 (hρ.rel _ _ hk1) (hρ.rel _ _ hx1) hlim hg hq1 hf
              exact UPost.next this (Ext.set _ _ _ _)
            · cases hv
          · cases hv
        · cases hv
      · cases hv
    · cases hc
  case mapEntry t m k =>
    split at hc
    · rename_i kt e m' k' hu hm hk1
      split at hc
      · rename_i g s z hks hz
        cases hc
        have h1 := hρ.rel _ _ hm
        simp only [ahop] at hv
        split at hv
        · rename_i i hq
          rw [hq] at h1
          split at hv
          · rename_i hlim
            split at hv
            · rename_i es c hg
              split at hv
              · rename_i r j p1 p2 hq1 hf
                cases hv
                exact (h_mapEntry hR hu (keyT_of hks) hz h1 (hρ.rel _ _ hk1) hlim hg hq1 hf).next
              · rename_i r hq1 hf
                cases hv
                exact (h_mapEntry hR hu (keyT_of hks) hz h1 (hρ.rel _ _ hk1) hlim hg hq1 hf).next
              · cases hv
            · cases hv
          · cases hv
        · cases hv
      · cases hc
    · cases hc
  case entryStore t m s x =>
    split at hc
    · rename_i m' s' x' hm hs hx1
      cases hc
      have h1 := hρ.rel _ _ hm
      have h2 := hρ.rel _ _ hs
      simp only [ahop] at hv
      split at hv
      · rename_i i q n hq hq2
        rw [hq] at h1; rw [hq2] at h2
        split at hv
        · rename_i hlim
          split at hv
          · rename_i es c hg
            obtain ⟨es', hst, e⟩ := Option.map_eq_some_iff.1 hv
            cases e
            have := h_entryStore (P := P) (t := t) (q := q) hR h1 (hρ.rel _ _ hx1) hlim hg hst
            rw [← h2.int_inv] at this
            exact UPost.next this (Ext.set _ _ _ _)
          · cases hv
        · cases hv
      · cases hv
    · cases hc
  case extract t i => obtain ⟨y, hy, e⟩ := Option.map_eq_some_iff.1 hc; cases e
  case call c =>
    obtain ⟨callee, args, ats⟩ := c
    cases callee <;> simp only at hc
    case builtin b =>
      have := bh_sound (P := P) hR hρ hc hv ty (args.map fun | .const _ => true | _ => false)
      simp only [NPost, execOp, resolve, Sem.run_bind, Sem.run_pure, Result.andThen_ok, invoke]
      exact this
    case value f =>
      split at hc
      · split at hc <;> cases hc
      · split at hc
        · split at hc <;> cases hc
        · split at hc <;> cases hc
    case invoke r name => split at hc <;> cases hc
  all_goals cases hc
end
end Go.Oct
end
/- Code, calls and rounds: what the abstract interpreter runs, the machine runs. -/
section
set_option linter.unusedVariables false
set_option linter.unusedSimpArgs false
set_option linter.unusedSectionVars false
namespace Go.Oct
variable [Gl]
open Go.RowKit

/-- Code that compiles to other code: n temporaries; L: the loops over functions. -/
inductive CC (P : Program) (n : Nat) (L : List ALoop) : Code → ACode → Prop
  | skip : CC P n L .skip .skip
  | label (l : Nat) : CC P n L (.label l) .skip
  | region (id : Nat) (ops : Array Oper) (draw : Bool) (os : List AOper) (ks : List Nat) (h : compRegion P ops draw = some os)
      (hd : ∀ o ∈ ops, ∀ d, o.dst = some d → d < n) : CC P n L (.region id ops draw) (.region draw os ks)
  | seq {a b : Code} {a' b' : ACode} (h1 : CC P n L a a') (h2 : CC P n L b b') : CC P n L (.seq a b) (.seq a' b')
  | cond {c : Operand} {c' : Opd} {a b : Code} {a' b' : ACode} (h : compOpd c = some c') (h1 : CC P n L a a') (h2 : CC P n L b b') : CC P n L (.cond c a b) (.cond c' a' b')
  | block (id : Nat) {b : Code} {b' : ACode} (h : CC P n L b b') : CC P n L (.block id b) (.block id b')
  | loop {b : Code} {b' : ACode} (h : CC P n L b b') : CC P n L (.loop b) (.loop b')
  | scope {b : Code} {b' : ACode} (h : CC P n L b b') : CC P n L (.scope b) (.scope b')
  | range {f : Operand} {f' : Opd} (ps : Array Tmp) {a b : Code} {a' b' : ACode} (i : Nat) (h : compOpd f = some f') (hl : L[i]? = some ⟨ps.toList, a', b'⟩) (hp : ∀ t ∈ ps.toList, t < n)
      (h1 : CC P n L a a') (h2 : CC P n L b b') : CC P n L (.rangeFunc f ps a b) (.rangeFunc i f')
  | exit (id : Nat) : CC P n L (.exit id) (.exit id)
  | ret : CC P n L .ret .ret

/-- A function that is compiled. -/
structure FuncOK (P : Program) (f : Nat) (af : AFunc) (fn : Func) (c : Code) : Prop where
  at_ : P.funcs[f]? = some fn
  body : fn.body = some c
  name : (fn.name == "runtime.NumGoroutine") = false
  np : af.np ≤ fn.ntmps
  code : CC P fn.ntmps af.loops c af.body
  res : compRes P fn.results.toList = some af.res

/-- How many temporaries a function has. -/
def Ntm (P : Program) (f : Nat) : Nat := ((P.funcs[f]?).map (·.ntmps)).getD 0
theorem FuncOK.ntm {P : Program} {f : Nat} {af : AFunc} {fn : Func} {c : Code} (h : FuncOK P f af fn c) : Ntm P f = fn.ntmps := by simp [Ntm, h.at_]
/-- The code of the loops. -/
def LCs (P : Program) (p : AProg) : LCode := fun f i ps a b =>
  ∃ af lp, p.funcs.get f = some af ∧ af.loops[i]? = some lp ∧ lp.params = ps.toList ∧ (∀ t ∈ ps.toList, t < Ntm P f) ∧ CC P (Ntm P f) af.loops a lp.asg ∧ CC P (Ntm P f) af.loops b lp.body

structure CompP (P : Program) (p : AProg) : Prop where
  fn : ∀ f af, p.funcs.get f = some af → ∃ fn c, FuncOK P f af fn c
  meth : ∀ t name f, p.meth t name = some f → ∀ v w, (method (P.types.size + Made.depth) t v name).run P w = .ok (f, v) w
  nilM : ∀ t name f, p.meth t name = some f → ∀ v w, (nilAhead (P.types.size + Made.depth) t v name).run P w = .ok (some false) w

/-- Marks of blocks for deferred calls. -/
inductive DefR (φ : Phi) : List Nat → List Deferred → Prop
  | nil : DefR φ [] []
  | cons {d : Nat} {pd : Place} {ms : List Nat} {ds : List Deferred} (h : φ d = some pd) (hs : DefR φ ms ds) : DefR φ (d :: ms) ({ target := .collected pd.b, args := #[] } :: ds)
theorem DefR.mono {φ φ' : Phi} (hle : φ.le φ') {ms : List Nat} {ds : List Deferred} (h : DefR φ ms ds) : DefR φ' ms ds := by
  induction h with
  | nil => exact .nil
  | cons h _ ih => exact .cons (hle _ _ h) ih

structure FrR (P : Program) (φ : Phi) (f : Nat) (fr : Fr) (a : Act) : Prop where
  env : EnvR φ (Ntm P f) fr.env a.tmps
  defs : DefR φ fr.marks a.defers
theorem FrR.mono {P : Program} {φ φ' : Phi} (hle : φ.le φ') {f : Nat} {fr : Fr} {a : Act} (h : FrR P φ f fr a) : FrR P φ' f fr a := ⟨h.env.mono hle, h.defs.mono hle⟩

/-- The frame of an activation, or of a round. -/
structure BOK (φ : Phi) (f : Nat) (rd : Option Nat) (b : Frame) : Prop where
  fn : b.fn = f
  kind : b.kind = .normal
  none : rd = none → b.roundOf = none
  some : ∀ l, rd = some l → ∃ pl, φ l = some pl ∧ b.roundOf = some pl.b
theorem BOK.mono {φ φ' : Phi} (hle : φ.le φ') {f : Nat} {rd : Option Nat} {b : Frame} (h : BOK φ f rd b) : BOK φ' f rd b :=
  ⟨h.fn, h.kind, h.none, fun l e => let ⟨pl, h1, h2⟩ := h.some l e; ⟨pl, hle _ _ h1, h2⟩⟩

section
variable {P : Program} {p : AProg} {B0 : Nat} {w0 : World}

abbrev RR (P : Program) (p : AProg) (B0 : Nat) (w0 : World) (φ : Phi) (σ : AH) (w : World) : Prop := R (LCs P p) (Ntm P) B0 w0 φ σ w

/-- What a call leaves. -/
def CPost (P : Program) (p : AProg) (B0 : Nat) (w0 : World) (φ : Phi) (σ : AH) (fr : Frame) (w : World) (v : AV) (σ' : AH) : Prop :=
  ∀ (c : Frame) (cs : List Frame), ∃ φ' w' v', Steps P (lone fr (c :: cs) w) (lone (c.finish v') cs w') ∧ VR φ' v v' ∧ Ext φ φ' σ σ' ∧ RR P p B0 w0 φ' σ' w'

def CallerOK (P : Program) (p : AProg) (B0 : Nat) (w0 : World) (C : Caller) : Prop :=
  ∀ t args σ v σ', C t args σ = some (v, σ') → ∀ φ w (vs : List Value), RR P p B0 w0 φ σ w → VRL φ args vs →
    match t with
    | .fn f => (callFunc f vs.toArray).run P w = .ok (.enter f vs.toArray) w ∧ CPost P p B0 w0 φ σ (Frame.enter P f vs.toArray .normal) w v σ'
    | .yield l => ∀ pl, φ l = some pl → ∃ f tmps asg body, (Instr.yield pl.b vs.toArray).run P w = .ok (.round pl.b f tmps asg body) w ∧
        CPost P p B0 w0 φ σ (Frame.round pl.b f tmps asg body .normal) w v σ'

/-- Operands in a frame. -/
theorem opdR_of {φ : Phi} {N : Nat} {env : Env} {a : Act} (h : EnvR φ N env a.tmps) : OpdR φ (Opd.ev env) a.eval := by
  refine ⟨fun x y hc => ?_, fun v => rfl, fun f => rfl⟩
  cases x with
  | tmp t => simp only [compOpd, Option.some.injEq] at hc; subst hc; exact h.get t
  | const v =>
    simp only [compOpd] at hc
    obtain ⟨z, hz, e⟩ := Option.map_eq_some_iff.1 hc
    cases e
    exact cvt_ok hz
  | global g =>
    simp only [compOpd] at hc
    obtain ⟨z, hz, e⟩ := Option.map_eq_some_iff.1 hc
    cases e
    exact .vptr z 0 g 0 (Phi.has_fz (φ.gl g z hz))
  | func f => simp only [compOpd, Option.some.injEq] at hc; subst hc; exact .func f [] [] #[] #[] rfl rfl (fun i => by simp; exact .undef _) (fun i => by simp; exact .undef _)

/-! ### One operation -/

theorem compBuiltin_call {b : Builtin} {ts : List TypeId} {xs : List Operand} {f : Opd} {args : List Opd} : compBuiltin P b ts xs ≠ some (.call f args) := by
  intro h
  unfold compBuiltin at h
  repeat' split at h
  all_goals first | contradiction | (cases h; done) | (simp at h; done)
theorem compBuiltin_invoke {b : Builtin} {ts : List TypeId} {xs : List Operand} {n : String} {f : Opd} {args : List Opd} : compBuiltin P b ts xs ≠ some (.invoke n f args) := by
  intro h
  unfold compBuiltin at h
  repeat' split at h
  all_goals first | contradiction | (cases h; done) | (simp at h; done)
theorem compOp_call {op : Op} {f' : Opd} {args' : List Opd} (h : compOp P op = some (.call f' args')) :
    ∃ c f, op = .call c ∧ c.callee = .value f ∧ compOpd f = some f' ∧ compOpds c.args.toList = some args' := by
  cases op
  case call c =>
    simp only [compOp] at h
    split at h
    · exact absurd h compBuiltin_call
    · rename_i f hf
      split at h
      · split at h <;> cases h
      · split at h
        · split at h <;> cases h
        · split at h
          · rename_i a b h1 h2
            cases h
            exact ⟨c, f, rfl, hf, h1, h2⟩
          · cases h
    · split at h <;> cases h
  all_goals
    exfalso
    revert h
    simp only [compOp]
    intro h
    repeat' split at h
    all_goals first | contradiction | (cases h; done) | (simp at h; done)
theorem compOp_invoke {op : Op} {n : String} {f' : Opd} {args' : List Opd} (h : compOp P op = some (.invoke n f' args')) :
    ∃ c f, op = .call c ∧ c.callee = .invoke f n ∧ compOpd f = some f' ∧ compOpds c.args.toList = some args' := by
  cases op
  case call c =>
    simp only [compOp] at h
    split at h
    · exact absurd h compBuiltin_invoke
    · split at h
      · split at h <;> cases h
      · split at h
        · split at h <;> cases h
        · split at h <;> cases h
    · rename_i f nm hf
      split at h
      · rename_i a b h1 h2
        cases h
        exact ⟨c, f, rfl, hf, h1, h2⟩
      · cases h
  all_goals
    exfalso
    revert h
    simp only [compOp]
    intro h
    repeat' split at h
    all_goals first | contradiction | (cases h; done) | (simp at h; done)
theorem compOp_nilCheck {op : Op} {x : Opd} (h : compOp P op = some (.v (.nilCheck x))) : ∃ x', op = .nilCheck x' ∧ compOpd x' = some x := by
  cases op
  case nilCheck x' =>
    simp only [compOp] at h
    obtain ⟨y, hy, e⟩ := Option.map_eq_some_iff.1 h
    cases e
    exact ⟨x', rfl, hy⟩
  case call c =>
    exfalso
    simp only [compOp] at h
    split at h
    · unfold compBuiltin at h
      repeat' split at h
      all_goals first | contradiction | (cases h; done) | (simp at h; done)
    · repeat' split at h
      all_goals cases h
    · repeat' split at h
      all_goals cases h
  case binOp op t a b d =>
    exfalso
    simp only [compOp] at h
    obtain ⟨y, hy, e⟩ := Option.map_eq_some_iff.1 h
    cases e
    unfold compBin compEq at hy
    repeat' split at hy
    all_goals first | contradiction | (cases hy; done) | (simp at hy; done)
  all_goals
    exfalso
    revert h
    simp only [compOp]
    intro h
    repeat' split at h
    all_goals first | contradiction | (cases h; done) | (simp at h; done)
theorem compOp_defer {c : Call} : compOp P (.defer c) = none := rfl
theorem compBuiltin_bslice {b : Builtin} {ts : List TypeId} {xs : List Operand} {z n : Nat} {zero : List AV} {ps : List (Nat × Nat × Opd)} : compBuiltin P b ts xs ≠ some (.h (.bslice z n zero ps)) := by
  intro h
  unfold compBuiltin at h
  repeat' split at h
  all_goals first | contradiction | (cases h; done) | (simp at h; done)
theorem compOp_bslice {op : Op} {z n : Nat} {zero : List AV} {ps : List (Nat × Nat × Opd)} (h : compOp P op = some (.h (.bslice z n zero ps))) :
    ∃ t parts e zv, op = .buildSlice t n parts ∧ P.underlying t = some (.slice e) ∧ zeroOf P e = some zv ∧ sizeOf? P e = some z ∧ (zv.cells.length = z ∧ 0 < z ∧ n * z ≤ 2 ^ 24) ∧ zero = zcells zv.cells n ∧ compParts (fun i => some (i * z, z)) parts.toList = some ps := by
  cases op
  case buildSlice t len parts =>
    simp only [compOp] at h
    split at h
    · rename_i e hu
      split at h
      · rename_i zv m hz hn
        split at h
        · rename_i hcond
          obtain ⟨ps', hps, ep⟩ := Option.map_eq_some_iff.1 h
          cases ep
          exact ⟨t, parts, e, zv, rfl, hu, hz, hn, hcond, rfl, hps⟩
        · cases h
      · cases h
    · cases h
  case call c =>
    exfalso
    simp only [compOp] at h
    split at h
    · exact compBuiltin_bslice h
    · repeat' split at h
      all_goals cases h
    · repeat' split at h
      all_goals cases h
  all_goals
    exfalso
    revert h
    simp only [compOp]
    intro h
    repeat' split at h
    all_goals first | contradiction | (cases h; done) | (simp at h; done)

variable {b : Frame} {a : Act} {k : List Item} {cs : List Frame} {w w' : World} {ops : Array Oper} {i : Nat} {rest : List Nat} {o : Oper}

theorem stepR_value (ho : ops[i]? = some o) (hw : Region.wanted o (yielded ops a.tmps) = true) (hd : ∀ c, o.op ≠ .defer c) {v : Value} (h : (execOp a.eval o).run P w = .ok (.value v) w') :
    step P (lone (b.atR a (.inRegion ops (i :: rest) :: k)) cs w) = .next (lone (b.atR (a.put o.dst v) (.inRegion ops rest :: k)) cs w') := by
  have hfin : (b.atR a (.inRegion ops (i :: rest) :: k)).finish v = b.atR (a.put o.dst v) (.inRegion ops rest :: k) := by rw [Frame.finish_atR, ho]; rfl
  rw [← Oper.semAt_eq b.roundOf a.eval o hd] at h
  exact step_lone_go (by rw [stepGR_op ho hw, ← hfin]; simp [stepG.apply, h])
theorem stepR_unit (ho : ops[i]? = some o) (hw : Region.wanted o (yielded ops a.tmps) = true) (hd : ∀ c, o.op ≠ .defer c) (h : (execOp a.eval o).run P w = .ok .skip w') :
    step P (lone (b.atR a (.inRegion ops (i :: rest) :: k)) cs w) = .next (lone (b.atR (a.put o.dst undef) (.inRegion ops rest :: k)) cs w') := by
  have hfin : (b.atR a (.inRegion ops (i :: rest) :: k)).finish undef = b.atR (a.put o.dst undef) (.inRegion ops rest :: k) := by rw [Frame.finish_atR, ho]; rfl
  rw [← Oper.semAt_eq b.roundOf a.eval o hd] at h
  exact step_lone_go (by rw [stepGR_op ho hw, ← hfin]; simp [stepG.apply, h])
theorem stepR_enter (ho : ops[i]? = some o) (hw : Region.wanted o (yielded ops a.tmps) = true) (hd : ∀ c, o.op ≠ .defer c) {f : FuncId} {args : Array Value} (h : (execOp a.eval o).run P w = .ok (.enter f args) w') :
    step P (lone (b.atR a (.inRegion ops (i :: rest) :: k)) cs w) = .next (lone (Frame.enter P f args .normal) (b.atR a (.inRegion ops (i :: rest) :: k) :: cs) w') := by
  rw [← Oper.semAt_eq b.roundOf a.eval o hd] at h
  exact step_lone_go (by rw [stepGR_op ho hw]; simp [stepG.apply, h, Frame.atR])
theorem stepR_round (ho : ops[i]? = some o) (hw : Region.wanted o (yielded ops a.tmps) = true) (hd : ∀ c, o.op ≠ .defer c) {l f : Nat} {tmps : Array Value} {x y : Code} (h : (execOp a.eval o).run P w = .ok (.round l f tmps x y) w') :
    step P (lone (b.atR a (.inRegion ops (i :: rest) :: k)) cs w) = .next (lone (Frame.round l f tmps x y .normal) (b.atR a (.inRegion ops (i :: rest) :: k) :: cs) w') := by
  rw [← Oper.semAt_eq b.roundOf a.eval o hd] at h
  exact step_lone_go (by rw [stepGR_op ho hw]; simp [stepG.apply, h, Frame.atR])

/-- What an operation leaves, as the machine goes. -/
def OPost (P : Program) (p : AProg) (B0 : Nat) (w0 : World) (φ : Phi) (σ : AH) (b : Frame) (a : Act) (ops : Array Oper) (i : Nat) (rest : List Nat) (k : List Item) (cs : List Frame) (w : World) (o : Oper) (v : AV) (σ' : AH) : Prop :=
  ∃ φ' w' v', Steps P (lone (b.atR a (.inRegion ops (i :: rest) :: k)) cs w) (lone (b.atR (a.put o.dst v') (.inRegion ops rest :: k)) cs w') ∧ VR φ' v v' ∧ Ext φ φ' σ σ' ∧ RR P p B0 w0 φ' σ' w'

theorem CPost.op {φ : Phi} {σ σ' : AH} {v : AV} {fr : Frame} (ho : ops[i]? = some o) (h : CPost P p B0 w0 φ σ fr w v σ')
    (hs : step P (lone (b.atR a (.inRegion ops (i :: rest) :: k)) cs w) = .next (lone fr (b.atR a (.inRegion ops (i :: rest) :: k) :: cs) w)) : OPost P p B0 w0 φ σ b a ops i rest k cs w o v σ' := by
  obtain ⟨φ', w', v', h1, h2, h3, h4⟩ := h (b.atR a (.inRegion ops (i :: rest) :: k)) cs
  refine ⟨φ', w', v', .head hs ?_, h2, h3, h4⟩
  rw [Frame.finish_atR, ho] at h1
  exact h1

theorem target_VR {φ : Phi} {x : AV} {v : Value} (h : VR φ x v) {t : Tgt} {xs ys : List AV} (ht : target x = some (t, xs, ys)) :
    ∃ fn vx vy, v = .func fn vx vy ∧ VRL φ xs vx.toList ∧ VRL φ ys vy.toList ∧ match t with
      | .fn f => fn = .func f
      | .yield l => ∃ pl, φ l = some pl ∧ fn = .yield pl.b := by
  cases h <;> simp only [target] at ht <;> try (cases ht; done)
  case func f xs' ys' vx vy hx hy h1 h2 =>
    cases ht
    exact ⟨_, vx, vy, rfl, VRL.of_array hx h1, VRL.of_array hy h2, rfl⟩
  case yield l pl xs' ys' vx vy h hx hy h1 h2 =>
    cases ht
    exact ⟨_, vx, vy, rfl, VRL.of_array hx h1, VRL.of_array hy h2, pl, h, rfl⟩

theorem op_step (hP : CompP P p) {C : Caller} (hC : CallerOK P p B0 w0 C) {φ : Phi} {σ σ' : AH} {ao : AOp} {v : AV} {N : Nat} {env : Env} (hc : compOp P o.op = some ao) (hE : EnvR φ N env a.tmps) (hR : RR P p B0 w0 φ σ w)
    (hv : aop p C (Opd.ev env) σ ao = some (v, σ')) (ho : ops[i]? = some o) (hw : Region.wanted o (yielded ops a.tmps) = true) : OPost P p B0 w0 φ σ b a ops i rest k cs w o v σ' := by
  have hρ := opdR_of hE
  have hd : ∀ c, o.op ≠ .defer c := by
    intro c e
    rw [e, compOp_defer] at hc
    cases hc
  cases ao with
  | v vo =>
    simp only [aop] at hv
    obtain ⟨y, hy, e⟩ := Option.map_eq_some_iff.1 hv
    cases e
    rcases avopM_some hy with hy2 | ⟨x, rfl, hy2⟩
    · obtain ⟨v', h1, h2⟩ := vop_sound hρ hc hy2 w
      exact ⟨φ, w, v', .one (stepR_value ho hw hd h1), h2, Ext.refl _ _, hR⟩
    · obtain ⟨x', hop, hx'⟩ := compOp_nilCheck hc
      obtain ⟨name, t, u, g, hxe, hm, hve⟩ := nilM_some hy2
      subst hve
      have hr := hρ.rel _ _ hx'
      rw [hxe] at hr
      generalize hre : a.eval x' = rv at hr
      cases hr with
      | meth _ _ v0 hv0 =>
        cases hv0 with
        | iface _ _ v1 hv1 =>
          refine ⟨φ, w, .func (.method name) #[.iface t v1] #[], .one (stepR_value ho hw hd ?_), by rw [hxe]; exact .meth name _ _ (.iface t u v1 hv1), Ext.refl _ _, hR⟩
          obtain ⟨dst, op, ty, pos, after, guard⟩ := o
          simp only at hop
          subst hop
          have hnil := hP.nilM _ _ _ hm v1 w
          simp [execOp, hre, hnil]
  | h x =>
    simp only [aop] at hv
    obtain ⟨φ', w', n, h1, h2, h3, h4⟩ := hop_sound hR hρ hc hv
    rcases h2 with ⟨v', rfl, h2⟩ | ⟨rfl, rfl⟩
    · exact ⟨φ', w', v', .one (stepR_value ho hw hd h1), h2, h3, h4⟩
    · exact ⟨φ', w', undef, .one (stepR_unit ho hw hd h1), .undef _, h3, h4⟩
  | call f' args' =>
    obtain ⟨c, f, hop, hcal, hf, hargs⟩ := compOp_call hc
    have hvs := hρ.list hargs
    have hfv := hρ.rel _ _ hf
    simp only [aop] at hv
    split at hv
    · rename_i g xs ys ht
      obtain ⟨fn, vx, vy, hfe, hx, hy, rfl⟩ := target_VR hfv ht
      have hrun := hC _ _ _ _ _ hv φ w (vx.toList ++ c.args.toList.map a.eval ++ vy.toList) hR ((hx.append hvs).append hy)
      obtain ⟨hcall, hpost⟩ := hrun
      refine hpost.op ho (stepR_enter ho hw hd ?_)
      obtain ⟨dst, op, ty, pos, after, guard⟩ := o
      simp only at hop
      subst hop
      have e1 : (vx.toList ++ c.args.toList.map a.eval ++ vy.toList).toArray = vx ++ c.args.map a.eval ++ vy := by
        apply Array.toList_inj.1; simp
      rw [e1] at hcall ⊢
      simp only [execOp, resolve, hcal, Deferred.ofValue, hfe, invoke, Sem.run_bind, Sem.run_pure, Result.andThen, hcall]
    · rename_i l xs ys ht
      obtain ⟨fn, vx, vy, hfe, hx, hy, pl, hl, rfl⟩ := target_VR hfv ht
      have hrun := hC _ _ _ _ _ hv φ w (vx.toList ++ c.args.toList.map a.eval) hR (hx.append hvs)
      obtain ⟨rf, tmps, asg, body, hcall, hpost⟩ := hrun pl hl
      refine hpost.op ho (stepR_round ho hw hd ?_)
      obtain ⟨dst, op, ty, pos, after, guard⟩ := o
      simp only at hop
      subst hop
      have e1 : (vx.toList ++ c.args.toList.map a.eval).toArray = vx ++ c.args.map a.eval := by
        apply Array.toList_inj.1; simp
      rw [e1] at hcall
      simp only [execOp, resolve, hcal, Deferred.ofValue, hfe, invoke, Sem.run_bind, Sem.run_pure, Result.andThen, hcall]
    · cases hv
  | invoke name f' args' =>
    obtain ⟨c, f, hop, hcal, hf, hargs⟩ := compOp_invoke hc
    have hvs := hρ.list hargs
    have hfv := hρ.rel _ _ hf
    simp only [aop] at hv
    split at hv
    · rename_i t x hx
      split at hv
      · rename_i g hm
        rw [hx] at hfv
        generalize hre : a.eval f = rv at hfv
        cases hfv with
        | iface _ _ v0 hv0 =>
        have hrun := hC _ _ _ _ _ hv φ w (v0 :: c.args.toList.map a.eval) hR (VRL.cons hv0 hvs)
        obtain ⟨hcall, hpost⟩ := hrun
        refine hpost.op ho (stepR_enter ho hw hd ?_)
        obtain ⟨dst, op, ty, pos, after, guard⟩ := o
        simp only at hop
        subst hop
        have e1 : (v0 :: c.args.toList.map a.eval).toArray = #[v0] ++ c.args.map a.eval := by
          apply Array.toList_inj.1; simp
        rw [e1] at hcall ⊢
        have hmeth := hP.meth _ _ _ hm v0 w
        have e2 : ∀ q : Array Value, (#[Value.iface t v0] ++ q)[0]? = some (.iface t v0) := fun q => by cases q; simp
        have e3 : ∀ q : Array Value, (#[Value.iface t v0] ++ q).extract 1 (#[Value.iface t v0] ++ q).size = q := fun q => by cases q; simp [Array.extract_append]
        simp only [execOp, resolve, hcal, hre, invoke, Sem.run_bind, Sem.run_pure, Result.andThen, e2, e3, callMethod, run_program, hmeth, hcall]
      · cases hv
    · cases hv
  | fail => simp [aop] at hv

/-- The same for what an operation of a region whose order is open is compiled to. -/
theorem tsl_step {C : Caller} {φ : Phi} {σ σ' : AH} {z n : Nat} {zero : List AV} {ps : List (Nat × Nat × Opd)} {v : AV} {N : Nat} {env : Env} (hc : compOp P o.op = some (.h (.bslice z n zero ps))) (hE : EnvR φ N env a.tmps) (hR : RR P p B0 w0 φ σ w)
    (hv : aop p C (Opd.ev env) σ (.h (.tslice z n zero ps)) = some (v, σ')) (ho : ops[i]? = some o) (hw : Region.wanted o (yielded ops a.tmps) = true) : OPost P p B0 w0 φ σ b a ops i rest k cs w o v σ' := by
  have hρ := opdR_of hE
  have hd : ∀ c, o.op ≠ .defer c := by
    intro c e
    rw [e, compOp_defer] at hc
    cases hc
  obtain ⟨t, parts, e, zv, hop, hu, hz, hn, ⟨hzn, h0, hmax⟩, rfl, hps⟩ := compOp_bslice hc
  simp only [aop, ahop] at hv
  split at hv
  · rename_i cs' hcs
    cases hv
    obtain ⟨φ', w', n', h1, h2, h3, h4⟩ := (h_tslice hR hρ hu hz hn hzn h0 hmax hps hcs).next
    have h1 : (execOp a.eval o).run P w = .ok n' w' := by
      obtain ⟨dst, op, ty, pos, after, guard⟩ := o
      simp only at hop
      subst hop
      exact h1
    rcases h2 with ⟨v', rfl, h2⟩ | ⟨rfl, hx⟩
    · exact ⟨φ', w', v', .one (stepR_value ho hw hd h1), h2, h3, h4⟩
    · cases hx
  · cases hv
end
end Go.Oct
end
/- Regions, code and loops: what the abstract interpreter runs, the machine runs. -/
section
set_option linter.unusedVariables false
set_option linter.unusedSimpArgs false
set_option linter.unusedSectionVars false
namespace Go.Oct
variable [Gl]
open Go.RowKit

section
variable {P : Program} {p : AProg} {B0 : Nat} {w0 : World}

theorem wanted_ok {φ : Phi} {N : Nat} {env : Env} {a : Act} (hE : EnvR φ N env a.tmps) {ops : Array Oper} {o : Oper} {g : Option (Nat × Bool)} (hg : guardOf ops o.guard = some g) {r : Bool} (hw : wantedA env g = some r) :
    Region.wanted o (yielded ops a.tmps) = r := by
  unfold Region.wanted
  cases ho : o.guard with
  | none =>
    rw [ho] at hg
    cases hg
    cases hw
    rfl
  | some jw =>
    obtain ⟨j, want⟩ := jw
    rw [ho] at hg
    simp only [guardOf] at hg
    split at hg
    · rename_i d hd
      cases hg
      simp only [yielded, hd, Option.bind_some]
      have hv := hE.get d
      simp only [wantedA] at hw
      have e : ∀ x, a.tmps[d]? = some x → a.tmps.getD d undef = x := fun x hx => by simp [Array.getD_eq_getD_getElem?, hx]
      split at hw
      · rename_i bb hb
        cases hw
        rw [hb] at hv
        cases hx : a.tmps[d]? with
        | none =>
          rw [Array.getD_eq_getD_getElem?, hx] at hv
          exact absurd hv (by intro h; cases h)
        | some x =>
          rw [e x hx] at hv
          cases hv
          simp only
          cases bb <;> cases want <;> rfl
      · cases hw
      · rename_i hb hu
        cases hw
        have : ∀ bb, a.tmps[d]? ≠ some (.bool bb) := by
          intro bb hx
          rw [e _ hx] at hv
          generalize env.get d = q at hv hb hu
          cases hv
          · exact hu rfl
          · exact hb _ rfl
        split
        · rename_i bb hx
          exact absurd hx (this bb)
        · rfl
    · cases hg

theorem EnvR.put {φ : Phi} {N : Nat} {env : Env} {a : Act} (h : EnvR φ N env a.tmps) {d : Option Nat} (hd : ∀ x, d = some x → x < N) {v : AV} {v' : Value} (hv : VR φ v v') : EnvR φ N (putDst env d v) (a.put d v').tmps := by
  cases d with
  | none => exact h
  | some d => exact h.set (hd d rfl) hv
theorem put_defers (a : Act) (d : Option Tmp) (v : Value) : (a.put d v).defers = a.defers := by cases d <;> rfl

theorem VR.skip (φ : Phi) : VR φ (.tuple []) Go.undef := .tuple [] #[] rfl (fun i => VR.undef _)

/-- What operations of a region leave. -/
def RPost (P : Program) (p : AProg) (B0 : Nat) (w0 : World) (φ : Phi) (σ : AH) (N : Nat) (b : Frame) (a : Act) (ops : Array Oper) (l : List Nat) (k : List Item) (cs : List Frame) (w : World) (env' : Env) (σ' : AH) : Prop :=
  ∃ φ' w' a', Steps P (lone (b.atR a (.inRegion ops l :: k)) cs w) (lone (b.atR a' (.inRegion ops [] :: k)) cs w') ∧ a'.defers = a.defers ∧ EnvR φ' N env' a'.tmps ∧ Ext φ φ' σ σ' ∧ RR P p B0 w0 φ' σ' w'

theorem ops_sound (hP : CompP P p) {C : Caller} (hC : CallerOK P p B0 w0 C) {N : Nat} {ops : Array Oper} {cls : AOp → Nat → Cls} {b : Frame} {k : List Item} {cs : List Frame} (hd : ∀ o ∈ ops, ∀ d, o.dst = some d → d < N) :
    ∀ (os : List Oper) (as : List AOp) (aos : List AOper) (j : Nat), compOps P os = some as → compOpers ops cls os as j = some aos → (∀ m o, os[m]? = some o → ops[j + m]? = some o) →
    ∀ (env env' : Env) (σ σ' : AH) (φ : Phi) (w : World) (a : Act), aops p C aos env σ = some (env', σ') → EnvR φ N env a.tmps → RR P p B0 w0 φ σ w →
    RPost P p B0 w0 φ σ N b a ops (List.range' j os.length) k cs w env' σ'
  | [], as, aos, j, hc, hcs, hin, env, env', σ, σ', φ, w, a, hv, hE, hR => by
    simp only [compOps, Option.some.injEq] at hc
    subst hc
    simp only [compOpers, Option.some.injEq] at hcs
    subst hcs
    simp only [aops, Option.some.injEq, Prod.mk.injEq] at hv
    obtain ⟨rfl, rfl⟩ := hv
    exact ⟨φ, w, a, .refl _ _, rfl, hE, Ext.refl _ _, hR⟩
  | o :: os, as, aos, j, hc, hcs, hin, env, env', σ, σ', φ, w, a, hv, hE, hR => by
    simp only [compOps] at hc
    split at hc
    · rename_i x xs hx hxs
      cases hc
      simp only [compOpers] at hcs
      split at hcs
      · rename_i g r hg hr
        cases hcs
        have ho : ops[j]? = some o := hin 0 o rfl
        have hin' : ∀ m o, os[m]? = some o → ops[j + 1 + m]? = some o := fun m o' hm => by
          have := hin (m + 1) o' (by simpa using hm)
          rw [← this]; congr 1; omega
        have hdo : ∀ x, o.dst = some x → x < N := hd o (Array.mem_of_getElem? ho)
        have hr' : List.range' j (o :: os).length = j :: List.range' (j + 1) os.length := by simp [List.range'_succ]
        rw [hr']
        simp only [aops] at hv
        split at hv
        · rename_i hw
          split at hv
          · rename_i v σ1 hop
            obtain ⟨φ1, w1, v1, s1, s2, s3, s4⟩ := op_step (b := b) (k := k) (cs := cs) (rest := List.range' (j + 1) os.length) hP hC hx hE hR hop ho (wanted_ok hE hg hw)
            obtain ⟨φ2, w2, a2, r1, r2, r3, r4, r5⟩ := ops_sound hP hC hd os xs r (j + 1) hxs hr hin' _ _ _ _ φ1 w1 (a.put o.dst v1) hv ((hE.mono s3.le).put hdo s2) s4
            exact ⟨φ2, w2, a2, s1.trans r1, by rw [r2, put_defers], r3, s3.trans r4, r5⟩
          · cases hv
        · rename_i hw
          have hskip : ((ops[j]?).map (Region.wanted · (yielded ops a.tmps))).getD false = false := by
            rw [ho]; exact wanted_ok hE hg hw
          have s1 := stepR_op_skip (P := P) (b := b) (a := a) (k := k) (cs := cs) (w := w) (rest := List.range' (j + 1) os.length) hskip
          rw [ho] at s1
          simp only [Option.bind_some] at s1
          obtain ⟨φ2, w2, a2, r1, r2, r3, r4, r5⟩ := ops_sound hP hC hd os xs r (j + 1) hxs hr hin' _ _ _ _ φ w (a.put o.dst undef) hv (hE.put hdo (VR.skip _)) hR
          exact ⟨φ2, w2, a2, .head s1 r1, by rw [r2, put_defers], r3, r4, r5⟩
        · cases hv
      · cases hcs
    · cases hc

theorem R.drawn {LC : LCode} {N : Nat → Nat} {φ : Phi} {σ : AH} {w : World} (h : R LC N B0 w0 φ σ w) (n : Nat) : R LC N B0 w0 φ σ { w with drawn := n } :=
  ⟨h.below.trans ⟨rfl, rfl, rfl, Nat.le_refl _, fun _ _ => rfl⟩, h.size, h.dom, fun i pl e => let ⟨o, h1, h2⟩ := h.obj i pl e; ⟨o, h1, h2.heap rfl⟩, h.own, h.base, h.frz⟩

/-- Regions whose order is open. -/
def DrawOK (P : Program) (p : AProg) (B0 : Nat) (w0 : World) (C : Caller) : Prop :=
  ∀ (ops : Array Oper) (os : List AOper), compRegion P ops true = some os → ∀ (N : Nat), (∀ o ∈ ops, ∀ d, o.dst = some d → d < N) →
    ∀ (env env' : Env) (σ σ' : AH) (φ : Phi) (w : World) (a : Act) (b : Frame) (k : List Item) (cs : List Frame) (t : Nat), adraw p C os env σ ⟨σ.next, [], []⟩ = some (env', σ') →
    EnvR φ N env a.tmps → RR P p B0 w0 φ σ w → RPost P p B0 w0 φ σ N b a ops (Region.schedule (P.follows .mixedOrders) ops t) k cs w env' σ'

/-- How code is left. -/
def Arr (P : Program) (m : Machine) (b : Frame) (k : List Item) (cs : List Frame) : AEx → Act → World → Prop
  | .normal, a, w => Steps P m (lone (b.atR a k) cs w)
  | .exit id, a, w => ∃ k1, exitTo id k1 = exitTo id k ∧ Steps P m (lone (b.atR a (.code (.exit id) :: k1)) cs w)
  | .ret, a, w => ∃ k1, Steps P m (lone (b.atR a (.code .ret :: k1)) cs w)
theorem Arr.of_steps {m m1 : Machine} {b : Frame} {k : List Item} {cs : List Frame} {ex : AEx} {a : Act} {w : World} (h : Steps P m m1) (h' : Arr P m1 b k cs ex a w) : Arr P m b k cs ex a w := by
  cases ex with
  | normal => exact h.trans h'
  | exit id => obtain ⟨k1, e, s⟩ := h'; exact ⟨k1, e, h.trans s⟩
  | ret => obtain ⟨k1, s⟩ := h'; exact ⟨k1, h.trans s⟩

/-- What code leaves. -/
def CodePost (P : Program) (p : AProg) (B0 : Nat) (w0 : World) (φ : Phi) (σ : AH) (f : Nat) (m : Machine) (b : Frame) (k : List Item) (cs : List Frame) (ex : AEx) (fr' : Fr) (σ' : AH) : Prop :=
  ∃ φ' w' a', Arr P m b k cs ex a' w' ∧ FrR P φ' f fr' a' ∧ Ext φ φ' σ σ' ∧ RR P p B0 w0 φ' σ' w'
theorem CodePost.of_steps {φ : Phi} {σ : AH} {f : Nat} {m m1 : Machine} {b : Frame} {k : List Item} {cs : List Frame} {ex : AEx} {fr' : Fr} {σ' : AH} (h : Steps P m m1) (h' : CodePost P p B0 w0 φ σ f m1 b k cs ex fr' σ') :
    CodePost P p B0 w0 φ σ f m b k cs ex fr' σ' := by
  obtain ⟨φ', w', a', h1, h2⟩ := h'
  exact ⟨φ', w', a', h1.of_steps h, h2⟩
/-- An item that no exit stops at. -/
theorem CodePost.pass {φ : Phi} {σ : AH} {f : Nat} {m : Machine} {b : Frame} {x : Item} {k : List Item} {cs : List Frame} {ex : AEx} {fr' : Fr} {σ' : AH} (hx : ∀ id, exitTo id (x :: k) = exitTo id k) (hn : ex ≠ .normal)
    (h : CodePost P p B0 w0 φ σ f m b (x :: k) cs ex fr' σ') : CodePost P p B0 w0 φ σ f m b k cs ex fr' σ' := by
  obtain ⟨φ', w', a', h1, h2⟩ := h
  refine ⟨φ', w', a', ?_, h2⟩
  cases ex with
  | normal => exact absurd rfl hn
  | exit id => obtain ⟨k1, e, s⟩ := h1; exact ⟨k1, e.trans (hx id), s⟩
  | ret => exact h1

/-- What is asked of a piece of code. -/
def CodeOK (P : Program) (p : AProg) (B0 : Nat) (w0 : World) (C : Caller) (n : Nat) (f : Nat) (rd : Option Nat) (c : Code) (ac : ACode) : Prop :=
  ∀ (fr : Fr) (σ : AH) (ex : AEx) (fr' : Fr) (σ' : AH), acode p C n f rd ac fr σ = some (ex, fr', σ') →
    ∀ (φ : Phi) (w : World) (a : Act) (b : Frame) (k : List Item) (cs : List Frame), RR P p B0 w0 φ σ w → FrR P φ f fr a → BOK φ f rd b →
    CodePost P p B0 w0 φ σ f (lone (b.atR a (.code c :: k)) cs w) b k cs ex fr' σ'

section steps
variable {b : Frame} {a : Act} {k : List Item} {cs : List Frame} {w : World}
theorem stepR_scope {c : Code} : step P (lone (b.atR a (.code (.scope c) :: k)) cs w) = .next (lone (b.atR a (.code c :: .inScope c :: k)) cs w) :=
  step_lone_go (by simp [stepG, stepG.exec, Frame.atR])
theorem stepR_inScope {c : Code} : step P (lone (b.atR a (.inScope c :: k)) cs w) = .next (lone (b.atR a k) cs w) :=
  step_lone_go (by simp [stepG, stepG.exec, Frame.atR])
end steps

theorem loop_sound {C : Caller} {n : Nat} {f : Nat} {rd : Option Nat} {c : Code} {ac : ACode} (h : CodeOK P p B0 w0 C n f rd c ac) {b : Frame} {k : List Item} {cs : List Frame} :
    ∀ (m : Nat) (fr : Fr) (σ : AH) (ex : AEx) (fr' : Fr) (σ' : AH), aloop (acode p C n f rd ac) m fr σ = some (ex, fr', σ') → ∀ (φ : Phi) (w : World) (a : Act), RR P p B0 w0 φ σ w → FrR P φ f fr a → BOK φ f rd b →
    CodePost P p B0 w0 φ σ f (lone (b.atR a (.code c :: .inLoop c :: k)) cs w) b k cs ex fr' σ'
  | 0, _, _, _, _, _, hv, _, _, _, _, _, _ => by simp [aloop] at hv
  | m + 1, fr, σ, ex, fr', σ', hv, φ, w, a, hR, hF, hB => by
    simp only [aloop] at hv
    split at hv
    · rename_i fr1 σ1 h1
      obtain ⟨φ1, w1, a1, s1, s2, s3, s4⟩ := h fr σ _ _ _ h1 φ w a b (.inLoop c :: k) cs hR hF hB
      obtain ⟨φ2, w2, a2, r1, r2, r3, r4⟩ := loop_sound h m fr1 σ1 ex fr' σ' hv φ1 w1 a1 s4 s2 (hB.mono s3.le)
      exact ⟨φ2, w2, a2, r1.of_steps (Steps.trans s1 (.one stepR_inLoop)), r2, s3.trans r3, r4⟩
    · rename_i hne
      refine CodePost.pass (x := .inLoop c) (fun _ => rfl) ?_ (h fr σ _ _ _ hv φ w a b (.inLoop c :: k) cs hR hF hB)
      rintro rfl
      exact hne _ _ hv

end
end Go.Oct
end
/- Loops over functions, calls and rounds: what the abstract interpreter runs, the machine runs. -/
section
set_option linter.unusedVariables false
set_option linter.unusedSimpArgs false
set_option linter.unusedSectionVars false
namespace Go.Oct
variable [Gl]
open Go.RowKit

section
variable {P : Program} {p : AProg} {B0 : Nat} {w0 : World}

theorem turned_putObj {b : Nat} {w : World} {o : Obj} (h : b < w.heap.size) : Turned b w (w.putObj b o) :=
  ⟨rfl, rfl, rfl, World.putObj_size, fun k hk => World.putObj_heap_other hk⟩

theorem VR.yieldOf {φ : Phi} {l : Nat} {pl : Place} (h : φ l = some pl) : VR φ (.func (.yield l) [] []) (.func (.yield pl.b) #[] #[]) :=
  .yield l pl [] [] #[] #[] h rfl rfl (fun i => VR.undef _) (fun i => VR.undef _)

/-- Behind the call of the function that is ranged over. -/
theorem range_end {φ φ1 : Phi} {σ σ2 : AH} {f : Nat} {b : Frame} {a : Act} {k : List Item} {cs : List Frame} {w2 : World} {m : Machine} {fr : Fr} {l : Nat} {pl : Place}
    {f' i' : Nat} {env : Env} {st : LoopState} {pend : Option AEx} {d' : Nat} (hl : φ1 l = some pl) (hg : σ2.get l = some (.loop f' i' env st pend d')) (hst : st ≠ .busy) (hlim : σ2.lim ≤ l)
    (hR : RR P p B0 w0 φ1 σ2 w2) (hs : Steps P m (lone (b.atR a (.endRangeFunc pl.b :: k)) cs w2)) (hF : FrR P φ1 f fr a) (he : Ext φ φ1 σ σ2) :
    CodePost P p B0 w0 φ σ f m b k cs (pend.getD .normal) fr (σ2.set l (.loop f' i' env .exhausted pend d')) := by
  obtain ⟨o, g1, g2⟩ := hR.obj l pl hl
  rw [hg] at g1; cases g1
  obtain ⟨r, h1, h2, h3, h4, h5, h6, pd, h7, h8⟩ := g2
  have hlt := (hR.dom l pl hl).2
  have hend := run_endLoop (P := P) h1 (by rw [h3]; exact hst)
  have hR' := hR.set hl hlim hg rfl (.loop f' i' env .exhausted pend d') (turned_putObj (o := .loop { r with state := .exhausted }) hlt)
    ⟨{ r with state := .exhausted }, World.putObj_heap_same hlt, h2, rfl, h4, h5, h6, pd, h7, h8⟩
  have hstep : ∀ q, q = r.pending → step P (lone (b.atR a (.endRangeFunc pl.b :: k)) cs w2) = .next (lone (b.atR a ((q.map Item.code).toList ++ k)) cs (w2.putObj pl.b (.loop { r with state := .exhausted }))) := by
    intro q e
    subst e
    exact stepR_endRangeFunc (P := P) (b := b) (a := a) (k := k) (cs := cs) hend
  refine ⟨φ1, _, a, ?_, hF, ⟨he.le, he.new, he.full, he.next, he.lim, he.fzn⟩, hR'⟩
  unfold pendR at h4
  cases hq : pend.getD AEx.normal with
  | normal =>
    rw [hq] at h4
    exact hs.trans (.one (hstep _ h4))
  | exit id =>
    rw [hq] at h4
    exact ⟨k, rfl, hs.trans (.one (hstep _ h4))⟩
  | ret =>
    rw [hq] at h4
    exact ⟨k, hs.trans (.one (hstep _ h4))⟩

theorem range_sound {C : Caller} (hC : CallerOK P p B0 w0 C) {n f : Nat} {rd : Option Nat} {af : AFunc} (haf : p.funcs.get f = some af) {g : Operand} {g' : Opd} {ps : Array Tmp} {x y : Code} {x' y' : ACode} {i : Nat}
    (hg : compOpd g = some g') (hl : af.loops[i]? = some ⟨ps.toList, x', y'⟩) (hp : ∀ t ∈ ps.toList, t < Ntm P f) (h1 : CC P (Ntm P f) af.loops x x') (h2 : CC P (Ntm P f) af.loops y y') :
    CodeOK P p B0 w0 C n f rd (.rangeFunc g ps x y) (.rangeFunc i g') := by
  intro fr σ ex fr' σ' hv φ w a b k cs hR hF hB
  have hLC : LCs P p f i ps x y := ⟨af, ⟨ps.toList, x', y'⟩, haf, hl, rfl, hp, h1, h2⟩
  have hgv := (opdR_of hF.env).rel _ _ hg
  simp only [acode] at hv
  split at hv
  · rename_i gf xs ys ht
    obtain ⟨fn, vx, vy, hfe, hx, hy, rfl⟩ := target_VR hgv ht
    -- the record is laid
    have main : ∀ (marks : List Nat) (d : Nat) (σ1 : AH) (φ1 : Phi) (w1 : World) (mk : List Deferred) (pd : Place), RR P p B0 w0 φ1 σ1 w1 → Ext φ φ1 σ σ1 → DefR φ1 marks (mk ++ a.defers) → φ1 d = some pd →
        (Instr.enterLoop b.fn a.tmps ps x y b.roundOf).run P w = .ok (w1.heap.size, mk) (w1.alloc (.loop { state := .ready, pending := none, fn := b.fn, tmps := a.tmps, params := ps, assign := x, body := y, defers := pd.b })) →
        (match C (.fn gf) (xs ++ [.func (.yield σ1.next) [] []] ++ ys) (σ1.push (.loop f i fr.env .ready none d)) with
        | some (_, σ2) => match σ2.get σ1.next with
          | some (.loop f' i' env st pend d') =>
            match st with
            | .busy => none
            | _ => if σ2.lim ≤ σ1.next then some (pend.getD .normal, { fr with marks }, σ2.set σ1.next (.loop f' i' env .exhausted pend d')) else none
          | _ => none
        | none => none) = some (ex, fr', σ') → CodePost P p B0 w0 φ σ f (lone (b.atR a (.code (.rangeFunc g ps x y) :: k)) cs w) b k cs ex fr' σ' := by
      intro marks d σ1 φ1 w1 mk pd hR1 he1 hD hd hent hv
      have hEnv : EnvR (φ1.put σ1.next ⟨w1.heap.size, 0, 0⟩) (Ntm P f) fr.env a.tmps := hF.env.mono (Phi.le_trans he1.le (Phi.le_put hR1.fresh))
      obtain ⟨hR2, he2⟩ := hR1.push (w' := w1.alloc (.loop { state := .ready, pending := none, fn := b.fn, tmps := a.tmps, params := ps, assign := x, body := y, defers := pd.b }))
        (.loop f i fr.env .ready none d) (.loop { state := .ready, pending := none, fn := b.fn, tmps := a.tmps, params := ps, assign := x, body := y, defers := pd.b }) 0 rfl rfl rfl rfl
        ⟨_, World.alloc_heap_new _ _, hB.fn, rfl, rfl, hEnv, hLC, pd, by
          rw [Phi.put_other]; exact hd
          have := (hR1.dom d pd hd).1
          omega, rfl⟩
      have hyl : (φ1.put σ1.next ⟨w1.heap.size, 0, 0⟩) σ1.next = some ⟨w1.heap.size, 0, 0⟩ := Phi.put_same _ _ _
      have hargs : VRL (φ1.put σ1.next ⟨w1.heap.size, 0, 0⟩) (xs ++ [.func (.yield σ1.next) [] []] ++ ys) (vx.toList ++ [.func (.yield w1.heap.size) #[] #[]] ++ vy.toList) :=
        ((hx.mono (he1.trans he2).le).append (VRL.cons (VR.yieldOf hyl) (VRL.nil _))).append (hy.mono (he1.trans he2).le)
      split at hv
      · rename_i v2 σ2 hcall
        obtain ⟨hcf, hpost⟩ := hC _ _ _ _ _ hcall _ _ _ hR2 hargs
        obtain ⟨φ3, w3, v3, s1, s2, s3, s4⟩ := hpost (b.atR { a with defers := mk ++ a.defers } (.inRangeFunc w1.heap.size :: k)) cs
        rw [finish_atR_inRangeFunc] at s1
        have e1 : (vx.toList ++ [Value.func (.yield w1.heap.size) #[] #[]] ++ vy.toList).toArray = vx ++ #[Value.func (.yield w1.heap.size) #[] #[]] ++ vy := by
          apply Array.toList_inj.1; simp
        rw [e1] at hcf s1
        have hres : (resolve a.eval (rangeCall g w1.heap.size) 0).run P (w1.alloc (.loop { state := .ready, pending := none, fn := b.fn, tmps := a.tmps, params := ps, assign := x, body := y, defers := pd.b })) =
            .ok { target := .fn (.func gf) vy, args := vx ++ #[.func (.yield w1.heap.size) #[] #[]] } (w1.alloc (.loop { state := .ready, pending := none, fn := b.fn, tmps := a.tmps, params := ps, assign := x, body := y, defers := pd.b })) := by
          have e2 : (#[Operand.const (.func (.yield w1.heap.size) #[] #[])].map a.eval) = #[Value.func (.yield w1.heap.size) #[] #[]] := by simp [Act.eval]
          simp only [resolve, rangeCall, Deferred.ofValue, hfe, e2, Sem.run_pure]
        have hs0 := stepR_rangeFunc (k := k) (cs := cs) hent hres (by simp only [invoke]; exact hcf)
        split at hv
        · rename_i f' i' env st pend d' hgl
          have hst : st ≠ .busy := by
            rintro rfl
            simp at hv
          have hv2 : (if σ2.lim ≤ σ1.next then some (pend.getD .normal, ({ fr with marks } : Fr), σ2.set σ1.next (.loop f' i' env .exhausted pend d')) else none) = some (ex, fr', σ') := by
            cases st <;> first | exact absurd rfl hst | exact hv
          split at hv2
          · rename_i hlim
            cases hv2
            exact range_end (s3.le _ _ hyl) hgl hst hlim s4 (.head hs0 s1) ⟨hF.env.mono (Phi.le_trans (he1.trans he2).le s3.le), hD.mono (Phi.le_trans he2.le s3.le)⟩ ((he1.trans he2).trans s3)
          · cases hv2
        · cases hv
      · cases hv
    cases rd with
    | none =>
      simp only at hv
      obtain ⟨hR1, he1⟩ := hR.push (w' := w.alloc (.deferred (some []))) .dfr (.deferred (some [])) 0 rfl rfl rfl rfl (World.alloc_heap_new _ _)
      have hput : (φ.put σ.next ⟨w.heap.size, 0, 0⟩) σ.next = some ⟨w.heap.size, 0, 0⟩ := Phi.put_same _ _ _
      refine main _ _ _ _ _ [{ target := .collected w.heap.size, args := #[] }] ⟨w.heap.size, 0, 0⟩ hR1 he1 (.cons hput (hF.defs.mono he1.le)) hput ?_ hv
      rw [hB.none rfl, run_enterLoop_outer, World.size_alloc]
    | some l0 =>
      obtain ⟨pl0, e1, e2⟩ := hB.some l0 rfl
      simp only at hv
      split at hv
      · rename_i marks d σ1 hst
        split at hst
        · rename_i lf li lenv lst lpend ld hgl
          cases hst
          obtain ⟨o, g1, g2⟩ := hR.obj l0 pl0 e1
          rw [hgl] at g1; cases g1
          obtain ⟨r, q1, q2, q3, q4, q5, q6, pd, q7, q8⟩ := g2
          refine main _ _ _ _ w [] pd hR (Ext.refl _ _) hF.defs q7 ?_ hv
          rw [e2, run_enterLoop_inner q1, q8]
        · cases hst
      · cases hv
  · cases hv

theorem code_sound (hP : CompP P p) {C : Caller} (hC : CallerOK P p B0 w0 C) (hD : DrawOK P p B0 w0 C) {n f : Nat} {rd : Option Nat} {af : AFunc} (haf : p.funcs.get f = some af) {c : Code} {ac : ACode}
    (h : CC P (Ntm P f) af.loops c ac) : CodeOK P p B0 w0 C n f rd c ac := by
  induction h with
  | skip =>
    intro fr σ ex fr' σ' hv φ w a b k cs hR hF hB
    cases hv
    exact ⟨φ, w, a, .one stepR_skip, hF, Ext.refl _ _, hR⟩
  | label l =>
    intro fr σ ex fr' σ' hv φ w a b k cs hR hF hB
    cases hv
    exact ⟨φ, w, a, .one stepR_label, hF, Ext.refl _ _, hR⟩
  | region id ops draw os ks hcr hd =>
    intro fr σ ex fr' σ' hv φ w a b k cs hR hF hB
    cases draw with
    | false =>
      simp only [acode] at hv
      split at hv
      · rename_i env σ1 ho
        cases hv
        unfold compRegion at hcr
        split at hcr
        · rename_i as has
          simp only [Bool.false_eq_true, if_false] at hcr
          obtain ⟨φ1, w1, a1, s1, s2, s3, s4, s5⟩ := ops_sound (b := b) (k := k) (cs := cs) hP hC hd ops.toList as os 0 has hcr (fun m o hm => by simpa using hm) _ _ _ _ φ w a ho hF.env hR
          refine ⟨φ1, w1, a1, ?_, ⟨s3.keep ks, by rw [s2]; exact hF.defs.mono s4.le⟩, s4, s5⟩
          have hrange : List.range' 0 ops.toList.length = List.range ops.size := by rw [List.range_eq_range']; simp
          rw [hrange] at s1
          exact .head stepR_region (s1.trans (.one stepR_region_end))
        · cases hcr
      · cases hv
    | true =>
      simp only [acode] at hv
      split at hv
      · rename_i env σ1 ho
        cases hv
        obtain ⟨φ1, w1, a1, s1, s2, s3, s4, s5⟩ := hD ops os hcr _ hd _ _ _ _ φ { w with drawn := w.drawn + 1 } a b k cs (w.tape w.drawn (.order b.fn id)) ho hF.env (hR.drawn _)
        refine ⟨φ1, w1, a1, ?_, ⟨s3.keep ks, by rw [s2]; exact hF.defs.mono s4.le⟩, s4, s5⟩
        exact .head stepR_region_draw (s1.trans (.one stepR_region_end))
      · cases hv
  | seq h1 h2 ih1 ih2 =>
    intro fr σ ex fr' σ' hv φ w a b k cs hR hF hB
    simp only [acode] at hv
    split at hv
    · rename_i fr1 σ1 e1
      obtain ⟨φ1, w1, a1, s1, s2, s3, s4⟩ := ih1 fr σ _ _ _ e1 φ w a b _ cs hR hF hB
      obtain ⟨φ2, w2, a2, r1, r2, r3, r4⟩ := ih2 fr1 σ1 ex fr' σ' hv φ1 w1 a1 b k cs s4 s2 (hB.mono s3.le)
      exact ⟨φ2, w2, a2, r1.of_steps (.head stepR_seq s1), r2, s3.trans r3, r4⟩
    · rename_i hne
      refine (CodePost.pass (fun _ => rfl) ?_ (ih1 fr σ _ _ _ hv φ w a b _ cs hR hF hB)).of_steps (.one stepR_seq)
      rintro rfl
      exact hne _ _ hv
  | cond hc h1 h2 ih1 ih2 =>
    intro fr σ ex fr' σ' hv φ w a b k cs hR hF hB
    have hcv := (opdR_of hF.env).rel _ _ hc
    simp only [acode] at hv
    split at hv
    · rename_i e
      rw [e] at hcv
      refine CodePost.of_steps (.one (stepR_cond (t := true) ?_)) (ih1 fr σ _ _ _ hv φ w a b k cs hR hF hB)
      generalize a.eval _ = q at hcv
      cases hcv; rfl
    · rename_i e
      rw [e] at hcv
      refine CodePost.of_steps (.one (stepR_cond (t := false) ?_)) (ih2 fr σ _ _ _ hv φ w a b k cs hR hF hB)
      generalize a.eval _ = q at hcv
      cases hcv; rfl
    · cases hv
  | block id h ih =>
    intro fr σ ex fr' σ' hv φ w a b k cs hR hF hB
    simp only [acode] at hv
    split at hv
    · rename_i j fr1 σ1 e1
      obtain ⟨φ1, w1, a1, ⟨k1, s0, s1⟩, s2, s3, s4⟩ := ih fr σ _ _ _ e1 φ w a b (.inBlock id :: k) cs hR hF hB
      split at hv
      · rename_i hj
        cases hv
        subst hj
        refine ⟨φ1, w1, a1, ?_, s2, s3, s4⟩
        have : exitTo j k1 = some k := by rw [s0]; simp [exitTo]
        exact .head stepR_block (s1.trans (.one (stepR_exit this)))
      · rename_i hj
        cases hv
        refine ⟨φ1, w1, a1, ⟨k1, ?_, .head stepR_block s1⟩, s2, s3, s4⟩
        rw [s0]
        have : (id == j) = false := by simp; exact fun e => hj e.symm
        simp [exitTo, this]
    · rename_i hne
      obtain ⟨φ1, w1, a1, s1, s2, s3, s4⟩ := ih fr σ _ _ _ hv φ w a b (.inBlock id :: k) cs hR hF hB
      refine ⟨φ1, w1, a1, ?_, s2, s3, s4⟩
      cases ex with
      | normal => exact .head stepR_block (Steps.trans s1 (.one stepR_inBlock))
      | exit j => exact absurd hv (hne j _ _)
      | ret => obtain ⟨k1, s1⟩ := s1; exact ⟨k1, .head stepR_block s1⟩
  | loop h ih =>
    intro fr σ ex fr' σ' hv φ w a b k cs hR hF hB
    simp only [acode] at hv
    exact (loop_sound ih n fr σ ex fr' σ' hv φ w a hR hF hB).of_steps (.one stepR_loop)
  | scope h ih =>
    intro fr σ ex fr' σ' hv φ w a b k cs hR hF hB
    simp only [acode] at hv
    obtain ⟨φ1, w1, a1, s1, s2, s3, s4⟩ := ih fr σ _ _ _ hv φ w a b _ cs hR hF hB
    refine ⟨φ1, w1, a1, ?_, s2, s3, s4⟩
    cases ex with
    | normal => exact .head stepR_scope (Steps.trans s1 (.one stepR_inScope))
    | exit j => obtain ⟨k1, e, s1⟩ := s1; exact ⟨k1, e, .head stepR_scope s1⟩
    | ret => obtain ⟨k1, s1⟩ := s1; exact ⟨k1, .head stepR_scope s1⟩
  | range ps i hg hl hp h1 h2 _ _ => exact range_sound hC haf hg hl hp h1 h2
  | exit id =>
    intro fr σ ex fr' σ' hv φ w a b k cs hR hF hB
    cases hv
    exact ⟨φ, w, a, ⟨k, rfl, .refl _ _⟩, hF, Ext.refl _ _, hR⟩
  | ret =>
    intro fr σ ex fr' σ' hv φ w a b k cs hR hF hB
    cases hv
    exact ⟨φ, w, a, ⟨k, .refl _ _⟩, hF, Ext.refl _ _, hR⟩

end
end Go.Oct
end
