/- The theory, part T4. -/
import Derived.Test.YtddkghgfbhhcdaaGreatDoorOT3
/- Slices in objects of their own: whole ones, and parts that are read. -/
section
set_option linter.unusedVariables false
set_option linter.unusedSimpArgs false
namespace Go.Oct

@[simp] theorem isDef_tuple (vs : List AV) : isDef (.tuple vs) = True := (rfl)
@[simp] theorem wantP_tuple (vs : List AV) (w : Bool) : wantP (.tuple vs) w = False := (rfl)
/-- What a call sees of an argument: the objects that it leads to, and its snapshot. -/
structure Snap (σ : AH) (v : AV) (S : List Nat) (v' : AV) : Prop where
  ids : idsV 8 σ.cel v = S
  fz : ∀ T, (∀ i ∈ S, i ∈ T) → fzV 8 (σ.celOf T) v = v'
inductive Snaps (σ : AH) : List AV → List Nat → List AV → Prop
  | nil : Snaps σ [] [] []
  | cons {v v' : AV} {vs vs' : List AV} {S R : List Nat} : Snap σ v S v' → Snaps σ vs R vs' → Snaps σ (v :: vs) (S ++ R) (v' :: vs')
theorem Snaps.ids {σ : AH} {vs vs' : List AV} {S : List Nat} (h : Snaps σ vs S vs') : vs.flatMap (idsV 8 σ.cel) = S := by
  induction h with
  | nil => rfl
  | cons h1 _ ih => rw [List.flatMap_cons, h1.ids, ih]
theorem Snaps.fz {σ : AH} {vs vs' : List AV} {S : List Nat} (h : Snaps σ vs S vs') : ∀ T, (∀ i ∈ S, i ∈ T) → vs.map (fzV 8 (σ.celOf T)) = vs' := by
  induction h with
  | nil => intros; rfl
  | cons h1 _ ih => intro T hT; rw [List.map_cons, h1.fz T (fun i hi => hT i (List.mem_append_left _ hi)), ih T (fun i hi => hT i (List.mem_append_right _ hi))]
theorem Snap.int (σ : AH) (q : IntKind) (n : Int) : Snap σ (.int q n) [] (.int q n) := ⟨rfl, fun _ _ => rfl⟩
theorem Snap.bool (σ : AH) (n : Bool) : Snap σ (.bool n) [] (.bool n) := ⟨rfl, fun _ _ => rfl⟩
theorem Snap.vl {α : Type} (σ : AH) (e : α → AV) (nl : Bool) (xs : List α) : Snap σ (vl e nl xs) [] (vl e nl xs) := ⟨rfl, fun _ _ => rfl⟩
/-- A call whose result is numbers alone: nothing changes. -/
theorem pc_scal {p : AProg} {O : Caller} {b : Bool} {g : Nat} {args args' : List AV} {σ : AH} {k : Kn (AV → AH → Prop)} {r : AV} {S : List Nat} (hs : Snaps σ args S args') (hcl : b = true → args' = args)
    (hne : args ≠ []) (ho : ∀ a σ, a ≠ [] → O (.fn g) a σ = none) (hans : ans p O g args' = some r) (hr : isScal 8 r = true) (hk : k.k r σ) : @PcI p O b g args σ k := by
  cases b with
  | true =>
    rw [pcI_true, ← hcl rfl, hans, ok1_some]
    exact hk
  | false =>
    rw [pcI_false, hs.ids, hs.fz S (fun _ h => h), hans, ok1_some]
    refine ⟨hne, ho, ?_⟩
    show if isScal 8 r = true then k.k r σ else S.all (fun i => decide (σ.lim ≤ i)) = true ∧ k.k r (σ.kills S)
    rw [if_pos hr]
    exact hk
theorem AH.cel_lt {σ : AH} {i : Nat} {cs : List AV} (h : σ.cel i = some cs) : i < σ.next := by
  rcases cel_row h with h | h <;> exact AH.get_lt h
theorem AH.cel_get {σ : AH} {i : Nat} {cs : List AV} (h : σ.get i = some (.cells cs)) : σ.cel i = some cs := by unfold AH.cel; rw [h]
theorem AH.cel_same {σ σ' : AH} {i : Nat} (h : σ'.get i = σ.get i) : σ'.cel i = σ.cel i := by unfold AH.cel; rw [h]
/-- A call whose result may lead to something: the arguments' objects stay to be read. -/
theorem pc_ro {p : AProg} {O : Caller} {b : Bool} {g : Nat} {args args' : List AV} {σ : AH} {k : Kn (AV → AH → Prop)} {r : AV} {S : List Nat} (hs : Snaps σ args S args') (hcl : b = true → args' = args)
    (hne : args ≠ []) (ho : ∀ a σ, a ≠ [] → O (.fn g) a σ = none) (hS : ∀ i ∈ S, σ.lim ≤ i) (hans : ans p O g args' = some r) (hk : ∀ σ', Only S σ σ' → (∀ i, σ'.cel i = σ.cel i) → k.k r σ') : @PcI p O b g args σ k := by
  cases b with
  | true =>
    rw [pcI_true, ← hcl rfl, hans, ok1_some]
    exact hk _ (Only.refl _ _) fun _ => rfl
  | false =>
    rw [pcI_false, hs.ids, hs.fz S fun _ h => h, hans, ok1_some]
    refine ⟨hne, ho, ?_⟩
    show if isScal 8 r = true then k.k r σ else S.all (fun i => decide (σ.lim ≤ i)) = true ∧ k.k r (σ.kills S)
    split
    · exact hk _ (Only.refl _ _) fun _ => rfl
    · refine ⟨?_, hk _ (Only.kills _ _) (kills_cel S σ)⟩
      rw [List.all_eq_true]
      intro i hi
      exact decide_eq_true (hS i hi)
/-- A cell of data. -/
def flatC (c : AV) : Prop := ∀ (k : Nat) (f : Nat → Option (List AV)), idsV (k + 1) f c = [] ∧ (fzV (k + 1) f c).na = c
theorem flatC.int (q : IntKind) (n : Int) : flatC (.int q n) := fun _ _ => ⟨rfl, rfl⟩
section
variable {α : Type} {e : α → AV} {z lo : Nat} {σ σ' : AH} {v : AV} {xs ys : List α}
theorem flat_row (hf : flatE e) (xs : List α) : ∀ c ∈ rowOf e xs, flatC c := fun c hc k f => by
  obtain ⟨x, _, hx⟩ := List.mem_flatMap.1 hc
  exact hf x c hx k f
theorem chunks_row_app (he : Enc e z) : ∀ (ys : List α) (r : List AV), chunks z ys.length (rowOf e ys ++ r) = ys.map e
  | [], r => rfl
  | y :: ys, r => by
    simp only [rowOf, List.flatMap_cons, List.length_cons, chunks, List.map_cons, List.append_assoc]
    rw [List.take_left' (he.len y), List.drop_left' (he.len y), he.elem]
    exact congrArg _ (chunks_row_app he ys r)
/-- A slice that may be read, in an object of its own. -/
def View (lo z : Nat) (e : α → AV) (σ : AH) (v : AV) (xs : List α) : Prop :=
  ∃ i c pre rest, v = .slice (some (i, pre.length)) xs.length c ∧ lo ≤ i ∧ σ.cel i = some (pre ++ (rowOf e xs ++ rest)) ∧ (c = .op z ∨ ∃ n, c = .ex n ∧ xs.length ≤ n ∧ rest.length = (n - xs.length) * z) ∧ (∀ c ∈ pre, flatC c) ∧ ∀ c ∈ rest, flatC c
theorem View.len (h : View lo z e σ v xs) : alen v = some (.int .i64 xs.length) := by
  obtain ⟨i, c, pre, rest, rfl, _⟩ := h; rfl
theorem View.closed (h : View lo z e σ v xs) (k : Nat) : closed (k + 1) v = false := by
  obtain ⟨i, c, pre, rest, rfl, _⟩ := h; rfl
theorem View.obj_lt (h : View lo z e σ v xs) : ∀ i ∈ obj v, lo ≤ i ∧ i < σ.next := by
  obtain ⟨i, c, pre, rest, rfl, h2, h3, _⟩ := h
  intro j hj
  obtain rfl := List.mem_singleton.1 hj
  exact ⟨h2, AH.cel_lt h3⟩
theorem View.src (h : View lo z e σ v xs) (he : Enc e z) : lenOf v = some xs.length ∧ srcOf σ z xs.length v = some (rowOf e xs) := by
  obtain ⟨i, c, pre, rest, rfl, h2, h3, h4⟩ := h
  refine ⟨rfl, ?_⟩
  have hr : σ.row i = some (pre ++ (rowOf e xs ++ rest)) := h3
  have hl := rowOf_length he xs
  simp only [srcOf, cellsAt, hr, List.length_append, hl]
  rw [if_pos (by omega), List.drop_left, ← hl, List.take_left]
theorem View.stay {S : List Nat} (h : View lo z e σ v xs) (ho : Only S σ σ') (hd : ∀ i ∈ obj v, i ∉ S) : View lo z e σ' v xs := by
  obtain ⟨i, c, pre, rest, rfl, h2, h3, h4⟩ := h
  exact ⟨i, c, pre, rest, rfl, h2, by rw [AH.cel_same (ho.get i (AH.cel_lt h3) (hd i (List.mem_singleton.2 rfl)))]; exact h3, h4⟩
theorem View.grown (h : View lo z e σ v xs) (o : AObj) : View lo z e (σ.push o) v xs := h.stay (Only.push [] σ o) fun _ _ h => by cases h
theorem View.snap (h : View lo z e σ v xs) (he : Enc e z) (hf : flatE e) : Snap σ v (obj v) (vl e false xs) := by
  obtain ⟨i, c, pre, rest, rfl, h2, h3, h4, h5, h6⟩ := h
  have hcel : σ.cel i = some (pre ++ (rowOf e xs ++ rest)) := h3
  have hfl : ∀ c ∈ pre ++ (rowOf e xs ++ rest), flatC c := fun c hc => by
    rcases List.mem_append.1 hc with h | h
    · exact h5 c h
    · rcases List.mem_append.1 h with h | h
      · exact flat_row hf xs c h
      · exact h6 c h
  refine ⟨?_, fun T hT => ?_⟩
  · show (match σ.cel i with
      | some cs => i :: cs.flatMap (idsV 7 σ.cel)
      | none => []) = [i]
    rw [hcel]
    show i :: (pre ++ (rowOf e xs ++ rest)).flatMap (idsV 7 σ.cel) = [i]
    have : (pre ++ (rowOf e xs ++ rest)).flatMap (idsV 7 σ.cel) = [] := by
      rw [List.flatMap_eq_nil_iff]
      exact fun c hc => (hfl c hc 6 _).1
    rw [this]
  · have hi : T.contains i = true := by simpa using hT i (List.mem_singleton.2 rfl)
    have hc : σ.celOf T i = some (pre ++ (rowOf e xs ++ rest)) := by unfold AH.celOf; rw [if_pos hi]; exact hcel
    have hm : (pre ++ (rowOf e xs ++ rest)).map (fun c => (fzV 7 (σ.celOf T) c).na) = pre ++ (rowOf e xs ++ rest) :=
      (List.map_congr_left (g := id) fun c hc => (hfl c hc 6 _).2).trans (List.map_id _)
    have hlx := rowOf_length he xs
    show (match σ.celOf T i with
      | some cs => if pre.length ≤ cs.length then
          match ACap.cellsOf xs.length (cs.length - pre.length) c with
          | some z => AV.vsl false (chunks z xs.length ((cs.drop pre.length).map fun x => (fzV 7 (σ.celOf T) x).na))
          | none => .undef
        else .undef
      | none => .undef) = _
    rw [hc]
    have hd : ((pre ++ (rowOf e xs ++ rest)).drop pre.length).map (fun c => (fzV 7 (σ.celOf T) c).na) = rowOf e xs ++ rest := by
      rw [List.map_drop, hm, List.drop_left]
    simp only
    rw [if_pos (by simp), hd, show (pre ++ (rowOf e xs ++ rest)).length - pre.length = (rowOf e xs ++ rest).length by simp]
    have fin : chunks z xs.length (rowOf e xs ++ rest) = xs.map e := chunks_row_app he xs rest
    rcases h4 with rfl | ⟨n, rfl, h4, h7⟩
    · simp only [ACap.cellsOf, List.length_append, hlx, Nat.le_add_right, if_true, fin]; rfl
    · simp only [ACap.cellsOf]
      by_cases h0 : xs.length = 0
      · have : xs = [] := List.eq_nil_of_length_eq_zero h0
        subst this
        rfl
      · have hcz : (rowOf e xs ++ rest).length = n * z := by
          rw [List.length_append, hlx, h7, ← Nat.add_mul]
          congr 1
          omega
        rw [if_neg h0, hcz, Nat.mul_div_cancel_left z (by omega), if_pos ⟨Nat.mul_comm z n, h4⟩]
        simp only [fin]; rfl
/-- A part of a slice. -/
theorem View.cut (h : View lo z e σ v xs) (he : Enc e z) (hf : flatE e) {a b : Nat} (hab : a ≤ b) (hb : b ≤ xs.length) {c' : ACap} {n : Nat} (hn : n = b - a) :
    ∃ i o c, v = .slice (some (i, o)) xs.length c ∧ (∀ m, m = none → c.less z a m ≠ none) ∧ ∀ c', c.less z a none = some c' → View lo z e σ (.slice (some (i, o + a * z)) n c') ((xs.drop a).take n) := by
  obtain ⟨i, c, pre, rest, rfl, h2, h3, h4, h5, h6⟩ := h
  have hxs : xs = xs.take a ++ ((xs.drop a).take n ++ (xs.drop a).drop n) := by rw [List.take_append_drop, List.take_append_drop]
  have hrow : pre ++ (rowOf e xs ++ rest) = (pre ++ rowOf e (xs.take a)) ++ (rowOf e ((xs.drop a).take n) ++ (rowOf e ((xs.drop a).drop n) ++ rest)) := by
    have : rowOf e xs = rowOf e (xs.take a) ++ (rowOf e ((xs.drop a).take n) ++ rowOf e ((xs.drop a).drop n)) := by
      rw [← rowOf_append, ← rowOf_append, ← hxs]
    rw [this]
    simp only [List.append_assoc]
  have hl1 : (pre ++ rowOf e (xs.take a)).length = pre.length + a * z := by
    rw [List.length_append, rowOf_length he, List.length_take]; congr 2; omega
  have hl2 : ((xs.drop a).take n).length = n := by simp; omega
  refine ⟨i, pre.length, c, rfl, ?_, ?_⟩
  · rintro m rfl
    rcases h4 with rfl | ⟨n, rfl, _⟩ <;> simp [ACap.less]
  · intro c' hc'
    refine ⟨i, c', pre ++ rowOf e (xs.take a), rowOf e ((xs.drop a).drop n) ++ rest, by rw [hl1, hl2], h2, by rw [h3, hrow], ?_, ?_, ?_⟩
    · rcases h4 with rfl | ⟨m, rfl, h4, h7⟩
      · simp [ACap.less] at hc'; exact .inl hc'.symm
      · simp [ACap.less] at hc'
        refine .inr ⟨m - a, hc'.symm, by rw [hl2]; omega, ?_⟩
        rw [List.length_append, rowOf_length he, h7, hl2, ← Nat.add_mul]
        congr 1
        simp only [List.length_drop]
        omega
    · intro x hx
      rcases List.mem_append.1 hx with hx | hx
      · exact h5 x hx
      · exact flat_row hf _ x hx
    · intro x hx
      rcases List.mem_append.1 hx with hx | hx
      · exact flat_row hf _ x hx
      · exact h6 x hx
/-- v[a:b] -/
theorem View.sub (h : View lo z e σ v xs) (he : Enc e z) (hf : flatE e) {q q' : IntKind} {a b : Int} (ha : 0 ≤ a) (hab : a ≤ b) (hb : b ≤ xs.length) {k : AV → Prop}
    (hk : ∀ v', View lo z e σ v' ((xs.drop a.toNat).take (b.toNat - a.toNat)) → obj v' = obj v → k v') : OptK (aslS z v (some (.int q a)) (some (.int q' b)) none) k := by
  have hsure : ∀ c : ACap, View lo z e σ v xs → (∃ i o, v = .slice (some (i, o)) xs.length c) → xs.length ≤ c.sure xs.length := by
    rintro c ⟨i, c', pre, rest, rfl, _, _, h4, _⟩ ⟨i', o, e⟩
    obtain rfl : c' = c := by simp at e; exact e.2
    rcases h4 with rfl | ⟨n, rfl, h4, _⟩
    · exact Nat.le_refl _
    · exact h4
  obtain ⟨i, o, c, hv, h1, h2⟩ := h.cut he hf (a := a.toNat) (b := b.toNat) (by omega) (by omega) (c' := .ex 0) rfl
  have hs := hsure c h ⟨i, o, hv⟩
  obtain ⟨c', hc'⟩ := Option.ne_none_iff_exists'.1 (h1 none rfl)
  subst hv
  simp only [aslS, abounds_lh]
  rw [if_pos (by omega), if_pos (by omega)]
  simp only [hc', Option.map_some, optK_some]
  exact hk _ (h2 c' hc') rfl

/-- A whole slice, in an object of its own. -/
def Whole (lo z : Nat) (e : α → AV) (σ : AH) (v : AV) (xs : List α) : Prop :=
  ∃ i c, v = .slice (some (i, 0)) xs.length c ∧ lo ≤ i ∧ σ.get i = some (.cells (rowOf e xs)) ∧ (c = .op z ∨ c = .ex xs.length)
theorem Whole.view (h : Whole lo z e σ v xs) : View lo z e σ v xs := by
  obtain ⟨i, c, rfl, h2, h3, h4⟩ := h
  refine ⟨i, c, [], [], rfl, h2, by simpa using AH.cel_get h3, ?_, by simp, by simp⟩
  rcases h4 with rfl | rfl
  · exact .inl rfl
  · exact .inr ⟨_, rfl, Nat.le_refl _, by simp⟩
theorem Whole.len (h : Whole lo z e σ v xs) : alen v = some (.int .i64 xs.length) := h.view.len
theorem Whole.stay {S : List Nat} (h : Whole lo z e σ v xs) (ho : Only S σ σ') (hd : ∀ i ∈ obj v, i ∉ S) : Whole lo z e σ' v xs := by
  obtain ⟨i, c, rfl, h2, h3, h4⟩ := h
  exact ⟨i, c, rfl, h2, by rw [ho.get i (AH.get_lt h3) (hd i (List.mem_singleton.2 rfl))]; exact h3, h4⟩
theorem Whole.obj_lt (h : Whole lo z e σ v xs) : ∀ i ∈ obj v, lo ≤ i ∧ i < σ.next := h.view.obj_lt
theorem zcells_eq (zero : List AV) : ∀ n, zcells zero n = (List.replicate n zero).flatten := by
  intro n
  unfold zcells
  split
  · induction n with
    | zero => rfl
    | succ n ih => rw [List.replicate_succ, List.replicate_succ, List.flatten_cons, ← ih]; rfl
  · rfl
/-- More elements. -/
theorem Whole.app (h : Whole lo z e σ v xs) (he : Enc e z) (hlim : σ.lim ≤ lo) (hlo : lo ≤ σ.next) {src : AV} (hl : lenOf src = some ys.length) (hs : srcOf σ z ys.length src = some (rowOf e ys)) {bytes : Nat} (hsz : (xs.length + ys.length) * bytes ≤ topBytes)
    {k : AV → AH → Prop} (hk : ∀ v' σ', Whole lo z e σ' v' (xs ++ ys) → Grew lo v v' σ σ' → k v' σ') : OptK2 (aappend z bytes v src σ) k := by
  have hone := rowOf_one he ys
  have hly := rowOf_length he ys
  have hlx := rowOf_length he xs
  obtain ⟨i, c, rfl, h2, h3, h4⟩ := h
  simp only [aappend, dstOf, hl]
  by_cases h0 : ys.length = 0
  · rw [if_pos h0, optK2_some]
    have : ys = [] := List.eq_nil_of_length_eq_zero h0
    subst this
    exact hk _ _ ⟨i, c, by simp, h2, by simpa using h3, by simpa using h4⟩ ⟨Keep.refl _ _, Only.refl _ _, fun i h => .inl h⟩
  · rw [if_neg h0]
    simp only [hs]
    have hrow : σ.row i = some (rowOf e xs) := by simp [h3]
    have hown : σ.own i = some (rowOf e xs) := by simp [h3, Nat.le_trans hlim h2]
    have hin := AH.get_lt h3
    have htk : (rowOf e xs).take (xs.length * z) = rowOf e xs := by rw [← hlx, List.take_length]
    have hcp : cellsAt σ (xs.length * z) (some (i, 0)) = some (rowOf e xs) := by
      simp only [cellsAt, hrow]
      rw [if_pos (by rw [hlx]; omega), List.drop_zero, htk]
    rcases h4 with rfl | rfl
    · simp only [agrow, if_true, hown]
      have hnot : ¬ (0 + (xs.length + ys.length) * z ≤ (rowOf e xs).length) := by
        rw [hlx, Nat.add_mul, Nat.zero_add]
        have := Nat.mul_le_mul_right z (show 1 ≤ ys.length by omega)
        have := he.pos
        omega
      simp only [hnot, if_false, hsz, hone, and_self, if_true, hcp, optK2_some]
      refine hk _ _ ⟨σ.next, .op z, by simp, hlo, ?_, .inl rfl⟩ ⟨(Keep.push hlo _).trans (Keep.set h2 _), (Only.push _ _ _).trans (Only.set (List.mem_singleton.2 rfl) _), fun i h => .inr (by simp [obj] at h; omega)⟩
      rw [AH.get_set_other _ _ _ _ (by omega), AH.get_push_new, rowOf_append]
    · simp only [agrow]
      rw [if_neg (by omega)]
      simp only [hsz, hone, and_self, if_true, hcp, optK2_some]
      refine hk _ _ ⟨σ.next, .op z, by simp, hlo, ?_, .inl rfl⟩ ⟨Keep.push hlo _, Only.push _ _ _, fun i h => .inr (by simp [obj] at h; omega)⟩
      rw [AH.get_push_new, rowOf_append]
/-- One element more. -/
theorem Whole.push (h : Whole lo z e σ v xs) (he : Enc e z) (hlim : σ.lim ≤ lo) (hlo : lo ≤ σ.next) (y : α) {bytes : Nat} (hsz : (xs.length + 1) * bytes ≤ topBytes) {k : AV → AH → Prop} {cs : List AV} (hcs : cs = (e y).cells)
    (hk : ∀ v' σ', Whole lo z e σ' v' (xs ++ [y]) → Grew lo v v' σ σ' → k v' σ') : OptK2 (aappend z bytes v (.slice (some (σ.next, 0)) 1 (.ex 1)) (σ.push (.cells cs))) k := by
  subst hcs
  have hg : Whole lo z e (σ.push (.cells (e y).cells)) v xs := h.stay (Only.push [] σ _) fun _ _ h => by cases h
  refine hg.app (ys := [y]) he hlim (by simp; omega) rfl ?_ hsz fun v' σ' h1 h2 => hk v' σ' h1 ⟨(Keep.push hlo _).trans h2.toKeep, (Only.push _ _ _).trans h2.only, fun i h => (h2.fresh i h).elim .inl fun h => .inr (Nat.le_of_succ_le h)⟩
  have : (e y).cells.length = z := he.len y
  simp only [srcOf, cellsAt, List.length_singleton, Nat.one_mul, row_def, get_push, if_true, rowOf, List.flatMap_cons, List.flatMap_nil, List.append_nil, Nat.zero_add, this, Nat.le_refl, List.drop_zero]
  rw [← this, List.take_length]
theorem putCells_mid : ∀ (cs as bs rs : List AV), bs.length = cs.length → putCells (as ++ (bs ++ rs)) as.length cs = as ++ (cs ++ rs)
  | [], as, bs, rs, h => by
    have : bs = [] := List.eq_nil_of_length_eq_zero h
    subst this; simp
  | x :: cs, as, [], rs, h => by simp at h
  | x :: cs, as, b :: bs, rs, h => by
    have h' : bs.length = cs.length := by simpa using h
    have := putCells_mid cs (as ++ [x]) bs rs h'
    simp only [putCells, List.set_append_right _ _ (Nat.le_refl as.length), Nat.sub_self, List.cons_append, List.set_cons_zero]
    simp only [List.length_append, List.length_singleton, List.append_assoc, List.singleton_append, List.cons_append, List.nil_append] at this
    exact this
theorem rowOf_set (he : Enc e z) [Inhabited α] {j : Nat} (hj : j < xs.length) (y : α) : putCells (rowOf e xs) (j * z) (e y).cells = rowOf e (xs.set j y) := by
  have h1 : xs = xs.take j ++ (nth xs j :: xs.drop (j + 1)) := by rw [← drop_nth hj, List.take_append_drop]
  have h2 : xs.set j y = xs.take j ++ (y :: xs.drop (j + 1)) := by
    rw [List.set_eq_take_append_cons_drop, if_pos hj]
  have h3 : rowOf e xs = rowOf e (xs.take j) ++ ((e (nth xs j)).cells ++ rowOf e (xs.drop (j + 1))) := by
    conv => lhs; rw [h1]
    rw [rowOf_append]; simp [rowOf]
  have h4 : (rowOf e (xs.take j)).length = j * z := by rw [rowOf_length he, List.length_take]; congr 1; omega
  rw [h3, ← h4, putCells_mid _ _ _ _ (by rw [he.len, he.len]), h2, rowOf_append]
  simp [rowOf]
/-- v[j] = y: the address, then the store. -/
theorem Whole.set (h : Whole lo z e σ v xs) (he : Enc e z) [Inhabited α] (hlim : σ.lim ≤ lo) {q : IntKind} {j : Int} (h0 : 0 ≤ j) (hj : j < xs.length) :
    ∃ i, aidx z v (.int q j) = some (.ptr (some (i, j.toNat * z))) ∧ ∀ (y : α) (x : AV), x.dfd = true → x.cells = (e y).cells → ∃ σ', astore z (.ptr (some (i, j.toNat * z))) x σ = some (.undef, σ') ∧ Whole lo z e σ' v (xs.set j.toNat y) ∧ Only (obj v) σ σ' ∧ Keep lo σ σ' := by
  obtain ⟨i, c, rfl, h2, h3, h4⟩ := h
  refine ⟨i, by simp [h0, hj], fun y x hd hx => ⟨σ.set i (.cells (putCells (rowOf e xs) (j.toNat * z) (e y).cells)), ?_, ⟨i, c, by simp, h2, ?_, by simpa using h4⟩, Only.set (List.mem_singleton.2 rfl) _, Keep.set h2 _⟩⟩
  · have hown : σ.own i = some (rowOf e xs) := by simp [h3, Nat.le_trans hlim h2]
    simp only [astore, hown, hx, hd, he.len, he.one, rowOf_length he]
    rw [if_pos]
    refine ⟨trivial, trivial, ?_, trivial⟩
    have := Nat.mul_le_mul_right z (show j.toNat + 1 ≤ xs.length by omega)
    rw [Nat.succ_mul] at this
    exact this
  · rw [AH.get_set_same _ _ _ (AH.get_lt h3), rowOf_set he (by omega)]
theorem Buf.snapS (h : Buf lo z e σ v xs) (he : Enc e z) (hf : flatE e) : Snap σ v (obj v) (vl e xs.isEmpty xs) := ⟨h.ids hf 6, fun T hT => h.snap he hf hT 6⟩
end

/-! ### Snapshots of values that lead to others -/
structure SnapK (k : Nat) (σ : AH) (v : AV) (S : List Nat) (v' : AV) : Prop where
  ids : idsV k σ.cel v = S
  fz : ∀ T, (∀ i ∈ S, i ∈ T) → fzV k (σ.celOf T) v = v'
inductive SnapsK (k : Nat) (σ : AH) : List AV → List Nat → List AV → Prop
  | nil : SnapsK k σ [] [] []
  | cons {v v' : AV} {vs vs' : List AV} {S R : List Nat} : SnapK k σ v S v' → SnapsK k σ vs R vs' → SnapsK k σ (v :: vs) (S ++ R) (v' :: vs')
theorem SnapsK.ids {k : Nat} {σ : AH} {vs vs' : List AV} {S : List Nat} (h : SnapsK k σ vs S vs') : vs.flatMap (idsV k σ.cel) = S := by
  induction h with
  | nil => rfl
  | cons h1 _ ih => rw [List.flatMap_cons, h1.ids, ih]
theorem SnapsK.fz {k : Nat} {σ : AH} {vs vs' : List AV} {S : List Nat} (h : SnapsK k σ vs S vs') : ∀ T, (∀ i ∈ S, i ∈ T) → vs.map (fzV k (σ.celOf T)) = vs' := by
  induction h with
  | nil => intros; rfl
  | cons h1 _ ih => intro T hT; rw [List.map_cons, h1.fz T (fun i hi => hT i (List.mem_append_left _ hi)), ih T (fun i hi => hT i (List.mem_append_right _ hi))]
theorem SnapK.snap {σ : AH} {v v' : AV} {S : List Nat} (h : SnapK 8 σ v S v') : Snap σ v S v' := ⟨h.ids, h.fz⟩
theorem SnapK.int (k : Nat) (σ : AH) (q : IntKind) (n : Int) : SnapK (k + 1) σ (.int q n) [] (.int q n) := ⟨rfl, fun _ _ => rfl⟩
theorem SnapK.bool (k : Nat) (σ : AH) (n : Bool) : SnapK (k + 1) σ (.bool n) [] (.bool n) := ⟨rfl, fun _ _ => rfl⟩
theorem SnapK.vl {α : Type} (k : Nat) (σ : AH) (e : α → AV) (nl : Bool) (xs : List α) : SnapK (k + 1) σ (vl e nl xs) [] (vl e nl xs) := ⟨rfl, fun _ _ => rfl⟩
theorem SnapK.ptr {k : Nat} {σ : AH} {i q : Nat} {cs cs' : List AV} {S : List Nat} (hg : σ.get i = some (.cells cs)) (h : SnapsK k σ cs S cs') : SnapK (k + 1) σ (.ptr (some (i, q))) (i :: S) (.vptr (cs'.map AV.na) q) := by
  have hc : σ.cel i = some cs := by unfold AH.cel; rw [hg]
  refine ⟨?_, fun T hT => ?_⟩
  · simp only [idsV, hc, h.ids]
  · have h1 : σ.celOf T i = some cs := by
      unfold AH.celOf
      rw [if_pos, hc]
      simpa using hT i (List.mem_cons_self ..)
    simp only [fzV, h1]
    rw [← h.fz T fun j hj => hT j (List.mem_cons_of_mem _ hj), List.map_map]
    rfl
theorem SnapK.func {k : Nat} {σ : AH} {f : Nat} {xs ys xs' ys' : List AV} {S R : List Nat} (h : SnapsK k σ xs S xs') (h2 : SnapsK k σ ys R ys') : SnapK (k + 1) σ (.func (.func f) xs ys) (S ++ R) (.func (.func f) xs' ys') := by
  refine ⟨?_, fun T hT => ?_⟩
  · simp only [idsV, h.ids, h2.ids]
  · simp only [fzV, h.fz T fun i hi => hT i (List.mem_append_left _ hi), h2.fz T fun i hi => hT i (List.mem_append_right _ hi)]
/-- A whole slice as it stands. -/
theorem fz_whole {α : Type} {e : α → AV} {z : Nat} (he : Enc e z) (hf : flatE e) {f : Nat → Option (List AV)} {o : Nat} {xs : List α} {c : ACap} (hc : f o = some (rowOf e xs)) (h4 : c = .op z ∨ c = .ex xs.length) (k : Nat) :
    fzV (k + 2) f (.slice (some (o, 0)) xs.length c) = vl e false xs := by
  have hm : (rowOf e xs).map (fun c => (fzV (k + 1) f c).na) = rowOf e xs :=
    (List.map_congr_left (g := id) fun c hc => (flat_row hf xs c hc k _).2).trans (List.map_id _)
  have hlx := rowOf_length he xs
  show (match f o with
    | some cs => if 0 ≤ cs.length then
        match ACap.cellsOf xs.length (cs.length - 0) c with
        | some z => AV.vsl false (chunks z xs.length ((cs.drop 0).map fun x => (fzV (k + 1) f x).na))
        | none => .undef
      else .undef
    | none => .undef) = _
  rw [hc]
  simp only [Nat.zero_le, if_true, List.drop_zero, hm, Nat.sub_zero]
  have fin : chunks z xs.length (rowOf e xs) = xs.map e := chunks_rowOf he xs
  rcases h4 with rfl | rfl
  · simp only [ACap.cellsOf, hlx, Nat.le_refl, if_true, fin]; rfl
  · simp only [ACap.cellsOf]
    by_cases h0 : xs.length = 0
    · have : xs = [] := List.eq_nil_of_length_eq_zero h0
      subst this; rfl
    · rw [if_neg h0, hlx, Nat.mul_div_cancel_left z (by omega), if_pos ⟨Nat.mul_comm z _, Nat.le_refl _⟩]
      simp only [fin]; rfl
theorem Whole.fz {α : Type} {e : α → AV} {z lo : Nat} {σ : AH} {v : AV} {xs : List α} (h : Whole lo z e σ v xs) (he : Enc e z) (hf : flatE e) (k : Nat) : fzV (k + 2) σ.cel v = vl e false xs := by
  obtain ⟨i, c, rfl, h2, h3, h4⟩ := h
  exact fz_whole he hf (by simp [h3]) h4 k
end Go.Oct
end
/- Loops over functions: rules for the loop, and for a round of it. -/
section
set_option linter.unusedVariables false
set_option linter.unusedSimpArgs false
namespace Go.Oct
@[simp] theorem puts_cons (env : Env) (k : Nat) (ks : List Nat) (v : AV) (vs : List AV) : Env.puts env (k :: ks) (v :: vs) = Env.puts (env.set k v) ks vs := (rfl)
@[simp] theorem puts_nil (env : Env) (vs : List AV) : Env.puts env [] vs = env := by cases env <;> rfl
section
variable {p : AProg} {O : Caller} {pl : List Nat} {σ : AH} {env : Env} {s : Seg} (kd : Kn (AV → AH → Seg → Prop))
@[simp ↓] theorem d1_alloc_froz (cs : List AV) : @D1 p O pl (.h (.alloc cs)) .froz env σ s kd = @O1 p O pl (.h (.alloc cs)) env (σ.under σ.next) ⟨fun v σ' => kd.k v (σ'.under σ.lim) s⟩ := (rfl)
@[simp ↓] theorem d1_alloc_full (cs : List AV) : @D1 p O pl (.h (.alloc cs)) .full env σ s kd = @O1 p O pl (.h (.alloc cs)) env σ ⟨fun v σ' => kd.k v σ' ⟨σ'.next, [], []⟩⟩ := (rfl)
@[simp ↓] theorem d1_box_froz (x : Opd) : @D1 p O pl (.h (.box x)) .froz env σ s kd = @O1 p O pl (.h (.box x)) env (σ.under σ.next) ⟨fun v σ' => kd.k v (σ'.under σ.lim) s⟩ := (rfl)
@[simp ↓] theorem d1_box_full (x : Opd) : @D1 p O pl (.h (.box x)) .full env σ s kd = @O1 p O pl (.h (.box x)) env σ ⟨fun v σ' => kd.k v σ' ⟨σ'.next, [], []⟩⟩ := (rfl)
@[simp ↓] theorem d1_mkSlice_full (b : Nat) (zero : List AV) (l c : Opd) : @D1 p O pl (.h (.mkSlice b zero l c)) .full env σ s kd = @O1 p O pl (.h (.mkSlice b zero l c)) env σ ⟨fun v σ' => kd.k v σ' ⟨σ'.next, [], []⟩⟩ := (rfl)
/-- A store inside such a region: into what lay there before, or not. -/
def oldS (v : AV) (kp : Bool) (s : Seg) : Option Nat := match v with
  | .ptr (some (i, _)) => if i < s.seg ∧ (!s.lds.contains i || kp) then some i else none
  | _ => none
@[simp] theorem oldS_ptr (i o : Nat) (kp : Bool) : oldS (.ptr (some (i, o))) kp s = if i < s.seg ∧ (!s.lds.contains i || kp) then some i else none := (rfl)
@[simp] theorem keepsV_one (i q : Nat) (x : AV) (σ : AH) : keepsV 1 (.ptr (some (i, q))) x σ = match σ.get i with
      | some (.cells cs) => match cs[q]? with
        | some y => sameC y x
        | none => false
      | _ => false := (rfl)
@[simp] theorem sameC_int (q : IntKind) (a b : Int) : sameC (.int q a) (.int q b) = decide (a = b) := by simp [sameC]
@[simp] theorem sameC_bool (a b : Bool) : sameC (.bool a) (.bool b) = (a == b) := (rfl)
def StK (oa : Option Nat) (a x : AV) (σ : AH) (n : Nat) (s : Seg) [kd : Kn (AV → AH → Seg → Prop)] : Prop := match oa with
  | some i => @Ok2 (astore n a x σ) ⟨fun v σ' => kd.k v σ' { s with sts := i :: s.sts }⟩
  | none => (σ.lim ≤ s.seg ∧ @Ok2 (astore n a x (σ.under s.seg)) ⟨fun v σ' => kd.k v (σ'.under σ.lim) s⟩)
@[simp] theorem stk_some (i n : Nat) (a x : AV) : @StK (some i) a x σ n s kd = @Ok2 (astore n a x σ) ⟨fun v σ' => kd.k v σ' { s with sts := i :: s.sts }⟩ := (rfl)
@[simp] theorem stk_none (n : Nat) (a x : AV) : @StK none a x σ n s kd = (σ.lim ≤ s.seg ∧ @Ok2 (astore n a x (σ.under s.seg)) ⟨fun v σ' => kd.k v (σ'.under σ.lim) s⟩) := (rfl)
theorem oldS_at (v : AV) (kp : Bool) : (match (match v with | .ptr (some (i, _)) => some i | _ => none : Option Nat) with | some i => if i < s.seg ∧ (!s.lds.contains i || kp) then some i else none | none => none) = oldS v kp s := by
  rcases v with _ | _ | _ | _ | (_ | ⟨_, _⟩) | _ | _ | _ | _ | _ | _ | _ | _ | _ | _ <;> rfl
theorem oldSto_eq (n : Nat) (a x : Opd) : oldSto (Opd.ev env) σ (.h (.store n a x)) s = oldS (a.ev env) (keepsV n (a.ev env) (x.ev env) σ) s := oldS_at _ _
@[simp ↓] theorem d1_store_st1 (n : Nat) (a x : Opd) : @D1 p O pl (.h (.store n a x)) .st1 env σ s kd = @StK (oldS (a.ev env) (keepsV n (a.ev env) (x.ev env) σ) s) (a.ev env) (x.ev env) σ n s kd := by
  have h : @D1 p O pl (.h (.store n a x)) .st1 env σ s kd = (match oldSto (Opd.ev env) σ (.h (.store n a x)) s with
      | some i => vOp p O pl (.h (.store n a x)) env σ (fun v σ' => kd.k v σ' { s with sts := i :: s.sts })
      | none => σ.lim ≤ s.seg ∧ vOp p O pl (.h (.store n a x)) env (σ.under s.seg) (fun v σ' => kd.k v (σ'.under σ.lim) s)) := (rfl)
  rw [h, oldSto_eq]
  cases oldS (a.ev env) (keepsV n (a.ev env) (x.ev env) σ) s <;> rfl
end
section
variable {p : AProg} {O : Caller}

/-- Maps. -/
def amapUpd (agg : Bool) (sh : List Leaf) (m k v : AV) (σ : AH) : Option (AV × AH) := match m with
    | .map (some i) => if σ.lim ≤ i then match σ.get i with
      | some (.map es c) => match keyEq agg sh k k, findE agg sh k es 0 with
        | some _, some (some (j, _, _)) => some (.undef, σ.set i (.map (setE k v es j) c))
        | some _, some none => some (.undef, σ.set i (.map (es ++ [(k, v, c)]) (c + 1)))
        | _, _ => none
      | _ => none else none
    | _ => none
theorem ahop_mapUpd (ρ : Opd → AV) (σ : AH) (agg : Bool) (sh : List Leaf) (m k v : Opd) : ahop ρ σ (.mapUpd agg sh m k v) = amapUpd agg sh (ρ m) (ρ k) (ρ v) σ := (rfl)
def alookup (agg : Bool) (sh : List Leaf) (zero : AV) (ok : Bool) (m k : AV) (σ : AH) : Option (AV × AH) := match m with
    | .map none => match keyEq agg sh k k with
      | some _ => some (if ok then .tuple [zero, .bool false] else zero, σ)
      | none => none
    | .map (some i) => match σ.get i with
      | some (.map es _) => match keyEq agg sh k k, findE agg sh k es 0 with
        | some _, some (some (_, v, _)) => some (if ok then .tuple [v, .bool true] else v, σ)
        | some _, some none => some (if ok then .tuple [zero, .bool false] else zero, σ)
        | _, _ => none
      | _ => none
    | _ => none
theorem ahop_lookup (ρ : Opd → AV) (σ : AH) (agg : Bool) (sh : List Leaf) (zero : AV) (ok : Bool) (m k : Opd) : ahop ρ σ (.lookup agg sh zero ok m k) = alookup agg sh zero ok (ρ m) (ρ k) σ := by
  unfold alookup
  generalize h1 : ρ m = x
  cases x <;> (simp only [ahop, h1]) <;> rfl
/-- What a round leaves: the loop goes on, or is left. -/
def BodyK (l : Nat) (K : AV → AH → Prop) (ex : AEx) (fr : Fr) (σ : AH) : Prop :=
  ∃ f i env st pd d, σ.get l = some (.loop f i env st pd d) ∧
    match ex with
    | .normal => K (.bool true) (σ.set l (.loop f i env .ready none d))
    | ex => K (.bool false) (σ.set l (.loop f i env .done (some ex) d))
/-- Behind the round's parameters. -/
def AsgK (p : AProg) (O : Caller) (pl : List Nat) (f l : Nat) (body : ACode) (K : AV → AH → Prop) (ex : AEx) (fr : Fr) (σ : AH) : Prop :=
  ex = .normal ∧ ∃ f1 i1 env1 pd d, σ.get l = some (.loop f1 i1 env1 .ready pd d) ∧ vC p O pl f (some l) body fr (σ.set l (.loop f1 i1 env1 .busy pd d)) (BodyK l K)
theorem yield_of (pl : List Nat) {l f i np : Nat} {env : Env} {st : LoopState} {pd : Option AEx} {d : Nat} {res : List ARes} {code : ACode} {loops : List ALoop} {pu : Bool} {ps : List Nat} {asg body : ACode} {args : List AV} {σ : AH} {K : AV → AH → Prop}
    (hg : σ.get l = some (.loop f i env st pd d)) (hf : p.funcs.get f = some ⟨np, res, code, loops, pu⟩) (hl : loops[i]? = some ⟨ps, asg, body⟩) (hlen : args.length = ps.length) (hlim : σ.lim ≤ l) (hO : O (.yield l) args σ = none)
    (h : vC p O pl f (some l) asg ⟨env.puts ps args, []⟩ σ (AsgK p O pl f l body K)) : Call p O (.yield l) args σ K := by
  obtain ⟨n, ex, fr, σ1, e1, rfl, f1, i1, env1, pd1, d1, g1, h1⟩ := h.sound
  obtain ⟨m, ex2, fr2, σ2, e2, f2, i2, env2, st2, pd2, d2, g2, h2⟩ := h1.sound
  have a1 := acode_up (Nat.le_max_left n m) e1
  have a2 := acode_up (Nat.le_max_right n m) e2
  cases ex2 with
  | normal => exact ⟨max n m + 1, _, _, by simp only [arun, hO, arun1, hg, hf, hl, hlen, hlim, and_self, if_true, a1, g1, a2, g2], h2⟩
  | exit j => exact ⟨max n m + 1, _, _, by simp only [arun, hO, arun1, hg, hf, hl, hlen, hlim, and_self, if_true, a1, g1, a2, g2], h2⟩
  | ret => exact ⟨max n m + 1, _, _, by simp only [arun, hO, arun1, hg, hf, hl, hlen, hlim, and_self, if_true, a1, g1, a2, g2], h2⟩
/-- As simp walks. -/
def Ak (p : AProg) (O : Caller) (pl : List Nat) (f l : Nat) (body : ACode) (K : AV → AH → Prop) (ex : AEx) (fr : Fr) (σ : AH) : Prop := AsgK p O pl f l body K ex fr σ
def Bd (l : Nat) (K : AV → AH → Prop) (ex : AEx) (fr : Fr) (σ : AH) : Prop := BodyK l K ex fr σ
theorem ak_of {pl : List Nat} {f l : Nat} {body : ACode} {K : AV → AH → Prop} {fr : Fr} {σ : AH} {f1 i1 : Nat} {env1 : Env} {pd : Option AEx} {d : Nat} (hg : σ.get l = some (.loop f1 i1 env1 .ready pd d)) :
    Ak p O pl f l body K .normal fr σ = @C p O pl f (some l) body fr (σ.set l (.loop f1 i1 env1 .busy pd d)) ⟨Bd l K⟩ := by
  apply propext
  constructor
  · rintro ⟨_, f2, i2, env2, pd2, d2, g2, h⟩
    rw [hg] at g2
    cases g2
    exact h
  · intro h; exact ⟨rfl, _, _, _, _, _, hg, h⟩
theorem yield_of' (pl : List Nat) {l f i np : Nat} {env : Env} {st : LoopState} {pd : Option AEx} {d : Nat} {res : List ARes} {code : ACode} {loops : List ALoop} {pu : Bool} {ps : List Nat} {asg body : ACode} {args : List AV} {σ : AH} {K : AV → AH → Prop}
    (hg : σ.get l = some (.loop f i env st pd d)) (hf : p.funcs.get f = some ⟨np, res, code, loops, pu⟩) (hl : loops[i]? = some ⟨ps, asg, body⟩) (hlen : args.length = ps.length) (hlim : σ.lim ≤ l) (hO : O (.yield l) args σ = none)
    (h : @C p O pl f (some l) asg ⟨env.puts ps args, []⟩ σ ⟨Ak p O pl f l body K⟩) : Call p O (.yield l) args σ K := yield_of pl hg hf hl hlen hlim hO h
theorem bd_normal {l : Nat} {K : AV → AH → Prop} {fr : Fr} {σ : AH} {f i : Nat} {env : Env} {st : LoopState} {pd : Option AEx} {d : Nat} (hg : σ.get l = some (.loop f i env st pd d)) (h : K (.bool true) (σ.set l (.loop f i env .ready none d))) : Bd l K .normal fr σ :=
  ⟨f, i, env, st, pd, d, hg, h⟩
/-- A loop over a function, outside every round. -/
theorem rg_of {f i : Nat} {g : Opd} {fr : Fr} {σ : AH} {Q : Kn (AEx → Fr → AH → Prop)} {h : Nat} {xs ys : List AV} (ht : target (g.ev fr.env) = some (.fn h, xs, ys))
    (hc : Call p O (.fn h) (xs ++ [.func (.yield (σ.next + 1)) [] []] ++ ys) ((σ.push .dfr).push (.loop f i fr.env .ready none σ.next)) fun _ σ2 =>
      ∃ f' i' env st pd d, σ2.get (σ.next + 1) = some (.loop f' i' env st pd d) ∧ st ≠ .busy ∧ σ2.lim ≤ σ.next + 1 ∧
        Q.k (pd.getD .normal) ⟨fr.env, σ.next :: fr.marks⟩ (σ2.set (σ.next + 1) (.loop f' i' env .exhausted pd d))) : @Rg p O f none i g fr σ Q := by
  obtain ⟨n, v, σ2, e, f', i', env, st, pd, d, g2, hst, hlim, hq⟩ := hc
  refine ⟨n, _, _, _, ?_, hq⟩
  have hn : (σ.push .dfr).next = σ.next + 1 := rfl
  cases st with
  | busy => exact absurd rfl hst
  | ready => simp only [acode, ht, hn, e, g2, hlim, if_true]
  | done => simp only [acode, ht, hn, e, g2, hlim, if_true]
  | exhausted => simp only [acode, ht, hn, e, g2, hlim, if_true]
/-- The mark that such a loop leaves. -/
theorem retK_mark {res : List ARes} {v : AV} {ex : AEx} {env : Env} {m : Nat} {σ : AH} (hm : σ.get m = some .dfr) (hl : σ.lim ≤ m) : RetK res v ex ⟨env, [m]⟩ σ = RetK res v ex ⟨env, []⟩ (σ.set m .dead) := by
  cases ex <;> simp [RetK, takeMarks, hm, hl]
/-- A function of whose answer only a property is known. -/
theorem fn_ex (pl : List Nat) (P : AV → Prop) {g : Nat} {np : Nat} {res : List ARes} {body : ACode} {rec : List ALoop} {args : List AV} (hf : p.funcs.get g = some ⟨np, res, body, rec, true⟩) (hO : (∀ a σ, a ≠ [] → O (.fn g) a σ = none) ∧ ∀ σ, O (.fn g) args σ = none) (hc : args.all (closed 8) = true) (hl : args.length = np)
    (h : @C p O pl g none body ⟨argEnv 0 args, []⟩ ⟨0, 0, .leaf⟩ ⟨fun ex fr σ => ∃ v, P v ∧ RetK res v ex fr σ⟩) : ∃ v, P v ∧ ans p O g args = some v := by
  obtain ⟨n, ex, fr, s, e, v, hP, h⟩ := vC.sound h
  refine ⟨v, hP, ?_⟩
  cases ex with
  | exit j => exact h.elim
  | normal =>
    obtain ⟨s', h1, vs, h2, rfl⟩ := h
    exact ans_of (.inr ⟨⟨np, res, body, rec, true⟩, n, oneOf vs, s', hf, rfl, hO.1, hO.2, hc, by simp only [abody, hl, if_true, e, h1, h2], rfl⟩)
  | ret =>
    obtain ⟨s', h1, vs, h2, rfl⟩ := h
    exact ans_of (.inr ⟨⟨np, res, body, rec, true⟩, n, oneOf vs, s', hf, rfl, hO.1, hO.2, hc, by simp only [abody, hl, if_true, e, h1, h2], rfl⟩)
/-- The objects from lo on, as far as they were there, are left alone. -/
structure Touch (lo : Nat) (σ σ' : AH) : Prop where
  lim : σ'.lim = σ.lim
  next : σ.next ≤ σ'.next
  get : ∀ k, lo ≤ k → k < σ.next → σ'.get k = σ.get k
theorem Touch.refl (lo : Nat) (σ : AH) : Touch lo σ σ := ⟨rfl, Nat.le_refl _, fun _ _ _ => rfl⟩
theorem Touch.trans {lo : Nat} {a b c : AH} (h : Touch lo a b) (k : Touch lo b c) : Touch lo a c := ⟨k.lim.trans h.lim, Nat.le_trans h.next k.next, fun i h1 h2 => (k.get i h1 (Nat.lt_of_lt_of_le h2 h.next)).trans (h.get i h1 h2)⟩
theorem Touch.of {lo : Nat} {σ σ' : AH} (h : Only [] σ σ') : Touch lo σ σ' := ⟨h.lim, h.next, fun k _ h2 => h.get k h2 (by simp)⟩
end
end Go.Oct
end
/- Slices of slices of numbers, made row by row. -/
section
set_option linter.unusedVariables false
set_option linter.unusedSimpArgs false
namespace Go.Oct
/-- A row in an object of its own: the slice that leads to it. -/
def eR (x : Nat × List Int) : AV := .slice (some (x.1, 0)) x.2.length (.ex x.2.length)
theorem encR : Enc eR 1 := ⟨fun _ => rfl, fun _ => rfl, fun _ => rfl, by decide⟩
abbrev rowI (xs : List Int) : List AV := rowOf (AV.int .i64) xs
theorem rowI_eq (xs : List Int) : rowI xs = xs.map (AV.int .i64) := by
  unfold rowI rowOf
  induction xs with
  | nil => rfl
  | cons x xs ih => rw [List.flatMap_cons, ih]; rfl
theorem chunks_one : ∀ (cs : List AV), chunks 1 cs.length cs = cs.map fun c => AV.elem [c]
  | [] => rfl
  | c :: cs => by rw [List.length_cons, chunks, List.map_cons]; simp only [List.take_succ_cons, List.take_zero, List.drop_succ_cons, List.drop_zero]; rw [chunks_one cs]
/-- Two lists of rows, each appended to. -/
def Two (lo : Nat) (σ : AH) (v : AV) (r : List (List Int)) (w : AV) (s : List (List Int)) : Prop :=
  ∃ xs ys : List (Nat × List Int), r = xs.map (·.2) ∧ s = ys.map (·.2) ∧ Buf lo 1 eR σ v xs ∧ Buf lo 1 eR σ w ys ∧ (∀ x, x ∈ xs ∨ x ∈ ys → lo ≤ x.1 ∧ σ.get x.1 = some (.cells (rowI x.2)) ∧ x.1 ∉ obj v ∧ x.1 ∉ obj w) ∧ ∀ i ∈ obj v, i ∉ obj w
theorem Two.nil {lo : Nat} {σ : AH} : Two lo σ (.vsl true []) [] (.vsl true []) [] := ⟨[], [], rfl, rfl, Buf.nil, Buf.nil, fun x hx => by simp at hx, fun i hi => by cases hi⟩
theorem Two.len {lo : Nat} {σ : AH} {v w : AV} {r s : List (List Int)} (h : Two lo σ v r w s) : alen v = some (.int .i64 r.length) := by
  obtain ⟨xs, ys, rfl, h2, h3, h4, h5, h6⟩ := h
  rw [h3.len, List.length_map]
theorem Two.stay {lo : Nat} {σ σ' : AH} {v w : AV} {r s : List (List Int)} (h : Two lo σ v r w s) (ho : Only [] σ σ') : Two lo σ' v r w s := by
  obtain ⟨xs, ys, h1, h2, h3, h4, h5, h6⟩ := h
  refine ⟨xs, ys, h1, h2, h3.stay ho (fun _ _ h => by cases h), h4.stay ho (fun _ _ h => by cases h), fun x hx => ?_, h6⟩
  obtain ⟨a, b, c, d⟩ := h5 x hx
  exact ⟨a, by rw [ho.get _ (AH.get_lt b) (by simp)]; exact b, c, d⟩
theorem Two.push {lo : Nat} {σ : AH} {v w : AV} {r s : List (List Int)} (h : Two lo σ v r w s) (hlim : σ.lim ≤ lo) (hlo : lo ≤ σ.next) (row : List Int) {cs : List AV} (hcs : cs = rowI row) {n : Nat} (hn : n = row.length) {bytes : Nat} (hsz : (r.length + 1) * bytes ≤ topBytes) {k : AV → AH → Prop}
    (hk : ∀ v' σ', Two lo σ' v' (r ++ [row]) w s → Keep lo σ σ' → k v' σ') :
    OptK2 (aappend 1 bytes v (.slice (some (σ.next + 1, 0)) 1 (.ex 1)) ((σ.push (.cells cs)).push (.cells [.slice (some (σ.next, 0)) n (.ex n)]))) k := by
  subst hcs hn
  obtain ⟨xs, ys, rfl, rfl, h3, h4, h5, h6⟩ := h
  rw [List.length_map] at hsz
  refine (h3.grown (.cells (rowI row))).push encR hlim (Nat.le_succ_of_le hlo) (σ.next, row) hsz (cs := [eR (σ.next, row)]) rfl fun v' σ' hb hg => ?_
  have hv := fun i hi => (h3.obj_lt i hi).2
  have hw := fun i hi => (h4.obj_lt i hi).2
  have hnext : (σ.push (.cells (rowI row))).next = σ.next + 1 := rfl
  refine hk v' σ' ⟨xs ++ [(σ.next, row)], ys, by simp, rfl, hb, (h4.grown (.cells (rowI row))).stay hg.only (fun i hi hj => h6 i hj hi), fun x hx => ?_, fun i hi hj => ?_⟩ ((Keep.push hlo _).trans hg.toKeep)
  · have old : x ∈ xs ∨ x ∈ ys → lo ≤ x.1 ∧ σ'.get x.1 = some (.cells (rowI x.2)) ∧ x.1 ∉ obj v' ∧ x.1 ∉ obj w := fun hx => by
      obtain ⟨a, b, c, d⟩ := h5 x hx
      have hlt := AH.get_lt b
      refine ⟨a, ?_, fun hc => ?_, d⟩
      · rw [hg.only.get x.1 (by omega) c, get_push, if_neg (by omega)]; exact b
      · rcases hg.fresh _ hc with h | h
        · exact c h
        · omega
    rcases hx with hx | hx
    · rcases List.mem_append.1 hx with hx | hx
      · exact old (.inl hx)
      · obtain rfl := List.mem_singleton.1 hx
        refine ⟨hlo, ?_, fun hc => ?_, fun hc => by have := hw _ hc; omega⟩
        · rw [hg.only.get σ.next (by omega) (fun hc => by have := hv _ hc; omega)]; simp
        · rcases hg.fresh _ hc with h | h
          · have := hv _ h; omega
          · omega
    · exact old (.inr hx)
  · rcases hg.fresh _ hi with h | h
    · exact h6 i h hj
    · have := hw _ hj; omega
/-! ### A list of rows that is appended to, for any elements -/
section
variable {α : Type} {e : α → AV} {z : Nat}
/-- A row in an object of its own (its capacity open, or told). -/
def eRo (z : Nat) (x : Nat × Bool × List α) : AV := .slice (some (x.1, 0)) x.2.2.length (bif x.2.1 then .op z else .ex x.2.2.length)
theorem encRo : Enc (eRo (α := α) z) 1 := ⟨fun _ => rfl, fun _ => rfl, fun _ => rfl, by decide⟩
/-- A row, as a value. -/
def eRv (e : α → AV) (r : Bool × List α) : AV := vl e r.1 r.2
def RowsB (lo z : Nat) (e : α → AV) (σ : AH) (v : AV) (rs : List (List α)) : Prop :=
  ∃ xs : List (Nat × Bool × List α), rs = xs.map (·.2.2) ∧ Buf lo 1 (eRo z) σ v xs ∧ ∀ x, x ∈ xs → lo ≤ x.1 ∧ σ.get x.1 = some (.cells (rowOf e x.2.2)) ∧ x.1 ∉ obj v
theorem RowsB.nil {lo : Nat} {σ : AH} : RowsB lo z e σ (.vsl true []) [] := ⟨[], rfl, Buf.nil, fun x hx => by cases hx⟩
theorem RowsB.len {lo : Nat} {σ : AH} {v : AV} {rs : List (List α)} (h : RowsB lo z e σ v rs) : alen v = some (.int .i64 rs.length) := by
  obtain ⟨xs, rfl, h3, h5⟩ := h
  rw [h3.len, List.length_map]
theorem RowsB.obj_lt {lo : Nat} {σ : AH} {v : AV} {rs : List (List α)} (h : RowsB lo z e σ v rs) : ∀ i ∈ obj v, lo ≤ i ∧ i < σ.next := by
  obtain ⟨xs, rfl, h3, h5⟩ := h
  exact h3.obj_lt
theorem RowsB.stay {lo b : Nat} {σ σ' : AH} {v : AV} {rs : List (List α)} (h : RowsB lo z e σ v rs) (hk : Keep b σ σ') (hb : σ.next ≤ b) : RowsB lo z e σ' v rs := by
  obtain ⟨xs, h1, h3, h5⟩ := h
  refine ⟨xs, h1, h3.keep fun i _ h2 => hk.get i (by omega), fun x hx => ?_⟩
  obtain ⟨a, b, c⟩ := h5 x hx
  exact ⟨a, by rw [hk.get _ (by have := AH.get_lt b; omega)]; exact b, c⟩
theorem RowsB.push {lo : Nat} {σ : AH} {v : AV} {rs : List (List α)} (h : RowsB lo z e σ v rs) (hlim : σ.lim ≤ lo) (hlo : lo ≤ σ.next) {i : Nat} (row : List α) (hi : lo ≤ i) (hg : σ.get i = some (.cells (rowOf e row))) (hv : i ∉ obj v)
    {n : Nat} (hn : n = row.length) {c : ACap} (hc : c = .op z ∨ c = .ex n) {bytes : Nat} (hsz : (rs.length + 1) * bytes ≤ topBytes) {k : AV → AH → Prop}
    (hk : ∀ v' σ', RowsB lo z e σ' v' (rs ++ [row]) → Grew lo v v' σ σ' → k v' σ') :
    OptK2 (aappend 1 bytes v (.slice (some (σ.next, 0)) 1 (.ex 1)) (σ.push (.cells [.slice (some (i, 0)) n c]))) k := by
  subst hn
  obtain ⟨xs, rfl, h3, h5⟩ := h
  rw [List.length_map] at hsz
  obtain ⟨b, hb⟩ : ∃ b : Bool, (AV.slice (some (i, 0)) row.length c) = eRo z (i, b, row) := by
    rcases hc with rfl | rfl
    · exact ⟨true, rfl⟩
    · exact ⟨false, rfl⟩
  rw [hb]
  refine h3.push encRo hlim hlo (i, b, row) hsz (cs := [eRo z (i, b, row)]) rfl fun v' σ' hb hgr => ?_
  refine hk v' σ' ⟨xs ++ [(i, b, row)], by simp, hb, fun x hx => ?_⟩ hgr
  have old : lo ≤ x.1 ∧ σ.get x.1 = some (.cells (rowOf e x.2.2)) ∧ x.1 ∉ obj v := by
    rcases List.mem_append.1 hx with hx | hx
    · exact h5 x hx
    · obtain rfl := List.mem_singleton.1 hx
      exact ⟨hi, hg, hv⟩
  obtain ⟨a, b, c⟩ := old
  have hlt := AH.get_lt b
  refine ⟨a, ?_, fun hc => ?_⟩
  · rw [hgr.only.get x.1 hlt c]; exact b
  · rcases hgr.fresh _ hc with h | h
    · exact c h
    · omega
theorem rowOf_eRo (xs : List (Nat × Bool × List α)) : rowOf (eRo z) xs = xs.map (eRo z) := by
  unfold rowOf
  induction xs with
  | nil => rfl
  | cons x xs ih => rw [List.flatMap_cons, ih]; rfl
theorem RowsB.fz {lo : Nat} {σ : AH} {v : AV} {rs : List (List α)} (h : RowsB lo z e σ v rs) (he : Enc e z) (hf : flatE e) (n : Nat) : fzV (n + 3) σ.cel v = vl (eRv e) rs.isEmpty (rs.map fun x => (false, x)) := by
  obtain ⟨xs, rfl, h3, h5⟩ := h
  rcases h3 with ⟨rfl, rfl⟩ | ⟨i, rfl, h7, h8, hne⟩
  · rfl
  have hcel : σ.cel i = some (rowOf (eRo z) xs) := by simp [h8]
  show (match σ.cel i with
    | some cs => if 0 ≤ cs.length then
        match ACap.cellsOf xs.length (cs.length - 0) (.op 1) with
        | some z => AV.vsl false (chunks z xs.length ((cs.drop 0).map fun x => (fzV (n + 2) σ.cel x).na))
        | none => .undef
      else .undef
    | none => .undef) = _
  rw [hcel, rowOf_eRo]
  simp only [Nat.zero_le, if_true, List.drop_zero, Nat.sub_zero, List.length_map, ACap.cellsOf, Nat.mul_one, Nat.le_refl, List.map_map]
  have hm : xs.map ((fun x => (fzV (n + 2) σ.cel x).na) ∘ eRo z) = xs.map fun x => vl e false x.2.2 := by
    refine List.map_congr_left fun x hx => ?_
    obtain ⟨a, b, c⟩ := h5 x hx
    have hc2 : σ.cel x.1 = some (rowOf e x.2.2) := by simp [b]
    show (fzV (n + 2) σ.cel (.slice (some (x.1, 0)) x.2.2.length (bif x.2.1 then .op z else .ex x.2.2.length))).na = _
    rw [fz_whole he hf hc2 (by cases x.2.1 <;> simp)]; rfl
  rw [hm]
  have := chunks_one (xs.map fun x => vl e false x.2.2)
  rw [List.length_map] at this
  rw [this]
  have hne2 : (xs.map (·.2.2)).isEmpty = false := by cases xs with
    | nil => exact absurd rfl hne
    | cons => rfl
  rw [hne2]
  simp only [vl, List.map_map]
  rfl
end
end Go.Oct
end
/- More of the conditions of code as rewriting: operations of regions whose order is open. -/
section
set_option linter.unusedVariables false
set_option linter.unusedSimpArgs false
namespace Go.Oct
section
variable {p : AProg} {O : Caller} {pl : List Nat} {env : Env} {σ : AH} {s : Seg} {cl : Cls} (kd : Kn (AV → AH → Seg → Prop)) {c : Prop} [Decidable c]
@[simp ↓] theorem d1_store_semi (n : Nat) (a x : Opd) : @D1 p O pl (.h (.store n a x)) .semi env σ s kd = (σ.lim ≤ s.seg ∧ @Ok2 (ahop (Opd.ev env) (σ.under s.seg) (.store n a x)) ⟨fun v σ' => kd.k v (σ'.under σ.lim) s⟩) := (rfl)
@[simp ↓] theorem d1_store_froz (n : Nat) (a x : Opd) : @D1 p O pl (.h (.store n a x)) .froz env σ s kd = @Ok2 (ahop (Opd.ev env) (σ.under σ.next) (.store n a x)) ⟨fun v σ' => kd.k v (σ'.under σ.lim) s⟩ := (rfl)
@[simp ↓] theorem d1_alloc_semi (cs : List AV) : @D1 p O pl (.h (.alloc cs)) .semi env σ s kd = (σ.lim ≤ s.seg ∧ @O1 p O pl (.h (.alloc cs)) env (σ.under s.seg) ⟨fun v σ' => kd.k v (σ'.under σ.lim) s⟩) := (rfl)
@[simp ↓] theorem e1_alloc (fe : Bool) (cs : List AV) : @E1 p O pl fe c _ (.h (.alloc cs)) cl env σ s kd = (Und c (@D1 p O pl (.h (.alloc cs)) cl env σ s kd) ∧ Und (¬ c) (kd.k (.tuple []) σ s)) := (rfl)
@[simp ↓] theorem d1_box_semi (x : Opd) : @D1 p O pl (.h (.box x)) .semi env σ s kd = (σ.lim ≤ s.seg ∧ @O1 p O pl (.h (.box x)) env (σ.under s.seg) ⟨fun v σ' => kd.k v (σ'.under σ.lim) s⟩) := (rfl)
@[simp ↓] theorem e1_box (fe : Bool) (x : Opd) : @E1 p O pl fe c _ (.h (.box x)) cl env σ s kd = (Und c (@D1 p O pl (.h (.box x)) cl env σ s kd) ∧ Und (¬ c) (kd.k (.tuple []) σ s)) := (rfl)
@[simp ↓] theorem d1_mkMap_full  : @D1 p O pl (.h (.mkMap)) .full env σ s kd = @O1 p O pl (.h (.mkMap)) env σ ⟨fun v σ' => kd.k v σ' ⟨σ'.next, [], []⟩⟩ := (rfl)
@[simp ↓] theorem d1_mkMap_semi  : @D1 p O pl (.h (.mkMap)) .semi env σ s kd = (σ.lim ≤ s.seg ∧ @O1 p O pl (.h (.mkMap)) env (σ.under s.seg) ⟨fun v σ' => kd.k v (σ'.under σ.lim) s⟩) := (rfl)
@[simp ↓] theorem d1_mkMap_froz  : @D1 p O pl (.h (.mkMap)) .froz env σ s kd = @O1 p O pl (.h (.mkMap)) env (σ.under σ.next) ⟨fun v σ' => kd.k v (σ'.under σ.lim) s⟩ := (rfl)
@[simp ↓] theorem e1_mkMap (fe : Bool)  : @E1 p O pl fe c _ (.h (.mkMap)) cl env σ s kd = (Und c (@D1 p O pl (.h (.mkMap)) cl env σ s kd) ∧ Und (¬ c) (kd.k (.tuple []) σ s)) := (rfl)
@[simp ↓] theorem d1_mkSlice_semi (b : Nat) (zero : List AV) (l v : Opd) : @D1 p O pl (.h (.mkSlice b zero l v)) .semi env σ s kd = (σ.lim ≤ s.seg ∧ @O1 p O pl (.h (.mkSlice b zero l v)) env (σ.under s.seg) ⟨fun v σ' => kd.k v (σ'.under σ.lim) s⟩) := (rfl)
@[simp ↓] theorem d1_mkSlice_froz (b : Nat) (zero : List AV) (l v : Opd) : @D1 p O pl (.h (.mkSlice b zero l v)) .froz env σ s kd = @O1 p O pl (.h (.mkSlice b zero l v)) env (σ.under σ.next) ⟨fun v σ' => kd.k v (σ'.under σ.lim) s⟩ := (rfl)
@[simp ↓] theorem e1_mkSlice (fe : Bool) (b : Nat) (zero : List AV) (l v : Opd) : @E1 p O pl fe c _ (.h (.mkSlice b zero l v)) cl env σ s kd = (Und c (@D1 p O pl (.h (.mkSlice b zero l v)) cl env σ s kd) ∧ Und (¬ c) (kd.k (.tuple []) σ s)) := (rfl)
@[simp ↓] theorem d1_copy_full (z : Nat) (x y : Opd) : @D1 p O pl (.h (.copy z x y)) .full env σ s kd = @O1 p O pl (.h (.copy z x y)) env σ ⟨fun v σ' => kd.k v σ' ⟨σ'.next, [], []⟩⟩ := (rfl)
@[simp ↓] theorem d1_copy_semi (z : Nat) (x y : Opd) : @D1 p O pl (.h (.copy z x y)) .semi env σ s kd = (σ.lim ≤ s.seg ∧ @O1 p O pl (.h (.copy z x y)) env (σ.under s.seg) ⟨fun v σ' => kd.k v (σ'.under σ.lim) s⟩) := (rfl)
@[simp ↓] theorem d1_copy_froz (z : Nat) (x y : Opd) : @D1 p O pl (.h (.copy z x y)) .froz env σ s kd = @O1 p O pl (.h (.copy z x y)) env (σ.under σ.next) ⟨fun v σ' => kd.k v (σ'.under σ.lim) s⟩ := (rfl)
@[simp ↓] theorem e1_copy (fe : Bool) (z : Nat) (x y : Opd) : @E1 p O pl fe c _ (.h (.copy z x y)) cl env σ s kd = (Und c (@D1 p O pl (.h (.copy z x y)) cl env σ s kd) ∧ Und (¬ c) (kd.k (.tuple []) σ s)) := (rfl)
@[simp ↓] theorem d1_lookup_full (g : Bool) (sh : List Leaf) (z : AV) (ok : Bool) (m x : Opd) : @D1 p O pl (.h (.lookup g sh z ok m x)) .full env σ s kd = @O1 p O pl (.h (.lookup g sh z ok m x)) env σ ⟨fun v σ' => kd.k v σ' ⟨σ'.next, [], []⟩⟩ := (rfl)
@[simp ↓] theorem d1_lookup_semi (g : Bool) (sh : List Leaf) (z : AV) (ok : Bool) (m x : Opd) : @D1 p O pl (.h (.lookup g sh z ok m x)) .semi env σ s kd = (σ.lim ≤ s.seg ∧ @O1 p O pl (.h (.lookup g sh z ok m x)) env (σ.under s.seg) ⟨fun v σ' => kd.k v (σ'.under σ.lim) s⟩) := (rfl)
@[simp ↓] theorem d1_lookup_froz (g : Bool) (sh : List Leaf) (z : AV) (ok : Bool) (m x : Opd) : @D1 p O pl (.h (.lookup g sh z ok m x)) .froz env σ s kd = @O1 p O pl (.h (.lookup g sh z ok m x)) env (σ.under σ.next) ⟨fun v σ' => kd.k v (σ'.under σ.lim) s⟩ := (rfl)
@[simp ↓] theorem e1_lookup (fe : Bool) (g : Bool) (sh : List Leaf) (z : AV) (ok : Bool) (m x : Opd) : @E1 p O pl fe c _ (.h (.lookup g sh z ok m x)) cl env σ s kd = (Und c (@D1 p O pl (.h (.lookup g sh z ok m x)) cl env σ s kd) ∧ Und (¬ c) (kd.k (.tuple []) σ s)) := (rfl)
@[simp ↓] theorem d1_mapUpd_full (g : Bool) (sh : List Leaf) (m x y : Opd) : @D1 p O pl (.h (.mapUpd g sh m x y)) .full env σ s kd = @O1 p O pl (.h (.mapUpd g sh m x y)) env σ ⟨fun v σ' => kd.k v σ' ⟨σ'.next, [], []⟩⟩ := (rfl)
@[simp ↓] theorem d1_mapUpd_semi (g : Bool) (sh : List Leaf) (m x y : Opd) : @D1 p O pl (.h (.mapUpd g sh m x y)) .semi env σ s kd = (σ.lim ≤ s.seg ∧ @O1 p O pl (.h (.mapUpd g sh m x y)) env (σ.under s.seg) ⟨fun v σ' => kd.k v (σ'.under σ.lim) s⟩) := (rfl)
@[simp ↓] theorem d1_mapUpd_froz (g : Bool) (sh : List Leaf) (m x y : Opd) : @D1 p O pl (.h (.mapUpd g sh m x y)) .froz env σ s kd = @O1 p O pl (.h (.mapUpd g sh m x y)) env (σ.under σ.next) ⟨fun v σ' => kd.k v (σ'.under σ.lim) s⟩ := (rfl)
@[simp ↓] theorem e1_mapUpd (fe : Bool) (g : Bool) (sh : List Leaf) (m x y : Opd) : @E1 p O pl fe c _ (.h (.mapUpd g sh m x y)) cl env σ s kd = (Und c (@D1 p O pl (.h (.mapUpd g sh m x y)) cl env σ s kd) ∧ Und (¬ c) (kd.k (.tuple []) σ s)) := (rfl)
@[simp ↓] theorem d1_mapEntry_full (g : Bool) (sh : List Leaf) (z : AV) (m x : Opd) : @D1 p O pl (.h (.mapEntry g sh z m x)) .full env σ s kd = @O1 p O pl (.h (.mapEntry g sh z m x)) env σ ⟨fun v σ' => kd.k v σ' ⟨σ'.next, [], []⟩⟩ := (rfl)
@[simp ↓] theorem d1_mapEntry_semi (g : Bool) (sh : List Leaf) (z : AV) (m x : Opd) : @D1 p O pl (.h (.mapEntry g sh z m x)) .semi env σ s kd = (σ.lim ≤ s.seg ∧ @O1 p O pl (.h (.mapEntry g sh z m x)) env (σ.under s.seg) ⟨fun v σ' => kd.k v (σ'.under σ.lim) s⟩) := (rfl)
@[simp ↓] theorem d1_mapEntry_froz (g : Bool) (sh : List Leaf) (z : AV) (m x : Opd) : @D1 p O pl (.h (.mapEntry g sh z m x)) .froz env σ s kd = @O1 p O pl (.h (.mapEntry g sh z m x)) env (σ.under σ.next) ⟨fun v σ' => kd.k v (σ'.under σ.lim) s⟩ := (rfl)
@[simp ↓] theorem e1_mapEntry (fe : Bool) (g : Bool) (sh : List Leaf) (z : AV) (m x : Opd) : @E1 p O pl fe c _ (.h (.mapEntry g sh z m x)) cl env σ s kd = (Und c (@D1 p O pl (.h (.mapEntry g sh z m x)) cl env σ s kd) ∧ Und (¬ c) (kd.k (.tuple []) σ s)) := (rfl)
@[simp ↓] theorem d1_entryStore_full (m x y : Opd) : @D1 p O pl (.h (.entryStore m x y)) .full env σ s kd = @O1 p O pl (.h (.entryStore m x y)) env σ ⟨fun v σ' => kd.k v σ' ⟨σ'.next, [], []⟩⟩ := (rfl)
@[simp ↓] theorem d1_entryStore_semi (m x y : Opd) : @D1 p O pl (.h (.entryStore m x y)) .semi env σ s kd = (σ.lim ≤ s.seg ∧ @O1 p O pl (.h (.entryStore m x y)) env (σ.under s.seg) ⟨fun v σ' => kd.k v (σ'.under σ.lim) s⟩) := (rfl)
@[simp ↓] theorem d1_entryStore_froz (m x y : Opd) : @D1 p O pl (.h (.entryStore m x y)) .froz env σ s kd = @O1 p O pl (.h (.entryStore m x y)) env (σ.under σ.next) ⟨fun v σ' => kd.k v (σ'.under σ.lim) s⟩ := (rfl)
@[simp ↓] theorem e1_entryStore (fe : Bool) (m x y : Opd) : @E1 p O pl fe c _ (.h (.entryStore m x y)) cl env σ s kd = (Und c (@D1 p O pl (.h (.entryStore m x y)) cl env σ s kd) ∧ Und (¬ c) (kd.k (.tuple []) σ s)) := (rfl)
@[simp ↓] theorem d1_lenM_full (m : Opd) : @D1 p O pl (.h (.lenM m)) .full env σ s kd = @O1 p O pl (.h (.lenM m)) env σ ⟨fun v σ' => kd.k v σ' ⟨σ'.next, [], []⟩⟩ := (rfl)
@[simp ↓] theorem d1_lenM_semi (m : Opd) : @D1 p O pl (.h (.lenM m)) .semi env σ s kd = (σ.lim ≤ s.seg ∧ @O1 p O pl (.h (.lenM m)) env (σ.under s.seg) ⟨fun v σ' => kd.k v (σ'.under σ.lim) s⟩) := (rfl)
@[simp ↓] theorem d1_lenM_froz (m : Opd) : @D1 p O pl (.h (.lenM m)) .froz env σ s kd = @O1 p O pl (.h (.lenM m)) env (σ.under σ.next) ⟨fun v σ' => kd.k v (σ'.under σ.lim) s⟩ := (rfl)
@[simp ↓] theorem e1_lenM (fe : Bool) (m : Opd) : @E1 p O pl fe c _ (.h (.lenM m)) cl env σ s kd = (Und c (@D1 p O pl (.h (.lenM m)) cl env σ s kd) ∧ Und (¬ c) (kd.k (.tuple []) σ s)) := (rfl)
@[simp ↓] theorem d1_cap_full (m : Opd) : @D1 p O pl (.h (.cap m)) .full env σ s kd = @O1 p O pl (.h (.cap m)) env σ ⟨fun v σ' => kd.k v σ' ⟨σ'.next, [], []⟩⟩ := (rfl)
@[simp ↓] theorem d1_cap_semi (m : Opd) : @D1 p O pl (.h (.cap m)) .semi env σ s kd = (σ.lim ≤ s.seg ∧ @O1 p O pl (.h (.cap m)) env (σ.under s.seg) ⟨fun v σ' => kd.k v (σ'.under σ.lim) s⟩) := (rfl)
@[simp ↓] theorem d1_cap_froz (m : Opd) : @D1 p O pl (.h (.cap m)) .froz env σ s kd = @O1 p O pl (.h (.cap m)) env (σ.under σ.next) ⟨fun v σ' => kd.k v (σ'.under σ.lim) s⟩ := (rfl)
@[simp ↓] theorem e1_cap (fe : Bool) (m : Opd) : @E1 p O pl fe c _ (.h (.cap m)) cl env σ s kd = (Und c (@D1 p O pl (.h (.cap m)) cl env σ s kd) ∧ Und (¬ c) (kd.k (.tuple []) σ s)) := (rfl)
@[simp ↓] theorem d1_appendZ_full (b : Nat) (zero : List AV) (x y : Opd) : @D1 p O pl (.h (.appendZ b zero x y)) .full env σ s kd = @O1 p O pl (.h (.appendZ b zero x y)) env σ ⟨fun v σ' => kd.k v σ' ⟨σ'.next, [], []⟩⟩ := (rfl)
@[simp ↓] theorem d1_appendZ_semi (b : Nat) (zero : List AV) (x y : Opd) : @D1 p O pl (.h (.appendZ b zero x y)) .semi env σ s kd = (σ.lim ≤ s.seg ∧ @O1 p O pl (.h (.appendZ b zero x y)) env (σ.under s.seg) ⟨fun v σ' => kd.k v (σ'.under σ.lim) s⟩) := (rfl)
@[simp ↓] theorem d1_appendZ_froz (b : Nat) (zero : List AV) (x y : Opd) : @D1 p O pl (.h (.appendZ b zero x y)) .froz env σ s kd = @O1 p O pl (.h (.appendZ b zero x y)) env (σ.under σ.next) ⟨fun v σ' => kd.k v (σ'.under σ.lim) s⟩ := (rfl)
@[simp ↓] theorem e1_appendZ (fe : Bool) (b : Nat) (zero : List AV) (x y : Opd) : @E1 p O pl fe c _ (.h (.appendZ b zero x y)) cl env σ s kd = (Und c (@D1 p O pl (.h (.appendZ b zero x y)) cl env σ s kd) ∧ Und (¬ c) (kd.k (.tuple []) σ s)) := (rfl)
@[simp ↓] theorem e1_store (fe : Bool) (n : Nat) (a x : Opd) : @E1 p O pl fe c _ (.h (.store n a x)) cl env σ s kd = (Und c (@D1 p O pl (.h (.store n a x)) cl env σ s kd) ∧ Und (¬ c) (kd.k (.tuple []) σ s)) := (rfl)
end
section
variable {α : Type} {e : α → AV} {z lo : Nat} {σ : AH} {v : AV} {xs : List α}
/-- What is appended, when nothing else reads it. -/
theorem tsl_src (he : Enc e z) (y : α) {σ : AH} {cs : List AV} (hcs : cs = (e y).cells) : lenOf (.tsl 1 cs) = some [y].length ∧ srcOf σ z [y].length (.tsl 1 cs) = some (rowOf e [y]) := by
  subst hcs
  have hz : (e y).cells.length = z := he.len y
  refine ⟨rfl, ?_⟩
  simp only [srcOf, List.length_singleton, Nat.one_mul, hz, Nat.le_refl, if_true, rowOf, List.flatMap_cons, List.flatMap_nil, List.append_nil]
  rw [List.take_of_length_le (by omega)]
theorem Buf.pushT (h : Buf lo z e σ v xs) (he : Enc e z) (hlim : σ.lim ≤ lo) (hlo : lo ≤ σ.next) (y : α) {bytes : Nat} (hsz : (xs.length + 1) * bytes ≤ topBytes) {k : AV → AH → Prop} {cs : List AV} (hcs : cs = (e y).cells)
    (hk : ∀ v' σ', Buf lo z e σ' v' (xs ++ [y]) → Grew lo v v' σ σ' → k v' σ') : OptK2 (aappend z bytes v (.tsl 1 cs) σ) k :=
  h.app (ys := [y]) he hlim hlo (tsl_src he y hcs (σ := σ)).1 (tsl_src he y hcs).2 hsz hk
/-- In a region whose order is open: to a slice that was there before it. -/
theorem Buf.apk (h : Buf lo z e σ v xs) (he : Enc e z) {s : Seg} (hlim : σ.lim ≤ lo) (hlo : lo ≤ s.seg) (hsn : s.seg ≤ σ.next) (hold : ∀ i ∈ obj v, i < s.seg ∧ i ∉ s.lds) (y : α) {bytes : Nat} (hsz : (xs.length + 1) * bytes ≤ topBytes) {cs : List AV} (hcs : cs = (e y).cells) {kd : Kn (AV → AH → Seg → Prop)}
    (hk : ∀ v' σ' sts, Buf lo z e σ' v' (xs ++ [y]) → Grew lo v v' σ σ' → (∀ i, i ∈ sts → i ∈ s.sts ∨ i ∈ obj v) → kd.k v' σ' ⟨s.seg, s.lds, sts⟩) : @ApK (oldA v s) z bytes v (.tsl 1 cs) σ s kd := by
  rcases id h with ⟨rfl, rfl⟩ | ⟨i, rfl, h2, h3, h4⟩
  · rw [oldA_vsl, apk_none]
    refine ⟨by omega, ?_⟩
    refine Buf.pushT (σ := σ.under s.seg) (lo := s.seg) .nil he (by simp) (by simpa using hsn) y hsz hcs fun v' σ' h1 h2 => ?_
    have hlim' : (σ'.under σ.lim).lim = σ.lim := rfl
    refine hk v' (σ'.under σ.lim) s.sts ?_ ⟨⟨rfl, h2.next, fun k hk => h2.get k (by omega)⟩, ⟨rfl, h2.only.next, fun k hk hs => h2.only.get k hk hs⟩, h2.fresh⟩ fun i hi => .inl hi
    rcases h1 with ⟨rfl, e1⟩ | ⟨i, rfl, q1, q2, q3⟩
    · simp at e1
    · exact .inr ⟨i, rfl, by omega, q2, q3⟩
  · have ho := hold i (by simp [obj])
    have hc : i < s.seg ∧ (!s.lds.contains i) = true := ⟨ho.1, by simpa using ho.2⟩
    rw [oldA_some, if_pos hc, apk_some]
    refine h.pushT he hlim (by omega) y hsz hcs fun v' σ' h1 h2 => ?_
    exact hk v' σ' (i :: s.sts) h1 h2 fun j hj => by
      rcases List.mem_cons.1 hj with rfl | hj
      · exact .inr (by simp [obj])
      · exact .inl hj
theorem Whole.pushT (h : Whole lo z e σ v xs) (he : Enc e z) (hlim : σ.lim ≤ lo) (hlo : lo ≤ σ.next) (y : α) {bytes : Nat} (hsz : (xs.length + 1) * bytes ≤ topBytes) {k : AV → AH → Prop} {cs : List AV} (hcs : cs = (e y).cells)
    (hk : ∀ v' σ', Whole lo z e σ' v' (xs ++ [y]) → Grew lo v v' σ σ' → k v' σ') : OptK2 (aappend z bytes v (.tsl 1 cs) σ) k :=
  h.app (ys := [y]) he hlim hlo (tsl_src he y hcs (σ := σ)).1 (tsl_src he y hcs).2 hsz hk
end
end Go.Oct
end
/- Texts: their bytes, their order. -/
section
set_option linter.unusedVariables false
set_option linter.unusedSimpArgs false
namespace Go.Oct
/-- The bytes of a text. -/
def bys (s : ByteArray) : List Int := s.data.toList.map fun b => (b.toNat : Int)
theorem bys_len (s : ByteArray) : (bys s).length = s.size := by unfold bys; rw [List.length_map, Array.length_toList]; rfl
theorem bys_bd (s : ByteArray) (i : Nat) (h : i < (bys s).length) : 0 ≤ nth (bys s) i ∧ nth (bys s) i ≤ 255 := by
  have := nth_mem h
  unfold bys at this
  obtain ⟨b, _, hb⟩ := List.mem_map.1 this
  unfold bys
  rw [← hb]
  have := b.toNat_lt
  omega
section
variable {ρ : Opd → AV}
def aidxT (x i : AV) : Option AV := match x, i with
  | .str s, .int _ i => if 0 ≤ i then (s[i.toNat]?).map fun b => .int .u8 b.toNat else none
  | _, _ => none
@[simp] theorem avop_indexS (x i : Opd) : avop ρ (.indexS x i) = aidxT (ρ x) (ρ i) := (rfl)
@[simp] theorem aidxT_str (s : ByteArray) (q : IntKind) (i : Int) : aidxT (.str s) (.int q i) = if 0 ≤ i ∧ i < ((bys s).length : Int) then some (.int .u8 (nth (bys s) i.toNat)) else none := by
  unfold aidxT
  simp only
  by_cases h : 0 ≤ i
  · rw [if_pos h]
    by_cases h2 : i < ((bys s).length : Int)
    · rw [if_pos ⟨h, h2⟩]
      rw [bys_len] at h2
      have h3 : i.toNat < s.size := by omega
      have e : s[i.toNat]? = some s[i.toNat] := by simp [getElem?_pos, h3]
      rw [e]
      simp only [Option.map_some]
      congr 2
      rw [nth_eq (by rw [bys_len]; exact h3)]
      unfold bys
      simp
      rfl
    · rw [if_neg (by omega)]
      rw [bys_len] at h2
      rw [getElem?_neg (h := by omega)]
      rfl
  · rw [if_neg h, if_neg (by omega)]
def alenT (x : AV) : Option AV := match x with | .str s => some (.int .i64 s.size) | _ => none
@[simp] theorem avop_lenT (x : Opd) : avop ρ (.lenT x) = alenT (ρ x) := (rfl)
@[simp] theorem alenT_str (s : ByteArray) : alenT (.str s) = some (.int .i64 (bys s).length) := by rw [bys_len]; rfl
/-- One text before another one. -/
def slt (a b : ByteArray) : Prop := Op.bytesLess a.toList b.toList = true
instance (a b : ByteArray) : Decidable (slt a b) := by unfold slt; infer_instance
theorem toList_inj {a b : ByteArray} (h : a.toList = b.toList) : a = b := by
  rw [ByteArray.toList_eq, ByteArray.toList_eq] at h
  cases a; cases b
  simp at h
  rw [ByteArray.mk.injEq]
  exact h
@[simp] theorem abin_seql (a b : ByteArray) : abin .eql (.str a) (.str b) = some (.bool (decide (a = b))) := by
  simp only [abin]
  congr 2
  rw [Bool.eq_iff_iff]
  simp only [beq_iff_eq, decide_eq_true_eq]
  exact ⟨toList_inj, fun h => by rw [h]⟩
@[simp] theorem abin_sneq (a b : ByteArray) : abin .neq (.str a) (.str b) = some (.bool (decide (a ≠ b))) := by
  simp only [abin]
  congr 2
  rw [Bool.eq_iff_iff]
  simp only [Bool.not_eq_true', beq_eq_false_iff_ne, ne_eq, decide_eq_true_eq]
  exact ⟨fun h e => h (by rw [e]), fun h e => h (toList_inj e)⟩
@[simp] theorem abin_slss (a b : ByteArray) : abin .lss (.str a) (.str b) = some (.bool (decide (slt a b))) := by
  have h : decide (slt a b) = Op.bytesLess a.toList b.toList := by rw [Bool.eq_iff_iff, decide_eq_true_eq]; rfl
  rw [h]; rfl
@[simp] theorem abin_sgeq (a b : ByteArray) : abin .geq (.str a) (.str b) = some (.bool (decide (¬ slt a b))) := by
  have h : decide (¬ slt a b) = !Op.bytesLess a.toList b.toList := by rw [Bool.eq_iff_iff, decide_eq_true_eq, Bool.not_eq_true']; unfold slt; simp
  rw [h]; rfl
end
/-! ### The order -/
theorem less_irrefl : ∀ x : List UInt8, Op.bytesLess x x = false
  | [] => rfl
  | a :: x => by simp [Op.bytesLess, less_irrefl x, UInt8.lt_irrefl]
theorem less_trans : ∀ {x y z : List UInt8}, Op.bytesLess x y = true → Op.bytesLess y z = true → Op.bytesLess x z = true
  | _, _, [], _, h => by cases h2 : ‹List UInt8› <;> simp [Op.bytesLess] at h
  | _, [], _ :: _, h, _ => by simp [Op.bytesLess] at h
  | [], _ :: _, _ :: _, _, _ => rfl
  | a :: x, b :: y, c :: z, h1, h2 => by
    simp only [Op.bytesLess, Bool.or_eq_true, decide_eq_true_eq, Bool.and_eq_true, beq_iff_eq] at h1 h2 ⊢
    rcases h1 with h1 | ⟨rfl, h1⟩
    · rcases h2 with h2 | ⟨rfl, h2⟩
      · exact .inl (UInt8.lt_trans h1 h2)
      · exact .inl h1
    · rcases h2 with h2 | ⟨rfl, h2⟩
      · exact .inl h2
      · exact .inr ⟨rfl, less_trans h1 h2⟩
theorem less_tri : ∀ x y : List UInt8, Op.bytesLess x y = true ∨ x = y ∨ Op.bytesLess y x = true
  | [], [] => .inr (.inl rfl)
  | [], _ :: _ => .inl rfl
  | _ :: _, [] => .inr (.inr rfl)
  | a :: x, b :: y => by
    simp only [Op.bytesLess, Bool.or_eq_true, decide_eq_true_eq, Bool.and_eq_true, beq_iff_eq, List.cons.injEq]
    rcases UInt8.lt_or_lt_of_ne (a := a) (b := b) |> fun f => (if h : a = b then Or.inr (Or.inl h) else (f h).elim Or.inl (fun g => Or.inr (Or.inr g)) : a < b ∨ a = b ∨ b < a) with h | rfl | h
    · exact .inl (.inl h)
    · rcases less_tri x y with h | rfl | h
      · exact .inl (.inr ⟨rfl, h⟩)
      · exact .inr (.inl ⟨rfl, rfl⟩)
      · exact .inr (.inr (.inr ⟨rfl, h⟩))
    · exact .inr (.inr (.inl h))
theorem slt_irrefl (a : ByteArray) : ¬ slt a a := by unfold slt; rw [less_irrefl]; simp
theorem slt_trans {a b c : ByteArray} (h1 : slt a b) (h2 : slt b c) : slt a c := less_trans h1 h2
theorem slt_tri (a b : ByteArray) : slt a b ∨ a = b ∨ slt b a := by
  rcases less_tri a.toList b.toList with h | h | h
  · exact .inl h
  · exact .inr (.inl (toList_inj h))
  · exact .inr (.inr h)
theorem slt_asymm {a b : ByteArray} (h1 : slt a b) : ¬ slt b a := fun h2 => slt_irrefl a (slt_trans h1 h2)
/-- By the first bytes that differ. -/
theorem less_at : ∀ (i : Nat) (x y : List UInt8) (hx : i < x.length) (hy : i < y.length), (∀ j (h : j < i), x[j] = y[j]) → x[i] < y[i] → Op.bytesLess x y = true
  | 0, a :: x, b :: y, _, _, _, h => by simp only [List.getElem_cons_zero] at h; simp [Op.bytesLess, h]
  | i + 1, a :: x, b :: y, hx, hy, hp, h => by
    have h0 := hp 0 (by omega)
    simp only [List.getElem_cons_zero] at h0
    subst h0
    have := less_at i x y (by simpa using hx) (by simpa using hy) (fun j hj => by simpa using hp (j + 1) (by omega)) (by simpa using h)
    simp [Op.bytesLess, this]
theorem less_short : ∀ (x y : List UInt8), x.length < y.length → (∀ j (h : j < x.length) (h2 : j < y.length), x[j] = y[j]) → Op.bytesLess x y = true
  | [], b :: y, _, _ => rfl
  | a :: x, b :: y, hl, hp => by
    have h0 := hp 0 (by simp) (by simp)
    simp only [List.getElem_cons_zero] at h0
    subst h0
    have := less_short x y (by simpa using hl) (fun j h h2 => by
      have h3 := hp (j + 1) (by simp only [List.length_cons]; omega) (by simp only [List.length_cons]; omega)
      simp only [List.getElem_cons_succ] at h3
      exact h3)
    simp [Op.bytesLess, this]
theorem bang_get {a : ByteArray} {i : Nat} (h : i < a.size) : a[i]! = a.toList[i]'(by rw [ByteArray.toList_eq]; simpa using h) := by
  rw [getElem!_pos a i h]
  simp only [ByteArray.toList_eq]
  rfl
/-- What comparing texts answers. -/
theorem cmp_spec (a b : ByteArray) : (Extern.BytealgCompare.cmp a b = -1 ∧ slt a b) ∨ (Extern.BytealgCompare.cmp a b = 1 ∧ slt b a) ∨ (Extern.BytealgCompare.cmp a b = 0 ∧ a = b) := by
  have la : a.toList.length = a.size := by rw [ByteArray.toList_eq]; simp
  have lb : b.toList.length = b.size := by rw [ByteArray.toList_eq]; simp
  unfold Extern.BytealgCompare.cmp
  split
  · rename_i i hf
    rw [List.find?_range_eq_some] at hf
    obtain ⟨h1, h2, h3⟩ := hf
    have hi := List.mem_range.1 h2
    have ha : i < a.size := by omega
    have hb : i < b.size := by omega
    have hp : ∀ j (h : j < i), a.toList[j]'(by omega) = b.toList[j]'(by omega) := fun j hj => by
      have := h3 j hj
      rw [← bang_get (by omega), ← bang_get (by omega)]
      simpa using this
    have hne : a[i]! ≠ b[i]! := by simpa using h1
    split
    · rename_i hlt
      refine .inl ⟨rfl, less_at i _ _ (by omega) (by omega) hp ?_⟩
      rw [← bang_get ha, ← bang_get hb]; exact hlt
    · rename_i hlt
      refine .inr (.inl ⟨rfl, less_at i _ _ (by omega) (by omega) (fun j hj => (hp j hj).symm) ?_⟩)
      rw [← bang_get ha, ← bang_get hb]
      rcases UInt8.lt_or_lt_of_ne hne with h | h
      · exact absurd h hlt
      · exact h
  · rename_i hf
    rw [List.find?_eq_none] at hf
    have hp : ∀ j (h : j < a.size) (h2 : j < b.size), a.toList[j]'(by omega) = b.toList[j]'(by omega) := fun j h h2 => by
      have := hf j (List.mem_range.2 (by omega))
      rw [← bang_get h, ← bang_get h2]
      simpa using this
    split
    · exact .inl ⟨rfl, less_short _ _ (by omega) fun j h h2 => hp j (by omega) (by omega)⟩
    · split
      · exact .inr (.inl ⟨rfl, less_short _ _ (by omega) fun j h h2 => (hp j (by omega) (by omega)).symm⟩)
      · refine .inr (.inr ⟨rfl, toList_inj (List.ext_getElem (by omega) fun j h h2 => hp j (by omega) (by omega))⟩)
end Go.Oct
end
/- Elements of rows in objects; insertion sort, plain. -/
section
set_option linter.unusedVariables false
set_option linter.unusedSimpArgs false
namespace Go.Oct
theorem under_zero {σ : AH} (h : σ.lim = 0) : σ.under 0 = σ := by
  cases σ
  simp only at h
  subst h
  rfl
section
variable {α : Type} [Inhabited α] {e : α → AV} {z : Nat}
theorem row_at (he : Enc e z) : ∀ {xs : List α} {j : Nat}, j < xs.length → ((rowOf e xs).drop (j * z)).take z = (e (nth xs j)).cells
  | x :: xs, 0, _ => by
    simp only [Nat.zero_mul, List.drop_zero, nth_zero, rowOf, List.flatMap_cons]
    exact List.take_left' (he.len x)
  | x :: xs, j + 1, h => by
    have ih := row_at he (xs := xs) (j := j) (by simpa using h)
    simp only [nth_succ, rowOf, List.flatMap_cons] at ih ⊢
    have e1 : (j + 1) * z = (e x).cells.length + j * z := by rw [he.len, Nat.succ_mul, Nat.add_comm]
    rw [e1, ← List.drop_drop, List.drop_left]
    exact ih
theorem row_cell (he : Enc e z) : ∀ {xs : List α} {j c : Nat}, j < xs.length → c < z → (rowOf e xs)[j * z + c]? = (e (nth xs j)).cells[c]?
  | x :: xs, 0, c, _, hc => by
    simp only [Nat.zero_mul, Nat.zero_add, nth_zero, rowOf, List.flatMap_cons]
    exact List.getElem?_append_left (by rw [he.len]; exact hc)
  | x :: xs, j + 1, c, h, hc => by
    have ih := row_cell he (xs := xs) (j := j) (c := c) (by simpa using h) hc
    simp only [nth_succ, rowOf, List.flatMap_cons] at ih ⊢
    rw [List.getElem?_append_right (by rw [he.len, Nat.succ_mul]; omega), he.len, show (j + 1) * z + c - z = j * z + c by rw [Nat.succ_mul]; omega]
    exact ih
theorem row_int {q : IntKind} {xs : List Int} {j : Nat} (h : j < xs.length) : (rowOf (AV.int q) xs)[j]? = some (.int q (nth xs j)) := by
  have he : Enc (AV.int q) 1 := ⟨fun _ => rfl, fun _ => rfl, fun _ => rfl, by decide⟩
  have := row_cell he (xs := xs) (j := j) (c := 0) h (by omega)
  rw [Nat.mul_one, Nat.add_zero] at this
  exact this
theorem nth_set {xs : List α} {j p : Nat} {y : α} (h : j < xs.length) : nth (xs.set j y) p = if p = j then y else nth xs p := by
  unfold nth
  rw [List.getD_eq_getElem?_getD, List.getD_eq_getElem?_getD, List.getElem?_set]
  by_cases e : p = j
  · subst e; simp [h]
  · rw [if_neg (Ne.symm e), if_neg e]
def swp (xs : List α) (i j : Nat) : List α := (xs.set j (nth xs i)).set i (nth xs j)
theorem swp_perm {xs : List α} {i j : Nat} (hi : i < xs.length) (hj : j < xs.length) : (swp xs i j).Perm xs := by
  unfold swp
  rw [nth_eq hi, nth_eq hj]
  exact List.set_set_perm hj hi
theorem swp_nth {xs : List α} {i j p : Nat} (hi : i < xs.length) (hj : j < xs.length) : nth (swp xs i j) p = if p = i then nth xs j else if p = j then nth xs i else nth xs p := by
  unfold swp
  rw [nth_set (by simpa using hi), nth_set hj]
/-- An order: no two are each before the other one; what is before is before, or behind, what lies between. -/
structure Ord (lt : α → α → Prop) : Prop where
  asymm : ∀ a b, lt a b → ¬ lt b a
  neg : ∀ a b c, lt a c → lt a b ∨ lt b c
def SortedTo (lt : α → α → Prop) (xs : List α) (m : Nat) : Prop := ∀ p q, p < q → q < m → ¬ lt (nth xs q) (nth xs p)
/-- Sorted up to k, but for the one at j, which is not behind those that follow. -/
structure Sink (lt : α → α → Prop) (xs : List α) (k j : Nat) : Prop where
  le : j ≤ k
  others : ∀ p q, p < q → q ≤ k → p ≠ j → q ≠ j → ¬ lt (nth xs q) (nth xs p)
  own : ∀ q, j < q → q ≤ k → ¬ lt (nth xs q) (nth xs j)
variable {lt : α → α → Prop}
theorem Sink.start {xs : List α} {k : Nat} (h : SortedTo lt xs k) : Sink lt xs k k :=
  ⟨Nat.le_refl _, fun p q h1 h2 h3 h4 => h p q h1 (by omega), fun q h1 h2 => by omega⟩
theorem Sink.step (ho : Ord lt) {xs : List α} {k j : Nat} (h : Sink lt xs k j) (hk : k < xs.length) (hj : 0 < j) (hl : lt (nth xs j) (nth xs (j - 1))) : Sink lt (swp xs (j - 1) j) k (j - 1) := by
  have hjk := h.le
  have e : ∀ p, nth (swp xs (j - 1) j) p = if p = j - 1 then nth xs j else if p = j then nth xs (j - 1) else nth xs p := fun p => swp_nth (by omega) (by omega)
  refine ⟨by omega, fun p q h1 h2 h3 h4 => ?_, fun q h1 h2 => ?_⟩
  · rw [e, e, if_neg h3, if_neg h4]
    by_cases h5 : p = j
    · rw [if_pos h5, if_neg (by omega)]
      exact h.others (j - 1) q (by omega) h2 (by omega) (by omega)
    · rw [if_neg h5]
      by_cases h6 : q = j
      · rw [if_pos h6]
        exact h.others p (j - 1) (by omega) (by omega) (by omega) (by omega)
      · rw [if_neg h6]
        exact h.others p q h1 h2 h5 h6
  · rw [e, e, if_neg (by omega), if_pos rfl]
    by_cases h5 : q = j
    · rw [if_pos h5]
      exact ho.asymm _ _ hl
    · rw [if_neg h5]
      exact h.own q (by omega) h2
theorem Sink.stop (ho : Ord lt) {xs : List α} {k j : Nat} (h : Sink lt xs k j) (hl : 0 < j → ¬ lt (nth xs j) (nth xs (j - 1))) : SortedTo lt xs (k + 1) := by
  intro p q h1 h2 hlt
  have hjk := h.le
  by_cases h3 : p = j
  · subst h3
    exact h.own q h1 (by omega) hlt
  · by_cases h4 : q = j
    · subst h4
      by_cases h5 : p = q - 1
      · subst h5; exact hl (by omega) hlt
      · rcases ho.neg _ (nth xs (q - 1)) _ hlt with h6 | h6
        · exact hl (by omega) h6
        · exact h.others p (q - 1) (by omega) (by omega) h3 (by omega) h6
    · exact h.others p q h1 (by omega) h3 h4 hlt
/-- One list alone is sorted, where no two are alike. -/
theorem sorted_uniq (ho : ∀ a b c, lt a b → lt b c → lt a c) (hi : ∀ a, ¬ lt a a) {xs ys : List α} (hp : xs.Perm ys) (hx : ∀ p q, p < q → q < xs.length → lt (nth xs p) (nth xs q)) (hy : ∀ p q, p < q → q < ys.length → lt (nth ys p) (nth ys q)) : xs = ys := by
  have conv : ∀ l : List α, (∀ p q, p < q → q < l.length → lt (nth l p) (nth l q)) → l.Pairwise lt := fun l hl => by
    rw [List.pairwise_iff_getElem]
    intro i j h1 h2 h3
    have := hl i j h3 h2
    rwa [nth_eq h1, nth_eq h2] at this
  exact hp.eq_of_pairwise (fun a b _ _ h1 h2 => absurd (ho _ _ _ h1 h2) (hi a)) (conv _ hx) (conv _ hy)
end

/-! ### Parts of a slice -/
theorem aslS_none (z : Nat) (v : AV) (q : IntKind) (h : Int) : aslS z v none (some (.int q h)) none = aslS z v (some (.int .i64 0)) (some (.int q h)) none := by
  have e : ∀ top len : Nat, abounds top len none (some (.int q h)) none = abounds top len (some (.int .i64 0)) (some (.int q h)) none := fun top len => by
    rw [abounds_h, abounds_lh]
    by_cases h1 : 0 ≤ h ∧ h ≤ (top : Int)
    · rw [if_pos h1, if_pos h1, if_pos ⟨Int.le_refl _, h1.1⟩]; rfl
    · rw [if_neg h1, if_neg h1]
  unfold aslS
  cases v <;> simp only [e]
section
variable {α : Type} {e : α → AV} {z lo : Nat} {σ : AH} {v : AV} {xs : List α}
theorem View.head (h : View lo z e σ v xs) (he : Enc e z) (hf : flatE e) {q : IntKind} {b : Int} (hb : 0 ≤ b) (hb2 : b ≤ xs.length) {k : AV → Prop}
    (hk : ∀ v', View lo z e σ v' (xs.take b.toNat) → obj v' = obj v → k v') : OptK (aslS z v none (some (.int q b)) none) k := by
  rw [aslS_none]
  exact h.sub he hf (Int.le_refl _) hb hb2 fun v' h1 h2 => hk v' (by simpa using h1) h2
theorem View.tail (h : View lo z e σ v xs) (he : Enc e z) (hf : flatE e) {q : IntKind} {a : Int} (ha : 0 ≤ a) (ha2 : a ≤ xs.length) {k : AV → Prop}
    (hk : ∀ v', View lo z e σ v' (xs.drop a.toNat) → obj v' = obj v → k v') : OptK (aslS z v (some (.int q a)) none none) k := by
  have key := h.sub he hf (q := q) (q' := .i64) ha ha2 (Int.le_refl _) (k := k) fun v' h1 h2 => hk v' (by
    rw [Int.toNat_natCast, List.take_of_length_le (by simp)] at h1; exact h1) h2
  obtain ⟨i, c, pre, rest, rfl, h2, h3, h4, h5, h6⟩ := h
  have hs : (xs.length : Int) ≤ c.sure xs.length := by
    rcases h4 with rfl | ⟨n, rfl, h4, _⟩
    · exact Int.le_refl _
    · show (xs.length : Int) ≤ (n : Nat); omega
  have e1 : abounds (c.sure xs.length) xs.length (some (.int q a)) none none = abounds (c.sure xs.length) xs.length (some (.int q a)) (some (.int .i64 xs.length)) none := by
    rw [abounds_l, abounds_lh, if_pos ⟨ha, ha2⟩, if_pos ⟨by omega, hs⟩, if_pos ⟨ha, ha2⟩, Int.toNat_natCast]
  simp only [aslS] at key ⊢
  rw [e1]; exact key
end
end Go.Oct
end
/- Texts as lists of bytes: put together, cut, made of bytes and turned into bytes. -/
section
set_option linter.unusedVariables false
set_option linter.unusedSimpArgs false
namespace Go.Oct
/-- Numbers that are bytes. -/
def byt (l : List Int) : Prop := ∀ x ∈ l, 0 ≤ x ∧ x ≤ 255
theorem byt.app {l m : List Int} (h : byt l) (k : byt m) : byt (l ++ m) := fun x hx => (List.mem_append.1 hx).elim (h x) (k x)
theorem byt.left {l m : List Int} (h : byt (l ++ m)) : byt l := fun x hx => h x (List.mem_append_left _ hx)
theorem foldl_push : ∀ (l : List Int) (a : ByteArray), (l.foldl (fun r n => r.push (UInt8.ofNat n.toNat)) a).data.toList = a.data.toList ++ l.map fun n => UInt8.ofNat n.toNat
  | [], a => by simp
  | x :: l, a => by
    rw [List.foldl_cons, foldl_push l]
    simp [ByteArray.push]
theorem strA_data (l : List Int) : (strA l).data.toList = l.map fun n => UInt8.ofNat n.toNat := by
  unfold strA
  rw [foldl_push]
  rfl
theorem ba_ext {a b : ByteArray} (h : a.data.toList = b.data.toList) : a = b := by
  cases a; cases b
  rw [ByteArray.mk.injEq]
  exact Array.toList_inj.1 h
theorem bys_strA {l : List Int} (h : byt l) : bys (strA l) = l := by
  unfold bys
  rw [strA_data, List.map_map]
  have : l.map ((fun b : UInt8 => (b.toNat : Int)) ∘ fun n => UInt8.ofNat n.toNat) = l.map id := List.map_congr_left fun x hx => by
    have := h x hx
    simp only [Function.comp, id]
    rw [UInt8.toNat_ofNat']
    omega
  rw [this, List.map_id]
theorem strA_bys (s : ByteArray) : strA (bys s) = s := by
  apply ba_ext
  rw [strA_data]
  unfold bys
  rw [List.map_map]
  have : s.data.toList.map ((fun n : Int => UInt8.ofNat n.toNat) ∘ fun b : UInt8 => (b.toNat : Int)) = s.data.toList.map id := List.map_congr_left fun x _ => by
    simp only [Function.comp, id, Int.toNat_natCast, UInt8.ofNat_toNat]
  rw [this, List.map_id]
theorem bys_inj {a b : ByteArray} (h : bys a = bys b) : a = b := by rw [← strA_bys a, h, strA_bys]
/-- A text. -/
def eT (l : List Int) : AV := .str (strA l)
theorem strA_app (l m : List Int) : strA l ++ strA m = strA (l ++ m) := by
  apply ba_ext
  rw [strA_data, List.map_append, ← strA_data, ← strA_data, ByteArray.data_append]
  simp
theorem bys_cut (s : ByteArray) (i j : Nat) : bys (s.extract i j) = ((bys s).take j).drop i := by
  unfold bys
  rw [ByteArray.data_extract, Array.toList_extract]
  simp [List.extract_eq_take_drop, List.map_drop, List.map_take, List.drop_take]
@[simp] theorem abin_sadd (a b : ByteArray) (h : (bys a).length + (bys b).length ≤ 9223372036854775807) : abin .add (.str a) (.str b) = some (.str (a ++ b)) := by
  rw [bys_len, bys_len] at h
  simp only [abin]
  rw [if_pos h]
section
variable {ρ : Opd → AV} {p : AProg}
def aslT (x : AV) (lo hi : Option AV) : Option AV := match x with
  | .str s => (abounds (bys s).length (bys s).length lo hi none).map fun r => .str (s.extract r.1 r.2.1)
  | _ => none
@[simp] theorem avop_slT (x : Opd) (lo hi : Option Opd) : avop ρ (.slT x lo hi) = aslT (ρ x) (lo.map ρ) (hi.map ρ) := by
  simp only [avop, aslT]
  cases ρ x <;> try rfl
  simp only [bys_len]
@[simp] theorem aslT_lh (s : ByteArray) (q q' : IntKind) (a b : Nat) (h1 : a ≤ b) (h2 : b ≤ (bys s).length) : aslT (.str s) (some (.int q a)) (some (.int q' b)) = some (.str (s.extract a b)) := by
  simp only [aslT, abounds, abound]
  simp [h1, h2]
def acntS (x y : AV) : Option AV := match x, y with
  | .str a, .int .u8 c => some (.int .i64 (a.data.toList.count c.toNat.toUInt8 : Nat))
  | _, _ => none
@[simp] theorem avopM_cntS (x y : Opd) : avopM p ρ (.cntS x y) = acntS (ρ x) (ρ y) := by
  rw [show avopM p ρ (.cntS x y) = avop ρ (.cntS x y) from avopM_id (by simp)]
  rfl
/-- How often a byte stands in a text. -/
def cnt (s : ByteArray) (c : Int) : Nat := (bys s).count c
@[simp] theorem acntS_str (a : ByteArray) (c : Int) (h1 : 0 ≤ c) (h2 : c ≤ 255) : acntS (.str a) (.int .u8 c) = some (.int .i64 (cnt a c)) := by
  simp only [acntS, cnt]
  congr 3
  unfold bys
  generalize a.data.toList = l
  induction l with
  | nil => rfl
  | cons b l ih =>
    rw [List.map_cons, List.count_cons, List.count_cons, ih]
    congr 1
    have hb := b.toNat_lt
    by_cases e : (b.toNat : Int) = c
    · have : b = c.toNat.toUInt8 := by
        apply UInt8.toNat_inj.1
        rw [← e]
        simp
      simp [this]
      omega
    · have : ¬ b = c.toNat.toUInt8 := fun h => e (by rw [h]; simp; omega)
      simp [this, e]
end
theorem s2b_cells (s : ByteArray) : (s.data.toList.map fun b => AV.int .u8 b.toNat) = (bys s).map (AV.int .u8) := by unfold bys; rw [List.map_map]; rfl
def as2b (x : AV) (σ : AH) : Option (AV × AH) := match x with
  | .str s => some (.slice (some (σ.next, 0)) (bys s).length (.op 1), σ.push (.cells ((bys s).map (AV.int .u8))))
  | _ => none
@[simp ↓] theorem o1_s2b {p : AProg} {O : Caller} {pl : List Nat} {env : Env} {σ : AH} (k : Kn (AV → AH → Prop)) (x : Opd) : @O1 p O pl (.h (.s2b x)) env σ k = @Ok2 (as2b (x.ev env) σ) k := by
  show OptK2 (ahop (Opd.ev env) σ (.s2b x)) k.k = _
  have : ahop (Opd.ev env) σ (.s2b x) = as2b (x.ev env) σ := by
    simp only [ahop, as2b]
    cases Opd.ev env x <;> try rfl
    simp only [s2b_cells, bys_len]
  rw [this]; rfl
@[simp] theorem as2b_str (s : ByteArray) (σ : AH) : as2b (.str s) σ = some (.slice (some (σ.next, 0)) (bys s).length (.op 1), σ.push (.cells ((bys s).map (AV.int .u8)))) := (rfl)
def ab2s (x : AV) (σ : AH) : Option (AV × AH) := match x with
  | .slice (some (i, o)) n _ => match σ.row i with
    | some cs => if 0 < n ∧ o + n ≤ cs.length then (bytesA ((cs.drop o).take n)).map fun l => (.str (strA l), σ) else none
    | none => none
  | _ => none
@[simp ↓] theorem o1_b2s {p : AProg} {O : Caller} {pl : List Nat} {env : Env} {σ : AH} (k : Kn (AV → AH → Prop)) (x : Opd) : @O1 p O pl (.h (.b2s x)) env σ k = @Ok2 (ab2s (x.ev env) σ) k := (rfl)
theorem bytesA_map : ∀ l : List Int, bytesA (l.map (AV.int .u8)) = some l
  | [] => rfl
  | x :: l => by simp only [List.map_cons, bytesA, bytesA_map l]; rfl
/-- The text of a whole slice of bytes. -/
theorem ab2s_row {σ : AH} {i n : Nat} {c : ACap} {l : List Int} (hr : σ.row i = some (l.map (AV.int .u8))) (hn : n = l.length) (h0 : 0 < n) : ab2s (.slice (some (i, 0)) n c) σ = some (.str (strA l), σ) := by
  simp only [ab2s, hr]
  rw [if_pos ⟨h0, by simp; omega⟩, List.drop_zero, hn, List.take_of_length_le (by simp), bytesA_map]
  rfl
end Go.Oct
end
