/- The theory, part 4. -/
import Derived.Test.YtcbiofokeadddaaOT3
/- Slices in objects of their own: whole ones, and parts that are read. -/
section
set_option linter.unusedVariables false
set_option linter.unusedSimpArgs false
namespace Go.Oct

@[simp] theorem isDef_tuple (vs : List AV) : isDef (.tuple vs) = True := (rfl)
@[simp] theorem wantP_tuple (vs : List AV) (w : Bool) : wantP (.tuple vs) w = False := (rfl)
/-- What a call sees of an argument: the objects that it leads to, and its snapshot. -/
structure Snap (σ : AH) (v : AV) (S : List Nat) (v' : AV) : Prop where
  ids : idsV 8 σ.cel v = S
  fz : ∀ T, (∀ i ∈ S, i ∈ T) → fzV 8 (σ.celOf T) v = v'
inductive Snaps (σ : AH) : List AV → List Nat → List AV → Prop
  | nil : Snaps σ [] [] []
  | cons {v v' : AV} {vs vs' : List AV} {S R : List Nat} : Snap σ v S v' → Snaps σ vs R vs' → Snaps σ (v :: vs) (S ++ R) (v' :: vs')
theorem Snaps.ids {σ : AH} {vs vs' : List AV} {S : List Nat} (h : Snaps σ vs S vs') : vs.flatMap (idsV 8 σ.cel) = S := by
  induction h with
  | nil => rfl
  | cons h1 _ ih => rw [List.flatMap_cons, h1.ids, ih]
theorem Snaps.fz {σ : AH} {vs vs' : List AV} {S : List Nat} (h : Snaps σ vs S vs') : ∀ T, (∀ i ∈ S, i ∈ T) → vs.map (fzV 8 (σ.celOf T)) = vs' := by
  induction h with
  | nil => intros; rfl
  | cons h1 _ ih => intro T hT; rw [List.map_cons, h1.fz T (fun i hi => hT i (List.mem_append_left _ hi)), ih T (fun i hi => hT i (List.mem_append_right _ hi))]
theorem Snap.int (σ : AH) (q : IntKind) (n : Int) : Snap σ (.int q n) [] (.int q n) := ⟨rfl, fun _ _ => rfl⟩
theorem Snap.bool (σ : AH) (n : Bool) : Snap σ (.bool n) [] (.bool n) := ⟨rfl, fun _ _ => rfl⟩
theorem Snap.vl {α : Type} (σ : AH) (e : α → AV) (nl : Bool) (xs : List α) : Snap σ (vl e nl xs) [] (vl e nl xs) := ⟨rfl, fun _ _ => rfl⟩
/-- A call whose result is numbers alone: nothing changes. -/
theorem pc_scal {p : AProg} {O : Caller} {b : Bool} {g : Nat} {args args' : List AV} {σ : AH} {k : Kn (AV → AH → Prop)} {r : AV} {S : List Nat} (hs : Snaps σ args S args') (hcl : b = true → args' = args)
    (hne : args ≠ []) (ho : ∀ a σ, a ≠ [] → O (.fn g) a σ = none) (hans : ans p O g args' = some r) (hr : isScal 8 r = true) (hk : k.k r σ) : @PcI p O b g args σ k := by
  cases b with
  | true =>
    rw [pcI_true, ← hcl rfl, hans, ok1_some]
    exact hk
  | false =>
    rw [pcI_false, hs.ids, hs.fz S (fun _ h => h), hans, ok1_some]
    refine ⟨hne, ho, ?_⟩
    show if isScal 8 r = true then k.k r σ else S.all (fun i => decide (σ.lim ≤ i)) = true ∧ k.k r (σ.kills S)
    rw [if_pos hr]
    exact hk
/-- A call whose result may lead to something: the arguments' objects are given up. -/
theorem pc_kill {p : AProg} {O : Caller} {b : Bool} {g : Nat} {args args' : List AV} {σ : AH} {k : Kn (AV → AH → Prop)} {r : AV} {S : List Nat} (hs : Snaps σ args S args') (hcl : b = true → args' = args)
    (hne : args ≠ []) (ho : ∀ a σ, a ≠ [] → O (.fn g) a σ = none) (hS : ∀ i ∈ S, σ.lim ≤ i) (hans : ans p O g args' = some r) (hk : ∀ σ', Only S σ σ' → k.k r σ') : @PcI p O b g args σ k :=
  pc_open S hs.ids (hs.fz S fun _ h => h) hcl hne ho hS hans hk

/-- A cell of data. -/
def flatC (c : AV) : Prop := ∀ (k : Nat) (f : Nat → Option (List AV)), idsV (k + 1) f c = [] ∧ (fzV (k + 1) f c).na = c
theorem flatC.int (q : IntKind) (n : Int) : flatC (.int q n) := fun _ _ => ⟨rfl, rfl⟩
section
variable {α : Type} {e : α → AV} {z lo : Nat} {σ σ' : AH} {v : AV} {xs ys : List α}
theorem flat_row (hf : flatE e) (xs : List α) : ∀ c ∈ rowOf e xs, flatC c := fun c hc k f => by
  obtain ⟨x, _, hx⟩ := List.mem_flatMap.1 hc
  exact hf x c hx k f
theorem chunks_row_app (he : Enc e z) : ∀ (ys : List α) (r : List AV), chunks z ys.length (rowOf e ys ++ r) = ys.map e
  | [], r => rfl
  | y :: ys, r => by
    simp only [rowOf, List.flatMap_cons, List.length_cons, chunks, List.map_cons, List.append_assoc]
    rw [List.take_left' (he.len y), List.drop_left' (he.len y), he.elem]
    exact congrArg _ (chunks_row_app he ys r)
/-- A slice that may be read, in an object of its own. -/
def View (lo z : Nat) (e : α → AV) (σ : AH) (v : AV) (xs : List α) : Prop :=
  ∃ i c pre rest, v = .slice (some (i, pre.length)) xs.length c ∧ lo ≤ i ∧ σ.get i = some (.cells (pre ++ (rowOf e xs ++ rest))) ∧ (c = .op z ∨ ∃ n, c = .ex n ∧ xs.length ≤ n ∧ rest.length = (n - xs.length) * z) ∧ (∀ c ∈ pre, flatC c) ∧ ∀ c ∈ rest, flatC c
theorem View.len (h : View lo z e σ v xs) : alen v = some (.int .i64 xs.length) := by
  obtain ⟨i, c, pre, rest, rfl, _⟩ := h; rfl
theorem View.closed (h : View lo z e σ v xs) (k : Nat) : closed (k + 1) v = false := by
  obtain ⟨i, c, pre, rest, rfl, _⟩ := h; rfl
theorem View.obj_lt (h : View lo z e σ v xs) : ∀ i ∈ obj v, lo ≤ i ∧ i < σ.next := by
  obtain ⟨i, c, pre, rest, rfl, h2, h3, _⟩ := h
  intro j hj
  obtain rfl := List.mem_singleton.1 hj
  exact ⟨h2, AH.get_lt h3⟩
theorem View.stay {S : List Nat} (h : View lo z e σ v xs) (ho : Only S σ σ') (hd : ∀ i ∈ obj v, i ∉ S) : View lo z e σ' v xs := by
  obtain ⟨i, c, pre, rest, rfl, h2, h3, h4⟩ := h
  exact ⟨i, c, pre, rest, rfl, h2, by rw [ho.get i (AH.get_lt h3) (hd i (List.mem_singleton.2 rfl))]; exact h3, h4⟩
theorem View.grown (h : View lo z e σ v xs) (o : AObj) : View lo z e (σ.push o) v xs := h.stay (Only.push [] σ o) fun _ _ h => by cases h
theorem View.snap (h : View lo z e σ v xs) (he : Enc e z) (hf : flatE e) : Snap σ v (obj v) (vl e false xs) := by
  obtain ⟨i, c, pre, rest, rfl, h2, h3, h4, h5, h6⟩ := h
  have hcel : σ.cel i = some (pre ++ (rowOf e xs ++ rest)) := by simp [h3]
  have hfl : ∀ c ∈ pre ++ (rowOf e xs ++ rest), flatC c := fun c hc => by
    rcases List.mem_append.1 hc with h | h
    · exact h5 c h
    · rcases List.mem_append.1 h with h | h
      · exact flat_row hf xs c h
      · exact h6 c h
  refine ⟨?_, fun T hT => ?_⟩
  · show (match σ.cel i with
      | some cs => i :: cs.flatMap (idsV 7 σ.cel)
      | none => []) = [i]
    rw [hcel]
    show i :: (pre ++ (rowOf e xs ++ rest)).flatMap (idsV 7 σ.cel) = [i]
    have : (pre ++ (rowOf e xs ++ rest)).flatMap (idsV 7 σ.cel) = [] := by
      rw [List.flatMap_eq_nil_iff]
      exact fun c hc => (hfl c hc 6 _).1
    rw [this]
  · have hi : T.contains i = true := by simpa using hT i (List.mem_singleton.2 rfl)
    have hc : σ.celOf T i = some (pre ++ (rowOf e xs ++ rest)) := by unfold AH.celOf; rw [if_pos hi]; exact hcel
    have hm : (pre ++ (rowOf e xs ++ rest)).map (fun c => (fzV 7 (σ.celOf T) c).na) = pre ++ (rowOf e xs ++ rest) :=
      (List.map_congr_left (g := id) fun c hc => (hfl c hc 6 _).2).trans (List.map_id _)
    have hlx := rowOf_length he xs
    show (match σ.celOf T i with
      | some cs => if pre.length ≤ cs.length then
          match ACap.cellsOf xs.length (cs.length - pre.length) c with
          | some z => AV.vsl false (chunks z xs.length ((cs.drop pre.length).map fun x => (fzV 7 (σ.celOf T) x).na))
          | none => .undef
        else .undef
      | none => .undef) = _
    rw [hc]
    have hd : ((pre ++ (rowOf e xs ++ rest)).drop pre.length).map (fun c => (fzV 7 (σ.celOf T) c).na) = rowOf e xs ++ rest := by
      rw [List.map_drop, hm, List.drop_left]
    simp only
    rw [if_pos (by simp), hd, show (pre ++ (rowOf e xs ++ rest)).length - pre.length = (rowOf e xs ++ rest).length by simp]
    have fin : chunks z xs.length (rowOf e xs ++ rest) = xs.map e := chunks_row_app he xs rest
    rcases h4 with rfl | ⟨n, rfl, h4, h7⟩
    · simp only [ACap.cellsOf, List.length_append, hlx, Nat.le_add_right, if_true, fin]; rfl
    · simp only [ACap.cellsOf]
      by_cases h0 : xs.length = 0
      · have : xs = [] := List.eq_nil_of_length_eq_zero h0
        subst this
        rfl
      · have hcz : (rowOf e xs ++ rest).length = n * z := by
          rw [List.length_append, hlx, h7, ← Nat.add_mul]
          congr 1
          omega
        rw [if_neg h0, hcz, Nat.mul_div_cancel_left z (by omega), if_pos ⟨Nat.mul_comm z n, h4⟩]
        simp only [fin]; rfl
/-- A part of a slice. -/
theorem View.cut (h : View lo z e σ v xs) (he : Enc e z) (hf : flatE e) {a b : Nat} (hab : a ≤ b) (hb : b ≤ xs.length) {c' : ACap} {n : Nat} (hn : n = b - a) :
    ∃ i o c, v = .slice (some (i, o)) xs.length c ∧ (∀ m, m = none → c.less z a m ≠ none) ∧ ∀ c', c.less z a none = some c' → View lo z e σ (.slice (some (i, o + a * z)) n c') ((xs.drop a).take n) := by
  obtain ⟨i, c, pre, rest, rfl, h2, h3, h4, h5, h6⟩ := h
  have hxs : xs = xs.take a ++ ((xs.drop a).take n ++ (xs.drop a).drop n) := by rw [List.take_append_drop, List.take_append_drop]
  have hrow : pre ++ (rowOf e xs ++ rest) = (pre ++ rowOf e (xs.take a)) ++ (rowOf e ((xs.drop a).take n) ++ (rowOf e ((xs.drop a).drop n) ++ rest)) := by
    have : rowOf e xs = rowOf e (xs.take a) ++ (rowOf e ((xs.drop a).take n) ++ rowOf e ((xs.drop a).drop n)) := by
      rw [← rowOf_append, ← rowOf_append, ← hxs]
    rw [this]
    simp only [List.append_assoc]
  have hl1 : (pre ++ rowOf e (xs.take a)).length = pre.length + a * z := by
    rw [List.length_append, rowOf_length he, List.length_take]; congr 2; omega
  have hl2 : ((xs.drop a).take n).length = n := by simp; omega
  refine ⟨i, pre.length, c, rfl, ?_, ?_⟩
  · rintro m rfl
    rcases h4 with rfl | ⟨n, rfl, _⟩ <;> simp [ACap.less]
  · intro c' hc'
    refine ⟨i, c', pre ++ rowOf e (xs.take a), rowOf e ((xs.drop a).drop n) ++ rest, by rw [hl1, hl2], h2, by rw [h3, hrow], ?_, ?_, ?_⟩
    · rcases h4 with rfl | ⟨m, rfl, h4, h7⟩
      · simp [ACap.less] at hc'; exact .inl hc'.symm
      · simp [ACap.less] at hc'
        refine .inr ⟨m - a, hc'.symm, by rw [hl2]; omega, ?_⟩
        rw [List.length_append, rowOf_length he, h7, hl2, ← Nat.add_mul]
        congr 1
        simp only [List.length_drop]
        omega
    · intro x hx
      rcases List.mem_append.1 hx with hx | hx
      · exact h5 x hx
      · exact flat_row hf _ x hx
    · intro x hx
      rcases List.mem_append.1 hx with hx | hx
      · exact flat_row hf _ x hx
      · exact h6 x hx
/-- v[a:b] -/
theorem View.sub (h : View lo z e σ v xs) (he : Enc e z) (hf : flatE e) {q q' : IntKind} {a b : Int} (ha : 0 ≤ a) (hab : a ≤ b) (hb : b ≤ xs.length) {k : AV → Prop}
    (hk : ∀ v', View lo z e σ v' ((xs.drop a.toNat).take (b.toNat - a.toNat)) → obj v' = obj v → k v') : OptK (aslS z v (some (.int q a)) (some (.int q' b)) none) k := by
  have hsure : ∀ c : ACap, View lo z e σ v xs → (∃ i o, v = .slice (some (i, o)) xs.length c) → xs.length ≤ c.sure xs.length := by
    rintro c ⟨i, c', pre, rest, rfl, _, _, h4, _⟩ ⟨i', o, e⟩
    obtain rfl : c' = c := by simp at e; exact e.2
    rcases h4 with rfl | ⟨n, rfl, h4, _⟩
    · exact Nat.le_refl _
    · exact h4
  obtain ⟨i, o, c, hv, h1, h2⟩ := h.cut he hf (a := a.toNat) (b := b.toNat) (by omega) (by omega) (c' := .ex 0) rfl
  have hs := hsure c h ⟨i, o, hv⟩
  obtain ⟨c', hc'⟩ := Option.ne_none_iff_exists'.1 (h1 none rfl)
  subst hv
  simp only [aslS, abounds_lh]
  rw [if_pos (by omega), if_pos (by omega)]
  simp only [hc', Option.map_some, optK_some]
  exact hk _ (h2 c' hc') rfl

/-- A whole slice, in an object of its own. -/
def Whole (lo z : Nat) (e : α → AV) (σ : AH) (v : AV) (xs : List α) : Prop :=
  ∃ i c, v = .slice (some (i, 0)) xs.length c ∧ lo ≤ i ∧ σ.get i = some (.cells (rowOf e xs)) ∧ (c = .op z ∨ c = .ex xs.length)
theorem Whole.view (h : Whole lo z e σ v xs) : View lo z e σ v xs := by
  obtain ⟨i, c, rfl, h2, h3, h4⟩ := h
  refine ⟨i, c, [], [], rfl, h2, by simpa using h3, ?_, by simp, by simp⟩
  rcases h4 with rfl | rfl
  · exact .inl rfl
  · exact .inr ⟨_, rfl, Nat.le_refl _, by simp⟩
theorem Whole.len (h : Whole lo z e σ v xs) : alen v = some (.int .i64 xs.length) := h.view.len
theorem Whole.stay {S : List Nat} (h : Whole lo z e σ v xs) (ho : Only S σ σ') (hd : ∀ i ∈ obj v, i ∉ S) : Whole lo z e σ' v xs := by
  obtain ⟨i, c, rfl, h2, h3, h4⟩ := h
  exact ⟨i, c, rfl, h2, by rw [ho.get i (AH.get_lt h3) (hd i (List.mem_singleton.2 rfl))]; exact h3, h4⟩
theorem Whole.obj_lt (h : Whole lo z e σ v xs) : ∀ i ∈ obj v, lo ≤ i ∧ i < σ.next := h.view.obj_lt
theorem Whole.lower {lo' : Nat} (h : Whole lo z e σ v xs) (hl : lo' ≤ lo) : Whole lo' z e σ v xs := by
  obtain ⟨i, c, rfl, h2, h3, h4⟩ := h
  exact ⟨i, c, rfl, by omega, h3, h4⟩
/-- An empty one, from a literal. -/
theorem Whole.lit0 (hlo : lo ≤ σ.next) : Whole lo z e (σ.push (.cells [])) (.slice (some (σ.next, 0)) 0 (.ex 0)) ([] : List α) :=
  ⟨σ.next, .ex 0, rfl, hlo, by simp [rowOf], .inr rfl⟩
theorem zcells_eq (zero : List AV) : ∀ n, zcells zero n = (List.replicate n zero).flatten := by
  intro n
  unfold zcells
  split
  · induction n with
    | zero => rfl
    | succ n ih => rw [List.replicate_succ, List.replicate_succ, List.flatten_cons, ← ih]; rfl
  · rfl
theorem zcells_row (e : α → AV) {x : α} {zero : List AV} (hz : zero = (e x).cells) (n : Nat) : zcells zero n = rowOf e (List.replicate n x) := by
  rw [zcells_eq, hz]
  unfold rowOf
  induction n with
  | zero => rfl
  | succ n ih => rw [List.replicate_succ, List.replicate_succ, List.flatten_cons, List.flatMap_cons, ih]
/-- One that was made with its length. -/
theorem Whole.make (hlo : lo ≤ σ.next) {x : α} {zero : List AV} (hz : zero = (e x).cells) (n : Nat) : Whole lo z e (σ.push (.cells (zcells zero n))) (.slice (some (σ.next, 0)) n (.ex n)) (List.replicate n x) :=
  ⟨σ.next, .ex n, by simp, hlo, by rw [zcells_row e hz n]; simp, .inr (by simp)⟩
/-- More elements. -/
theorem Whole.app (h : Whole lo z e σ v xs) (he : Enc e z) (hlim : σ.lim ≤ lo) (hlo : lo ≤ σ.next) {src : AV} (hl : lenOf src = some ys.length) (hs : srcOf σ z ys.length src = some (rowOf e ys)) {bytes : Nat} (hsz : (xs.length + ys.length) * bytes ≤ topBytes)
    {k : AV → AH → Prop} (hk : ∀ v' σ', Whole lo z e σ' v' (xs ++ ys) → Grew lo v v' σ σ' → k v' σ') : OptK2 (aappend z bytes v src σ) k := by
  have hone := rowOf_one he ys
  have hly := rowOf_length he ys
  have hlx := rowOf_length he xs
  obtain ⟨i, c, rfl, h2, h3, h4⟩ := h
  simp only [aappend, dstOf, hl]
  by_cases h0 : ys.length = 0
  · rw [if_pos h0, optK2_some]
    have : ys = [] := List.eq_nil_of_length_eq_zero h0
    subst this
    exact hk _ _ ⟨i, c, by simp, h2, by simpa using h3, by simpa using h4⟩ ⟨Keep.refl _ _, Only.refl _ _, fun i h => .inl h⟩
  · rw [if_neg h0]
    simp only [hs]
    have hrow : σ.row i = some (rowOf e xs) := by simp [h3]
    have hown : σ.own i = some (rowOf e xs) := by simp [h3, Nat.le_trans hlim h2]
    have hin := AH.get_lt h3
    have htk : (rowOf e xs).take (xs.length * z) = rowOf e xs := by rw [← hlx, List.take_length]
    have hcp : cellsAt σ (xs.length * z) (some (i, 0)) = some (rowOf e xs) := by
      simp only [cellsAt, hrow]
      rw [if_pos (by rw [hlx]; omega), List.drop_zero, htk]
    rcases h4 with rfl | rfl
    · simp only [agrow, if_true, hown]
      have hnot : ¬ (0 + (xs.length + ys.length) * z ≤ (rowOf e xs).length) := by
        rw [hlx, Nat.add_mul, Nat.zero_add]
        have := Nat.mul_le_mul_right z (show 1 ≤ ys.length by omega)
        have := he.pos
        omega
      simp only [hnot, if_false, hsz, hone, and_self, if_true, hcp, optK2_some]
      refine hk _ _ ⟨σ.next, .op z, by simp, hlo, ?_, .inl rfl⟩ ⟨(Keep.push hlo _).trans (Keep.set h2 _), (Only.push _ _ _).trans (Only.set (List.mem_singleton.2 rfl) _), fun i h => .inr (by simp [obj] at h; omega)⟩
      rw [AH.get_set_other _ _ _ _ (by omega), AH.get_push_new, rowOf_append]
    · simp only [agrow]
      rw [if_neg (by omega)]
      simp only [hsz, hone, and_self, if_true, hcp, optK2_some]
      refine hk _ _ ⟨σ.next, .op z, by simp, hlo, ?_, .inl rfl⟩ ⟨Keep.push hlo _, Only.push _ _ _, fun i h => .inr (by simp [obj] at h; omega)⟩
      rw [AH.get_push_new, rowOf_append]
/-- The elements of a slice that no one writes. -/
theorem Whole.appV (h : Whole lo z e σ v xs) (he : Enc e z) (hlim : σ.lim ≤ lo) (hlo : lo ≤ σ.next) {nl : Bool} {bytes : Nat} (hsz : (xs.length + ys.length) * bytes ≤ topBytes)
    {k : AV → AH → Prop} (hk : ∀ v' σ', Whole lo z e σ' v' (xs ++ ys) → Grew lo v v' σ σ' → k v' σ') : OptK2 (aappend z bytes v (vl e nl ys) σ) k := by
  refine h.app he hlim hlo (by simp [vl, lenOf]) ?_ hsz hk
  simp only [vl, srcOf]
  rw [if_pos]
  · rw [List.take_of_length_le (by simp), List.flatMap_map]; rfl
  · rw [List.all_eq_true]
    intro x hx
    obtain ⟨y, _, rfl⟩ := List.mem_map.1 (List.mem_of_mem_take hx)
    simp [he.len]
/-- One element more. -/
theorem Whole.push (h : Whole lo z e σ v xs) (he : Enc e z) (hlim : σ.lim ≤ lo) (hlo : lo ≤ σ.next) (y : α) {bytes : Nat} (hsz : (xs.length + 1) * bytes ≤ topBytes) {k : AV → AH → Prop} {cs : List AV} (hcs : cs = (e y).cells)
    (hk : ∀ v' σ', Whole lo z e σ' v' (xs ++ [y]) → Grew lo v v' σ σ' → k v' σ') : OptK2 (aappend z bytes v (.slice (some (σ.next, 0)) 1 (.ex 1)) (σ.push (.cells cs))) k := by
  subst hcs
  have hg : Whole lo z e (σ.push (.cells (e y).cells)) v xs := h.stay (Only.push [] σ _) fun _ _ h => by cases h
  refine hg.app (ys := [y]) he hlim (by simp; omega) rfl ?_ hsz fun v' σ' h1 h2 => hk v' σ' h1 ⟨(Keep.push hlo _).trans h2.toKeep, (Only.push _ _ _).trans h2.only, fun i h => (h2.fresh i h).elim .inl fun h => .inr (Nat.le_of_succ_le h)⟩
  have : (e y).cells.length = z := he.len y
  simp only [srcOf, cellsAt, List.length_singleton, Nat.one_mul, row_def, get_push, if_true, rowOf, List.flatMap_cons, List.flatMap_nil, List.append_nil, Nat.zero_add, this, Nat.le_refl, List.drop_zero]
  rw [← this, List.take_length]
theorem putCells_mid : ∀ (cs as bs rs : List AV), bs.length = cs.length → putCells (as ++ (bs ++ rs)) as.length cs = as ++ (cs ++ rs)
  | [], as, bs, rs, h => by
    have : bs = [] := List.eq_nil_of_length_eq_zero h
    subst this; simp
  | x :: cs, as, [], rs, h => by simp at h
  | x :: cs, as, b :: bs, rs, h => by
    have h' : bs.length = cs.length := by simpa using h
    have := putCells_mid cs (as ++ [x]) bs rs h'
    simp only [putCells, List.set_append_right _ _ (Nat.le_refl as.length), Nat.sub_self, List.cons_append, List.set_cons_zero]
    simp only [List.length_append, List.length_singleton, List.append_assoc, List.singleton_append, List.cons_append, List.nil_append] at this
    exact this
theorem rowOf_set (he : Enc e z) [Inhabited α] {j : Nat} (hj : j < xs.length) (y : α) : putCells (rowOf e xs) (j * z) (e y).cells = rowOf e (xs.set j y) := by
  have h1 : xs = xs.take j ++ (nth xs j :: xs.drop (j + 1)) := by rw [← drop_nth hj, List.take_append_drop]
  have h2 : xs.set j y = xs.take j ++ (y :: xs.drop (j + 1)) := by
    rw [List.set_eq_take_append_cons_drop, if_pos hj]
  have h3 : rowOf e xs = rowOf e (xs.take j) ++ ((e (nth xs j)).cells ++ rowOf e (xs.drop (j + 1))) := by
    conv => lhs; rw [h1]
    rw [rowOf_append]; simp [rowOf]
  have h4 : (rowOf e (xs.take j)).length = j * z := by rw [rowOf_length he, List.length_take]; congr 1; omega
  rw [h3, ← h4, putCells_mid _ _ _ _ (by rw [he.len, he.len]), h2, rowOf_append]
  simp [rowOf]
/-- v[j] = y: the address, then the store. -/
theorem Whole.set (h : Whole lo z e σ v xs) (he : Enc e z) [Inhabited α] (hlim : σ.lim ≤ lo) {q : IntKind} {j : Int} (h0 : 0 ≤ j) (hj : j < xs.length) :
    ∃ i, aidx z v (.int q j) = some (.ptr (some (i, j.toNat * z))) ∧ ∀ (y : α) (x : AV), x.dfd = true → x.cells = (e y).cells → ∃ σ', astore z (.ptr (some (i, j.toNat * z))) x σ = some (.undef, σ') ∧ Whole lo z e σ' v (xs.set j.toNat y) ∧ Only (obj v) σ σ' ∧ Keep lo σ σ' := by
  obtain ⟨i, c, rfl, h2, h3, h4⟩ := h
  refine ⟨i, by simp [h0, hj], fun y x hd hx => ⟨σ.set i (.cells (putCells (rowOf e xs) (j.toNat * z) (e y).cells)), ?_, ⟨i, c, by simp, h2, ?_, by simpa using h4⟩, Only.set (List.mem_singleton.2 rfl) _, Keep.set h2 _⟩⟩
  · have hown : σ.own i = some (rowOf e xs) := by simp [h3, Nat.le_trans hlim h2]
    simp only [astore, hown, hx, hd, he.len, he.one, rowOf_length he]
    rw [if_pos]
    refine ⟨trivial, trivial, ?_, trivial⟩
    have := Nat.mul_le_mul_right z (show j.toNat + 1 ≤ xs.length by omega)
    rw [Nat.succ_mul] at this
    exact this
  · rw [AH.get_set_same _ _ _ (AH.get_lt h3), rowOf_set he (by omega)]
theorem Buf.whole (h : Buf lo z e σ v xs) (hne : xs ≠ []) : Whole lo z e σ v xs := by
  rcases h with ⟨_, h⟩ | ⟨i, rfl, h2, h3, _⟩
  · exact absurd h hne
  · exact ⟨i, .op z, rfl, h2, h3, .inl rfl⟩
theorem Buf.snapS (h : Buf lo z e σ v xs) (he : Enc e z) (hf : flatE e) : Snap σ v (obj v) (vl e xs.isEmpty xs) := ⟨h.ids hf 6, fun T hT => h.snap he hf hT 6⟩
end
end Go.Oct
end
