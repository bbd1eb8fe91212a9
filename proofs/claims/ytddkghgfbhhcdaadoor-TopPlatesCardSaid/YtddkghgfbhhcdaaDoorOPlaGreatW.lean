/- The greatest errors: the walk. -/
import Derived.Test.YtddkghgfbhhcdaaDoorOPlaGreat
import Derived.Test.YtddkghgfbhhcdaaDoorOT4
set_option maxRecDepth 100000
set_option maxHeartbeats 4000000
set_option linter.unusedVariables false
set_option linter.unusedSimpArgs false
namespace Go.Oct.Pla
open Go.Oct
/-- A reading. -/
structure Rd where
  a : Int
  i : Int
  b : Int
  j : Int
  v : Int
  w : Int
  deriving DecidableEq, Inhabited
def eRd (r : Rd) : AV := .agg [.int .i64 r.a, .int .i64 r.i, .int .i64 r.b, .int .i64 r.j, .int .i64 r.v, .int .i64 r.w]
theorem encRd : Enc eRd 6 := ⟨fun _ => rfl, fun _ => rfl, fun _ => rfl, by decide⟩
theorem flatRd : flatE eRd := fun x c hc k f => by
  simp only [eRd, cells_agg, List.mem_cons, List.not_mem_nil, or_false] at hc
  rcases hc with rfl | rfl | rfl | rfl | rfl | rfl <;> exact ⟨rfl, rfl⟩
@[simp] theorem aidx_rd {nl : Bool} {xs : List Rd} (q : IntKind) (i : Int) : aidx 6 (vl eRd nl xs) (.int q i) = if 0 ≤ i ∧ i < (xs.length : Int) then some (.vptr [.int .i64 (nth xs i.toNat).a, .int .i64 (nth xs i.toNat).i, .int .i64 (nth xs i.toNat).b, .int .i64 (nth xs i.toNat).j, .int .i64 (nth xs i.toNat).v, .int .i64 (nth xs i.toNat).w] 0) else none :=
  aidx_vl (e := eRd) (fun _ => rfl) q i
/-- Screws. -/
abbrev eSet (nl : Bool) (T : List Int) (M : Int) : AV := .agg [vs nl T, .int .i64 M]
def okSet (T : List Int) (M : Int) : Prop := ((1 ≤ (T.length : Int) ∧ (T.length : Int) ≤ 4) ∧ 0 ≤ M ∧ M ≤ 100000) ∧ ∀ i, i < T.length → 1 ≤ nth T i ∧ nth T i ≤ 8
instance (T : List Int) (M : Int) : Decidable (okSet T M) := by unfold okSet; infer_instance
def okRd (T : List Int) (r : Rd) : Prop := (0 ≤ r.a ∧ r.a ≤ (T.length : Int) - 1) ∧ (0 ≤ r.b ∧ r.b ≤ (T.length : Int) - 1) ∧ (0 ≤ r.i ∧ r.i ≤ nth T r.a.toNat) ∧ (0 ≤ r.j ∧ r.j ≤ nth T r.b.toNat) ∧ (-200000 ≤ r.v ∧ r.v ≤ 200000) ∧ 0 ≤ r.w ∧ r.w ≤ 100000
instance (T : List Int) (r : Rd) : Decidable (okRd T r) := by unfold okRd; infer_instance
def okRds (T : List Int) (l : List Rd) : Prop := ∀ j, j < l.length → okRd T (nth l j)
def ndA (r : Rd) : Nat := 9 * r.a.toNat + r.i.toNat
def ndB (r : Rd) : Nat := 9 * r.b.toNat + r.j.toNat
def consOf (r : Rd) : List Con := [⟨ndA r, ndB r, r.v + r.w⟩, ⟨ndB r, ndA r, r.w - r.v⟩]
def cons (l : List Rd) : List Con := l.flatMap consOf
theorem cons_take {l : List Rd} {j : Nat} (h : j < l.length) : cons (l.take (j + 1)) = cons (l.take j) ++ consOf (nth l j) := by
  unfold cons; rw [take_succ_nth h, List.flatMap_append]; simp
theorem pass_append (K K' : List Con) (e : List Int) : pass (K ++ K') e = pass K' (pass K e) := by unfold pass; rw [List.foldl_append]
theorem okay_of {T : List Int} {M : Int} {l : List Rd} (hs : okSet T M) (hr : okRds T l) : Okay T M (cons l) := by
  obtain ⟨⟨⟨h1, h2⟩, h3, h4⟩, h5⟩ := hs
  have hV : ∀ (a i : Int), 0 ≤ a → a ≤ (T.length : Int) - 1 → 0 ≤ i → i ≤ nth T a.toNat → V T (9 * a.toNat + i.toNat) := fun a i e1 e2 e3 e4 => by
    have := h5 a.toNat (by omega)
    unfold V tn
    rw [show (9 * a.toNat + i.toNat) / 9 = a.toNat by omega, show (9 * a.toNat + i.toNat) % 9 = i.toNat by omega]
    omega
  refine ⟨by omega, fun i hi => by have := h5 i hi; unfold tn; omega, h3, fun k hk => ?_⟩
  obtain ⟨r, hr1, hk⟩ := List.mem_flatMap.1 hk
  obtain ⟨j, hj, rfl⟩ := mem_nth.1 hr1
  obtain ⟨⟨a1, a2⟩, ⟨b1, b2⟩, ⟨i1, i2⟩, ⟨j1, j2⟩, _⟩ := hr j hj
  have hA := hV _ _ a1 a2 i1 i2
  have hB := hV _ _ b1 b2 j1 j2
  simp only [consOf, List.mem_cons, List.not_mem_nil, or_false] at hk
  rcases hk with rfl | rfl
  · exact ⟨hA, hB⟩
  · exact ⟨hB, hA⟩
def ints (e : List Int) : List AV := e.map (AV.int .i64)
theorem ints_get {e : List Int} {c : Nat} (h : c < e.length) : (ints e)[c]? = some (.int .i64 (nth e c)) := by
  unfold ints
  rw [List.getElem?_map, nth_get? h]; rfl
theorem ints_set (e : List Int) (c : Nat) (v : Int) : (ints e).set c (.int .i64 v) = ints (e.set c v) := by
  unfold ints; rw [List.map_set]
@[simp] theorem ints_len (e : List Int) : (ints e).length = e.length := List.length_map ..
@[simp] theorem ints_all (e : List Int) : (ints e).all AV.one = true := by
  unfold ints
  rw [List.all_map, List.all_eq_true]
  intro x _; rfl
theorem first_ok (n : Int) (nl : Bool) (xs : List Int) (hx : xs.length < 2 ^ 62) : ans prog O 115 [.int .i64 n, vs nl xs] = some (.int .i64 (xs.foldl min n)) := by
  refine fn_of' pl get115 (oo (by decide)) rfl rfl ?_
  simp +contextual (disch := omega) []
  refine lp_count pl xs.length (fun j => [(0, .int .i64 ((xs.take j).foldl min n)), (7, vs nl xs), (8, .int .i64 xs.length), (9, .int .i64 j)]) (fun _ => ⟨0, 0, .leaf⟩) (fun _ => True) (by simp) ?_
  intro j hj _
  have hf : j < xs.length → (xs.take (j + 1)).foldl min n = min ((xs.take j).foldl min n) (nth xs j) := fun h => by rw [take_succ_nth h, List.foldl_append]; rfl
  simp +contextual (disch := omega) [Und, hf, take_all]
/-- A number is made at most another one. -/
theorem lower_ok {σ : AH} {i c o : Nat} {e : List Int} {x : Int} {K : AV → AH → Prop} (hi : σ.get i = some (.cells (ints e))) (hc : c < e.length) (ho : σ.get o = some (.cells [.int .i64 x])) (hl : σ.lim ≤ i)
    (hk : ∀ σ', σ'.lim = σ.lim → σ'.next = σ.next → σ'.get i = some (.cells (ints (e.set c (min (nth e c) x)))) → (∀ k, k ≠ i → σ'.get k = σ.get k) → K (.tuple []) σ') : Call prog O (.fn 87) [.ptr (some (i, c)), .slice (some (o, 0)) 1 (.ex 1)] σ K := by
  refine @call_of' _ _ pl _ _ _ _ _ _ _ ⟨K⟩ get87 ((oo (by decide)).2 _) rfl ?_
  have hg := ints_get hc
  have hlit : Whole 0 1 (AV.int .i64) σ (.slice (some (o, 0)) 1 (.ex 1)) [x] := ⟨o, .ex 1, rfl, Nat.zero_le _, by rw [ho]; rfl, .inr rfl⟩
  simp +contextual (disch := omega) [hi, hg, ints_len, hc]
  refine ⟨by omega, ?_⟩
  refine pc_scal (.cons (Snap.int σ _ _) (.cons (hlit.view.snap encI flatI) .nil)) (fun h => by simp at h) (by simp) (oo (args := []) (by decide)).1 (first_ok (nth e c) false [x] (by simp)) rfl ?_
  simp +contextual (disch := omega) [hi, hl]
  exact ⟨by omega, by rw [ints_set]; exact hk _ rfl rfl (AH.get_set_same _ _ _ (AH.get_lt hi)) (fun k hk => AH.get_set_other _ _ _ _ hk)⟩
theorem eq36 : ∀ (e f : List Int), e.length = f.length → eqCells (List.replicate e.length .int) (ints e) (ints f) = some (decide (e = f))
  | [], [], _ => rfl
  | [], _ :: _, h => by simp at h
  | _ :: _, [], h => by simp at h
  | x :: e, y :: f, h => by
    have ih := eq36 e f (by simpa using h)
    rw [List.length_cons, List.replicate_succ]
    simp only [ints, List.map_cons, eqCells_int]
    simp only [ints] at ih
    rw [ih]
    by_cases h1 : x = y <;> by_cases h2 : e = f <;> simp [h1, h2]
theorem eqL {e f : List Int} (he : e.length = 36) (hf : f.length = 36) : eqCells [.int, .int, .int, .int, .int, .int, .int, .int, .int, .int, .int, .int, .int, .int, .int, .int, .int, .int, .int, .int, .int, .int, .int, .int, .int, .int, .int, .int, .int, .int, .int, .int, .int, .int, .int, .int] (ints e) (ints f) = some (decide (e = f)) := by
  have := eq36 e f (by rw [he, hf])
  rw [he] at this
  exact this
theorem put36 {e : List Int} {bs : List AV} (he : e.length = 36) (hb : bs.length = 36) : putCells bs 0 (ints e) = ints e := by
  have h := putCells_app (ints e) [] bs (by rw [ints_len]; omega)
  simp only [List.nil_append, List.length_nil] at h
  rw [h, List.drop_of_length_le (by rw [ints_len]; omega), List.append_nil]
theorem fz_ints (k : Nat) (c : Nat → Option (List AV)) (f : List Int) : (ints f).map (fzV (k + 1) c) = ints f := by
  unfold ints; rw [List.map_map]; rfl
theorem take36 {e : List Int} (he : e.length = 36) : (ints e).take 36 = ints e := List.take_of_length_le (by rw [ints_len]; omega)
/-- What greatest answers. -/
def GOK (T : List Int) (M : Int) (l : List Rd) (v : AV) : Prop := ∃ (e : List Int) (ok : Bool), v = .tuple [.agg (ints e), .bool ok] ∧ e.length = 36 ∧ (ok = true → Feas T M (cons l) (fun c => nth e c) ∧ Up T M (cons l) e) ∧ (ok = false → ∀ x, ¬ Feas T M (cons l) x)
theorem greatest_ok (nT nl : Bool) (T : List Int) (M : Int) (l : List Rd) (hs : okSet T M) (hr : okRds T l) (hl : l.length ≤ 24) : ∃ v, GOK T M l v ∧ ans prog O 48 [eSet nT T M, vl eRd nl l] = some v := by
  have ho := okay_of hs hr
  obtain ⟨⟨⟨t1, t2⟩, m1, m2⟩, t3⟩ := id hs
  have htn : ∀ i, i < T.length → (tn T i : Int) = nth T i ∧ 1 ≤ tn T i ∧ tn T i ≤ 8 := fun i hi => by have := t3 i hi; unfold tn; omega
  refine fn_ex pl _ get48 (oo (by decide)) rfl rfl ?_
  simp +contextual (disch := omega) []
  refine lp_loop pl (fun k fr σ => ∃ (i : Nat) (e : List Int), i + k = T.length ∧ fr = ⟨[(1, vl eRd nl l), (2, .ptr (some (0, 0))), (4, .ptr (some (1, 0))), (6, .int .i64 (1 + (cellsT T i).length : Nat)), (20, vs nT T), (21, .int .i64 T.length), (22, .int .i64 i)], []⟩ ∧ σ.lim = 0 ∧ σ.next = 2 ∧ σ.get 0 = some (.cells [vs nT T, .int .i64 M]) ∧ σ.get 1 = some (.cells (ints e)) ∧ e.length = 36 ∧
    ∀ c, c < 36 → nth e c = if c / 9 < i ∧ 1 ≤ c % 9 ∧ c % 9 ≤ tn T (c / 9) then M else 0)
    ⟨T.length, 0, List.replicate 36 0, by omega, rfl, rfl, rfl, by simp, by simp [ints], by simp, fun c hc => by rw [if_neg (by omega)]; unfold nth; rw [List.getD_eq_getElem?_getD, List.getElem?_replicate]; split <;> rfl⟩ ?_
  rintro k _ σ ⟨i, e, hi, rfl, l0, l1, l2, l3, l4, l5⟩
  have hcl : (cellsT T i).length ≤ 8 * i := by
    have : ∀ m, m ≤ i → (cellsT T m).length ≤ 8 * m := by
      intro m
      induction m with
      | zero => intro _; simp [cellsT]
      | succ m ih => intro hm; rw [cellsT_succ]; have := ih (by omega); have := htn m (by omega); simp; omega
    exact this i (Nat.le_refl _)
  simp +contextual (disch := omega) [Und, -Int.natCast_add]
  refine ⟨fun hil => ?_, fun hil => ?_⟩
  · have hti := htn i hil
    have h6 : w64 (((1 + (cellsT T i).length : Nat) : Int) + nth T i) = ((1 + (cellsT T (i + 1)).length : Nat) : Int) := by
      rw [cellsT_succ, List.length_append, List.length_map, List.length_range, w64_id _ (by omega) (by omega)]; omega
    rw [h6]
    refine lp_loop pl (fun k2 fr σ => ∃ (m : Nat) (e : List Int), m + k2 = tn T i ∧ fr = ⟨[(1, vl eRd nl l), (2, .ptr (some (0, 0))), (4, .ptr (some (1, 0))), (6, .int .i64 (1 + (cellsT T (i + 1)).length : Nat)), (7, .int .i64 i), (20, vs nT T), (21, .int .i64 T.length), (22, .int .i64 i), (30, .int .i64 (nth T i)), (31, .int .i64 m)], []⟩ ∧
      σ.lim = 0 ∧ σ.next = 2 ∧ σ.get 0 = some (.cells [vs nT T, .int .i64 M]) ∧ σ.get 1 = some (.cells (ints e)) ∧ e.length = 36 ∧
      ∀ c, c < 36 → nth e c = if (c / 9 < i ∧ 1 ≤ c % 9 ∧ c % 9 ≤ tn T (c / 9)) ∨ (c / 9 = i ∧ 1 ≤ c % 9 ∧ c % 9 ≤ m) then M else 0) ⟨tn T i, 0, e, by omega, rfl, l0, l1, l2, l3, l4, fun c hc => by rw [l5 c hc]; congr 1; apply propext; omega⟩ ?_
    clear l0 l1 l2 l3 l4 l5 hcl h6 σ e
    rintro k2 _ σ ⟨m, e, hm, rfl, l0, l1, l2, l3, l4, l5⟩
    simp +contextual (disch := omega) [Und, l0, l1, l2, l3, l4, -Int.natCast_add]
    refine ⟨fun hmt => ⟨by omega, by omega, by omega, k2 - 1, by omega, m + 1, by omega, by omega, e.set (i * 9 + (m + 1)) M, ints_set _ _ _, by simp [l4], fun c hc => ?_⟩, fun hmt => ⟨k - 1, by omega, i + 1, by omega, ⟨rfl, by omega⟩, e, rfl, l4, fun c hc => ?_⟩⟩
    · rw [nth_set (by omega), l5 c hc]
      by_cases e1 : i * 9 + (m + 1) = c
      · rw [if_pos e1, if_pos (by omega)]
      · rw [if_neg e1]; congr 1; apply propext; omega
    · rw [l5 c hc]
      congr 1
      apply propext
      have hm2 : m = tn T i := by omega
      constructor
      · rintro (h | ⟨h1, h2, h3⟩)
        · omega
        · rw [h1, ← hm2]; omega
      · rintro ⟨h1, h2, h3⟩
        by_cases e1 : c / 9 = i
        · rw [e1, ← hm2] at h3; exact .inr ⟨e1, h2, h3⟩
        · exact .inl ⟨by omega, h2, h3⟩
  · obtain rfl : i = T.length := by omega
    have hC8 : ∀ j, j < T.length → tn T j ≤ 8 := fun j hj => (htn j hj).2.2
    have hVc : ∀ c, V T c → nth e c ≤ M ∧ -100000 ≤ nth e c := fun c hc => by rw [l5 c (V_lt (by omega) hc)]; split <;> omega
    have hUp : Up T M (cons l) e := fun x hx c hc => by
      have h1 := hx.bnd c hc
      rw [l5 c (V_lt (by omega) hc)]
      split
      · exact h1.2
      · rename_i h
        have h2 : c % 9 = 0 := by have := hc.1; have := hc.2; omega
        have h3 := hx.base (c / 9) hc.1
        rw [show 9 * (c / 9) = c by omega] at h3
        omega
    have hB : ∀ c, c < 36 → -100000 ≤ nth e c ∧ nth e c ≤ 100000 := fun c hc => by rw [l5 c hc]; split <;> omega
    have h0 : ∀ i, i < T.length → nth e (9 * i) ≤ 0 := fun i hi => by rw [l5 _ (by omega), if_neg (by omega)]; omega
    have hN32 : (cellsT T T.length).length ≤ 32 := by omega
    generalize hN : (cellsT T T.length).length = N at *
    obtain ⟨I, hI⟩ : ∃ I : Nat → Fr → AH → Prop, I = fun k fr σ => ∃ (r : Nat) (e : List Int) (x : Env), r + k = N + 2 ∧ r ≤ N + 1 ∧ fr = ⟨[(1, vl eRd nl l), (2, .ptr (some (0, 0))), (4, .ptr (some (1, 0))), (6, .int .i64 (1 + N : Nat)), (10, .int .i64 r)] ++ x, []⟩ ∧ (x = [] ∨ ∃ b, x = [(126, .bool b)]) ∧ σ.lim = 0 ∧ 2 ≤ σ.next ∧ σ.get 0 = some (.cells [vs nT T, .int .i64 M]) ∧ σ.get 1 = some (.cells (ints e)) ∧ e.length = 36 ∧
      Up T M (cons l) e ∧ (∀ c, c < 36 → -100000 ≤ nth e c ∧ nth e c ≤ 100000) ∧ (∀ c, V T c → nth e c ≤ M) ∧ (∀ i, i < T.length → nth e (9 * i) ≤ 0) ∧ ∀ d, Great T M (cons l) d → nf T d e + r ≤ N ∨ nf T d e = 0 := ⟨_, rfl⟩
    refine lp_loop pl I (by rw [hI]; exact
      ⟨N + 2, 0, e, [], by omega, by omega, rfl, .inl rfl, l0, by omega, l2, l3, l4, hUp, hB, fun c hc => (hVc c hc).1, h0, fun d _ => .inl (by
        have : nf T d e ≤ N := by rw [← hN]; exact List.length_filter_le _ _
        omega)⟩) ?_
    clear hUp hB h0 hVc l0 l1 l2 l3 l4 l5 hcl hi hil e σ
    intro k fr0 σ h00
    have h01 := h00
    rw [hI] at h01
    obtain ⟨r, e, x, hr1, hr2, rfl, hx, l0, l1, l2, l3, l4, hUp, hB, hM, h0, hnf⟩ := h01
    clear h00
    have hq1 : ¬ 0 = σ.next := by omega
    have hq2 : ¬ 1 = σ.next := by omega
    have hq3 : ¬ σ.next = 0 := by omega
    have hq4 : ¬ σ.next = 1 := by omega
    have htk := take36 l4
    have hpt := fun bs hb => put36 (bs := bs) l4 hb
    rcases hx with rfl | ⟨b, rfl⟩
    all_goals
      simp +contextual (disch := omega) [Und, l0, l2, l3, l4, hq1, hq2, hq3, hq4, htk, hpt, -Int.natCast_add]
      generalize hq : σ.next = q at *
      refine lp_loop pl (fun k3 fr σ' => ∃ (j : Nat) (f : List Int), j + k3 = l.length ∧ fr = ⟨[(1, vl eRd nl l), (2, .ptr (some (0, 0))), (4, .ptr (some (1, 0))), (6, .int .i64 (1 + N : Nat)), (10, .int .i64 r), (11, .ptr (some (q, 0))), (44, vl eRd nl l), (45, .int .i64 l.length), (46, .int .i64 j)], []⟩ ∧ σ'.lim = 0 ∧ q < σ'.next ∧ σ'.get 0 = some (.cells [vs nT T, .int .i64 M]) ∧ σ'.get 1 = some (.cells (ints f)) ∧ σ'.get q = some (.cells (ints e)) ∧
        f = pass (cons (l.take j)) e ∧ f.length = 36 ∧ ∀ c, c < 36 → -100000 - 400000 * (j : Int) ≤ nth f c ∧ nth f c ≤ 100000)
        ⟨l.length, 0, e, by omega, rfl, l0, by show q < σ.next + 1; omega, by simp [hq, hq1, hq3, l2], by simp [hq, hq2, hq4, l3], (AH.get_set_same (σ.push _) q _ (show q < σ.next + 1 by omega)).trans (by rw [hpt _ rfl]), rfl, l4, fun c hc => by have := hB c hc; omega⟩ ?_
      rintro k3 _ σ' ⟨j, f, hj, rfl, s0, s1, s2, s3, s4, hf, hfl, hfb⟩
      by_cases hjl : j < l.length
      · obtain ⟨⟨a1, a2⟩, ⟨b1, b2⟩, ⟨i1, i2⟩, ⟨j1, j2⟩, ⟨v1, v2⟩, w1, w2⟩ := hr j hjl
        have ta := t3 (nth l j).a.toNat (by omega)
        have tb := t3 (nth l j).b.toNat (by omega)
        have z1 : ¬ 1 = σ'.next := by omega
        have z2 : ¬ 0 = σ'.next := by omega
        have z3 : ¬ q = σ'.next := by omega
        have z4 : ¬ σ'.next = 1 := by omega
        have z5 : ¬ σ'.next = 0 := by omega
        have z6 : ¬ σ'.next = q := by omega
        have cA : ndA (nth l j) < 36 := by unfold ndA; omega
        have cB : ndB (nth l j) < 36 := by unfold ndB; omega
        have gB := ints_get (e := f) (c := ndB (nth l j)) (by omega)
        have eA : (nth l j).a.toNat * 9 + (nth l j).i.toNat = ndA (nth l j) := by unfold ndA; omega
        have eB : (nth l j).b.toNat * 9 + (nth l j).j.toNat = ndB (nth l j) := by unfold ndB; omega
        have bB := hfb _ cB
        have bA := hfb _ cA
        simp +contextual (disch := omega) [Und, hjl, s0, s2, s3, s4, z1, z2, z3, z4, z5, z6, eA, eB, gB, hfl]
        refine ⟨by omega, by omega, by omega, by omega, by omega, ?_⟩
        refine lower_ok (e := f) (x := nth f (ndB (nth l j)) + (nth l j).v + (nth l j).w) (by simp [z1, z4, z5, s3]) (by omega) (by simp) (by show σ'.lim ≤ 1; omega) fun σ2 y0 y1 y2 y3 => ?_
        have p0 : σ2.get 0 = some (.cells [vs nT T, .int .i64 M]) := (y3 0 (by omega)).trans (by simp [z2, s2])
        have pq : σ2.get q = some (.cells (ints e)) := (y3 q (by omega)).trans (by simp [z3, s4]; omega)
        have pp : σ2.get σ'.next = some (.cells [.int .i64 (nth l j).a, .int .i64 (nth l j).i, .int .i64 (nth l j).b, .int .i64 (nth l j).j, .int .i64 (nth l j).v, .int .i64 (nth l j).w]) := (y3 σ'.next (by omega)).trans (by simp)
        have p1 : σ2.lim = 0 := y0.trans s0
        have p2 : σ2.next = σ'.next + 2 := y1
        have hmA := fun c (hc : c < f.length) => nth_set (e := f) (p := ndA (nth l j)) (v := min (nth f (ndA (nth l j))) (nth f (ndB (nth l j)) + (nth l j).v + (nth l j).w)) hc
        have hg1 : relax f ⟨ndA (nth l j), ndB (nth l j), (nth l j).v + (nth l j).w⟩ = f.set (ndA (nth l j)) (min (nth f (ndA (nth l j))) (nth f (ndB (nth l j)) + (nth l j).v + (nth l j).w)) := by
          unfold relax; simp only [Int.add_assoc]
        have hgl : (f.set (ndA (nth l j)) (min (nth f (ndA (nth l j))) (nth f (ndB (nth l j)) + (nth l j).v + (nth l j).w))).length = 36 := by rw [List.length_set, hfl]
        have hgb : ∀ c, c < 36 → -100000 - 400000 * (j : Int) - 200000 ≤ nth (f.set (ndA (nth l j)) (min (nth f (ndA (nth l j))) (nth f (ndB (nth l j)) + (nth l j).v + (nth l j).w))) c ∧ nth (f.set (ndA (nth l j)) (min (nth f (ndA (nth l j))) (nth f (ndB (nth l j)) + (nth l j).v + (nth l j).w))) c ≤ 100000 := fun c hc => by
          have := hfb c hc
          rw [hmA c (by omega)]
          split <;> omega
        generalize f.set (ndA (nth l j)) (min (nth f (ndA (nth l j))) (nth f (ndB (nth l j)) + (nth l j).v + (nth l j).w)) = g at *
        have gA := ints_get (e := g) (c := ndA (nth l j)) (by omega)
        have cbA := hgb _ cA
        have cbB := hgb _ cB
        simp +contextual (disch := omega) [p0, pq, pp, p1, y2, hgl, gA, ints_len]
        refine ⟨by omega, ?_⟩
        have x1 : ¬ 1 = σ2.next := by omega
        have x2 : ¬ 0 = σ2.next := by omega
        have x3 : ¬ q = σ2.next := by omega
        refine lower_ok (e := g) (x := nth g (ndA (nth l j)) - (nth l j).v + (nth l j).w) (by simp [x1, y2]) (by omega) (by simp) (by show σ2.lim ≤ 1; omega) fun σ3 u0 u1 u2 u3 => ?_
        have r0 : σ3.get 0 = some (.cells [vs nT T, .int .i64 M]) := (u3 0 (by omega)).trans (by simp [x2, p0])
        have rq : σ3.get q = some (.cells (ints e)) := (u3 q (by omega)).trans (by simp [x3, pq])
        have rl : σ3.lim = 0 := u0.trans p1
        have rn : σ3.next = σ2.next + 1 := u1
        have hg2 : relax g ⟨ndB (nth l j), ndA (nth l j), (nth l j).w - (nth l j).v⟩ = g.set (ndB (nth l j)) (min (nth g (ndB (nth l j))) (nth g (ndA (nth l j)) - (nth l j).v + (nth l j).w)) := by
          unfold relax
          simp only
          rw [show nth g (ndA (nth l j)) + ((nth l j).w - (nth l j).v) = nth g (ndA (nth l j)) - (nth l j).v + (nth l j).w by omega]
        have hpass : g.set (ndB (nth l j)) (min (nth g (ndB (nth l j))) (nth g (ndA (nth l j)) - (nth l j).v + (nth l j).w)) = pass (cons (l.take (j + 1))) e := by
          rw [cons_take hjl, pass_append, ← hf, ← hg2, ← hg1]
          rfl
        simp +contextual (disch := omega) []
        refine ⟨k3 - 1, by omega, j + 1, by omega, by omega, rl, by omega, r0, _, u2, rq, hpass, by rw [List.length_set, hgl], fun c hc => ?_⟩
        have := hgb c hc
        rw [nth_set (by omega)]
        split <;> omega
      · obtain rfl : j = l.length := by omega
        rw [List.take_length] at hf
        have hlt36 : ∀ c, V T c → c < 36 := fun c hc => V_lt ho.len hc
        have hUpF : Up T M (cons l) f := by rw [hf]; exact pass_up _ (fun k hk => ⟨hk, (ho.con k hk).2⟩) (fun c hc => by rw [l4]; exact hlt36 c hc) hUp
        have hleF : ∀ c, c < 36 → nth f c ≤ nth e c := fun c hc => by rw [hf]; exact pass_le _ (by omega)
        have htkf := take36 hfl
        have hptf := put36 (bs := ints f) hfl (by rw [ints_len, hfl])
        have hno : ∀ c, V T c → nth f c < -M → ∀ x, ¬ Feas T M (cons l) x := fun c hc h1 x hx => by
          have h2 := hUpF x hx c hc
          have h3 := hx.bnd c hc
          omega
        have hno0 : ∀ i, i < T.length → nth f (9 * i) < 0 → ∀ x, ¬ Feas T M (cons l) x := fun i hi h1 x hx => by
          have h2 := hUpF x hx _ (V_base hi)
          have h3 := hx.base i hi
          omega
        simp +contextual (disch := omega) [Und, s0, s2, s3, s4, -Int.natCast_add]
        refine lp_loop pl (fun k4 fr σ2 => ∃ i : Nat, i + k4 = T.length ∧ fr = ⟨[(1, vl eRd nl l), (2, .ptr (some (0, 0))), (4, .ptr (some (1, 0))), (6, .int .i64 (1 + N : Nat)), (10, .int .i64 r), (11, .ptr (some (q, 0))), (88, vs nT T), (89, .int .i64 T.length), (90, .int .i64 i)], []⟩ ∧ σ' = σ2 ∧
          (∀ c, V T c → c / 9 < i → -M ≤ nth f c) ∧ ∀ j, j < i → 0 ≤ nth f (9 * j)) ⟨T.length, 0, by omega, rfl, rfl, fun c _ h => by omega, fun j h => by omega⟩ ?_
        rintro k4 _ _ ⟨i, hi, rfl, rfl, hc1, hc2⟩
        by_cases hil : i < T.length
        · have hti := htn i hil
          simp +contextual (disch := omega) [Und, hil, -Int.natCast_add]
          refine lp_loop pl (fun k5 fr σ2 => ∃ m : Nat, m + k5 = tn T i + 1 ∧ fr = ⟨[(1, vl eRd nl l), (2, .ptr (some (0, 0))), (4, .ptr (some (1, 0))), (6, .int .i64 (1 + N : Nat)), (10, .int .i64 r), (11, .ptr (some (q, 0))), (16, .int .i64 i), (88, vs nT T), (89, .int .i64 T.length), (90, .int .i64 i), (96, .int .i64 (nth T i + 1)), (97, .int .i64 m)], []⟩ ∧ σ' = σ2 ∧
            (∀ k, k < m → -M ≤ nth f (9 * i + k)) ∧ (0 < m → 0 ≤ nth f (9 * i))) ⟨tn T i + 1, 0, by omega, rfl, rfl, fun k h => by omega, fun h => by omega⟩ ?_
          rintro k5 _ _ ⟨m, hm, rfl, rfl, hd1, hd2⟩
          by_cases hml : m < tn T i + 1
          · have hVm : V T (9 * i + m) := by
              unfold V
              rw [show (9 * i + m) / 9 = i by omega, show (9 * i + m) % 9 = m by omega]
              exact ⟨hil, by omega⟩
            have g1 := ints_get (e := f) (c := 9 * i + m) (by omega)
            have g2 := ints_get (e := f) (c := 9 * i) (by omega)
            rw [show 9 * i + m = i * 9 + m by omega] at g1
            rw [show 9 * i = i * 9 by omega] at g2
            have hn1 : 1 < σ'.next := by omega
            have hmT : (m : Int) < nth T i + 1 := by omega
            simp +contextual (disch := omega) [Und, s0, s2, s3, s4, hfl, g1, g2, htkf, hptf, hn1, hmT, -Int.natCast_add]
            refine ⟨by omega, by omega, by omega, fun _ => by omega, fun _ => by omega, fun hbad => ?_, fun h1 h2 => ?_⟩
            · rw [fz_ints]
              refine ⟨f, false, rfl, hfl, by simp, fun _ => ?_⟩
              rcases hbad with h | h
              · exact hno _ hVm (by rw [show 9 * i + m = i * 9 + m by omega]; exact h)
              · exact hno0 i hil (by rw [show 9 * i = i * 9 by omega]; exact h)
            · refine ⟨k5 - 1, by omega, m + 1, by omega, by omega, fun k hk => ?_, fun _ => by rw [show 9 * i = i * 9 by omega]; exact h2⟩
              by_cases e1 : k = m
              · rw [e1, show 9 * i + m = i * 9 + m by omega]; exact h1
              · exact hd1 k (by omega)
          · simp +contextual (disch := omega) [Und, -Int.natCast_add]
            refine ⟨by omega, fun _ => ⟨k4 - 1, by omega, i + 1, by omega, by omega, fun c hc h1 => ?_, fun j hj => ?_⟩⟩
            · by_cases e1 : c / 9 = i
              · have := hc.2
                rw [e1] at this
                have h2 := hd1 (c % 9) (by omega)
                rw [show 9 * i + c % 9 = c by omega] at h2
                exact h2
              · exact hc1 c hc (by omega)
            · by_cases e1 : j = i
              · rw [e1]; exact hd2 (by omega)
              · exact hc2 j (by omega)
        · have hall : ∀ c, V T c → -M ≤ nth f c := fun c hc => hc1 c hc (by have := hc.1; omega)
          have heq := eqL hfl l4
          have htke := take36 l4
          by_cases hfe : f = e
          · have heqe := eqL l4 l4
            have hn1 : 1 < σ'.next := by omega
            simp +contextual (disch := omega) [Und, hil, s0, s2, s3, s4, hfl, l4, htkf, htke, hptf, put36 (bs := ints e) l4 (by rw [ints_len, l4]), heqe, hfe, hn1, -Int.natCast_add]
            rw [fz_ints]
            refine ⟨e, true, rfl, l4, fun _ => ⟨⟨fun i hi => ?_, fun c hc => ?_, ?_⟩, hUp⟩, by simp⟩
            · have h1 := h0 i hi
              have h2 := hc2 i (by omega)
              rw [hfe] at h2
              show nth e (9 * i) = 0
              omega
            · have h1 := hall c hc
              rw [hfe] at h1
              exact ⟨h1, hM c hc⟩
            · exact pass_fix (cons l) (fun k hk => ⟨by rw [l4]; exact hlt36 _ (ho.con k hk).1, by rw [l4]; exact hlt36 _ (ho.con k hk).2⟩) (hf.symm.trans hfe)
          · have hn1 : 1 < σ'.next := by omega
            simp +contextual (disch := omega) [Und, hil, s0, s2, s3, s4, hfl, l4, htkf, htke, hptf, heq, hfe, hn1, -Int.natCast_add]
            refine ⟨fun hr3 => ?_, fun hr3 => ⟨k - 1, by omega, ?_⟩⟩
            · rw [fz_ints]
              refine ⟨f, false, rfl, hfl, by simp, fun _ x hx => ?_⟩
              obtain ⟨d, hd⟩ := great_ex ho _ x hx (Nat.le_refl _)
              rcases hnf d hd with h | h
              · omega
              · exact hfe (hf.trans (pass_done ho hd l4 hUp h0 h))
            · rw [hI]
              refine ⟨r + 1, f, [(126, .bool (decide (((1 + N : Nat) : Int) < (r : Int) + 1)))], by omega, by omega, by simp, .inr ⟨_, rfl⟩, s0, by omega, s2, s3, hfl, hUpF, fun c hc => ?_, fun c hc => Int.le_trans (hleF c (hlt36 c hc)) (hM c hc), fun i hi => Int.le_trans (hleF _ (by omega)) (h0 i hi), fun d hd => ?_⟩
              · by_cases hV : V T c
                · have h1 := hall c hV
                  have h2 := hleF c hc
                  have h3 := hB c hc
                  omega
                · have h1 : nth f c = nth e c := by
                    rw [hf]
                    exact pass_other _ (by omega) fun k hk h => hV (h ▸ (ho.con k hk).1)
                  have h3 := hB c hc
                  omega
              · rcases Nat.eq_zero_or_pos (nf T d e) with h | h
                · exact absurd (hf.trans (pass_done ho hd l4 hUp h0 h)) hfe
                · have h1 := pass_nf ho hd l4 hUp hM h0 h
                  rw [← hf] at h1
                  rcases hnf d hd with h2 | h2
                  · exact .inl (by omega)
                  · omega
end Go.Oct.Pla
