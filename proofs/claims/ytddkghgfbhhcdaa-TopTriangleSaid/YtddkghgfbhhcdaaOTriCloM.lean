/- Nets: maps of slices, plain; the program's sum. -/
import Derived.Test.YtddkghgfbhhcdaaOTriLw
set_option maxRecDepth 100000
set_option maxHeartbeats 8000000
set_option linter.unusedVariables false
set_option linter.unusedSimpArgs false
namespace Go.Oct.Tri
open Go.Oct
/-- An entry: a key, a list, a stamp. -/
abbrev ME := Int × AV × Nat
def ent (e : ME) : AV × AV × Nat := (.int .i64 e.1, e.2.1, e.2.2)
def mget : List ME → Int → Option AV
  | [], _ => none
  | e :: es, t => if e.1 = t then some e.2.1 else mget es t
theorem keyEq_I (a b : Int) : keyEq false [.int] (.int .i64 a) (.int .i64 b) = some (decide (a = b)) := by
  simp only [keyEq, eqCells]
  rw [show (decide (a = b)) = (a == b) from by rw [Bool.eq_iff_iff]; simp]
  simp
theorem find_I (t : Int) : ∀ (es : List ME) (i : Nat), (findE false [.int] (.int .i64 t) (es.map ent) i = some none ∧ mget es t = none) ∨
    ∃ j b l, findE false [.int] (.int .i64 t) (es.map ent) i = some (some (i + j, l, b)) ∧ mget es t = some l ∧
      ∀ l', ∃ es', setE (.int .i64 t) l' (es.map ent) j = es'.map ent ∧ ∀ t', mget es' t' = if t = t' then some l' else mget es t'
  | [], i => .inl ⟨rfl, rfl⟩
  | (k, l, b) :: es, i => by
    simp only [List.map_cons, ent, findE, keyEq_I, mget]
    by_cases e : k = t
    · subst e
      refine .inr ⟨0, b, l, by simp, by simp, fun l' => ⟨(k, l', b) :: es, rfl, fun t' => ?_⟩⟩
      simp only [mget]
      by_cases e3 : k = t' <;> simp [e3]
    · have e' : ¬ t = k := fun h => e h.symm
      rcases find_I t es (i + 1) with ⟨h1, h2⟩ | ⟨j, b', l1, h1, h2, h3⟩
      · refine .inl ⟨by simpa [e, e', ent] using h1, by simp [e, h2]⟩
      · refine .inr ⟨j + 1, b', l1, by simp [e, e', h1]; omega, by simp [e, h2], fun l' => ?_⟩
        obtain ⟨es', h4, h5⟩ := h3 l'
        refine ⟨(k, l, b) :: es', by simp [setE, ent, h4], fun t' => ?_⟩
        simp only [mget, h5]
        by_cases e2 : k = t'
        · subst e2; simp [e']
        · simp [e2]
theorem mget_app (t : Int) (l : AV) (c : Nat) : ∀ (es : List ME), mget es t = none → ∀ t', mget (es ++ [(t, l, c)]) t' = if t = t' then some l else mget es t'
  | [], _, t' => by simp [mget]
  | (k, l1, b) :: es, h, t' => by
    have e : ¬ k = t := fun e => by simp [mget, e] at h
    have h2 : mget es t = none := by simpa [mget, e] using h
    simp only [List.cons_append, mget, mget_app t l c es h2]
    by_cases e2 : k = t'
    · subst e2
      have e' : ¬ t = k := fun h => e h.symm
      simp [e']
    · simp [e2]
/-- The value at a key. -/
def mgl (es : List ME) (t : Int) : AV := (mget es t).getD (.vsl true [])
theorem look_I {σ : AH} {m c : Nat} {es : List ME} (t : Int) (hg : σ.get m = some (.map (es.map ent) c)) :
    alookup false [.int] (AV.vsl true []) false (.map (some m)) (.int .i64 t) σ = some (mgl es t, σ) := by
  have hk : keyEq false [.int] (.int .i64 t) (.int .i64 t) = some true := by rw [keyEq_I]; simp
  rcases find_I t es 0 with ⟨h1, h2⟩ | ⟨j, b, l, h1, h2, _⟩
  · simp only [alookup, hg, hk, h1, mgl, h2]; rfl
  · simp only [alookup, hg, hk, h1, mgl, h2]; rfl
theorem upd_I {σ : AH} {m c : Nat} {es : List ME} (t : Int) (l : AV) (hl : σ.lim ≤ m) (hg : σ.get m = some (.map (es.map ent) c)) :
    ∃ es' c', amapUpd false [.int] (.map (some m)) (.int .i64 t) l σ = some (.undef, σ.set m (.map (es'.map ent) c')) ∧ ∀ t', mgl es' t' = if t = t' then l else mgl es t' := by
  have hk : keyEq false [.int] (.int .i64 t) (.int .i64 t) = some true := by rw [keyEq_I]; simp
  rcases find_I t es 0 with ⟨h1, h2⟩ | ⟨j, b, l1, h1, h2, h3⟩
  · refine ⟨es ++ [(t, l, c)], c + 1, ?_, fun t' => ?_⟩
    · simp [amapUpd, hl, hg, hk, h1, ent]
    · simp only [mgl, mget_app t l c es h2]
      by_cases e : t = t' <;> simp [e]
  · obtain ⟨es', h4, h5⟩ := h3 l
    refine ⟨es', c, ?_, fun t' => ?_⟩
    · simp [amapUpd, hl, hg, hk, h1, h4]
    · simp only [mgl, h5]
      by_cases e : t = t' <;> simp [e]
/-- The angles that are asked for. -/
def lBy (f : An → Bool) : List An → List Int → List Int
  | a :: A, x :: h => (if f a = true then [x] else []) ++ lBy f A h
  | _, _ => []
theorem lBy_app (f : An → Bool) : ∀ (A : List An) (h : List Int) (a : An) (x : Int), h.length = A.length → lBy f (A ++ [a]) (h ++ [x]) = lBy f A h ++ if f a = true then [x] else []
  | [], [], a, x, _ => by simp [lBy]
  | [], _ :: _, _, _, h => by simp at h
  | _ :: _, [], _, _, h => by simp at h
  | b :: A, y :: h, a, x, hl => by
    simp only [List.cons_append, lBy, lBy_app f A h a x (by simpa using hl), List.append_assoc]
def sumL : List Int → Int
  | [] => 0
  | x :: l => x + sumL l
theorem sumL_app : ∀ (l m : List Int), sumL (l ++ m) = sumL l + sumL m
  | [], m => by simp [sumL]
  | x :: l, m => by simp only [List.cons_append, sumL, sumL_app l m]; omega
theorem sumL_by (f : An → Bool) : ∀ (A : List An) (h : List Int), sumL (lBy f A h) = sBy f A h
  | [], _ => by simp [lBy, sBy, sumL]
  | _ :: _, [] => by simp [lBy, sBy, sumL]
  | a :: A, x :: h => by
    simp only [lBy, sBy, sumL_app, sumL_by f A h]
    split <;> simp [sumL]
theorem lBy_mem (f : An → Bool) {y : Int} : ∀ (A : List An) (h : List Int), y ∈ lBy f A h → y ∈ h
  | [], _, hy => by simp [lBy] at hy
  | _ :: _, [], hy => by simp [lBy] at hy
  | a :: A, x :: h, hy => by
    simp only [lBy, List.mem_append] at hy
    rcases hy with hy | hy
    · split at hy
      · simp at hy; simp [hy]
      · simp at hy
    · exact List.mem_cons_of_mem _ (lBy_mem f A h hy)
theorem lBy_len (f : An → Bool) : ∀ (A : List An) (h : List Int), (lBy f A h).length ≤ h.length
  | [], _ => by simp [lBy]
  | _ :: _, [] => by simp [lBy]
  | a :: A, x :: h => by
    have := lBy_len f A h
    simp only [lBy, List.length_append, List.length_cons]
    split <;> simp <;> omega
theorem sumL_bd {B : Int} (hB : 0 ≤ B) : ∀ (l : List Int), (∀ x ∈ l, 0 ≤ x ∧ x ≤ B) → 0 ≤ sumL l ∧ sumL l ≤ B * l.length
  | [], _ => by simp [sumL]
  | x :: l, h => by
    have ih := sumL_bd hB l fun y hy => h y (List.mem_cons_of_mem _ hy)
    have h0 := h x (List.mem_cons_self ..)
    simp only [sumL, List.length_cons]
    have : B * ((l.length + 1 : Nat) : Int) = B * l.length + B := by rw [Int.natCast_add, Int.mul_add]; simp
    omega
theorem sum_ok (nl : Bool) (l : List Int) (hl : l.length ≤ 1000) (hb : ∀ x ∈ l, 0 ≤ x ∧ x ≤ 648000) : ans prog O 48 [vs nl l] = some (.int .i64 (sumL l)) := by
  refine fn_of' pl get48 (oo (by decide)) rfl rfl ?_
  simp (disch := omega) [-Bool.exists_bool]
  refine lp_loop pl (fun k fr σ => ∃ i : Nat, k + i = l.length ∧ fr = ⟨[(2, .int .i64 (sumL (l.take i))), (5, vs nl l), (6, .int .i64 l.length), (7, .int .i64 i)], []⟩ ∧ σ.lim = 0) ⟨l.length, 0, by omega, rfl, rfl⟩ ?_
  rintro k _ σ ⟨i, hi, rfl, s0⟩
  by_cases hil : i < l.length
  · have hil' : (i : Int) < l.length := by omega
    have b1 := sumL_bd (B := 648000) (by omega) (l.take i) fun x hx => hb x (List.mem_of_mem_take hx)
    have b2 := hb _ (nth_mem hil)
    have b3 : (l.take i).length ≤ 1000 := by rw [List.length_take]; omega
    have e : sumL (l.take (i + 1)) = sumL (l.take i) + nth l i := by
      rw [take_succ_nth hil, sumL_app]; simp [sumL]
    simp (disch := omega) [Und, s0, hil', -Bool.exists_bool]
    exact ⟨k - 1, by omega, i + 1, by omega, by omega, by omega⟩
  · obtain rfl : i = l.length := by omega
    simp (disch := omega) [Und, s0, -Bool.exists_bool]
section
variable {α : Type} {e : α → AV} {z lo : Nat} {σ : AH} {v : AV} {xs : List α} {p : AProg} {O : Caller}
/-- In a region whose order is open: a slice of one, built there, to a slice that was there before it. -/
theorem Buf.apkS (h : Buf lo z e σ v xs) (he : Enc e z) {s : Seg} (hlim : σ.lim ≤ lo) (hlo : lo ≤ s.seg) (hsn : s.seg ≤ σ.next) (hold : ∀ i ∈ obj v, i < s.seg ∧ i ∉ s.lds) (y : α) {bytes : Nat} (hsz : (xs.length + 1) * bytes ≤ topBytes) {cs : List AV} (hcs : cs = (e y).cells) {kd : Kn (AV → AH → Seg → Prop)}
    (hk : ∀ v' σ' sts, Buf lo z e σ' v' (xs ++ [y]) → Grew lo v v' σ σ' → (∀ i, i ∈ sts → i ∈ s.sts ∨ i ∈ obj v) → kd.k v' σ' ⟨s.seg, s.lds, sts⟩) : @ApK (oldA v s) z bytes v (.slice (some (σ.next, 0)) 1 (.ex 1)) (σ.push (.cells cs)) s kd := by
  rcases id h with ⟨rfl, rfl⟩ | ⟨i, rfl, h2, h3, h4⟩
  · rw [oldA_vsl, apk_none]
    refine ⟨by show σ.lim ≤ s.seg; omega, ?_⟩
    refine Buf.push (σ := σ.under s.seg) (lo := s.seg) .nil he (by simp) (by simpa using hsn) y hsz hcs fun v' σ' h1 h2 => ?_
    have hlim' : (σ'.under σ.lim).lim = σ.lim := rfl
    refine hk v' (σ'.under σ.lim) s.sts ?_ ⟨⟨rfl, h2.next, fun k hk => h2.get k (by omega)⟩, ⟨rfl, h2.only.next, fun k hk hs => h2.only.get k hk hs⟩, h2.fresh⟩ fun i hi => .inl hi
    rcases h1 with ⟨rfl, e1⟩ | ⟨i, rfl, q1, q2, q3⟩
    · simp at e1
    · exact .inr ⟨i, rfl, by omega, q2, q3⟩
  · have ho := hold i (by simp [obj])
    have hc : i < s.seg ∧ (!s.lds.contains i) = true := ⟨ho.1, by simpa using ho.2⟩
    rw [oldA_some, if_pos hc, apk_some]
    refine h.push he hlim (by omega) y hsz hcs fun v' σ' h1 h2 => ?_
    exact hk v' σ' (i :: s.sts) h1 h2 fun j hj => by
      rcases List.mem_cons.1 hj with rfl | hj
      · exact .inr (by simp [obj])
      · exact .inl hj
end
/-- The values of a map: slices that grow. -/
def MapB (lo : Nat) (σ : AH) (es : List ME) (L : Int → List Int) : Prop := ∀ t, Buf lo 1 (AV.int .i64) σ (mgl es t) (L t)
/-- No two values of two maps share an object. -/
def Sep (es fs : List ME) : Prop := ∀ t u, ∀ i ∈ obj (mgl es t), i ∉ obj (mgl fs u)
/-- No two values of a map share an object. -/
def Sep1 (es : List ME) : Prop := ∀ t u, t ≠ u → ∀ i ∈ obj (mgl es t), i ∉ obj (mgl es u)
section
variable {lo : Nat} {σ σ' : AH} {es es' fs : List ME} {L M : Int → List Int} {t : Int} {v' : AV} {x : Int}
theorem MapB.keep (h : MapB lo σ es L) (hk : ∀ i, lo ≤ i → i < σ.next → σ'.get i = σ.get i) : MapB lo σ' es L := fun t => (h t).keep hk
theorem MapB.upd (h : MapB lo σ es L) (hs : Sep1 es) (hb : Buf lo 1 (AV.int .i64) σ' v' (L t ++ [x])) (hg : Grew lo (mgl es t) v' σ σ') (he : ∀ u, mgl es' u = if t = u then v' else mgl es u) :
    MapB lo σ' es' (fun u => if t = u then L t ++ [x] else L u) ∧ Sep1 es' := by
  have hn : ∀ u, t ≠ u → ∀ i ∈ obj v', i ∉ obj (mgl es u) := fun u hu i hi hi2 => by
    rcases hg.fresh i hi with h1 | h1
    · exact hs t u hu i h1 hi2
    · have := ((h u).obj_lt i hi2).2
      omega
  refine ⟨fun u => ?_, fun u w huw i hi hi2 => ?_⟩
  · rw [he]
    by_cases e : t = u
    · simp only [if_pos e]; exact hb
    · simp only [if_neg e]
      exact (h u).stay hg.only fun i hi => hs u t (fun e2 => e e2.symm) i hi
  · rw [he] at hi hi2
    by_cases e1 : t = u
    · by_cases e2 : t = w
      · exact huw (e1.symm.trans e2)
      · rw [if_pos e1] at hi
        rw [if_neg e2] at hi2
        exact hn w e2 i hi hi2
    · by_cases e2 : t = w
      · rw [if_neg e1] at hi
        rw [if_pos e2] at hi2
        exact hn u e1 i hi2 hi
      · rw [if_neg e1] at hi
        rw [if_neg e2] at hi2
        exact hs u w huw i hi hi2
theorem MapB.other (h : MapB lo σ fs M) (hs : Sep es fs) (hg : Grew lo (mgl es t) v' σ σ') (he : ∀ u, mgl es' u = if t = u then v' else mgl es u) : MapB lo σ' fs M ∧ Sep es' fs := by
  refine ⟨fun u => (h u).stay hg.only fun i hi hi2 => hs t u i hi2 hi, fun u w i hi hi2 => ?_⟩
  rw [he] at hi
  by_cases e1 : t = u
  · rw [if_pos e1] at hi
    rcases hg.fresh i hi with h1 | h1
    · exact hs t w i h1 hi2
    · have := ((h w).obj_lt i hi2).2
      omega
  · rw [if_neg e1] at hi
    exact hs u w i hi hi2
theorem Sep.symm (h : Sep es fs) : Sep fs es := fun t u i hi hi2 => h u t i hi2 hi
end
end Go.Oct.Tri
