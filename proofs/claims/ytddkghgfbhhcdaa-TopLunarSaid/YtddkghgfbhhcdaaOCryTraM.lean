/- Maps of lists of spans. -/
import Derived.Test.YtddkghgfbhhcdaaOCrySex
import Derived.Test.YtddkghgfbhhcdaaOCryMapI
import Derived.Test.YtddkghgfbhhcdaaOT4
set_option maxRecDepth 100000
set_option maxHeartbeats 4000000
set_option linter.unusedVariables false
set_option linter.unusedSimpArgs false
namespace Go.Oct.Cry.Sx
open Go.Oct
/-- The value at a key. -/
def mgl (es : List ME) (t : Int) : AV := (mget es t).getD (.vsl true [])
theorem look_I {σ : AH} {m c : Nat} {es : List ME} (t : Int) (hg : σ.get m = some (.map (es.map ent) c)) :
    alookup false [.int] (AV.vsl true []) false (.map (some m)) (.int .i64 t) σ = some (mgl es t, σ) := by
  have hk : keyEq false [.int] (.int .i64 t) (.int .i64 t) = some true := by rw [keyEq_I]; simp
  rcases find_I t es 0 with ⟨h1, h2⟩ | ⟨j, b, l, h1, h2, _⟩
  · simp only [alookup, hg, hk, h1, mgl, h2]; rfl
  · simp only [alookup, hg, hk, h1, mgl, h2]; rfl
theorem upd_I {σ : AH} {m c : Nat} {es : List ME} (t : Int) (l : AV) (hl : σ.lim ≤ m) (hg : σ.get m = some (.map (es.map ent) c)) :
    ∃ es' c', amapUpd false [.int] (.map (some m)) (.int .i64 t) l σ = some (.undef, σ.set m (.map (es'.map ent) c')) ∧ ∀ t', mgl es' t' = if t = t' then l else mgl es t' := by
  have hk : keyEq false [.int] (.int .i64 t) (.int .i64 t) = some true := by rw [keyEq_I]; simp
  rcases find_I t es 0 with ⟨h1, h2⟩ | ⟨j, b, l1, h1, h2, h3⟩
  · refine ⟨es ++ [(t, l, c)], c + 1, ?_, fun t' => ?_⟩
    · simp [amapUpd, hl, hg, hk, h1, ent]
    · simp only [mgl, mget_app t l c es h2]
      by_cases e : t = t' <;> simp [e]
  · obtain ⟨es', h4, h5⟩ := h3 l
    refine ⟨es', c, ?_, fun t' => ?_⟩
    · simp [amapUpd, hl, hg, hk, h1, h4]
    · simp only [mgl, h5]
      by_cases e : t = t' <;> simp [e]
section
variable {α : Type} {e : α → AV} {z lo : Nat} {σ : AH} {v : AV} {xs : List α} {p : AProg} {O : Caller}
/-- In a region whose order is open: a slice of one, built there, to a slice that was there before it. -/
theorem Buf.apkS (h : Buf lo z e σ v xs) (he : Enc e z) {s : Seg} (hlim : σ.lim ≤ lo) (hlo : lo ≤ s.seg) (hsn : s.seg ≤ σ.next) (hold : ∀ i ∈ obj v, i < s.seg ∧ i ∉ s.lds) (y : α) {bytes : Nat} (hsz : (xs.length + 1) * bytes ≤ topBytes) {cs : List AV} (hcs : cs = (e y).cells) {kd : Kn (AV → AH → Seg → Prop)}
    (hk : ∀ v' σ' sts, Buf lo z e σ' v' (xs ++ [y]) → Grew lo v v' σ σ' → (∀ i, i ∈ sts → i ∈ s.sts ∨ i ∈ obj v) → kd.k v' σ' ⟨s.seg, s.lds, sts⟩) : @ApK (oldA v s) z bytes v (.slice (some (σ.next, 0)) 1 (.ex 1)) (σ.push (.cells cs)) s kd := by
  rcases id h with ⟨rfl, rfl⟩ | ⟨i, rfl, h2, h3, h4⟩
  · rw [oldA_vsl, apk_none]
    refine ⟨by show σ.lim ≤ s.seg; omega, ?_⟩
    refine Buf.push (σ := σ.under s.seg) (lo := s.seg) .nil he (by simp) (by simpa using hsn) y hsz hcs fun v' σ' h1 h2 => ?_
    have hlim' : (σ'.under σ.lim).lim = σ.lim := rfl
    refine hk v' (σ'.under σ.lim) s.sts ?_ ⟨⟨rfl, h2.next, fun k hk => h2.get k (by omega)⟩, ⟨rfl, h2.only.next, fun k hk hs => h2.only.get k hk hs⟩, h2.fresh⟩ fun i hi => .inl hi
    rcases h1 with ⟨rfl, e1⟩ | ⟨i, rfl, q1, q2, q3⟩
    · simp at e1
    · exact .inr ⟨i, rfl, by omega, q2, q3⟩
  · have ho := hold i (by simp [obj])
    have hc : i < s.seg ∧ (!s.lds.contains i) = true := ⟨ho.1, by simpa using ho.2⟩
    rw [oldA_some, if_pos hc, apk_some]
    refine h.push he hlim (by omega) y hsz hcs fun v' σ' h1 h2 => ?_
    exact hk v' σ' (i :: s.sts) h1 h2 fun j hj => by
      rcases List.mem_cons.1 hj with rfl | hj
      · exact .inr (by simp [obj])
      · exact .inl hj
end
theorem nth_apE {α : Type} [Inhabited α] {l : List α} {x : α} : nth (l ++ [x]) l.length = x := by
  unfold nth
  rw [List.getD_eq_getElem?_getD]; simp
/-- The values of a map: lists of spans that grow, not longer than n. -/
def MapS (lo : Nat) (σ : AH) (es : List ME) (n : Nat) : Prop := ∀ t, ∃ xs, Buf lo 2 eSpan σ (mgl es t) xs ∧ xs.length ≤ n ∧ ∀ j, j < xs.length → bdS (nth xs j)
/-- No two values of a map share an object. -/
def Sep1 (es : List ME) : Prop := ∀ t u, t ≠ u → ∀ i ∈ obj (mgl es t), i ∉ obj (mgl es u)
section
variable {lo n : Nat} {σ σ' : AH} {es es' : List ME} {t : Int} {v' : AV} {x : Span} {xs : List Span}
theorem MapS.keep (h : MapS lo σ es n) (hk : ∀ i, lo ≤ i → i < σ.next → σ'.get i = σ.get i) : MapS lo σ' es n := fun t => by
  obtain ⟨xs, h1, h2⟩ := h t
  exact ⟨xs, h1.keep hk, h2⟩
theorem MapS.upd (h : MapS lo σ es n) (hs : Sep1 es) (hl : xs.length ≤ n) (hx : ∀ j, j < xs.length → bdS (nth xs j)) (hx2 : bdS x) (hb : Buf lo 2 eSpan σ' v' (xs ++ [x])) (hg : Grew lo (mgl es t) v' σ σ') (he : ∀ u, mgl es' u = if t = u then v' else mgl es u) :
    MapS lo σ' es' (n + 1) ∧ Sep1 es' := by
  have hn : ∀ u, t ≠ u → ∀ i ∈ obj v', i ∉ obj (mgl es u) := fun u hu i hi hi2 => by
    rcases hg.fresh i hi with h1 | h1
    · exact hs t u hu i h1 hi2
    · obtain ⟨ys, y1, _⟩ := h u
      have := (y1.obj_lt i hi2).2
      omega
  refine ⟨fun u => ?_, fun u w huw i hi hi2 => ?_⟩
  · rw [he]
    by_cases e : t = u
    · rw [if_pos e]
      refine ⟨_, hb, by simp; omega, fun j hj => ?_⟩
      by_cases e2 : j < xs.length
      · rw [nth_append_left e2]; exact hx j e2
      · obtain rfl : j = xs.length := by simp at hj; omega
        rw [nth_apE]; exact hx2
    · rw [if_neg e]
      obtain ⟨ys, y1, y2, y3⟩ := h u
      exact ⟨ys, y1.stay hg.only (fun i hi => hs u t (fun e2 => e e2.symm) i hi), by omega, y3⟩
  · rw [he] at hi hi2
    by_cases e1 : t = u
    · by_cases e2 : t = w
      · exact huw (e1.symm.trans e2)
      · rw [if_pos e1] at hi
        rw [if_neg e2] at hi2
        exact hn w e2 i hi hi2
    · by_cases e2 : t = w
      · rw [if_neg e1] at hi
        rw [if_pos e2] at hi2
        exact hn u e1 i hi2 hi
      · rw [if_neg e1] at hi
        rw [if_neg e2] at hi2
        exact hs u w huw i hi hi2
end
/-- A trial: a reading, and the true angle. -/
structure Tr where
  n : Int
  sh : Int
  tr : Int
  deriving Inhabited
def eTr (x : Tr) : AV := .agg [.int .i64 x.n, .int .i64 x.sh, .int .i64 x.tr]
@[simp] theorem aidx_tr {nl : Bool} {xs : List Tr} (q : IntKind) (i : Int) : aidx 3 (vl eTr nl xs) (.int q i) = if 0 ≤ i ∧ i < (xs.length : Int) then some (.vptr [.int .i64 (nth xs i.toNat).n, .int .i64 (nth xs i.toNat).sh, .int .i64 (nth xs i.toNat).tr] 0) else none :=
  aidx_vl (e := eTr) (fun _ => rfl) q i
def okTr (s : Sext) (x : Tr) : Prop := (isRd s x.n x.sh ∧ x.n % s.step = 0) ∧ -10000 ≤ x.tr ∧ x.tr ≤ 510000
instance (s : Sext) (x : Tr) : Decidable (okTr s x) := by unfold okTr; infer_instance
def trTo (s : Sext) (l : List Tr) (j : Nat) : Prop := (1 ≤ (l.length : Int) ∧ (l.length : Int) ≤ 8) ∧ ∀ i, i < j → okTr s (nth l i)
instance (s : Sext) (l : List Tr) (j : Nat) : Decidable (trTo s l j) := by unfold trTo; infer_instance
theorem trTo_succ {s : Sext} {l : List Tr} {j : Nat} : trTo s l (j + 1) ↔ trTo s l j ∧ okTr s (nth l j) := by
  unfold trTo
  constructor
  · rintro ⟨h1, h2⟩; exact ⟨⟨h1, fun i hi => h2 i (by omega)⟩, h2 j (by omega)⟩
  · rintro ⟨⟨h1, h2⟩, h3⟩
    refine ⟨h1, fun i hi => ?_⟩
    by_cases e : i = j
    · rw [e]; exact h3
    · exact h2 i (by omega)
/-- What is asked of trials. -/
inductive OpenV (nT nS : Bool) (s : Sext) (l : List Tr) : AV → Prop
  | bad (cs : List AV) (e : Int) : e ≠ 0 → cs.length = 6 → cs.all AV.one = true → OpenV nT nS s l (.tuple [.agg cs, .int .i64 e])
  | ok : okS s → trTo s l l.length → OpenV nT nS s l (.tuple [eSx nT nS s, .int .i64 0])
theorem opened_ok (nT nS nl : Bool) (s : Sext) (l : List Tr) (hT : s.tab.length < 2 ^ 62) (hS : s.sh.length < 2 ^ 62) (hl : l.length < 2 ^ 62) : ∃ v, OpenV nT nS s l v ∧ ans prog O 71 [eSx nT nS s, vl eTr nl l] = some v := by
  have hck := Check_ok nT nS s hT hS
  by_cases hs : okS s
  · rw [if_pos hs] at hck
    have h1 := hs.step
    have hv : ans prog O 71 [eSx nT nS s, vl eTr nl l] = some (.tuple [eSx nT nS s, .int .i64 (if trTo s l l.length then 0 else 53)]) := by
      refine fn_of' pl get71 (oo (by decide)) rfl rfl ?_
      simp (disch := omega) [Und, hck, -Bool.exists_bool, -Check_ok]
      refine lp_loop pl (fun k fr υ => ∃ j : Nat, j + k = l.length ∧ fr = ⟨[(4, .ptr (some (1, 0))), (7, .ptr (some (2, 0))), (8, .bool (decide (trTo s l j))), (22, vl eTr nl l), (23, .int .i64 l.length), (24, .int .i64 j)], []⟩ ∧ υ.lim = 0 ∧ 3 ≤ υ.next ∧ υ.get 1 = some (.cells [.int .i64 0, .vsl true [], .int .i64 0, .int .i64 0, .int .i64 0, .vsl true []]) ∧ υ.get 2 = some (.cells [.int .i64 s.step, vl eSpan nT s.tab, .int .i64 s.il, .int .i64 s.ih, .int .i64 s.w, vl eSpan nS s.sh]))
        ⟨l.length, 0, by omega, ?_, by simp, by simp, by simp, by simp⟩ ?_
      · simp [trTo]
      rintro k _ υ ⟨j, hj, rfl, u0, u1, g1, g2⟩
      have n1 : 1 < υ.next := by omega
      have n2 : 2 < υ.next := by omega
      have m1 : ¬ 1 = υ.next := by omega
      have m2 : ¬ 2 = υ.next := by omega
      by_cases hjl : j < l.length
      · have hr := isReading_ok nT nS s (nth l j).n (nth l j).sh hs
        by_cases h0 : trTo s l j
        · by_cases h2 : isRd s (nth l j).n (nth l j).sh
          · rw [decide_eq_true h2] at hr
            have t2 : (nth l j).n.tmod s.step = (nth l j).n % s.step := Int.tmod_eq_emod_of_nonneg h2.1.1
            have hd : decide (trTo s l (j + 1)) = decide ((nth l j).n % s.step = 0 ∧ -10000 ≤ (nth l j).tr ∧ (nth l j).tr ≤ 510000) := by
              rw [decide_eq_decide, trTo_succ]
              exact ⟨fun ⟨_, ⟨_, a⟩, b⟩ => ⟨a, b⟩, fun ⟨a, b⟩ => ⟨h0, ⟨h2, a⟩, b⟩⟩
            simp (disch := omega) [Und, eTr, hjl, u0, g1, g2, n1, n2, m1, m2, hr, h0, t2, -Bool.exists_bool]
            exact ⟨by omega, k - 1, by omega, j + 1, by omega, ⟨by rw [hd]; simp only [Bool.decide_and], by omega⟩, by omega⟩
          · have hd : ¬ trTo s l (j + 1) := fun h => h2 (trTo_succ.1 h).2.1.1
            rw [decide_eq_false h2] at hr
            simp (disch := omega) [Und, eTr, hjl, u0, g1, g2, n1, n2, m1, m2, hr, h0, -Bool.exists_bool]
            exact ⟨k - 1, by omega, j + 1, by omega, ⟨hd, by omega⟩, by omega⟩
        · have hd : ¬ trTo s l (j + 1) := fun h => h0 (trTo_succ.1 h).1
          simp (disch := omega) [Und, eTr, hjl, u0, g1, g2, n1, n2, m1, m2, h0, -Bool.exists_bool]
          exact ⟨k - 1, by omega, j + 1, by omega, ⟨hd, by omega⟩, by omega⟩
      · obtain rfl : j = l.length := by omega
        by_cases ht : trTo s l l.length
        · simp (disch := omega) [Und, u0, g1, g2, n1, n2, ht, -Bool.exists_bool]
        · simp (disch := omega) [Und, u0, g1, g2, n1, n2, ht, -Bool.exists_bool]
    by_cases ht : trTo s l l.length
    · rw [if_pos ht] at hv
      exact ⟨_, .ok hs ht, hv⟩
    · rw [if_neg ht] at hv
      exact ⟨_, .bad _ 53 (by decide) rfl rfl, hv⟩
  · rw [if_neg hs] at hck
    refine ⟨_, .bad [.int .i64 0, .vsl true [], .int .i64 0, .int .i64 0, .int .i64 0, .vsl true []] 50 (by decide) rfl rfl, ?_⟩
    refine fn_of' pl get71 (oo (by decide)) rfl rfl ?_
    simp (disch := omega) [Und, hck, -Bool.exists_bool, -Check_ok]
end Go.Oct.Cry.Sx
