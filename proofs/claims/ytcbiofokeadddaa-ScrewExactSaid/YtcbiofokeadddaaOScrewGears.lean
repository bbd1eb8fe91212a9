/- The gears of a lathe, one after the other. -/
import Derived.Test.YtcbiofokeadddaaOScrewLathe
import Derived.Test.YtcbiofokeadddaaOT4
set_option maxRecDepth 100000
set_option maxHeartbeats 2000000
set_option linter.unusedVariables false
set_option linter.unusedSimpArgs false
namespace Go.Oct.Screw
open Go.Oct
/-- All gears that begin with some, m more. -/
def ext (n : Nat) : List Int → Nat → List (List Int)
  | g, 0 => [g]
  | g, m + 1 => (List.range n).flatMap fun (w : Nat) => if (w : Int) ∈ g then [] else ext n (g ++ [(w : Int)]) m
/-- Those of the first w next ones. -/
def extT (n : Nat) (g : List Int) (m w : Nat) : List (List Int) := (List.range w).flatMap fun (w : Nat) => if (w : Int) ∈ g then [] else ext n (g ++ [(w : Int)]) m
theorem extT_succ (n : Nat) (g : List Int) (m w : Nat) : extT n g m (w + 1) = extT n g m w ++ (if (w : Int) ∈ g then [] else ext n (g ++ [(w : Int)]) m) := by
  unfold extT; rw [List.range_succ, List.flatMap_append]; simp
theorem ext_succ (n : Nat) (g : List Int) (m : Nat) : ext n g (m + 1) = extT n g m n := rfl
/-- Different wheels. -/
def dist (n : Nat) (g : List Int) : Prop := ∀ i, i < g.length → (0 ≤ nth g i ∧ nth g i ≤ (n : Int) - 1) ∧ ∀ k, k < i → nth g k ≠ nth g i
theorem dist_add {n : Nat} {g : List Int} {w : Nat} (h : dist n g) (hw : w < n) (hn : ¬ (w : Int) ∈ g) : dist n (g ++ [(w : Int)]) := by
  intro i hi
  simp only [List.length_append, List.length_singleton] at hi
  by_cases e : i < g.length
  · rw [nth_append_left e]
    exact ⟨(h i e).1, fun k hk => by rw [nth_append_left (by omega)]; exact (h i e).2 k hk⟩
  · have he : i = g.length := by omega
    subst he
    have : nth (g ++ [(w : Int)]) g.length = (w : Int) := by rw [nth_append_right (Nat.le_refl _) (by simp), Nat.sub_self, nth_zero]
    rw [this]
    refine ⟨by omega, fun k hk => ?_⟩
    rw [nth_append_left hk]
    intro hc
    exact hn (hc ▸ nth_mem hk)
/-- A slice, nil or in an object of its own. -/
def SliceOf (lo : Nat) (σ : AH) (v : AV) (g : List Int) : Prop := (v = .vsl true [] ∧ g = []) ∨ Whole lo 1 (AV.int .i64) σ v g
theorem SliceOf.stay {lo : Nat} {σ σ' : AH} {v : AV} {g : List Int} {S : List Nat} (h : SliceOf lo σ v g) (ho : Only S σ σ') (hd : ∀ i ∈ obj v, i ∉ S) : SliceOf lo σ' v g := by
  rcases h with h | h
  · exact .inl h
  · exact .inr (h.stay ho hd)
theorem SliceOf.touch {lo : Nat} {σ σ' : AH} {v : AV} {g : List Int} (h : SliceOf lo σ v g) (ho : Touch lo σ σ') : SliceOf lo σ' v g := by
  rcases h with h | ⟨i, c, rfl, h2, h3, h4⟩
  · exact .inl h
  · exact .inr ⟨i, c, rfl, h2, by rw [ho.get i h2 (AH.get_lt h3)]; exact h3, h4⟩
theorem SliceOf.snap {lo : Nat} {σ : AH} {v : AV} {g : List Int} (h : SliceOf lo σ v g) : ∃ nl S, Snap σ v S (vs nl g) ∧ (closed 8 v = true → vs nl g = v) := by
  rcases h with ⟨rfl, rfl⟩ | h
  · exact ⟨true, [], Snap.vl σ (AV.int .i64) true ([] : List Int), fun _ => rfl⟩
  · exact ⟨false, _, h.view.snap encI flatI, fun hc => by rw [h.view.closed] at hc; cases hc⟩
theorem whole_src {α : Type} {e : α → AV} {z lo : Nat} {σ : AH} {v : AV} {xs : List α} (h : Whole lo z e σ v xs) (he : Enc e z) : lenOf v = some xs.length ∧ srcOf σ z xs.length v = some (rowOf e xs) := by
  obtain ⟨i, c, rfl, h2, h3, h4⟩ := h
  refine ⟨rfl, ?_⟩
  simp only [srcOf, cellsAt, row_def, h3, rowOf_length he, Nat.zero_add, Nat.le_refl, if_true, List.drop_zero]
  rw [← rowOf_length he, List.take_length]
theorem SliceOf.under {lo k : Nat} {σ : AH} {v : AV} {g : List Int} (h : SliceOf lo σ v g) : SliceOf lo (σ.under k) v g := by
  rcases h with h | ⟨i, c, rfl, h2, h3, h4⟩
  · exact .inl h
  · exact .inr ⟨i, c, rfl, h2, h3, h4⟩
theorem Clone_ok {lo : Nat} {σ : AH} {v : AV} {g : List Int} (h : SliceOf lo σ v g) (hg : g.length < 2 ^ 40) (hlo : lo ≤ σ.next) (hlim : σ.lim ≤ σ.next) (K : AV → AH → Prop)
    (hk : ∀ r σ', SliceOf σ.next σ' r g → Only [] σ σ' → K r σ') : Call prog O (.fn 96) [v] σ K := by
  refine @call_of' _ _ pl _ _ _ _ _ _ _ ⟨K⟩ get96 ((oo (by decide)).2 _) rfl ?_
  rcases h with ⟨rfl, rfl⟩ | h
  · simp +contextual (disch := omega) []
    exact hk _ _ (.inl ⟨rfl, rfl⟩) (Only.refl _ _)
  · have hv : isNil .slice v = some false := by obtain ⟨i, c, rfl, _⟩ := h; rfl
    simp +contextual (disch := omega) [hv]
    have h2 := h.stay (Only.push [] σ (.cells [])) (fun _ _ h => by cases h)
    obtain ⟨h3, h4⟩ := whole_src h2 encI
    refine (Whole.lit0 (lo := σ.next) (z := 1) (e := AV.int .i64) (σ := σ) (Nat.le_refl _)).app (ys := g) encI hlim (Nat.le_succ _) h3 h4 (by simp only [topBytes, List.length_nil]; omega) fun v' σ' hw hgr => ?_
    rw [List.nil_append] at hw
    simp +contextual (disch := omega) []
    refine hk _ _ (.inr hw) ⟨hgr.lim, Nat.le_trans (Nat.le_succ _) hgr.next, fun k hk2 _ => ?_⟩
    have := hgr.get k hk2
    rw [this, get_push, if_neg (by omega)]
theorem SliceOf.push {lo : Nat} {σ : AH} {v : AV} {g : List Int} (h : SliceOf lo σ v g) (hlim : σ.lim ≤ lo) (hlo : lo ≤ σ.next) (hg : g.length < 2 ^ 40) (w : Int) {k : AV → AH → Prop} (hk : ∀ v' σ', Whole lo 1 (AV.int .i64) σ' v' (g ++ [w]) → Keep lo σ σ' → k v' σ') :
    OptK2 (aappend 1 8 v (.slice (some (σ.next, 0)) 1 (.ex 1)) (σ.push (.cells [.int .i64 w]))) k := by
  rcases h with ⟨rfl, rfl⟩ | h
  · refine (Buf.nil (lo := lo) (z := 1) (e := AV.int .i64) (σ := σ)).push encI hlim hlo w (by simp only [topBytes, List.length_nil]; omega) rfl fun v' σ' h1 h2 => hk v' σ' (h1.whole (by simp)) h2.toKeep
  · exact h.push encI hlim hlo w (by simp only [topBytes]; omega) rfl fun v' σ' h1 h2 => hk v' σ' h1 h2.toKeep
/-- A list begins with another one. -/
def Pre (T L : List (List Int)) : Prop := ∃ R, T = L ++ R
theorem extT_pre (n : Nat) (g : List Int) (m : Nat) {w : Nat} : ∀ {k : Nat}, w ≤ k → Pre (extT n g m k) (extT n g m w)
  | 0, h => by obtain rfl : w = 0 := by omega
               exact ⟨[], (List.append_nil _).symm⟩
  | k + 1, h => by
    by_cases e : w = k + 1
    · subst e; exact ⟨[], (List.append_nil _).symm⟩
    · obtain ⟨R, hR⟩ := extT_pre n g m (w := w) (k := k) (by omega)
      exact ⟨R ++ (if (k : Int) ∈ g then [] else ext n (g ++ [(k : Int)]) m), by rw [extT_succ, hR, List.append_assoc]⟩
theorem Pre.next {T L : List (List Int)} {n : Nat} {g : List Int} {m w : Nat} (h : Pre T (L ++ ext n g (m + 1))) (hw : w < n) (hn : ¬ (w : Int) ∈ g) : Pre T (L ++ extT n g m w ++ ext n (g ++ [(w : Int)]) m) := by
  obtain ⟨R, hR⟩ := h
  obtain ⟨S, hS⟩ := extT_pre n g m (w := w + 1) (k := n) hw
  rw [extT_succ, if_neg hn] at hS
  exact ⟨S ++ R, by rw [hR, ext_succ, hS]; simp only [List.append_assoc]⟩
/-- What the closure has at hand. -/
structure Cap (lo l : Nat) (nl : Bool) (ws : List Int) (num den : Int) (σ : AH) : Prop where
  y : σ.get (lo + 1) = some (.cells [.func (.yield l) [] []])
  x : σ.get lo = some (.cells [vs nl ws, .int .i64 num, .int .i64 den])
  s : σ.get (lo + 2) = some (.cells [.func (.func 95) [] [.ptr (some (lo + 1, 0)), .ptr (some (lo, 0)), .ptr (some (lo + 2, 0))]])
  next : lo + 3 ≤ σ.next
  lim : σ.lim ≤ lo
theorem Cap.touch {lo l : Nat} {nl : Bool} {ws : List Int} {num den : Int} {σ σ' : AH} (h : Cap lo l nl ws num den σ) (ho : Touch lo σ σ') : Cap lo l nl ws num den σ' := by
  have := h.next
  have h2 := ho.lim
  have h3 := h.lim
  exact ⟨by rw [ho.get _ (by omega) (by omega)]; exact h.y, by rw [ho.get _ (by omega) (by omega)]; exact h.x, by rw [ho.get _ (by omega) (by omega)]; exact h.s, Nat.le_trans this ho.next, by omega⟩
section
variable {lo l : Nat} {nl : Bool} {ws : List Int} {num den : Int} {T : List (List Int)} (Inv : List (List Int) → AH → Prop) (Done : AH → Prop)
  (stab : ∀ L σ σ', Inv L σ → Only [] σ σ' → Inv L σ')
  (step : ∀ L g v σ, Inv L σ → lo ≤ σ.next → σ.lim ≤ lo → okGears ws.length g → Pre T (L ++ [g]) → Whole lo 1 (AV.int .i64) σ v g → Call prog O (.yield l) [v] σ fun r σ' => Touch lo σ σ' ∧ (r = .bool true ∧ Inv (L ++ [g]) σ' ∨ r = .bool false ∧ Done σ'))
include stab step
theorem longer_ok (hws : ws.length ≤ 10) : ∀ (m : Nat) (g : List Int) (v : AV) (σ : AH) (L : List (List Int)), Inv L σ → Cap lo l nl ws num den σ → SliceOf lo σ v g → dist ws.length g → (g.length + m = 2 ∨ g.length + m = 4) → (m = 0 → v ≠ .vsl true []) → Pre T (L ++ ext ws.length g m) →
    Call prog O (.fn 95) [v, .int .i64 m, .ptr (some (lo + 1, 0)), .ptr (some (lo, 0)), .ptr (some (lo + 2, 0))] σ fun r σ' => Touch lo σ σ' ∧ (r = .bool true ∧ Inv (L ++ ext ws.length g m) σ' ∨ r = .bool false ∧ Done σ') := by
  intro m
  induction m with
  | zero =>
    intro g v σ L hi hc hs hd hl hv hp
    refine @call_of' _ _ pl _ _ _ _ _ _ _ ⟨_⟩ get95 ((oo (by decide)).2 _) rfl ?_
    have hy := hc.y
    simp +contextual (disch := omega) [hy]
    rcases hs with ⟨rfl, _⟩ | hs
    · exact absurd rfl (hv rfl)
    · have hn := hc.next
      refine Call.mono (step L g v σ hi (by omega) hc.lim ⟨hl, hd⟩ hp hs) fun r σ' hr => ?_
      simp +contextual (disch := omega) []
      exact hr
  | succ m ih =>
    intro g v σ L hi hc hs hd hl hv hp
    refine @call_of' _ _ pl _ _ _ _ _ _ _ ⟨_⟩ get95 ((oo (by decide)).2 _) rfl ?_
    have hx := hc.x
    have hm : ¬ ((m : Int) + 1 = 0) := by omega
    simp +contextual (disch := omega) [hx, hm]
    refine lp_loop pl (fun k fr σ' => ∃ w : Nat, w + k = ws.length ∧ fr = ⟨[(0, v), (1, .int .i64 ((m : Int) + 1)), (4, .ptr (some (lo + 2, 0))), (17, .int .i64 ws.length), (18, .int .i64 w)], []⟩ ∧ Touch lo σ σ' ∧ Inv (L ++ extT ws.length g m w) σ') ⟨ws.length, 0, by omega, rfl, Touch.refl _ _, by simpa [extT] using hi⟩ ?_
    rintro k _ σ1 ⟨w, hw, rfl, ht, hi1⟩
    have hc1 := hc.touch ht
    have hs1 := hs.touch ht
    obtain ⟨nl', S, hsn, hcl⟩ := hs1.snap
    simp +contextual (disch := omega) [Und]
    refine ⟨fun hwl => ?_, fun hwl => ?_⟩
    · refine pc_scal (.cons hsn (.cons (Snap.int σ1 _ _) .nil)) (fun h => by rw [hcl h]) (by simp) (oo (args := []) (by decide)).1 (Contains_ok nl' g w (by omega)) rfl ?_
      by_cases hmem : (w : Int) ∈ g
      · simp +contextual (disch := omega) [hmem]
        refine ⟨k - 1, by omega, w + 1, by omega, by omega, ht, ?_⟩
        rw [extT_succ, if_pos hmem, List.append_nil]
        exact hi1
      · have hself := hc1.s
        have hn1 := hc1.next
        have hl1 := hc1.lim
        simp +contextual (disch := omega) [hmem, hself]
        refine ⟨by omega, ?_⟩
        refine Clone_ok (lo := lo) (σ := σ1.under σ1.next) hs1.under (by omega) (show lo ≤ σ1.next by omega) (Nat.le_refl _) _ fun r σ2 hr ho => ?_
        simp +contextual (disch := omega) [hself]
        refine ⟨by omega, ?_⟩
        have hr2 : SliceOf σ1.next (σ2.under σ1.next) r g := SliceOf.under hr
        have hn2 : σ1.next ≤ σ2.next := ho.next
        refine hr2.push (Nat.le_refl _) hn2 (by omega) w fun v' σ3 hv' hk3 => ?_
        simp +contextual (disch := omega) []
        have ho3 : Only [] σ1 (σ3.under σ1.lim) := ⟨rfl, Nat.le_trans hn2 hk3.next, fun k hk _ => (hk3.get k hk).trans (ho.get k hk (by simp))⟩
        have hc3 := hc1.touch (Touch.of ho3)
        have hs3 : SliceOf lo (σ3.under σ1.lim) v' (g ++ [(w : Int)]) := SliceOf.under (.inr (hv'.lower (by omega)))
        refine Call.mono (ih (g ++ [(w : Int)]) v' (σ3.under σ1.lim) (L ++ extT ws.length g m w) (stab _ _ _ hi1 ho3) hc3 hs3 (dist_add hd hwl hmem) (by simp; omega) (fun _ he => by obtain ⟨_, _, e, _⟩ := hv'; rw [e] at he; cases he) (hp.next hwl hmem)) fun r4 σ4 hr4 => ?_
        obtain ⟨ht4, ⟨rfl, hi4⟩ | ⟨rfl, hd4⟩⟩ := hr4
        · simp +contextual (disch := omega) []
          refine ⟨k - 1, by omega, w + 1, by omega, by omega, ht.trans ((Touch.of ho3).trans ht4), ?_⟩
          rw [extT_succ, if_neg hmem, ← List.append_assoc]
          exact hi4
        · simp +contextual (disch := omega) []
          exact ⟨ht.trans ((Touch.of ho3).trans ht4), hd4⟩
    · have e : w = ws.length := by omega
      rw [e] at hi1
      exact ⟨ht, hi1⟩
/-- All gears: the first ones, and as long as the loop goes on the others. -/
theorem gears_ok (hws : ws.length ≤ 10) (hT : T = ext ws.length [] 2 ++ ext ws.length [] 4) (σ : AH) (hlo : lo = σ.next) (hlim : σ.lim ≤ lo) (hi : Inv [] σ) :
    Call prog O (.fn 64) [eL nl ws num den, .func (.yield l) [] []] σ fun _ σ' => Inv (ext ws.length [] 2 ++ ext ws.length [] 4) σ' ∨ Done σ' := by
  refine @call_of' _ _ pl _ _ _ _ _ _ _ ⟨_⟩ get64 ((oo (by decide)).2 _) rfl ?_
  subst hlo
  have hl2 : σ.lim ≤ σ.next + 1 + 1 := by omega
  have ho : Only [] σ ((((σ.push (.cells [vs nl ws, .int .i64 num, .int .i64 den])).push (.cells [.func (.yield l) [] []])).push (.cells [.nilFunc])).set (σ.next + 1 + 1)
      (.cells [.func (.func 95) [] [.ptr (some (σ.next + 1, 0)), .ptr (some (σ.next, 0)), .ptr (some (σ.next + 1 + 1, 0))]])) :=
    ⟨rfl, by show σ.next ≤ σ.next + 1 + 1 + 1; omega, fun k hk _ => by simp; rw [if_neg (by omega), if_neg (by omega), if_neg (by omega), if_neg (by omega)]⟩
  simp +contextual (disch := omega) [hl2]
  have hc : Cap σ.next l nl ws num den ((((σ.push (.cells [vs nl ws, .int .i64 num, .int .i64 den])).push (.cells [.func (.yield l) [] []])).push (.cells [.nilFunc])).set (σ.next + 1 + 1)
      (.cells [.func (.func 95) [] [.ptr (some (σ.next + 1, 0)), .ptr (some (σ.next, 0)), .ptr (some (σ.next + 1 + 1, 0))]])) :=
    ⟨by simp, by simp; rw [if_neg (by omega), if_neg (by omega)], by simp, by show σ.next + 3 ≤ σ.next + 1 + 1 + 1; omega, hlim⟩
  generalize (((σ.push (.cells [vs nl ws, .int .i64 num, .int .i64 den])).push (.cells [.func (.yield l) [] []])).push (.cells [.nilFunc])).set (σ.next + 1 + 1)
      (.cells [.func (.func 95) [] [.ptr (some (σ.next + 1, 0)), .ptr (some (σ.next, 0)), .ptr (some (σ.next + 1 + 1, 0))]]) = σ1 at *
  have hd0 : dist ws.length [] := fun i hi => by simp at hi
  refine Call.mono (longer_ok Inv Done stab step hws 2 [] (.vsl true []) σ1 [] (stab _ _ _ hi ho) hc (.inl ⟨rfl, rfl⟩) hd0 (.inl rfl) (by omega) ⟨_, by rw [hT]; rfl⟩) fun r σ2 hr => ?_
  obtain ⟨ht, ⟨rfl, hi2⟩ | ⟨rfl, hd⟩⟩ := hr
  · have hc2 := hc.touch ht
    have hs2 := hc2.s
    simp +contextual (disch := omega) [hs2]
    refine Call.mono (longer_ok Inv Done stab step hws 4 [] (.vsl true []) σ2 _ hi2 hc2 (.inl ⟨rfl, rfl⟩) hd0 (.inr rfl) (by omega) ⟨[], by rw [hT, List.append_nil]; rfl⟩) fun r σ3 hr => ?_
    obtain ⟨ht3, ⟨rfl, hi3⟩ | ⟨rfl, hd3⟩⟩ := hr
    · simp +contextual (disch := omega) []
      exact .inl hi3
    · simp +contextual (disch := omega) []
      exact .inr hd3
  · simp +contextual (disch := omega) []
    exact .inr hd
end
end Go.Oct.Screw
