/- Whether a plan is one: the specification's answer. -/
import Derived.Test.YtpgjndgpackffaaDoorOShopFit
set_option maxRecDepth 100000
set_option maxHeartbeats 8000000
set_option linter.unusedVariables false
set_option linter.unusedSimpArgs false
namespace Go.Oct.Shop
open Go.Oct
/-- The day on which a piece is made, as far as was looked; -1: none. -/
def dayTo (P : Plan) : Nat → Int → Int
  | 0, _ => -1
  | d + 1, i => if i ∈ row P d then d else dayTo P d i
def dayAt (P : Plan) (d e : Nat) (i : Int) : Int := if i ∈ (row P d).take e then d else dayTo P d i
theorem dayTo_bd (P : Plan) (i : Int) : ∀ n, -1 ≤ dayTo P n i ∧ dayTo P n i < n
  | 0 => by simp [dayTo]
  | n + 1 => by
    have := dayTo_bd P i n
    simp only [dayTo]; split <;> omega
theorem dayTo_in {P : Plan} {i : Int} : ∀ {n : Nat}, 0 ≤ dayTo P n i ↔ i ∈ flat P n
  | 0 => by simp [dayTo, flat]
  | n + 1 => by
    simp only [dayTo, flat, List.mem_append]
    by_cases h : i ∈ row P n
    · rw [if_pos h]; exact ⟨fun _ => .inr h, fun _ => by omega⟩
    · rw [if_neg h, dayTo_in (n := n)]; exact ⟨.inl, fun h2 => h2.resolve_right h⟩
theorem dayTo_row {P : Plan} {i : Int} : ∀ {n : Nat}, 0 ≤ dayTo P n i → i ∈ row P (dayTo P n i).toNat
  | 0, h => by simp [dayTo] at h
  | n + 1, h => by
    simp only [dayTo] at h ⊢
    by_cases h2 : i ∈ row P n
    · rw [if_pos h2]; simpa using h2
    · rw [if_neg h2] at h ⊢; exact dayTo_row h
theorem dayTo_eq {P : Plan} {i : Int} {d : Nat} (hi : i ∈ row P d) : ∀ {n : Nat}, d < n → (flat P n).Nodup → dayTo P n i = d
  | 0, h, _ => by omega
  | n + 1, h, hn => by
    simp only [dayTo]
    simp only [flat] at hn
    have hn' := List.nodup_append.1 hn
    by_cases e : d = n
    · subst e; rw [if_pos hi]
    · have h2 : i ∉ row P n := fun hc => hn'.2.2 i (flat_in.2 ⟨d, by omega, hi⟩) i hc rfl
      rw [if_neg h2]
      exact dayTo_eq hi (by omega) hn'.1
theorem dayAt_in {P : Plan} {d e : Nat} {i : Int} : 0 ≤ dayAt P d e i ↔ i ∈ items P d e := by
  unfold dayAt items
  rw [List.mem_append]
  by_cases h : i ∈ (row P d).take e
  · rw [if_pos h]; exact ⟨fun _ => .inr h, fun _ => by omega⟩
  · rw [if_neg h, dayTo_in]; exact ⟨.inl, fun h2 => h2.resolve_right h⟩
theorem dayAt_zero (P : Plan) (d : Nat) : dayAt P d 0 = dayTo P d := by funext i; simp [dayAt]
theorem dayAt_all (P : Plan) (d : Nat) : dayAt P d (row P d).length = dayTo P (d + 1) := by funext i; simp [dayAt, dayTo]
theorem dayAt_succ {P : Plan} {d e : Nat} (h : e < (row P d).length) (i : Int) : dayAt P d (e + 1) i = if i = nth (row P d) e then (d : Int) else dayAt P d e i := by
  unfold dayAt
  rw [take_succ_nth h]
  simp only [List.mem_append, List.mem_singleton]
  by_cases h1 : i ∈ (row P d).take e
  · simp [h1]
  · by_cases h2 : i = nth (row P d) e
    · simp [h2]
    · simp [h1, h2]
theorem plan_days {l : List Pc} {men : Int} {P : Plan} (ho : okOrd l) (hne : P ≠ []) (hla : row P (P.length - 1) ≠ []) (hd : ∀ d, d < P.length → okDay l men P d) (hn : (flat P P.length).Nodup) :
    okPlan l men P ↔ ∀ i, i < l.length → 0 ≤ dayTo P P.length i ∧ ((nth l i).into ≠ -1 → dayTo P P.length i < dayTo P P.length (nth l i).into) := by
  constructor
  · intro h i hi
    have h1 := dayTo_in.2 (h.all i hi)
    refine ⟨h1, fun he => ?_⟩
    obtain ⟨i1, i2, i3⟩ := into_lt ho hi he
    have h2 := h.all _ i2
    rw [i3] at h2
    obtain ⟨d, d1, d2⟩ := flat_in.1 h2
    rw [dayTo_eq d2 d1 hn]
    obtain ⟨q, q1, q2⟩ := flat_in.1 (h.pre d d1 _ d2 i hi rfl)
    rw [dayTo_eq q2 (by omega) hn]
    omega
  · intro h
    refine ⟨hne, hla, hd, hn, fun i hi => dayTo_in.1 (h i hi).1, fun d hdl x hx k hk he => ?_⟩
    have hx0 := flat_rng hd (flat_in.2 ⟨d, hdl, hx⟩)
    have h1 := h k hk
    have h2 := h1.2 (by omega)
    rw [he, dayTo_eq hx hdl hn] at h2
    have h3 := dayTo_row h1.1
    exact flat_in.2 ⟨(dayTo P P.length k).toNat, by omega, h3⟩
def dl (f : Nat → Int) (n : Nat) : List Int := (List.range n).map f
@[simp] theorem dl_len (f : Nat → Int) (n : Nat) : (dl f n).length = n := by simp [dl]
theorem dl_nth {f : Nat → Int} {n i : Nat} (h : i < n) : nth (dl f n) i = f i := by
  rw [nth_eq (by simpa using h)]; simp [dl]
theorem dl_get {f : Nat → Int} {n i : Nat} (h : i < n) : ((dl f n).map (AV.int .i64))[i]? = some (.int .i64 (f i)) := by
  rw [imap_get (by simpa using h), dl_nth h]
theorem dl_set {f g : Nat → Int} {n i : Nat} {v : Int} (h : i < n) (hg : ∀ j, j < n → g j = if j = i then v else f j) : ((dl f n).map (AV.int .i64)).set i (.int .i64 v) = (dl g n).map (AV.int .i64) := by
  rw [← List.map_set]
  congr 1
  apply ext_nth
  · simp
  · intro j hj
    have hj' : j < n := by simpa using hj
    rw [nth_set (by simpa using h), dl_nth hj', dl_nth hj', hg j hj']
theorem dl_zero (n : Nat) : zcells [AV.int .i64 0] n = (dl (fun _ => 0) n).map (AV.int .i64) := by
  have h1 : zcells [AV.int .i64 0] n = rowI (List.replicate n 0) := zcells_row (AV.int .i64) (x := 0) rfl n
  rw [h1, rowI_eq]
  congr 1
  apply List.ext_getElem
  · simp
  · intro i h1 h2; simp [dl]
end Go.Oct.Shop
