/- FixExchanged, plain: a log whose east and north are exchanged. -/
import Derived.Test.YtddclpecmjibkaaDoorOFixThgP
set_option maxRecDepth 100000
set_option maxHeartbeats 2000000
set_option linter.unusedVariables false
set_option linter.unusedSimpArgs false
namespace Go.Oct.Fix
open Go.Oct
def swS (s : Stp) : Stp := ⟨s.k, s.b, s.a, s.vlo, s.vhi, s.nlo, s.nhi, s.elo, s.ehi, s.cn, s.cl⟩
def swp (q : Span) : Span := ⟨q.hi, q.lo⟩
theorem swp_swp (q : Span) : swp (swp q) = q := rfl
theorem swS_swS (s : Stp) : swS (swS s) = s := rfl
theorem sea_swp {q : Span} : inSea (swp q) ↔ inSea q := by unfold inSea swp; simp only; omega
theorem run_sw (s : Stp) : isRun (swS s) = isRun s := rfl
theorem rns_sw (S : List Stp) : rns (S.map swS) = (rns S).map swS := by
  unfold rns
  induction S with
  | nil => rfl
  | cons s S ih =>
    rw [List.map_cons]
    by_cases e : isRun s = true
    · rw [List.filter_cons_of_pos (by rw [run_sw]; exact e), List.filter_cons_of_pos e, ih]; rfl
    · rw [List.filter_cons_of_neg (by rw [run_sw]; exact e), List.filter_cons_of_neg e, ih]
theorem hld_sw {s : Stp} (h : s.k = 1) (e n : Int) : hld (swS s) n e = hld s e n := by
  unfold hld
  rw [if_pos h, if_pos (show (swS s).k = 1 from h)]
  show inI s.vlo s.vhi (s.b * n + s.a * e) = _
  rw [Int.add_comm]
theorem go_sw {s : Stp} (e n e' n' : Int) : goI (swS s) n e n' e' = goI s e n e' n' := by
  unfold goI swS
  rw [Bool.and_comm]
theorem sat_sw {u t : List Span} : ∀ (S : List Stp) (j : Nat), (∀ s ∈ S, s.k = 1 ∨ s.k = 2) → (∀ i, i ≤ j + (rns S).length → nth u i = swp (nth t i)) → (sat u (S.map swS) j ↔ sat t S j)
  | [], _, _, _ => Iff.rfl
  | s :: S, j, hk, hu => by
    simp only [List.map_cons, sat]
    rw [run_sw]
    by_cases e : isRun s = true
    · have hl : (rns (s :: S)).length = (rns S).length + 1 := by unfold rns; rw [List.filter_cons_of_pos e]; rfl
      have h0 := hu j (by omega)
      have h1 := hu (j + 1) (by omega)
      rw [if_pos e, if_pos e, sat_sw S (j + 1) (fun s hs => hk s (List.mem_cons_of_mem _ hs)) (fun i hi => hu i (by omega)), h0, h1, sea_swp]
      have : goI (swS s) (swp (nth t j)).lo (swp (nth t j)).hi (swp (nth t (j + 1))).lo (swp (nth t (j + 1))).hi = goI s (nth t j).lo (nth t j).hi (nth t (j + 1)).lo (nth t (j + 1)).hi := go_sw ..
      rw [this]
    · have hl : (rns (s :: S)).length = (rns S).length := by unfold rns; rw [List.filter_cons_of_neg e]
      have h0 := hu j (by omega)
      have h1 : s.k = 1 := (hk s (List.mem_cons_self ..)).resolve_right fun h => e (by unfold isRun; simp [h])
      rw [if_neg e, if_neg e, sat_sw S j (fun s hs => hk s (List.mem_cons_of_mem _ hs)) (fun i hi => hu i (by omega)), h0]
      have : hld (swS s) (swp (nth t j)).lo (swp (nth t j)).hi = hld s (nth t j).lo (nth t j).hi := hld_sw h1 ..
      rw [this]
theorem nth_swp {t : List Span} {i : Nat} (h : i < t.length) : nth (t.map swp) i = swp (nth t i) := by
  unfold nth
  rw [List.getD_eq_getElem?_getD, List.getD_eq_getElem?_getD, List.getElem?_map, List.getElem?_eq_getElem h]
  rfl
theorem true_sw {E N : Span} {S : List Stp} {t : List Span} (hk : ∀ s ∈ S, s.k = 1 ∨ s.k = 2) (h : TrueT E N S t) : TrueT N E (S.map swS) (t.map swp) := by
  obtain ⟨h1, h2, h3, h4, h5⟩ := true_sat.1 h
  have h0 := nth_swp (t := t) (i := 0) (by omega)
  refine true_sat.2 ⟨by rw [rns_sw, List.length_map, List.length_map]; exact h1, by rw [h0]; exact h3, by rw [h0]; exact h2, by rw [h0]; exact sea_swp.2 h4, (sat_sw S 0 hk fun i hi => nth_swp (by omega)).2 h5⟩
theorem sw_kinds {S : List Stp} (hk : ∀ s ∈ S, s.k = 1 ∨ s.k = 2) : ∀ s ∈ S.map swS, s.k = 1 ∨ s.k = 2 := by
  intro s hs
  obtain ⟨x, h1, rfl⟩ := List.mem_map.1 hs
  exact hk x h1
theorem sw_sw (S : List Stp) : (S.map swS).map swS = S := by
  rw [List.map_map]
  exact (List.map_congr_left (g := id) fun s _ => swS_swS s).trans (List.map_id _)
theorem was_sw {E N : Span} {S : List Stp} {p : Span} {k : Nat} (hk : ∀ s ∈ S, s.k = 1 ∨ s.k = 2) (hkR : k ≤ (rns S).length) (h : p ∈ ptsL (wasF E N S ((rns S).length - k))) : swp p ∈ ptsL (wasF N E (S.map swS) ((rns S).length - k)) := by
  have hp : inSea p := by
    obtain ⟨m, h1, _, h3⟩ := ptsL_mem.1 h
    rw [h3]; exact pt_sea h1
  obtain ⟨t, h1, h2⟩ := (was_pt hkR hp).1 h
  have hR : (rns (S.map swS)).length = (rns S).length := by rw [rns_sw, List.length_map]
  have := (was_pt (E := N) (N := E) (S := S.map swS) (k := k) (by omega) (sea_swp.2 hp)).2 ⟨t.map swp, true_sw hk h1, by rw [nth_swp (by have := h1.len; omega), h2]⟩
  rwa [hR] at this
theorem len_inj {α β : Type} [DecidableEq β] {f : α → β} (hf : ∀ a b, f a = f b → a = b) : ∀ {l : List α} {m : List β}, l.Nodup → (∀ a ∈ l, f a ∈ m) → l.length ≤ m.length
  | [], m, _, _ => Nat.zero_le _
  | a :: l, m, hn, h => by
    rw [List.nodup_cons] at hn
    have ha := h a (List.mem_cons_self ..)
    have ih := len_inj hf (l := l) (m := m.erase (f a)) hn.2 fun b hb => (List.mem_erase_of_ne (fun e => hn.1 (by rw [← hf _ _ e]; exact hb))).2 (h b (List.mem_cons_of_mem _ hb))
    rw [List.length_erase_of_mem ha] at ih
    have := List.length_pos_of_mem ha
    rw [List.length_cons]
    omega
theorem ptsTo_nodup (f : Nat → Bool) : ∀ n, (ptsTo f n).Nodup
  | 0 => List.nodup_nil
  | n + 1 => by
    rw [ptsTo_succ]
    by_cases e : f n = true
    · rw [if_pos e]
      refine List.nodup_append.2 ⟨ptsTo_nodup f n, by simp, fun a ha b hb => ?_⟩
      rw [List.mem_singleton] at hb
      subst hb
      unfold ptsTo at ha
      obtain ⟨m, h1, h2⟩ := List.mem_map.1 ha
      have h3 := List.mem_range.1 ((List.mem_filter.1 h1).1)
      intro h
      rw [← h2] at h
      have := pt_inj h
      omega
    · rw [if_neg e, List.append_nil]; exact ptsTo_nodup f n
theorem was_len {E N : Span} {S : List Stp} {k : Nat} (hk : ∀ s ∈ S, s.k = 1 ∨ s.k = 2) (hkR : k ≤ (rns S).length) : (ptsL (wasF N E (S.map swS) ((rns S).length - k))).length = (ptsL (wasF E N S ((rns S).length - k))).length := by
  have hR : (rns (S.map swS)).length = (rns S).length := by rw [rns_sw, List.length_map]
  have hinj : ∀ a b : Span, swp a = swp b → a = b := fun a b h => by rw [← swp_swp a, h, swp_swp]
  refine Nat.le_antisymm (len_inj hinj (ptsTo_nodup _ _) fun p hp => ?_) (len_inj hinj (ptsTo_nodup _ _) fun p hp => was_sw hk hkR hp)
  have h1 : p ∈ ptsL (wasF N E (S.map swS) ((rns (S.map swS)).length - k)) := by rw [hR]; exact hp
  have := was_sw (sw_kinds hk) (by omega) h1
  rwa [sw_sw, hR] at this
theorem okStp_sw {s : Stp} : okStp (swS s) ↔ okStp s := by
  unfold okStp still okLine isSp swS
  simp only
  constructor
  · rintro (⟨a, ⟨b, c, d⟩, e, ⟨f, g⟩, h⟩ | ⟨a, ⟨b, c⟩, d, e, f, g⟩ | ⟨a, ⟨b, c⟩, d, ⟨e, f⟩, g, h⟩)
    · exact .inl ⟨a, ⟨c, b, d.symm⟩, e, ⟨⟨g.1, g.2⟩, f⟩, h⟩
    · exact .inr (.inl ⟨a, ⟨c, b⟩, d, f, e, g⟩)
    · exact .inr (.inr ⟨a, ⟨c, b⟩, d, ⟨⟨f.1, f.2⟩, e⟩, g, h⟩)
  · rintro (⟨a, ⟨b, c, d⟩, e, ⟨f, g⟩, h⟩ | ⟨a, ⟨b, c⟩, d, e, f, g⟩ | ⟨a, ⟨b, c⟩, d, ⟨e, f⟩, g, h⟩)
    · exact .inl ⟨a, ⟨c, b, d.symm⟩, e, ⟨⟨g.1, g.2⟩, f⟩, h⟩
    · exact .inr (.inl ⟨a, ⟨c, b⟩, d, f, e, g⟩)
    · exact .inr (.inr ⟨a, ⟨c, b⟩, d, ⟨⟨f.1, f.2⟩, e⟩, g, h⟩)
theorem nth_swS {S : List Stp} {i : Nat} (h : i < S.length) : nth (S.map swS) i = swS (nth S i) := by
  unfold nth
  rw [List.getD_eq_getElem?_getD, List.getD_eq_getElem?_getD, List.getElem?_map, List.getElem?_eq_getElem h]
  rfl
theorem okLog_sw {E N : Span} {S : List Stp} : okLog N E (S.map swS) ↔ okLog E N S := by
  unfold okLog
  rw [List.length_map]
  constructor
  · rintro ⟨a, b, c, d⟩
    exact ⟨b, a, c, fun j hj => by have := d j hj; rw [nth_swS hj] at this; exact okStp_sw.1 this⟩
  · rintro ⟨a, b, c, d⟩
    exact ⟨b, a, c, fun j hj => by rw [nth_swS hj]; exact okStp_sw.2 (d j hj)⟩
theorem can_sw {E N : Span} {S : List Stp} (hk : ∀ s ∈ S, s.k = 1 ∨ s.k = 2) : ptsL (canR N E (S.map swS)) ≠ [] ↔ ptsL (canR E N S) ≠ [] := by
  rw [can_true, can_true]
  constructor
  · rintro ⟨t, ht⟩
    have := true_sw (sw_kinds hk) ht
    rw [sw_sw] at this
    exact ⟨_, this⟩
  · rintro ⟨t, ht⟩
    exact ⟨_, true_sw hk ht⟩
end Go.Oct.Fix
