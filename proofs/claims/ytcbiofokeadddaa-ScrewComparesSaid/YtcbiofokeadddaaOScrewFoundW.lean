/- Suspects; ScrewFound: the walk. -/
import Derived.Test.YtcbiofokeadddaaOScrewEndW
import Derived.Test.YtcbiofokeadddaaOScrewCatW
set_option maxRecDepth 100000
set_option maxHeartbeats 4000000
set_option linter.unusedVariables false
set_option linter.unusedSimpArgs false
namespace Go.Oct.Screw
open Go.Oct
theorem ask_cases {T : List Int} {M : Int} {l : List Rd} : askE T M l = 0 ∨ askE T M l = 23 ∨ askE T M l = 24 := by
  unfold askE
  split
  · split <;> simp
  · simp
theorem Snap.set (σ : AH) (nT : Bool) (T : List Int) (M : Int) : Snap σ (eSet nT T M) [] (eSet nT T M) := ⟨rfl, fun _ _ => rfl⟩
/-- Is there a truth? -/
noncomputable def canB (T : List Int) (M : Int) (l : List Rd) : Bool := @decide (∃ x, Feas T M (cons l) x) (Classical.propDecidable _)
theorem canB_iff {T : List Int} {M : Int} {l : List Rd} : canB T M l = true ↔ ∃ x, Feas T M (cons l) x := by unfold canB; exact @decide_eq_true_iff _ (Classical.propDecidable _)
def without (l : List Rd) (i : Nat) : List Rd := l.take i ++ l.drop (i + 1)
theorem greatest_can (nT nl : Bool) (T : List Int) (M : Int) (l : List Rd) (hs : okSet T M) (hr : okRds T l) (hl : l.length ≤ 24) : ∃ e : List Int, e.length = 36 ∧ ans prog O 77 [eSet nT T M, vl eRd nl l] = some (.tuple [.agg (ints e), .bool (canB T M l)]) := by
  obtain ⟨v, ⟨e, ok, rfl, l1, t1, f1⟩, g1⟩ := greatest_ok nT nl T M l hs hr hl
  refine ⟨e, l1, ?_⟩
  have : canB T M l = ok := by
    cases ok with
    | true => exact canB_iff.2 ⟨_, (t1 rfl).1⟩
    | false =>
      cases hc : canB T M l with
      | false => rfl
      | true => obtain ⟨x, hx⟩ := canB_iff.1 hc; exact absurd hx (f1 rfl x)
  rw [this]; exact g1
@[simp] theorem aslS_rd {nl : Bool} {xs : List Rd} (lo hi mx : Option AV) : aslS 6 (vl eRd nl xs) lo hi mx = (abounds xs.length xs.length lo hi mx).map fun r => vl eRd nl ((xs.drop r.1).take (r.2.1 - r.1)) := aslS_vl (e := eRd) (fun _ => rfl) lo hi mx
theorem without_len {l : List Rd} {i : Nat} (h : i < l.length) : (without l i).length + 1 = l.length := by unfold without; simp; omega
theorem without_mem {l : List Rd} {i : Nat} {r : Rd} (h : r ∈ without l i) : r ∈ l := by
  unfold without at h
  rcases List.mem_append.1 h with h | h
  · exact List.mem_of_mem_take h
  · exact List.mem_of_mem_drop h
theorem okRds_mem {T : List Int} {l l' : List Rd} (h : okRds T l) (hs : ∀ r ∈ l', r ∈ l) : okRds T l' := fun j hj => by
  obtain ⟨k, hk, e⟩ := mem_nth.1 (hs _ (nth_mem hj))
  rw [← e]; exact h k hk
theorem can_ok (nT nl : Bool) (T : List Int) (M : Int) (l : List Rd) (n : Int) (hs : okSet T M) (hr : okRds T l) (hl : l.length ≤ 24) (h0 : -1 ≤ n) (hn : n < l.length) :
    ans prog O 82 [.int .i64 n, .vptr [vl eRd nl l] 0, .vptr [vs nT T, .int .i64 M] 0] = some (.bool (canB T M (if 0 ≤ n then without l n.toNat else l))) := by
  refine fn_of' pl get82 (oo (by decide)) rfl rfl ?_
  by_cases hp : 0 ≤ n
  · have hw := without_len (l := l) (i := n.toNat) (by omega)
    obtain ⟨b, hcat, hb⟩ := Concat_ok [(nl, l.take n.toNat), (nl, l.drop (n.toNat + 1))] (by simp) (by simp [cat]; omega)
    obtain ⟨e, he, hg⟩ := greatest_can nT b T M (without l n.toNat) hs (okRds_mem hr fun r => without_mem) (by omega)
    have hc : cat [(nl, l.take n.toNat), (nl, l.drop (n.toNat + 1))] 2 = without l n.toNat := by simp [cat, without]
    rw [if_pos hp]
    have hd : (l.drop (n + 1).toNat).take (l.length - (n + 1).toNat) = l.drop (n.toNat + 1) := by
      rw [show (n + 1).toNat = n.toNat + 1 by omega, List.take_of_length_le (by simp)]
    simp only [List.length_cons, List.length_nil, Nat.zero_add, Nat.reduceAdd] at hcat
    rw [hc] at hcat
    simp +contextual (disch := omega) [hp, hd]
    refine ⟨by omega, ⟨by omega, by omega⟩, ?_⟩
    have hw : Whole 0 1 eRds ((⟨0, 0, .leaf⟩ : AH).push (.cells [vl eRd nl (l.take n.toNat), vl eRd nl (l.drop (n.toNat + 1))])) (.slice (some (0, 0)) 2 (.ex 2)) [(nl, l.take n.toNat), (nl, l.drop (n.toNat + 1))] := ⟨0, _, rfl, Nat.le_refl _, rfl, .inr rfl⟩
    refine pc_kill (.cons (hw.view.snap encRds flatRds) .nil) (fun h => by simp at h) (by simp) (oo (args := []) (by decide)).1 (fun i hi => Nat.zero_le _) hcat fun σ' h1 => ?_
    have hl0 : σ'.lim = 0 := h1.lim
    simp +contextual (disch := omega) [hg, he, hl0]
  · obtain ⟨e, he, hg⟩ := greatest_can nT nl T M l hs hr hl
    rw [if_neg hp]
    simp +contextual (disch := omega) [hp, hg, he]
noncomputable def susp (T : List Int) (M : Int) (l : List Rd) (n : Nat) : List Int := ((List.range n).filter fun i => canB T M (without l i)).map fun i : Nat => (i : Int)
theorem susp_succ (T : List Int) (M : Int) (l : List Rd) (n : Nat) : susp T M l (n + 1) = if canB T M (without l n) = true then susp T M l n ++ [(n : Int)] else susp T M l n := by
  unfold susp
  rw [List.range_succ, List.filter_append, List.map_append]
  split
  · rename_i h; simp [h]
  · rename_i h; simp [h]
theorem mem_susp {T : List Int} {M : Int} {l : List Rd} {n : Nat} {x : Int} : x ∈ susp T M l n ↔ ∃ i : Nat, i < n ∧ canB T M (without l i) = true ∧ x = i := by
  unfold susp
  rw [List.mem_map]
  constructor
  · rintro ⟨i, hi, rfl⟩
    have := List.mem_filter.1 hi
    exact ⟨i, List.mem_range.1 this.1, this.2, rfl⟩
  · rintro ⟨i, h1, h2, rfl⟩
    exact ⟨i, List.mem_filter.2 ⟨List.mem_range.2 h1, h2⟩, rfl⟩
theorem susp_len (T : List Int) (M : Int) (l : List Rd) (n : Nat) : (susp T M l n).length ≤ n := by
  unfold susp
  rw [List.length_map]
  exact Nat.le_trans (List.length_filter_le _ _) (by simp)
noncomputable def suspV (T : List Int) (M : Int) (l : List Rd) : AV := if askE T M l = 0 then if canB T M l = true then .tuple [.vsl true [], .int .i64 4] else .tuple [vs (susp T M l l.length).isEmpty (susp T M l l.length), .int .i64 0] else .tuple [.vsl true [], .int .i64 (askE T M l)]
theorem Suspects_ok (nT nl : Bool) (T : List Int) (M : Int) (l : List Rd) (hT : T.length < 2 ^ 62) (hl : l.length < 2 ^ 62) : ans prog O 30 [eSet nT T M, vl eRd nl l] = some (suspV T M l) := by
  by_cases ha : askE T M l = 0
  · obtain ⟨hs, hl24, hr⟩ := okay_ask ha
    have c0 := can_ok nT nl T M l (-1) hs hr hl24 (by omega) (by omega)
    rw [if_neg (by omega)] at c0
    have hsn : ∀ σ : AH, σ.get 0 = some (.cells [vs nT T, .int .i64 M]) → σ.get 1 = some (.cells [vl eRd nl l]) → ∀ n : Int, Snaps σ [.int .i64 n, .ptr (some (1, 0)), .ptr (some (0, 0))] ([] ++ ((1 :: ([] ++ [])) ++ ((0 :: ([] ++ ([] ++ []))) ++ []))) [.int .i64 n, .vptr [vl eRd nl l] 0, .vptr [vs nT T, .int .i64 M] 0] := fun σ g0 g1 n =>
      .cons (Snap.int _ _ _) (.cons (SnapK.ptr g1 (.cons (SnapK.vl _ _ eRd nl l) .nil)).snap (.cons (SnapK.ptr g0 (.cons (SnapK.vl _ _ (AV.int .i64) nT T) (.cons (SnapK.int _ _ _ _) .nil))).snap .nil))
    by_cases hc : canB T M l = true
    · have hv : suspV T M l = .tuple [.vsl true [], .int .i64 4] := by unfold suspV; rw [if_pos ha, if_pos hc]
      rw [hv]
      refine fn_of' pl get30 (oo (by decide)) rfl rfl ?_
      simp +contextual (disch := omega) [ha]
      refine pc_scal (hsn _ (by simp) (by simp) _) (fun h => by simp at h) (by simp) (oo (args := []) (by decide)).1 c0 rfl ?_
      simp +contextual (disch := omega) [ha, hc, Und]
    · have hv : suspV T M l = .tuple [vs (susp T M l l.length).isEmpty (susp T M l l.length), .int .i64 0] := by unfold suspV; rw [if_pos ha, if_neg hc]
      rw [hv]
      have hc := Bool.eq_false_iff.2 hc
      refine fn_of' pl get30 (oo (by decide)) rfl rfl ?_
      simp +contextual (disch := omega) [ha]
      refine pc_scal (hsn _ (by simp) (by simp) _) (fun h => by simp at h) (by simp) (oo (args := []) (by decide)).1 c0 rfl ?_
      simp +contextual (disch := omega) [ha, hc, Und]
      refine lp_loop pl (fun k fr σ => ∃ j v, j + k = l.length ∧ fr = ⟨[(7, .func (.func 82) [] [.ptr (some (1, 0)), .ptr (some (0, 0))]), (8, v), (20, .int .i64 l.length), (21, .int .i64 j)], []⟩ ∧ σ.lim = 0 ∧ 2 ≤ σ.next ∧ σ.get 0 = some (.cells [vs nT T, .int .i64 M]) ∧ σ.get 1 = some (.cells [vl eRd nl l]) ∧ Buf 2 1 (AV.int .i64) σ v (susp T M l j))
        ⟨l.length, 0, _, by omega, rfl, rfl, by simp, by simp, by simp, Buf.nil⟩ ?_
      rintro k _ σ ⟨j, v, hj, rfl, s0, s1, s2, s3, s4⟩
      by_cases hjl : j < l.length
      · have cj := can_ok nT nl T M l j hs hr hl24 (by omega) (by omega)
        rw [if_pos (by omega), Int.toNat_natCast] at cj
        have hss := susp_succ T M l j
        have hsl := susp_len T M l j
        simp +contextual (disch := omega) [Und, hjl]
        refine pc_scal (hsn _ s2 s3 _) (fun h => by simp at h) (by simp) (oo (args := []) (by decide)).1 cj rfl ?_
        by_cases hcj : canB T M (without l j) = true
        · rw [if_pos hcj] at hss
          simp +contextual (disch := omega) [Und, hjl, hcj]
          refine s4.push encI (by omega) s1 j (by simp only [topBytes]; omega) rfl fun v' σ' b1 b2 => ?_
          simp +contextual (disch := omega) [Und]
          refine ⟨k - 1, by omega, j + 1, by omega, _, ⟨rfl, by omega⟩, by rw [b2.lim]; exact s0, Nat.le_trans s1 b2.next, (b2.get 0 (by omega)).trans s2, (b2.get 1 (by omega)).trans s3, ?_⟩
          rw [hss]; exact b1
        · rw [if_neg hcj] at hss
          simp +contextual (disch := omega) [Und, hjl, hcj]
          exact ⟨k - 1, by omega, j + 1, by omega, _, ⟨rfl, by omega⟩, s0, s1, s2, s3, by rw [hss]; exact s4⟩
      · obtain rfl : j = l.length := by omega
        simp +contextual (disch := omega) [Und]
        exact s4.fzI 5
  · have hv : suspV T M l = .tuple [.vsl true [], .int .i64 (askE T M l)] := by unfold suspV; rw [if_neg ha]
    rw [hv]
    refine fn_of' pl get30 (oo (by decide)) rfl rfl ?_
    simp +contextual (disch := omega) [ha]
theorem susp_rises (T : List Int) (M : Int) (l : List Rd) (n : Nat) : Rises (susp T M l n) n (susp T M l n).length := by
  induction n with
  | zero => intro i hi; simp [susp] at hi
  | succ n ih =>
    rw [susp_succ]
    split
    · intro i hi
      simp only [List.length_append, List.length_singleton] at hi
      by_cases e : i < (susp T M l n).length
      · obtain ⟨⟨h1, h2⟩, h3⟩ := ih i e
        rw [nth_append_left e]
        refine ⟨by omega, fun h0 => ?_⟩
        rw [nth_append_left (by omega)]
        exact h3 h0
      · have he : i = (susp T M l n).length := by omega
        rw [nth_append_right (by omega) (by simp; omega), he, Nat.sub_self, nth_zero]
        refine ⟨by omega, fun h0 => ?_⟩
        rw [nth_append_left (by omega)]
        obtain ⟨⟨h1, h2⟩, h3⟩ := ih ((susp T M l n).length - 1) (by omega)
        omega
    · intro i hi
      obtain ⟨⟨h1, h2⟩, h3⟩ := ih i hi
      exact ⟨by omega, h3⟩
theorem place_nonneg' (xs : List Int) (n : Int) : 0 ≤ place xs n ↔ n ∈ xs := by
  unfold place pfrom
  rw [List.drop_zero]
  split
  · rename_i h
    exact ⟨fun _ => h, fun _ => by omega⟩
  · rename_i h
    exact ⟨fun h2 => by omega, fun h2 => absurd h2 h⟩
theorem ScrewFound_main (nT : Bool) (T : List Int) (M : Int) (nl : Bool) (l : List Rd) (nE : Bool) (E : Rows) (hT : T.length < 2 ^ 62) (hl : l.length < 2 ^ 62) (hn : nl = true → l = []) (hE : List.length E < 2 ^ 62) (hEr : ∀ i, i < List.length E → (nth E i).2.length < 2 ^ 62) :
    ans prog O 10 [eSet nT T M, vl eRd nl l, vl eRow nE E] = some (.bool true) := by
  have hsu := Suspects_ok nT nl T M l hT hl
  obtain ⟨v1, hv1, g1⟩ := Spans_ok nT nl T M l hT hn hl
  refine fn_of' pl get10 (oo (by decide)) rfl rfl ?_
  by_cases ha : askE T M l = 0
  · obtain ⟨hs, hl24, hr⟩ := okay_ask ha
    by_cases hc : canB T M l = true
    · have hv : suspV T M l = .tuple [.vsl true [], .int .i64 4] := by unfold suspV; rw [if_pos ha, if_pos hc]
      rw [hv] at hsu
      obtain ⟨x, hx⟩ := canB_iff.1 hc
      cases hv1 with
      | bad h4 => exact absurd ha h4
      | none h4 hno => exact absurd hx (hno x)
      | some lo hi h4 hlo hhi => simp +contextual (disch := omega) [hsu, g1, Und]
    · have hv : suspV T M l = .tuple [vs (susp T M l l.length).isEmpty (susp T M l l.length), .int .i64 0] := by unfold suspV; rw [if_pos ha, if_neg hc]
      rw [hv] at hsu
      cases hv1 with
      | bad h4 => exact absurd ha h4
      | some lo hi h4 hlo hhi => exact absurd (canB_iff.2 ⟨_, hlo.1⟩) hc
      | none h4 hno =>
        have hsl := susp_len T M l l.length
        have hri := Rising_ok (susp T M l l.length).isEmpty (susp T M l l.length) l.length (by omega) (by omega) (by omega)
        have hri2 := susp_rises T M l l.length
        have hl24' : ¬ 24 < (l.length : Int) := by omega
        simp +contextual (disch := omega) [hsu, g1, Und, hri, hri2, hl24']
        refine lp_loop pl (fun k fr σ => ∃ i, i + k = l.length ∧ fr = ⟨[(1, vl eRd nl l), (2, vl eRow nE E), (3, .ptr (some (0, 0))), (7, vs (susp T M l l.length).isEmpty (susp T M l l.length)), (11, .int .i64 i)], []⟩ ∧ σ.lim = 0 ∧ 1 ≤ σ.next ∧ σ.get 0 = some (.cells [vs nT T, .int .i64 M]))
          ⟨l.length, 0, by omega, rfl, by simp, by simp, by simp⟩ ?_
        rintro k _ σ ⟨i, hik, rfl, s0, s1, s2⟩
        by_cases hil : i < l.length
        · have hwl := without_len hil
          have hd : (l.drop (i + 1)).take (l.length - (i + 1)) = l.drop (i + 1) := List.take_of_length_le (by simp)
          simp +contextual (disch := omega) [Und, hil, hd]
          refine ⟨by omega, ?_⟩
          refine lit0_app (lo := 1) (ys := l.take i) (e := eRd) encRd s1 (by show 1 ≤ σ.next + 1; omega) (by simp) (vl_src encRd nl _) (by rw [List.length_take]; simp only [topBytes]; omega) fun w σ1 w1 w2 w3 => ?_
          have p0 : σ1.get 0 = some (.cells [vs nT T, .int .i64 M]) := (w2.get 0 (by show 0 < σ.next + 1; omega) (by simp)).trans ((AH.get_push_old _ _ _ (by omega)).trans s2)
          have p1 : σ1.lim = 0 := w2.lim.trans s0
          have p2 : σ.next + 1 ≤ σ1.next := w2.next
          simp +contextual (disch := omega) [Und, hd]
          refine ⟨by omega, ?_⟩
          refine w1.appV (ys := l.drop (i + 1)) encRd (by omega) (by omega) (by simp only [topBytes, List.length_take, List.length_drop]; omega) fun m σ2 y1 y2 => ?_
          have q0 : σ2.get 0 = some (.cells [vs nT T, .int .i64 M]) := (y2.get 0 (by omega)).trans p0
          have q1 : σ2.lim = 0 := y2.lim.trans p1
          have q2 : 1 ≤ σ2.next := Nat.le_trans (by omega) y2.next
          have y1 : Whole 1 6 eRd σ2 m (without l i) := y1
          obtain ⟨v2, hv2, g2⟩ := Spans_ok nT false T M (without l i) hT (fun h => by cases h) (by omega)
          have ha2 : askE T M (without l i) = 0 := by
            unfold askE
            rw [if_pos hs, if_pos ⟨by omega, okRds_mem hr fun r => without_mem⟩]
          have htr := Truth_ok nT false nE T M (without l i) E hT (by omega) hE hEr
          have hcl : closed 8 m = false := y1.view.closed 7
          obtain ⟨a2, e2, rfl, he2⟩ : ∃ a e, v2 = .tuple [a, .int .i64 e] ∧ (e = 0 ↔ canB T M (without l i) = true) := by
            cases hv2 with
            | bad h4 => exact absurd ha2 h4
            | none h4 hno => exact ⟨_, _, rfl, ⟨fun h => by omega, fun h => by obtain ⟨x, hx⟩ := canB_iff.1 h; exact absurd hx (hno x)⟩⟩
            | some lo hi h4 hlo hhi => exact ⟨_, _, rfl, ⟨fun _ => canB_iff.2 ⟨_, hlo.1⟩, fun _ => rfl⟩⟩
          simp +contextual (disch := omega) [Und, q0]
          refine pc_ro (.cons (Snap.set ..) (.cons (y1.view.snap encRd flatRd) .nil)) (fun h => by simp [hcl] at h) (by simp) (oo (args := []) (by decide)).1 (fun i hi => by rw [q1]; exact Nat.zero_le _) g2 fun σ3 z1 z2 => ?_
          have r0 : σ3.get 0 = some (.cells [vs nT T, .int .i64 M]) := (z1.get 0 (by omega) (fun hc => by simp at hc; have := (y1.obj_lt 0 hc).1; omega)).trans q0
          have r2 : σ3.lim = 0 := z1.lim.trans q1
          have r3 : 1 ≤ σ3.next := Nat.le_trans q2 z1.next
          have hm := y1.view.seen (σ' := σ3) fun i _ => z2 i
          simp +contextual (disch := omega) [Und, r0]
          refine pc_scal (.cons (Snap.set ..) (.cons (hm.snap encRd flatRd) (.cons (Snap.vl _ eRow nE E) .nil))) (fun h => by simp [hcl] at h) (by simp) (oo (args := []) (by decide)).1 htr rfl ?_
          have hpl := Place_ok (susp T M l l.length).isEmpty (susp T M l l.length) i (by omega)
          have hin : 0 ≤ place (susp T M l l.length) i ↔ canB T M (without l i) = true := by
            rw [place_nonneg', mem_susp]
            constructor
            · rintro ⟨j, _, h2, h3⟩
              obtain rfl : i = j := by omega
              exact h2
            · intro h; exact ⟨i, hil, h, rfl⟩
          have htt : truthP T M (without l i) E → canB T M (without l i) = true := fun h => canB_iff.2 ⟨_, ((truth_feas hs).1 h).2⟩
          simp +contextual (disch := omega) [Und, truthV, ha2, hpl]
          exact ⟨⟨he2.trans hin.symm, fun h => hin.2 (htt h)⟩, fun _ _ => ⟨k - 1, by omega, i + 1, by omega, by omega, r2, r3, r0⟩⟩
        · simp +contextual (disch := omega) [Und, hil]
  · have hv : suspV T M l = .tuple [.vsl true [], .int .i64 (askE T M l)] := by unfold suspV; rw [if_neg ha]
    rw [hv] at hsu
    cases hv1 with
    | bad h4 =>
      have h4 : askE T M l ≠ 4 := by rcases ask_cases (T := T) (M := M) (l := l) with h | h | h <;> omega
      simp +contextual (disch := omega) [hsu, g1, Und, ha, h4]
    | none h4 hno => exact absurd h4 ha
    | some lo hi h4 hlo hhi => exact absurd h4 ha
theorem ScrewFound_ok (nT : Bool) (T : List Int) (M : Int) (nl : Bool) (l : List Rd) (nE : Bool) (E : Rows) {x y z : AV} (h1 : Slice (AV.int .i64) i64 x nT T) (hM : i64 M) (h2 : Slice eRd (fun _ => True) y nl l) (h3 : Slice eRow Go.Oct.rowOK z nE E) :
    ans prog O 10 [eSet nT T M, vl eRd nl l, vl eRow nE E] = some (.bool true) := by
  have := h1.len
  have := h2.len
  exact ScrewFound_main nT T M nl l nE E (by omega) (by omega) h2.nil (rows_len h3).1 (rows_len h3).2
end Go.Oct.Screw
