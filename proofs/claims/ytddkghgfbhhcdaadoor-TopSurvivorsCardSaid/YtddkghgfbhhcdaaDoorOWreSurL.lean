/- TopSurvivors: the law. -/
import Derived.Test.YtddkghgfbhhcdaaDoorOWreSurF
import Derived.Test.YtddkghgfbhhcdaaDoorOWrePagW
import Derived.Test.YtddkghgfbhhcdaaDoorOWreResW
import Derived.Test.YtddkghgfbhhcdaaDoorOT3
set_option maxRecDepth 100000
set_option maxHeartbeats 16000000
set_option linter.unusedVariables false
set_option linter.unusedSimpArgs false
namespace Go.Oct.Wre
open Go.Oct
theorem log_snap {E N : Span} {S : List Fx.Stp} {σ : AH} {o : Nat} {c : ACap} (hcel : σ.cel o = some (rowOf Fx.eStp S)) (hc : c = .op 10 ∨ c = .ex S.length) : Snap σ (.agg [.int .i64 E.lo, .int .i64 E.hi, .int .i64 N.lo, .int .i64 N.hi, .slice (some (o, 0)) S.length c]) [o] (Fx.eLog E N false S) := by
  refine ⟨?_, fun T hT => ?_⟩
  · show [AV.int .i64 E.lo, .int .i64 E.hi, .int .i64 N.lo, .int .i64 N.hi, .slice (some (o, 0)) S.length c].flatMap (idsV 7 σ.cel) = [o]
    have e : idsV 7 σ.cel (.slice (some (o, 0)) S.length c) = [o] := by
      show (match σ.cel o with | some cs => o :: cs.flatMap (idsV 6 σ.cel) | none => []) = _
      rw [hcel]
      have : (rowOf Fx.eStp S).flatMap (idsV 6 σ.cel) = [] := by
        rw [List.flatMap_eq_nil_iff]
        intro x hx
        exact (flat_row Fx.flatStp S x hx 5 _).1
      simp [this]
    simp only [List.flatMap_cons, List.flatMap_nil, e]
    rfl
  · have hce : σ.celOf T o = some (rowOf Fx.eStp S) := by
      unfold AH.celOf
      rw [if_pos (by simpa using hT o (by simp)), hcel]
    have := fz_whole Fx.encStp Fx.flatStp (f := σ.celOf T) (o := o) (xs := S) (c := c) hce hc 5
    show AV.agg [AV.int .i64 E.lo, .int .i64 E.hi, .int .i64 N.lo, .int .i64 N.hi, fzV 7 (σ.celOf T) (.slice (some (o, 0)) S.length c)] = _
    rw [this]
    rfl
def surT (x : Nat → Nat → Nat) : List (List Nat) := (List.range 2).map fun r => (List.range 3).map (x r)
theorem surT_nth {x : Nat → Nat → Nat} {r : Nat} (h : r < 2) : nth (surT x) r = (List.range 3).map (x r) := by
  unfold surT
  rw [nth_map _ (by simpa using h)]
  simp [nth, List.getD_eq_getElem?_getD, h]
theorem surT_at {x : Nat → Nat → Nat} {r c : Nat} (h : r < 2) (hc : c < 3) : nth (nth (surT x) r) c = x r c := by
  rw [surT_nth h, nth_map _ (by simpa using hc)]
  simp [nth, List.getD_eq_getElem?_getD, hc]
theorem surT_ok {x : Nat → Nat → Nat} (h : ∀ r c, x r c ≤ 2000) : okT 3 (surT x) := by
  refine ⟨by show 1 ≤ 2 ∧ 2 ≤ 4; omega, by omega, fun i hi => ?_, fun i k hi hk => ?_⟩
  · rw [surT_nth hi]; simp
  · rw [surT_at hi hk]; have := h i k; omega
theorem span_ok (a b : Int) : ans prog O 7 [.int .i64 a, .int .i64 b] = some (.agg [.int .i64 a, .int .i64 b]) := by
  refine fn_of' pl get7 (oo (by decide)) rfl rfl ?_
  simp (disch := omega) [Und, -Bool.exists_bool]
theorem TopSurvivors_law (p0 p1 l0 l1 l2 : Span) (nb : Bool) (bits : List Int) (hb : bits.length < 2 ^ 62) :
    ans prog O 4 [.agg [.int .i64 p0.lo, .int .i64 p0.hi, .int .i64 p1.lo, .int .i64 p1.hi], .agg [.int .i64 l0.lo, .int .i64 l0.hi, .int .i64 l1.lo, .int .i64 l1.hi, .int .i64 l2.lo, .int .i64 l2.hi], vs nb bits] = some (.bool true) := by
  obtain ⟨E, hE⟩ : ∃ E : Nat → Nat, ∀ r, E r = ((nth [p0, p1] r).lo % 60).toNat := ⟨_, fun _ => rfl⟩
  obtain ⟨N, hN⟩ : ∃ N : Nat → Nat, ∀ r, N r = ((nth [p0, p1] r).hi % 60).toNat := ⟨_, fun _ => rfl⟩
  obtain ⟨A, hA⟩ : ∃ A : Nat → Nat, ∀ c, A c = ((nth [l0, l1, l2] c).lo % 10).toNat := ⟨_, fun _ => rfl⟩
  obtain ⟨B, hB⟩ : ∃ B : Nat → Nat, ∀ c, B c = 1 + ((nth [l0, l1, l2] c).hi % 9).toNat := ⟨_, fun _ => rfl⟩
  have hE' : ∀ r, (nth [p0, p1] r).lo % 60 = (E r : Int) ∧ E r < 60 := fun r => by rw [hE]; omega
  have hN' : ∀ r, (nth [p0, p1] r).hi % 60 = (N r : Int) ∧ N r < 60 := fun r => by rw [hN]; omega
  have hA' : ∀ c, (nth [l0, l1, l2] c).lo % 10 = (A c : Int) ∧ A c ≤ 9 := fun r => by rw [hA]; omega
  have hB' : ∀ c, 1 + (nth [l0, l1, l2] c).hi % 9 = (B c : Int) ∧ 1 ≤ B c ∧ B c ≤ 9 := fun r => by rw [hB]; omega
  clear hE hN hA hB
  obtain ⟨x, hx⟩ : ∃ x : Nat → Nat → Nat, ∀ r c, x r c = A c * E r + B c * N r := ⟨_, fun _ _ => rfl⟩
  have hae : ∀ r c, A c * E r ≤ 540 ∧ B c * N r ≤ 540 := fun r c => ⟨Nat.mul_le_mul (hA' c).2 (Nat.le_of_lt (hE' r).2), Nat.mul_le_mul (hB' c).2.2 (Nat.le_of_lt (hN' r).2)⟩
  have hxb : ∀ r c, x r c ≤ 2000 := fun r c => by have := hae r c; rw [hx]; omega
  have hT := surT_ok hxb
  have hF := pageB_full hT
  obtain ⟨_, ⟨R, rfl, hW, hL5⟩, hsoak⟩ := soaked_ok hF nb bits hb
  have hokP := hW.okP hF
  obtain ⟨_, ⟨n, g, rfl, hn1, hn2, hg, hg1⟩, hres⟩ := Restore_ok hokP hL5 (okL_lost hokP hL5) (truth_ok hF hW) (D := was (pageB 3 (surT x))) fun j hj => (truth_nth hj).symm
  have hpage := page_ok hT
  have hread := read_ok hT
  have hwh := fun r => where_sg3 (X := x r) (fun c => (hA' c).2) (fun c => (hB' c).2) (hx r) (hE' r).2 (hN' r).2
  obtain ⟨c0, hc0⟩ : ∃ c0 : List AV, c0 = [.int .i64 p0.lo, .int .i64 p0.hi, .int .i64 p1.lo, .int .i64 p1.hi] := ⟨_, rfl⟩
  obtain ⟨c1, hc1⟩ : ∃ c1 : List AV, c1 = [.int .i64 l0.lo, .int .i64 l0.hi, .int .i64 l1.lo, .int .i64 l1.hi, .int .i64 l2.lo, .int .i64 l2.hi] := ⟨_, rfl⟩
  have c0l : c0.length = 4 := by rw [hc0]; rfl
  have c1l : c1.length = 6 := by rw [hc1]; rfl
  have c0a : ∀ r, r < 2 → c0[r * 2]? = some (.int .i64 (nth [p0, p1] r).lo) ∧ c0[r * 2 + 1]? = some (.int .i64 (nth [p0, p1] r).hi) := fun r hr => by
    have : r = 0 ∨ r = 1 := by omega
    rcases this with rfl | rfl <;> (rw [hc0]; exact ⟨rfl, rfl⟩)
  have c1a : ∀ c, c < 3 → c1[c * 2]? = some (.int .i64 (nth [l0, l1, l2] c).lo) ∧ c1[c * 2 + 1]? = some (.int .i64 (nth [l0, l1, l2] c).hi) := fun c hc => by
    have : c = 0 ∨ c = 1 ∨ c = 2 := by omega
    rcases this with rfl | rfl | rfl <;> (rw [hc1]; exact ⟨rfl, rfl⟩)
  refine fn_of' pl get4 (oo (by decide)) rfl rfl ?_
  simp (disch := omega) [Und, -Bool.exists_bool]
  rw [← hc0, ← hc1]
  obtain ⟨pts, hpts⟩ : ∃ pts : List Span, pts = [⟨E 0, N 0⟩, ⟨E 1, N 1⟩] := ⟨_, rfl⟩
  have hpl : pts.length = 2 := by rw [hpts]; rfl
  have hpn : ∀ r, r < 2 → nth pts r = ⟨E r, N r⟩ := fun r hr => by
    have : r = 0 ∨ r = 1 := by omega
    rcases this with rfl | rfl <;> (rw [hpts]; rfl)
  refine lp_loop pl (fun k fr σ => ∃ (r : Nat) (v7 v8 : AV) (S : List Nat), r + k = 2 ∧ fr = ⟨[(2, vs nb bits), (3, .ptr (some (0, 0))), (4, .ptr (some (1, 0))), (7, v7), (8, v8), (9, .int .i64 r)], []⟩ ∧ σ.lim = 0 ∧ 2 ≤ σ.next ∧ σ.get 0 = some (.cells c0) ∧ σ.get 1 = some (.cells c1) ∧
      RowsX S 2 1 (AV.int .i64) σ v7 (((surT x).take r).map castL) ∧ Buf 2 2 eSpan σ v8 (pts.take r) ∧ ∀ i ∈ obj v8, i ∉ S)
    ⟨2, 0, .vsl true [], .vsl true [], [], by omega, rfl, rfl, Nat.le_refl _, by simp, by simp, RowsX.nil, Buf.nil, fun i hi => by cases hi⟩ ?_
  rintro k _ σ ⟨r, v7, v8, S, hk, rfl, σl, σn, g0, g1, hR, hB8, hd8⟩
  by_cases hr : r < 2
  · have hr' : (r : Int) < 2 := by omega
    have ca := c0a r hr
    have ca2 : ∀ h : r * 2 < c0.length, c0[r * 2] = .int .i64 (nth [p0, p1] r).lo := fun h => (List.getElem?_eq_some_iff.1 ca.1).2
    have ca3 : ∀ h : r * 2 + 1 < c0.length, c0[r * 2 + 1] = .int .i64 (nth [p0, p1] r).hi := fun h => (List.getElem?_eq_some_iff.1 ca.2).2
    have hEr := hE' r
    have hNr := hN' r
    have q1 : r * 2 < 4 := by omega
    have q2 : r * 2 + 1 < 4 := by omega
    have q3 : 0 < σ.next := by omega
    generalize nth [p0, p1] r = pr at *
    simp (disch := omega) [Und, hr, hr', g0, σl, c0l, ca.1, ca.2, ca2, ca3, hEr.1, hNr.1, q1, q2, q3, -Bool.exists_bool]
    refine ⟨by omega, by omega, ?_⟩
    generalize hυ : AH.set (AH.push (AH.under σ 0) _) σ.next _ = υ
    have υl : υ.lim = 0 := by rw [← hυ]; rfl
    have υn : υ.next = σ.next + 1 := by rw [← hυ]; rfl
    have υo : ∀ z, z < σ.next → υ.get z = σ.get z := fun z hz => by rw [← hυ, AH.get_set_other _ _ _ _ (by omega), AH.get_push_old _ _ _ (show z ≠ (AH.under σ 0).next by show z ≠ σ.next; omega)]; rfl
    have υt : υ.get σ.next = some (.cells [.int .i64 (E r), .int .i64 (N r)]) := by rw [← hυ]; exact AH.get_set_same _ _ _ (by show σ.next < σ.next + 1; omega)
    clear hυ
    have hrow := surT_nth (x := x) hr
    refine lp_loop pl (fun k fr τ => ∃ (c : Nat) (v11 : AV), c + k = 3 ∧ fr = ⟨[(2, vs nb bits), (3, .ptr (some (0, 0))), (4, .ptr (some (1, 0))), (7, v7), (8, v8), (9, .int .i64 r), (10, .ptr (some (σ.next, 0))), (11, v11), (12, .int .i64 c)], []⟩ ∧ Only [] υ τ ∧ Buf υ.next 1 (AV.int .i64) τ v11 (castL ((nth (surT x) r).take c)))
      ⟨3, 0, .vsl true [], by omega, rfl, Only.refl _ _, Buf.nil⟩ ?_
    rintro k2 _ τ ⟨c, v11, hk2, rfl, hτ, hB⟩
    have τl := hτ.lim.trans υl
    have τn := hτ.next
    have τt := (hτ.get σ.next (by omega) (by simp)).trans υt
    have τ1 := (hτ.get 1 (by omega) (by simp)).trans ((υo 1 (by omega)).trans g1)
    have b1 : 1 < τ.next := by omega
    have b2 : σ.next < τ.next := by omega
    have hrl : (nth (surT x) r).length = 3 := by rw [hrow]; simp
    by_cases hc : c < 3
    · have hc' : (c : Int) < 3 := by omega
      have cb := c1a c hc
      have cb2 : ∀ h : c * 2 < c1.length, c1[c * 2] = .int .i64 (nth [l0, l1, l2] c).lo := fun h => (List.getElem?_eq_some_iff.1 cb.1).2
      have cb3 : ∀ h : c * 2 + 1 < c1.length, c1[c * 2 + 1] = .int .i64 (nth [l0, l1, l2] c).hi := fun h => (List.getElem?_eq_some_iff.1 cb.2).2
      have hAc := hA' c
      have hBc := hB' c
      have r1 : c * 2 < 6 := by omega
      have r2 : c * 2 + 1 < 6 := by omega
      have hab := hae r c
      obtain ⟨m1, hm1, hm1'⟩ : ∃ m1 : Nat, (A c : Int) * (E r : Int) = m1 ∧ m1 = A c * E r := ⟨A c * E r, by push_cast; rfl, rfl⟩
      obtain ⟨m2, hm2, hm2'⟩ : ∃ m2 : Nat, (B c : Int) * (N r : Int) = m2 ∧ m2 = B c * N r := ⟨B c * N r, by push_cast; rfl, rfl⟩
      have hxc : x r c = m1 + m2 := by rw [hx, hm1', hm2']
      rw [← hm1', ← hm2'] at hab
      clear hm1' hm2'
      have hxn : nth (nth (surT x) r) c = x r c := surT_at hr hc
      generalize nth [l0, l1, l2] c = ll at *
      simp (disch := omega) [Und, hc, hc', τ1, τl, τt, b1, b2, c1l, cb.1, cb.2, cb2, cb3, hAc.1, hBc.1, r1, r2, hm1, hm2, -Bool.exists_bool]
      refine ⟨by omega, by omega, ?_⟩
      rw [under_self τl]
      refine hB.push encI (by omega) (by omega) ((m1 : Int) + m2) (bytes := 8) (by rw [castL_len, List.length_take]; simp only [topBytes]; omega) rfl fun v12 ζ q1 q2 => ?_
      have q3 := q2.next
      have q4 := q2.lim
      simp (disch := omega) [Und, -Bool.exists_bool]
      refine ⟨k2 - 1, by omega, c + 1, by omega, v12, ⟨rfl, by omega⟩, ⟨by omega, by omega, fun z z1 z2 => (q2.get z z1).trans (hτ.get z z1 z2)⟩, ?_⟩
      rw [take_succ_nth (by omega), hxn, hxc, show castL ((nth (surT x) r).take c ++ [m1 + m2]) = castL ((nth (surT x) r).take c) ++ [(m1 : Int) + m2] by unfold castL; rw [List.map_append]; simp]
      exact q1
    · obtain e : c = 3 := by omega
      subst e
      have e3 : (nth (surT x) r).take 3 = nth (surT x) r := List.take_of_length_le (by omega)
      rw [e3] at hB
      rcases hB with ⟨_, e4⟩ | ⟨o, rfl, o1, o2, o3⟩
      · have := congrArg List.length e4
        rw [castL_len, hrl] at this
        simp at this
      have hcl : (castL (nth (surT x) r)).length = 3 := by rw [castL_len, hrl]
      rw [hcl]
      simp (disch := omega) [Und, τt, b2, -Bool.exists_bool]
      have hOτ : Only [] σ τ := ⟨by omega, by omega, fun z hz _ => (hτ.get z (by omega) (by simp)).trans (υo z hz)⟩
      have ol := AH.get_lt o2
      have h8 := hB8.stay hOτ (fun i _ h => by cases h)
      have hR7 := RowsX.stay hR hOτ (fun i _ h => by cases h)
      have hobl := hB8.obj_lt
      refine h8.push encSpan (by omega) (by omega) (⟨E r, N r⟩ : Span) (bytes := 16) (by rw [List.length_take]; simp only [topBytes]; omega) rfl fun v9 ζ q1 q2 => ?_
      have q3 := q2.next
      have q4 := q2.lim
      simp (disch := omega) [Und, -Bool.exists_bool]
      have oζ : ζ.get o = some (.cells (rowOf (AV.int .i64) (castL (nth (surT x) r)))) := (q2.only.get o ol fun hh => by have := (hobl o hh).2; omega).trans o2
      have hRζ := RowsX.stay hR7 q2.only fun i hi hh => hd8 i hh hi
      have hSl := RowsX.lt hR
      refine RowsX.push hRζ (by omega) (by omega) (castL (nth (surT x) r)) (by omega) oζ (fun hh => by have := hSl o hh; omega) (n := 3) hcl.symm (.inl rfl) (bytes := 24) (by rw [List.length_map, List.length_take]; simp only [topBytes]; omega) fun v10 ξ p1 p2 p3 => ?_
      have p4 := p2.next
      have p5 := p2.lim
      have hnew : ∀ i ∈ obj v9, i ∈ obj v8 ∨ τ.next ≤ i := q2.fresh
      have h9 := q1.obj_lt
      have hdS : ∀ i ∈ obj v9, i ∉ S := fun i hi hh => by
        rcases hnew i hi with h1 | h1
        · exact hd8 i h1 hh
        · have := hSl i hh; omega
      have hS0 : 0 ∉ S ∧ 1 ∉ S := ⟨fun hh => by have := hSl 0 hh; omega, fun hh => by have := hSl 1 hh; omega⟩
      simp (disch := omega) [Und, -Bool.exists_bool]
      refine ⟨k - 1, by omega, r + 1, by omega, v10, v9, ⟨rfl, rfl, by omega⟩, by omega, by omega, ?_, ?_, ⟨o :: (obj v10 ++ S), ?_, ?_, ?_⟩⟩
      · rw [p2.get 0 (by omega) hS0.1, q2.only.get 0 (by omega) (fun hh => by have := hobl 0 hh; omega), hOτ.get 0 (by omega) (by simp), g0]
      · rw [p2.get 1 (by omega) hS0.2, q2.only.get 1 (by omega) (fun hh => by have := hobl 1 hh; omega), hOτ.get 1 (by omega) (by simp), g1]
      · rw [← List.map_take, take_succ_nth (by show r < 2; exact hr), List.map_append]
        exact p1
      · rw [take_succ_nth (by omega), hpn r hr]
        exact q1.stay p2 hdS
      · intro i hi hh
        have hi9 := h9 i hi
        rcases List.mem_cons.1 hh with rfl | hh
        · rcases hnew i hi with h1 | h1
          · have := hobl i h1; omega
          · omega
        · rcases List.mem_append.1 hh with hh | hh
          · rcases p3 i hh with h1 | h1
            · exact hdS i hi h1
            · omega
          · exact hdS i hi hh
  · obtain e : r = 2 := by omega
    subst e
    have e2 : (surT x).take 2 = surT x := List.take_of_length_le (Nat.le_refl 2)
    rw [e2] at hR
    obtain ⟨S', hsn, hS'⟩ := RowsX.snapS hR encI flatI
    rw [show vl (eRv (AV.int IntKind.i64)) ((surT x).map castL).isEmpty (((surT x).map castL).map fun y => (false, y)) = vR (surT x) by unfold vR; rw [List.map_map]; rfl] at hsn
    obtain ⟨i7, cs7, e7, gi7, l7, hr7⟩ := RowsB.all hR.rows (by simp [surT])
    have hSl := RowsX.lt hR
    have e8 : pts.take 2 = pts := List.take_of_length_le (by omega)
    rw [e8] at hB8
    have hob8 := hB8.obj_lt
    simp (disch := omega) [Und, -Bool.exists_bool]
    refine pc_ro (.cons hsn .nil) (fun h => by rw [e7] at h; cases h) (by simp) (oo (args := []) (by decide)).1 (fun z hz => by omega) hpage fun τ oo1 ce1 => ?_
    have τl : τ.lim = 0 := oo1.lim.trans σl
    have τn := oo1.next
    have hS2 : ∀ z, z ∉ S → z ∉ S' ++ [] := fun z hz hh => hz (hS' z (by simpa using hh))
    have τ1 : τ.get 1 = some (.cells c1) := (oo1.get 1 (by omega) (hS2 1 fun hh => by have := hSl 1 hh; omega)).trans g1
    have h8τ : Buf 2 2 eSpan τ v8 pts := hB8.stay oo1 fun i hi => hS2 i (hd8 i hi)
    have c7 : τ.cel i7 = some cs7 := (ce1 i7).trans (AH.cel_get gi7)
    have c7r : ∀ r, r < 2 → ∃ o c, cs7[r]? = some (.slice (some (o, 0)) 3 c) ∧ τ.cel o = some (rowI (castL (nth (surT x) r))) := fun r hr => by
      obtain ⟨o, c, h1, h2⟩ := hr7 r hr
      have hn : nth ((surT x).map castL) r = castL (nth (surT x) r) := nth_map _ hr
      rw [hn] at h1 h2
      rw [castL_len, surT_nth hr] at h1
      exact ⟨o, c, h1, (ce1 o).trans (AH.cel_get h2)⟩
    have hok1 : ¬ (n : Int) < 1 := by omega
    by_cases hn : 1 < (n : Int)
    · simp (disch := omega) [Und, hsoak, hres, hok1, hn, -Bool.exists_bool]
    · obtain rfl : n = 1 := by omega
      have hback : putP g R = pageB 3 (surT x) := put_back hF hW hg (hg1 rfl)
      rw [hback] at hres
      simp (disch := omega) [Und, hsoak, hres, hread, -Bool.exists_bool]
      refine lp_loop pl (fun k fr υ => ∃ r : Nat, r + k = 2 ∧ fr = ⟨[(4, .ptr (some (1, 0))), (7, v7), (8, v8), (19, vR (surT x)), (21, .int .i64 r)], []⟩ ∧ Only [] τ υ)
        ⟨2, 0, by omega, rfl, Only.refl _ _⟩ ?_
      rintro k2 _ υ ⟨r, hk2, rfl, hυ⟩
      have υl := hυ.lim.trans τl
      have υn := hυ.next
      by_cases hr : r < 2
      · have hr' : (r : Int) < 2 := by omega
        have υ1 := (hυ.get 1 (by omega) (by simp)).trans τ1
        have h8υ := h8τ.stay hυ (fun i _ h => by cases h)
        obtain ⟨o7, cc7, a7, b7⟩ := c7r r hr
        have d7 : υ.cel i7 = some cs7 := (AH.cel_same (hυ.get i7 (AH.cel_lt c7) (by simp))).trans c7
        have d7r : υ.cel o7 = some (rowI (castL (nth (surT x) r))) := (AH.cel_same (hυ.get o7 (AH.cel_lt b7) (by simp))).trans b7
        have hsl : (surT x).length = 2 := rfl
        have hrow := surT_nth (x := x) hr
        have hrl : (nth (surT x) r).length = 3 := by rw [hrow]; simp
        have hsp := span_ok 0 59
        simp (disch := omega) [Und, hr, hr', hsp, υl, -Bool.exists_bool]
        generalize hβ : AH.set (AH.push υ _) υ.next _ = β
        have βl : β.lim = 0 := by rw [← hβ]; exact υl
        have βn : β.next = υ.next + 1 := by rw [← hβ]; rfl
        have βo : ∀ z, z < υ.next → β.get z = υ.get z := fun z hz => by rw [← hβ, AH.get_set_other _ _ _ _ (by omega), AH.get_push_old _ _ _ (by omega)]
        have βt : β.get υ.next = some (.cells [.int .i64 0, .int .i64 59, .int .i64 0, .int .i64 59, .vsl true []]) := by rw [← hβ]; exact AH.get_set_same _ _ _ (by show υ.next < υ.next + 1; omega)
        clear hβ
        refine lp_loop pl (fun k fr ζ => ∃ (c : Nat) (vS : AV), c + k = 3 ∧ fr = ⟨[(4, .ptr (some (1, 0))), (7, v7), (8, v8), (19, vR (surT x)), (21, .int .i64 r), (22, .ptr (some (υ.next, 0))), (23, .int .i64 c)], []⟩ ∧ ζ.lim = 0 ∧ υ.next < ζ.next ∧ (∀ z, z < υ.next → ζ.get z = υ.get z) ∧ ζ.get υ.next = some (.cells [.int .i64 0, .int .i64 59, .int .i64 0, .int .i64 59, vS]) ∧ Buf (υ.next + 1) 10 Fx.eStp ζ vS ((sg3 A B (x r)).take c))
          ⟨3, 0, .vsl true [], by omega, rfl, βl, by omega, βo, βt, Buf.nil⟩ ?_
        rintro k3 _ ζ ⟨c, vS, hk3, rfl, ζl, ζn, ζo, ζt, hBS⟩
        have ζ1 := (ζo 1 (by omega)).trans υ1
        have z1 : 1 < ζ.next := by omega
        have hsgl : (sg3 A B (x r)).length = 3 := rfl
        by_cases hc : c < 3
        · have hc' : (c : Int) < 3 := by omega
          have cb := c1a c hc
          have cb2 : ∀ h : c * 2 < c1.length, c1[c * 2] = .int .i64 (nth [l0, l1, l2] c).lo := fun h => (List.getElem?_eq_some_iff.1 cb.1).2
          have cb3 : ∀ h : c * 2 + 1 < c1.length, c1[c * 2 + 1] = .int .i64 (nth [l0, l1, l2] c).hi := fun h => (List.getElem?_eq_some_iff.1 cb.2).2
          have hAc := hA' c
          have hBc := hB' c
          have r1 : c * 2 < 6 := by omega
          have r2 : c * 2 + 1 < 6 := by omega
          have hxn : nth (nth (surT x) r) c = x r c := surT_at hr hc
          have hxbc := hxb r c
          have hspx := span_ok (x r c) (x r c)
          have hsgn : nth (sg3 A B (x r)) c = sgS (A c) (B c) (x r c) := by
            have : c = 0 ∨ c = 1 ∨ c = 2 := by omega
            rcases this with rfl | rfl | rfl <;> rfl
          generalize nth [l0, l1, l2] c = ll at *
          have hvS : vS.one = true := by rcases hBS with ⟨rfl, _⟩ | ⟨o, rfl, _⟩ <;> rfl
          simp (disch := omega) [Und, hr, hr', hc, hc', ζ1, ζl, ζt, z1, ζn, c1l, cb.1, cb.2, cb2, cb3, hAc.1, hBc.1, r1, r2, hsl, hrl, castL_len, nth_cast, hxn, hspx, hvS, -Bool.exists_bool]
          refine ⟨by omega, by omega, ?_⟩
          rw [under_self ζl]
          refine hBS.push Fx.encStp (by omega) (by omega) (sgS (A c) (B c) (x r c)) (bytes := 96) (by rw [List.length_take]; simp only [topBytes]; omega) rfl fun vT ξ q1 q2 => ?_
          have q3 := q2.next
          have q4 := q2.lim.trans ζl
          have ξt := (q2.get υ.next (by omega)).trans ζt
          have ξlt := AH.get_lt ξt
          have hvT : vT.one = true ∧ vT.cells = [vT] ∧ vT.dfd = true := by rcases q1 with ⟨rfl, _⟩ | ⟨o, rfl, _⟩ <;> exact ⟨rfl, rfl, rfl⟩
          simp (disch := omega) [Und, q4, ξt, ξlt, hvT.1, hvT.2.1, hvT.2.2, -Bool.exists_bool]
          refine ⟨k3 - 1, by omega, c + 1, by omega, by omega, fun z hz => ?_, by rw [take_succ_nth (by omega), hsgn]; exact q1.keep fun z z1 z2 => AH.get_set_other _ _ _ _ (by omega)⟩
          rw [if_neg (by omega), q2.get z (by omega), ζo z hz]
        · obtain e : c = 3 := by omega
          subst e
          have e9 : (sg3 A B (x r)).take 3 = sg3 A B (x r) := rfl
          rw [e9] at hBS
          rcases hBS with ⟨_, e4⟩ | ⟨oS, rfl, o1, o2, o3⟩
          · cases e4
          obtain ⟨W, hw1, hw2, hw3, hw4⟩ := hwh r
          simp (disch := omega) [Und, ζt, ζn, -Bool.exists_bool]
          refine pc_ro (.cons (log_snap (E := ⟨0, 59⟩) (N := ⟨0, 59⟩) (S := sg3 A B (x r)) (AH.cel_get o2) (.inl rfl)) .nil) (fun h => by cases h) (by simp) (oo (args := []) (by decide)).1 (fun z hz => by omega) hw1 fun ρ oo2 ce2 => ?_
          have ρl := oo2.lim.trans ζl
          have ρn := oo2.next
          have ol := AH.get_lt o2
          have ρt := (oo2.get υ.next ζn (by simp; omega)).trans ζt
          have ρo : ∀ z, z < υ.next → ρ.get z = υ.get z := fun z hz => (oo2.get z (by omega) (by simp; omega)).trans (ζo z hz)
          have ρS : ρ.row oS = some (rowOf Fx.eStp (sg3 A B (x r))) := cel_rowE ((ce2 oS).trans (AH.cel_get o2))
          have ρ7 : ρ.row i7 = some cs7 := cel_rowE ((AH.cel_same (ρo i7 (AH.cel_lt d7))).trans d7)
          have ρ7r : ρ.row o7 = some (rowI (castL (nth (surT x) r))) := cel_rowE ((AH.cel_same (ρo o7 (AH.cel_lt d7r))).trans d7r)
          have h8ρ : Buf 2 2 eSpan ρ v8 pts := h8υ.keep fun z _ hz => ρo z hz
          have ρυ : Only [] υ ρ := ⟨by omega, by omega, fun z hz _ => ρo z hz⟩
          simp (disch := omega) [Und, -Bool.exists_bool]
          rcases h8ρ with ⟨_, e4⟩ | ⟨o8, rfl, p1, p2, p3⟩
          · rw [e4] at hpl; cases hpl
          have hpr := hpn r hr
          have rr := row_at encSpan (xs := pts) (j := r) (by omega)
          rw [hpr] at rr
          have rrl := rowOf_length encSpan pts
          have p2l := AH.get_lt p2
          have e7' : v7 = .slice (some (i7, 0)) 2 (.op 1) := e7
          subst e7'
          have ρtl := AH.get_lt ρt
          have hSt : ∀ c, c < 3 → (rowOf Fx.eStp (sg3 A B (x r)))[c * 10 + 1]? = some (.int .i64 (A c)) ∧ (rowOf Fx.eStp (sg3 A B (x r)))[c * 10 + 2]? = some (.int .i64 (B c)) := fun c hc => by
            have : c = 0 ∨ c = 1 ∨ c = 2 := by omega
            rcases this with rfl | rfl | rfl <;> exact ⟨rfl, rfl⟩
          have hStl : (rowOf Fx.eStp (sg3 A B (x r))).length = 30 := rfl
          have hxc7 : ∀ c, c < 3 → (rowI (castL (nth (surT x) r)))[c]? = some (.int .i64 (x r c)) := fun c hc => by
            rw [rowI_eq, List.getElem?_map, List.getElem?_eq_getElem (by rw [castL_len, hrl]; exact hc), ← nthE (by rw [castL_len, hrl]; exact hc), nth_cast, surT_at hr hc]
            rfl
          have hcell7 : (rowI (castL (nth (surT x) r))).length = 3 := by rw [rowI_eq, List.length_map, castL_len, hrl]
          have a7' : ∀ h : r < cs7.length, cs7[r] = .slice (some (o7, 0)) 3 cc7 := fun h => (List.getElem?_eq_some_iff.1 a7).2
          rw [row_def] at ρS ρ7 ρ7r
          have hsgl : (sg3 A B (x r)).length = 3 := rfl
          refine lp_loop pl (fun k fr χ => ∃ (i : Nat) (b : Bool), i + k = W.length ∧ fr = ⟨[(4, .ptr (some (1, 0))), (7, .slice (some (i7, 0)) 2 (.op 1)), (8, .slice (some (o8, 0)) pts.length (.op 2)), (19, vR (surT x)), (21, .int .i64 r), (22, .ptr (some (υ.next, 0))), (24, vl eSpan false W), (25, .int .i64 0), (26, .bool b), (27, .int .i64 i)], []⟩ ∧ χ = ρ ∧ (b = true ↔ (⟨E r, N r⟩ : Span) ∈ W.take i))
            ⟨W.length, 0, false, by omega, rfl, rfl, by simp⟩ ?_
          rintro k4 _ χ ⟨i, b, hk4, rfl, rfl, hb1⟩
          by_cases hi : i < W.length
          · have hi' : (i : Int) < W.length := by omega
            obtain ⟨we, wn, hw5, hw6, hw7, hw8⟩ := hw4 _ (nth_mem hi)
            have hb2 : ((b = true ∨ (we = E r ∧ wn = N r)) ↔ (⟨E r, N r⟩ : Span) ∈ W.take (i + 1)) := by
              rw [take_succ_nth hi, List.mem_append, List.mem_singleton, hb1, hw5]
              refine or_congr Iff.rfl ⟨fun ⟨h1, h2⟩ => by rw [h1, h2], fun h => ?_⟩
              injection h with h1 h2
              omega
            cases b with
            | true =>
              simp (disch := omega) [Und, hi, hi', hpl, -Bool.exists_bool]
              refine lp_loop pl (fun k fr χ' => ∃ c : Nat, c + k = 3 ∧ fr = ⟨[(4, .ptr (some (1, 0))), (7, .slice (some (i7, 0)) 2 (.op 1)), (8, .slice (some (o8, 0)) 2 (.op 2)), (19, vR (surT x)), (21, .int .i64 r), (22, .ptr (some (υ.next, 0))), (24, vl eSpan false W), (25, .int .i64 0), (26, .bool true), (27, .int .i64 i), (28, .int .i64 c)], []⟩ ∧ χ' = χ)
                ⟨3, 0, by omega, rfl, rfl⟩ ?_
              rintro k5 _ χ' ⟨c, hk5, rfl, rfl⟩
              by_cases hc : c < 3
              · have hc' : (c : Int) < 3 := by omega
                obtain ⟨y1, y2⟩ := hSt c hc
                have hx1 := hxc7 c hc
                have hsm := hw8 c hc
                have y1' : ∀ h : c * 10 + 1 < (rowOf Fx.eStp (sg3 A B (x r))).length, (rowOf Fx.eStp (sg3 A B (x r)))[c * 10 + 1] = .int .i64 (A c) := fun h => (List.getElem?_eq_some_iff.1 y1).2
                have y2' : ∀ h : c * 10 + 2 < (rowOf Fx.eStp (sg3 A B (x r))).length, (rowOf Fx.eStp (sg3 A B (x r)))[c * 10 + 2] = .int .i64 (B c) := fun h => (List.getElem?_eq_some_iff.1 y2).2
                have hx1' : ∀ h : c < (rowI (castL (nth (surT x) r))).length, (rowI (castL (nth (surT x) r)))[c] = .int .i64 (x r c) := fun h => (List.getElem?_eq_some_iff.1 hx1).2
                obtain ⟨m1, hm1, hm1'⟩ : ∃ m1 : Nat, (A c : Int) * (we : Int) = m1 ∧ m1 = A c * we := ⟨A c * we, by push_cast; rfl, rfl⟩
                obtain ⟨m2, hm2, hm2'⟩ : ∃ m2 : Nat, (B c : Int) * (wn : Int) = m2 ∧ m2 = B c * wn := ⟨B c * wn, by push_cast; rfl, rfl⟩
                rw [← hm1', ← hm2'] at hsm
                clear hm1' hm2'
                have hxbc := hxb r c
                have hfin : ¬ ((m1 : Int) + m2 ≠ x r c) := by omega
                have hfin2 : ((m1 : Int) + m2 = x r c) := by omega
                simp (disch := omega) [Und, hc, hc', ρl, ρt, ρtl, ρS, ρ7, ρ7r, a7, a7', l7, hi, hi', hw5, y1, y2, y1', y2', hx1, hx1', hm1, hm2, hfin, hfin2, hStl, hsgl, hcell7, -Bool.exists_bool]
                exact ⟨by omega, by omega, by omega, hr, by omega, k5 - 1, by omega, c + 1, by omega, by omega⟩
              · obtain e : c = 3 := by omega
                subst e
                simp (disch := omega) [Und, -Bool.exists_bool]
                exact ⟨k4 - 1, by omega, i + 1, by omega, true, ⟨hpl.symm, rfl, by omega⟩, ⟨fun _ => hb2.1 (.inl rfl), fun _ => rfl⟩⟩
            | false =>
              simp (disch := omega) [Und, hi, hi', hw5, p2, p2l, rr, rrl, hpl, -Bool.exists_bool]
              refine ⟨by omega, by omega, ?_⟩
              generalize hb' : (decide ((we : Int) = (E r : Int)) && decide ((wn : Int) = (N r : Int))) = b'
              refine lp_loop pl (fun k fr χ' => ∃ c : Nat, c + k = 3 ∧ fr = ⟨[(4, .ptr (some (1, 0))), (7, .slice (some (i7, 0)) 2 (.op 1)), (8, .slice (some (o8, 0)) 2 (.op 2)), (19, vR (surT x)), (21, .int .i64 r), (22, .ptr (some (υ.next, 0))), (24, vl eSpan false W), (25, .int .i64 0), (26, .bool b'), (27, .int .i64 i), (28, .int .i64 c)], []⟩ ∧ χ' = χ)
                ⟨3, 0, by omega, rfl, rfl⟩ ?_
              rintro k5 _ χ' ⟨c, hk5, rfl, rfl⟩
              by_cases hc : c < 3
              · have hc' : (c : Int) < 3 := by omega
                obtain ⟨y1, y2⟩ := hSt c hc
                have hx1 := hxc7 c hc
                have hsm := hw8 c hc
                have y1' : ∀ h : c * 10 + 1 < (rowOf Fx.eStp (sg3 A B (x r))).length, (rowOf Fx.eStp (sg3 A B (x r)))[c * 10 + 1] = .int .i64 (A c) := fun h => (List.getElem?_eq_some_iff.1 y1).2
                have y2' : ∀ h : c * 10 + 2 < (rowOf Fx.eStp (sg3 A B (x r))).length, (rowOf Fx.eStp (sg3 A B (x r)))[c * 10 + 2] = .int .i64 (B c) := fun h => (List.getElem?_eq_some_iff.1 y2).2
                have hx1' : ∀ h : c < (rowI (castL (nth (surT x) r))).length, (rowI (castL (nth (surT x) r)))[c] = .int .i64 (x r c) := fun h => (List.getElem?_eq_some_iff.1 hx1).2
                obtain ⟨m1, hm1, hm1'⟩ : ∃ m1 : Nat, (A c : Int) * (we : Int) = m1 ∧ m1 = A c * we := ⟨A c * we, by push_cast; rfl, rfl⟩
                obtain ⟨m2, hm2, hm2'⟩ : ∃ m2 : Nat, (B c : Int) * (wn : Int) = m2 ∧ m2 = B c * wn := ⟨B c * wn, by push_cast; rfl, rfl⟩
                rw [← hm1', ← hm2'] at hsm
                clear hm1' hm2'
                have hxbc := hxb r c
                have hfin : ¬ ((m1 : Int) + m2 ≠ x r c) := by omega
                have hfin2 : ((m1 : Int) + m2 = x r c) := by omega
                simp (disch := omega) [Und, hc, hc', ρl, ρt, ρtl, ρS, ρ7, ρ7r, a7, a7', l7, hi, hi', hw5, y1, y2, y1', y2', hx1, hx1', hm1, hm2, hfin, hfin2, hStl, hsgl, hcell7, -Bool.exists_bool]
                exact ⟨by omega, by omega, by omega, hr, by omega, k5 - 1, by omega, c + 1, by omega, by omega⟩
              · obtain e : c = 3 := by omega
                subst e
                simp (disch := omega) [Und, -Bool.exists_bool]
                refine ⟨k4 - 1, by omega, i + 1, by omega, b', ⟨hpl.symm, rfl, by omega⟩, ?_⟩
                rw [← hb2, ← hb', Bool.and_eq_true, decide_eq_true_eq, decide_eq_true_eq]
                constructor
                · exact fun h => .inr ⟨by omega, by omega⟩
                · rintro (h | h)
                  · cases h
                  · omega
          · obtain e : i = W.length := by omega
            have hbt : b = true := hb1.2 (by rw [e, List.take_length]; exact hw2)
            subst hbt
            simp (disch := omega) [Und, e, -Bool.exists_bool]
            exact ⟨k2 - 1, by omega, r + 1, by omega, by omega, hυ.trans ρυ⟩
      · obtain e : r = 2 := by omega
        subst e
        simp (disch := omega) [Und, -Bool.exists_bool]
theorem TopSurvivors_ok (p0 p1 l0 l1 l2 : Span) (nb : Bool) (bits : List Int) {x : AV} (hb : Slice (AV.int .i64) i64 x nb bits) :
    ans prog O 4 [.agg [.int .i64 p0.lo, .int .i64 p0.hi, .int .i64 p1.lo, .int .i64 p1.hi], .agg [.int .i64 l0.lo, .int .i64 l0.hi, .int .i64 l1.lo, .int .i64 l1.hi, .int .i64 l2.lo, .int .i64 l2.hi], vs nb bits] = some (.bool true) :=
  TopSurvivors_law p0 p1 l0 l1 l2 nb bits (by have := hb.len; omega)
end Go.Oct.Wre
