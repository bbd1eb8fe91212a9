/- TopLogbook: the law. -/
import Derived.Test.YtddkghgfbhhcdaaGreatDoorOLogAskW
import Derived.Test.YtddkghgfbhhcdaaGreatDoorOLogPagW
import Derived.Test.YtddkghgfbhhcdaaGreatDoorOLogEntX
import Derived.Test.YtddkghgfbhhcdaaGreatDoorOT3
set_option maxRecDepth 100000
set_option maxHeartbeats 16000000
set_option linter.unusedVariables false
set_option linter.unusedSimpArgs false
namespace Go.Oct.Log
open Go.Oct
def arnB : ByteArray := { data := #[97, 114, 110, 111, 108, 100] }
def birB : ByteArray := { data := #[98, 105, 114, 100] }
/-- The weeks of two clocks. -/
def logT (a b : Nat → Nat) : List (List Nat) := [[a 0, b 0], [a 1, b 1], [a 2, b 2]]
def colT (a : Nat → Nat) : List Nat := [a 0, a 1, a 2]
theorem l3 {i : Nat} (h : i < 3) : i = 0 ∨ i = 1 ∨ i = 2 := by omega
theorem logT_nth {a b : Nat → Nat} {r : Nat} (h : r < 3) : nth (logT a b) r = [a r, b r] := by
  rcases l3 h with rfl | rfl | rfl <;> rfl
theorem colT_nth {a : Nat → Nat} {r : Nat} (h : r < 3) : nth (colT a) r = a r := by
  rcases l3 h with rfl | rfl | rfl <;> rfl
theorem logT_ok {a b : Nat → Nat} (ha : ∀ r, a r ≤ 1000) (hb : ∀ r, b r ≤ 1000) : okT 2 (logT a b) := by
  refine ⟨by show 1 ≤ 3 ∧ 3 ≤ 4; omega, by omega, fun i hi => ?_, fun i k hi hk => ?_⟩
  · rw [logT_nth hi]; rfl
  · rw [logT_nth hi]
    have h1 := ha i
    have h2 := hb i
    have : k = 0 ∨ k = 1 := by omega
    rcases this with rfl | rfl
    · show a i ≤ 6000; omega
    · show b i ≤ 6000; omega
def twoE (a b : Nat → Nat) : List Ck.Ent := [⟨arnB, false, castL (colT a)⟩, ⟨birB, false, castL (colT b)⟩]
theorem twoE_ok {a b : Nat → Nat} (ha : ∀ r, a r ≤ 1000) (hb : ∀ r, b r ≤ 1000) : Ck.okTri (twoE a b) := by
  refine ⟨by show 1 ≤ ((2 : Nat) : Int) ∧ ((2 : Nat) : Int) ≤ 12; omega, fun i hi => ?_⟩
  have hi : i < 2 := hi
  have hw : ∀ f : Nat → Nat, (∀ r, f r ≤ 1000) → ∀ k, k < 3 → Ck.inW (nth (castL (colT f)) k) := fun f hf k hk => by
    rw [nth_cast, colT_nth hk]
    have := hf k
    unfold Ck.inW
    omega
  have : i = 0 ∨ i = 1 := by omega
  rcases this with rfl | rfl
  · exact ⟨⟨(by decide +kernel : Ck.nameOK arnB), ⟨by show (2 : Int) ≤ ((3 : Nat) : Int); omega, by show ((3 : Nat) : Int) ≤ 30; omega⟩, rfl⟩, fun k hk => hw a ha k hk, fun k hk => by omega⟩
  · refine ⟨?_, fun k hk => hw b hb k hk, fun k hk => ?_⟩
    · exact ⟨(by decide +kernel : Ck.nameOK birB), ⟨by show (2 : Int) ≤ ((3 : Nat) : Int); omega, by show ((3 : Nat) : Int) ≤ 30; omega⟩, rfl⟩
    · obtain rfl : k = 0 := by omega
      show arnB ≠ birB
      decide
theorem TopLogbook_law (w0 w1 w2 : Span) (nb : Bool) (bits : List Int) (hb : bits.length < 2 ^ 62) :
    ans prog O 3 [.agg [.int .i64 w0.lo, .int .i64 w0.hi, .int .i64 w1.lo, .int .i64 w1.hi, .int .i64 w2.lo, .int .i64 w2.hi], vs nb bits] = some (.bool true) := by
  obtain ⟨A, hA⟩ : ∃ A : Nat → Nat, ∀ r, A r = ((nth [w0, w1, w2] r).lo % 1000).toNat := ⟨_, fun _ => rfl⟩
  obtain ⟨B, hB⟩ : ∃ B : Nat → Nat, ∀ r, B r = ((nth [w0, w1, w2] r).hi % 1000).toNat := ⟨_, fun _ => rfl⟩
  have hA' : ∀ r, (nth [w0, w1, w2] r).lo % 1000 = (A r : Int) ∧ A r ≤ 1000 := fun r => by rw [hA]; omega
  have hB' : ∀ r, (nth [w0, w1, w2] r).hi % 1000 = (B r : Int) ∧ B r ≤ 1000 := fun r => by rw [hB]; omega
  clear hA hB
  have hT := logT_ok (fun r => (hA' r).2) (fun r => (hB' r).2)
  have hTri := twoE_ok (fun r => (hA' r).2) (fun r => (hB' r).2)
  have hF := pageB_full hT
  obtain ⟨_, ⟨R, rfl, hW, hL5⟩, hsoak⟩ := soaked_ok hF nb bits hb
  have hokP := hW.okP hF
  have hdp := dep_lost hF hW
  have htr := truth_ok hF hW
  obtain ⟨_, ⟨n, g, hYn, rfl, hn1, hn2, hg, hg1⟩, hres⟩ := Restore_ok hokP hL5 (okL_lost hokP hL5) hdp htr (D := was (pageB 2 (logT A B))) fun j hj => (truth_nth hj).symm
  have hpage := page_ok hT
  have hread := read_ok hT
  have hrank := Ck.Rank_ok false (twoE A B) ⟨by show 2 < 2 ^ 62; decide, fun i hi => by
    have hi : i < 2 := hi
    have : i = 0 ∨ i = 1 := by omega
    rcases this with rfl | rfl <;> (show 3 < 2 ^ 62; decide)⟩
  obtain ⟨ra, rb, rc, hrv⟩ : ∃ ra rb rc, Ck.rankV (twoE A B) = (ra, rb, rc) := ⟨_, _, _, rfl⟩
  have hrc : rc = 0 ∧ ra.length < 2 ^ 62 ∧ rb.length < 2 ^ 62 := by
    unfold Ck.rankV at hrv
    rw [if_pos hTri] at hrv
    have e1 := congrArg (·.1) hrv
    have e2 := congrArg (·.2.1) hrv
    have e3 := congrArg (·.2.2) hrv
    simp only at e1 e2 e3
    refine ⟨e3.symm, ?_, ?_⟩
    · rw [← e1, List.length_map, Ck.ordR_len]; show 2 < 2 ^ 62; decide
    · rw [← e2, Ck.nums_len]; show 2 < 2 ^ 62; decide
  rw [hrv] at hrank
  obtain ⟨rfl, hral, hrbl⟩ := hrc
  obtain ⟨c1, hc1⟩ : ∃ c1 : List AV, c1 = [.int .i64 w0.lo, .int .i64 w0.hi, .int .i64 w1.lo, .int .i64 w1.hi, .int .i64 w2.lo, .int .i64 w2.hi] := ⟨_, rfl⟩
  have c1l : c1.length = 6 := by rw [hc1]; rfl
  have c1a : ∀ c, c < 3 → c1[c * 2]? = some (.int .i64 (nth [w0, w1, w2] c).lo) ∧ c1[c * 2 + 1]? = some (.int .i64 (nth [w0, w1, w2] c).hi) := fun c hc => by
    rcases l3 hc with rfl | rfl | rfl <;> (rw [hc1]; exact ⟨rfl, rfl⟩)
  refine fn_of' pl get3 (oo (by decide)) rfl rfl ?_
  simp (disch := omega) [Und, -Bool.exists_bool]
  rw [← hc1]
  refine lp_loop pl (fun k fr σ => ∃ (r : Nat) (v5 vA vB : AV) (S : List Nat), r + k = 3 ∧ fr = ⟨[(1, vs nb bits), (2, .ptr (some (0, 0))), (5, v5), (6, .ptr (some (1, 0))), (7, .ptr (some (2, 0))), (8, .int .i64 r)], []⟩ ∧ σ.lim = 0 ∧ 3 ≤ σ.next ∧ σ.get 0 = some (.cells c1) ∧ σ.get 1 = some (.cells [.str arnB, vA]) ∧ σ.get 2 = some (.cells [.str birB, vB]) ∧
      RowsX S 3 1 (AV.int .i64) σ v5 (((logT A B).take r).map castL) ∧ Buf 3 1 (AV.int .i64) σ vA (castL ((colT A).take r)) ∧ Buf 3 1 (AV.int .i64) σ vB (castL ((colT B).take r)) ∧ (∀ i ∈ obj vA, i ∉ S) ∧ (∀ i ∈ obj vB, i ∉ S) ∧ ∀ i ∈ obj vA, i ∉ obj vB)
    ⟨3, 0, .vsl true [], .vsl true [], .vsl true [], [], by omega, rfl, rfl, Nat.le_refl _, by simp, by simp; rfl, by simp; rfl, RowsX.nil, Buf.nil, Buf.nil, (fun i hi => by cases hi), (fun i hi => by cases hi), fun i hi => by cases hi⟩ ?_
  rintro k _ σ ⟨r, v5, vA, vB, S, hk, rfl, σl, σn, g0, g1, g2, hR, hBA, hBB, hdA, hdB, hdAB⟩
  by_cases hr : r < 3
  · have hr' : (r : Int) < 3 := by omega
    have ca := c1a r hr
    have ca2 : ∀ h : r * 2 < c1.length, c1[r * 2] = .int .i64 (nth [w0, w1, w2] r).lo := fun h => (List.getElem?_eq_some_iff.1 ca.1).2
    have ca3 : ∀ h : r * 2 + 1 < c1.length, c1[r * 2 + 1] = .int .i64 (nth [w0, w1, w2] r).hi := fun h => (List.getElem?_eq_some_iff.1 ca.2).2
    have hAr := hA' r
    have hBr := hB' r
    have q1 : r * 2 < 6 := by omega
    have q2 : r * 2 + 1 < 6 := by omega
    have q3 : 0 < σ.next := by omega
    generalize nth [w0, w1, w2] r = pr at *
    simp (disch := omega) [Und, hr, hr', g0, σl, c1l, ca.1, ca.2, ca2, ca3, hAr.1, hBr.1, q1, q2, q3, -Bool.exists_bool]
    refine ⟨by omega, by omega, ?_⟩
    rw [under_self σl]
    have hrow := logT_nth (a := A) (b := B) hr
    generalize hτ0 : σ.push (AObj.cells [AV.int IntKind.i64 (A r), AV.int IntKind.i64 (B r)]) = τ0
    have t0n : τ0.next = σ.next + 1 := by rw [← hτ0]; rfl
    have t0l : τ0.lim = 0 := by rw [← hτ0]; exact σl
    have t0O : Only [] σ τ0 := by rw [← hτ0]; exact Only.push [] σ _
    have t0g : τ0.get σ.next = some (.cells (rowOf (AV.int .i64) (castL [A r, B r]))) := by rw [← hτ0]; exact AH.get_push_new _ _
    clear hτ0
    rw [show σ.next + 1 = τ0.next by omega]
    have hSl := RowsX.lt hR
    have hRτ := RowsX.stay hR t0O (fun i _ h => by cases h)
    have hoA := hBA.obj_lt
    have hoB := hBB.obj_lt
    refine RowsX.push hRτ (by omega) (by omega) (castL [A r, B r]) (i := σ.next) (by omega) t0g (fun hh => by have := hSl _ hh; omega) (n := 2) rfl (.inr rfl) (bytes := 24) (by rw [List.length_map, List.length_take]; simp only [topBytes]; omega) fun v5' τ p1 p2 p3 => ?_
    have τn := p2.next
    have τl := p2.lim.trans t0l
    have hS0 : 0 ∉ S ∧ 1 ∉ S ∧ 2 ∉ S := ⟨fun hh => by have := hSl 0 hh; omega, fun hh => by have := hSl 1 hh; omega, fun hh => by have := hSl 2 hh; omega⟩
    have τ0' := (p2.get 0 (by omega) hS0.1).trans ((t0O.get 0 (by omega) (by simp)).trans g0)
    have τ1 := (p2.get 1 (by omega) hS0.2.1).trans ((t0O.get 1 (by omega) (by simp)).trans g1)
    have τ2 := (p2.get 2 (by omega) hS0.2.2).trans ((t0O.get 2 (by omega) (by simp)).trans g2)
    have hBAτ := (hBA.stay t0O (fun i _ h => by cases h)).stay p2 hdA
    have hBBτ := (hBB.stay t0O (fun i _ h => by cases h)).stay p2 hdB
    have b1 : 1 < τ.next := by omega
    have b2 : 2 < τ.next := by omega
    simp (disch := omega) [Und, τ1, τ2, τl, b1, b2, -Bool.exists_bool]
    refine hBAτ.apk encI (by omega) (by show 3 ≤ τ.next; omega) (Nat.le_refl _) (fun i hi => ⟨(hBAτ.obj_lt i hi).2, by simp⟩) (A r : Int) (bytes := 8) (by rw [castL_len, List.length_take]; simp only [topBytes]; omega) rfl fun vA' ξ sts u1 u2 u3 => ?_
    have ξn := u2.next
    have ξl := u2.lim.trans τl
    have n2 : 2 ∉ sts := fun hh => by
      rcases u3 2 hh with h | h
      · cases h
      · have := hoA 2 h; omega
    have n1 : 1 ∉ sts := fun hh => by
      rcases u3 1 hh with h | h
      · cases h
      · have := hoA 1 h; omega
    have ξ1 := (u2.only.get 1 b1 fun hh => by have := hoA 1 hh; omega).trans τ1
    have ξ2 := (u2.only.get 2 b2 fun hh => by have := hoA 2 hh; omega).trans τ2
    have hBBξ := hBBτ.stay u2.only fun i hi hh => hdAB i hh hi
    have c1' : 1 < ξ.next := by omega
    have c2' : 2 < ξ.next := by omega
    have hvA : vA'.one = true ∧ vA'.cells = [vA'] ∧ vA'.dfd = true := by rcases u1 with ⟨rfl, _⟩ | ⟨o, rfl, _⟩ <;> exact ⟨rfl, rfl, rfl⟩
    simp (disch := omega) [Und, ξ1, ξ2, ξl, c1', c2', n1, n2, hvA.1, hvA.2.1, hvA.2.2, -Bool.exists_bool]
    refine ⟨by omega, hBBξ.pushT encI (by omega) (by omega) (B r : Int) (bytes := 8) (by rw [castL_len, List.length_take]; simp only [topBytes]; omega) rfl fun vB' χ z1 z2 => ?_⟩
    have χn := z2.next
    have χl := z2.lim.trans ξl
    have χ1 := (z2.only.get 1 c1' fun hh => by have := hoB 1 hh; omega).trans ξ1
    have χ2 := (z2.only.get 2 c2' fun hh => by have := hoB 2 hh; omega).trans ξ2
    have d1' : 1 < χ.next := by omega
    have d2' : 2 < χ.next := by omega
    have hvB : vB'.one = true ∧ vB'.cells = [vB'] ∧ vB'.dfd = true := by rcases z1 with ⟨rfl, _⟩ | ⟨o, rfl, _⟩ <;> exact ⟨rfl, rfl, rfl⟩
    simp (disch := omega) [Und, χ1, χ2, χl, d1', d2', n1, n2, hvA.1, hvA.2.1, hvA.2.2, hvB.1, hvB.2.1, hvB.2.2, -Bool.exists_bool]
    have hS5 := RowsX.lt p1
    have f5 : ∀ i ∈ obj v5', i ∈ S ∨ σ.next < i := fun i hi => (p3 i hi).imp id (by omega)
    have fA : ∀ i ∈ obj vA', i ∈ obj vA ∨ τ.next ≤ i := u2.fresh
    have fB : ∀ i ∈ obj vB', i ∈ obj vB ∨ ξ.next ≤ i := z2.fresh
    have hAlt := u1.obj_lt
    have sepA : ∀ i ∈ obj vA, i ∉ σ.next :: (obj v5' ++ S) := fun i hi hh => by
      have h1 := hoA i hi
      rcases List.mem_cons.1 hh with rfl | hh
      · omega
      · rcases List.mem_append.1 hh with hh | hh
        · rcases f5 i hh with h2 | h2
          · exact hdA i hi h2
          · omega
        · exact hdA i hi hh
    have sepB : ∀ i ∈ obj vB, i ∉ σ.next :: (obj v5' ++ S) := fun i hi hh => by
      have h1 := hoB i hi
      rcases List.mem_cons.1 hh with rfl | hh
      · omega
      · rcases List.mem_append.1 hh with hh | hh
        · rcases f5 i hh with h2 | h2
          · exact hdB i hi h2
          · omega
        · exact hdB i hi hh
    have hR2 := RowsX.stay (RowsX.stay p1 u2.only fun i hi hh => sepA i hh hi) z2.only fun i hi hh => sepB i hh hi
    have hA2 := u1.stay z2.only fun i hi hh => by
      rcases fA i hi with h2 | h2
      · exact hdAB i h2 hh
      · have := hoB i hh; omega
    have hO12 : Only [1, 2] χ ((χ.set 1 (.cells [.str arnB, vA'])).set 2 (.cells [.str birB, vB'])) := (Only.set (by simp) _).trans (Only.set (by simp) _)
    refine ⟨k - 1, by omega, r + 1, by omega, v5', ⟨rfl, by omega⟩, by omega, (z2.only.get 0 (by omega) fun hh => by have := hoB 0 hh; omega).trans ((u2.only.get 0 (by omega) fun hh => by have := hoA 0 hh; omega).trans τ0'), σ.next :: (obj v5' ++ S), ?_, ?_, ?_, fun i hi hh => ?_, fun i hi hh => ?_, fun i hi hh => ?_⟩
    · rw [← List.map_take, take_succ_nth (by show r < 3; exact hr), List.map_append, hrow]
      exact RowsX.stay hR2 hO12 fun i hi hh => by
        have := hS5 i hi
        simp at hh
        omega
    · rw [take_succ_nth (by show r < 3; exact hr), colT_nth hr, show castL ((colT A).take r ++ [A r]) = castL ((colT A).take r) ++ [(A r : Int)] by unfold castL; rw [List.map_append]; rfl]
      exact hA2.stay hO12 fun i hi hh => by
        have := hAlt i hi
        simp at hh
        omega
    · rw [take_succ_nth (by show r < 3; exact hr), colT_nth hr, show castL ((colT B).take r ++ [B r]) = castL ((colT B).take r) ++ [(B r : Int)] by unfold castL; rw [List.map_append]; rfl]
      exact z1.stay hO12 fun i hi hh => by
        have := z1.obj_lt i hi
        simp at hh
        omega
    · have h1 := hS5 i hh
      rcases fA i hi with h2 | h2
      · exact sepA i h2 hh
      · omega
    · have h1 := hS5 i hh
      rcases fB i hi with h2 | h2
      · exact sepB i h2 hh
      · omega
    · rcases fB i hh with h2 | h2
      · rcases fA i hi with h3 | h3
        · exact hdAB i h3 h2
        · have := hoB i h2; omega
      · have := hAlt i hi; omega
  · obtain e : r = 3 := by omega
    subst e
    have e2 : (logT A B).take 3 = logT A B := rfl
    have eA : (colT A).take 3 = colT A := rfl
    have eB : (colT B).take 3 = colT B := rfl
    rw [e2] at hR
    rw [eA] at hBA
    rw [eB] at hBB
    obtain ⟨S', hsn, hS'⟩ := RowsX.snapS hR encI flatI
    rw [show vl (eRv (AV.int IntKind.i64)) ((logT A B).map castL).isEmpty (((logT A B).map castL).map fun y => (false, y)) = vR (logT A B) by unfold vR; rw [List.map_map]; rfl] at hsn
    obtain ⟨i7, cs7, e7, _, _, _⟩ := RowsB.all hR.rows (by simp [logT])
    have hSl := RowsX.lt hR
    have hoA := hBA.obj_lt
    have hoB := hBB.obj_lt
    simp (disch := omega) [Und, -Bool.exists_bool]
    refine pc_ro (.cons hsn .nil) (fun h => by rw [e7] at h; cases h) (by simp) (oo (args := []) (by decide)).1 (fun z hz => by omega) hpage fun τ oo1 ce1 => ?_
    have τl : τ.lim = 0 := oo1.lim.trans σl
    have τn := oo1.next
    have hS2 : ∀ z, z ∉ S → z ∉ S' ++ [] := fun z hz hh => hz (hS' z (by simpa using hh))
    have τ1 := (oo1.get 1 (by omega) (hS2 1 fun hh => by have := hSl 1 hh; omega)).trans g1
    have τ2 := (oo1.get 2 (by omega) (hS2 2 fun hh => by have := hSl 2 hh; omega)).trans g2
    have hAτ := hBA.stay oo1 fun i hi => hS2 i (hdA i hi)
    have hBτ := hBB.stay oo1 fun i hi => hS2 i (hdB i hi)
    have hok1 : ¬ (n : Int) < 1 := by omega
    by_cases hn : 2 ≤ n
    · have hn' : 1 < (n : Int) := by omega
      obtain ⟨_, ⟨p, lf, rfl, l1, l2⟩, hask⟩ := Ask_ok hokP hL5 (okL_lost hokP hL5) hdp htr hYn hn
      simp (disch := omega) [Und, hsoak, hres, hok1, hn', hask, eP, τl, l1, l2, -Bool.exists_bool]
    · obtain rfl : n = 1 := by omega
      have hback : putP g R = pageB 2 (logT A B) := put_back hF hW hg (hg1 rfl)
      rw [hback] at hres
      simp (disch := omega) [Und, hsoak, hres, hread, τl, -Bool.exists_bool]
      generalize hη : AH.set (AH.set (AH.push (AH.push τ _) _) _ _) _ _ = η
      obtain ⟨M, hM⟩ : ∃ M, M = τ.next := ⟨_, rfl⟩
      have ηl : η.lim = 0 := by rw [← hη]; exact τl
      have ηn : η.next = M + 2 := by rw [← hη, hM]; rfl
      have ηo : ∀ z, z < M → η.get z = τ.get z := fun z hz => by
        rw [← hη, AH.get_set_other _ _ _ _ (by omega), AH.get_set_other _ _ _ _ (by omega), AH.get_push_old _ _ _ (by show z ≠ τ.next + 1; omega), AH.get_push_old _ _ _ (by omega)]
      have ηM : η.get M = some (.cells [.str arnB, .vsl true []]) := by
        rw [← hη, hM, AH.get_set_other _ _ _ _ (by omega), AH.get_set_same _ _ _ (by show τ.next < τ.next + 1 + 1; omega)]; rfl
      have ηM1 : η.get (M + 1) = some (.cells [.str birB, .vsl true []]) := by
        rw [← hη, hM, AH.get_set_same _ _ _ (by show τ.next + 1 < τ.next + 1 + 1; omega)]; rfl
      clear hη
      rw [← hM]
      refine lp_loop pl (fun k fr ω => ∃ (r : Nat) (vX vY : AV), r + k = 3 ∧ fr = ⟨[(6, .ptr (some (1, 0))), (7, .ptr (some (2, 0))), (18, vR (logT A B)), (20, .ptr (some (M, 0))), (21, .ptr (some (M + 1, 0))), (22, .int .i64 r)], []⟩ ∧ ω.lim = 0 ∧ M + 2 ≤ ω.next ∧ (∀ z, z < M → ω.get z = τ.get z) ∧ ω.get M = some (.cells [.str arnB, vX]) ∧ ω.get (M + 1) = some (.cells [.str birB, vY]) ∧
          Buf (M + 2) 1 (AV.int .i64) ω vX (castL ((colT A).take r)) ∧ Buf (M + 2) 1 (AV.int .i64) ω vY (castL ((colT B).take r)) ∧ ∀ i ∈ obj vX, i ∉ obj vY)
        ⟨3, 0, .vsl true [], .vsl true [], by omega, rfl, ηl, by omega, ηo, ηM, ηM1, Buf.nil, Buf.nil, fun i hi => by cases hi⟩ ?_
      rintro k2 _ ω ⟨r, vX, vY, hk2, rfl, ωl, ωn, ωo, ωM, ωM1, hX, hY, hXY⟩
      have b1 : M < ω.next := by omega
      have b2 : M + 1 < ω.next := by omega
      have hlen : (logT A B).length = 3 := rfl
      have hoX := hX.obj_lt
      have hoY := hY.obj_lt
      by_cases hr : r < 3
      · have hr' : (r : Int) < 3 := by omega
        have hrow := logT_nth (a := A) (b := B) hr
        have hcr : castL (nth (logT A B) r) = [(A r : Int), (B r : Int)] := by rw [hrow]; rfl
        simp (disch := omega) [Und, hr, hr', hlen, ωM, ωM1, ωl, b1, b2, hcr, -Bool.exists_bool]
        refine hX.apk encI (by omega) (by show M + 2 ≤ ω.next; omega) (Nat.le_refl _) (fun i hi => ⟨(hX.obj_lt i hi).2, by simp⟩) (A r : Int) (bytes := 8) (by rw [castL_len, List.length_take]; simp only [topBytes]; omega) rfl fun vA' ξ sts u1 u2 u3 => ?_
        have ξn := u2.next
        have ξl := u2.lim.trans ωl
        have n2 : M + 1 ∉ sts := fun hh => by
          rcases u3 _ hh with h | h
          · cases h
          · have := hoX _ h; omega
        have n1 : M ∉ sts := fun hh => by
          rcases u3 _ hh with h | h
          · cases h
          · have := hoX _ h; omega
        have ξ1 := (u2.only.get M b1 fun hh => by have := hoX _ hh; omega).trans ωM
        have ξ2 := (u2.only.get (M + 1) b2 fun hh => by have := hoX _ hh; omega).trans ωM1
        have hYξ := hY.stay u2.only fun i hi hh => hXY i hh hi
        have c1' : M < ξ.next := by omega
        have c2' : M + 1 < ξ.next := by omega
        have hvA : vA'.one = true ∧ vA'.cells = [vA'] ∧ vA'.dfd = true := by rcases u1 with ⟨rfl, _⟩ | ⟨o, rfl, _⟩ <;> exact ⟨rfl, rfl, rfl⟩
        simp (disch := omega) [Und, hr, hr', hlen, hcr, ξ1, ξ2, ξl, c1', c2', n1, n2, hvA.1, hvA.2.1, hvA.2.2, -Bool.exists_bool]
        refine ⟨by omega, hYξ.pushT encI (by omega) (by omega) (B r : Int) (bytes := 8) (by rw [castL_len, List.length_take]; simp only [topBytes]; omega) rfl fun vB' χ z1 z2 => ?_⟩
        have χn := z2.next
        have χl := z2.lim.trans ξl
        have χ1 := (z2.only.get M c1' fun hh => by have := hoY _ hh; omega).trans ξ1
        have χ2 := (z2.only.get (M + 1) c2' fun hh => by have := hoY _ hh; omega).trans ξ2
        have d1' : M < χ.next := by omega
        have d2' : M + 1 < χ.next := by omega
        have x6 : ¬ M = M + 1 := by omega
        have x7 : ¬ M + 1 = M := by omega
        have hvB : vB'.one = true ∧ vB'.cells = [vB'] ∧ vB'.dfd = true := by rcases z1 with ⟨rfl, _⟩ | ⟨o, rfl, _⟩ <;> exact ⟨rfl, rfl, rfl⟩
        simp (disch := omega) [Und, χ1, χ2, χl, d1', d2', n1, n2, x6, x7, hvA.1, hvA.2.1, hvA.2.2, hvB.1, hvB.2.1, hvB.2.2, -Bool.exists_bool]
        have fA : ∀ i ∈ obj vA', i ∈ obj vX ∨ ω.next ≤ i := u2.fresh
        have fB : ∀ i ∈ obj vB', i ∈ obj vY ∨ ξ.next ≤ i := z2.fresh
        have hAlt := u1.obj_lt
        have hA2 := u1.stay z2.only fun i hi hh => by
          rcases fA i hi with h2 | h2
          · exact hXY i h2 hh
          · have := hoY i hh; omega
        have hO12 : Only [M, M + 1] χ ((χ.set M (.cells [.str arnB, vA'])).set (M + 1) (.cells [.str birB, vB'])) := (Only.set (by simp) _).trans (Only.set (by simp) _)
        refine ⟨k2 - 1, by omega, r + 1, by omega, by omega, by omega, fun z hz => ?_, ?_, ?_, fun i hi hh => ?_⟩
        · rw [if_neg (by omega), if_neg (by omega), z2.only.get z (by omega) fun hh => by have := hoY z hh; omega, u2.only.get z (by omega) fun hh => by have := hoX z hh; omega]
          exact ωo z hz
        · rw [take_succ_nth (by show r < 3; exact hr), colT_nth hr, show castL ((colT A).take r ++ [A r]) = castL ((colT A).take r) ++ [(A r : Int)] by unfold castL; rw [List.map_append]; rfl]
          exact hA2.stay hO12 fun i hi hh => by
            have := hAlt i hi
            simp at hh
            omega
        · rw [take_succ_nth (by show r < 3; exact hr), colT_nth hr, show castL ((colT B).take r ++ [B r]) = castL ((colT B).take r) ++ [(B r : Int)] by unfold castL; rw [List.map_append]; rfl]
          exact z1.stay hO12 fun i hi hh => by
            have := z1.obj_lt i hi
            simp at hh
            omega
        · rcases fB i hh with h2 | h2
          · rcases fA i hi with h3 | h3
            · exact hXY i h3 h2
            · have := hoY i h2; omega
          · have := hAlt i hi; omega
      · obtain e : r = 3 := by omega
        subst e
        rw [eA] at hX
        rw [eB] at hY
        rcases hX with ⟨_, e4⟩ | ⟨oX, rfl, x1, x2, x3⟩
        · cases e4
        rcases hY with ⟨_, e4⟩ | ⟨oY, rfl, y1, y2, y3⟩
        · cases e4
        rcases hAτ with ⟨_, e4⟩ | ⟨oA, rfl, a1, a2, a3⟩
        · cases e4
        rcases hBτ with ⟨_, e4⟩ | ⟨oB, rfl, d1, d2, d3⟩
        · cases e4
        have ω1 := (ωo 1 (by omega)).trans τ1
        have ω2 := (ωo 2 (by omega)).trans τ2
        have ωA := (ωo oA (by have := AH.get_lt a2; omega)).trans a2
        have ωB := (ωo oB (by have := AH.get_lt d2; omega)).trans d2
        have b3 : 1 < ω.next := by omega
        have b4 : 2 < ω.next := by omega
        simp (disch := omega) [Und, hlen, ω1, ω2, b3, b4, -Bool.exists_bool]
        have bA := AH.get_lt ωA
        have bB := AH.get_lt ωB
        have bX := AH.get_lt x2
        have bY := AH.get_lt y2
        have bA2 := AH.get_lt a2
        have bB2 := AH.get_lt d2
        generalize hκ : AH.push ω _ = κ
        have κn : κ.next = ω.next + 1 := by rw [← hκ]; rfl
        have κl : κ.lim = 0 := by rw [← hκ]; exact ωl
        have κo : ∀ z, z < ω.next → κ.get z = ω.get z := fun z hz => by rw [← hκ]; exact AH.get_push_old _ _ _ (by omega)
        have κk : κ.get ω.next = some (.cells (rowOf Ck.eER [(oA, arnB, castL (colT A)), (oB, birB, castL (colT B))])) := by rw [← hκ]; exact AH.get_push_new _ _
        clear hκ
        have hs1 := Ck.ents_snap κk (by simp) fun x hx => by
          simp only [List.mem_cons, List.not_mem_nil, or_false] at hx
          rcases hx with rfl | rfl
          · exact (κo oA bA).trans ωA
          · exact (κo oB bB).trans ωB
        refine pc_ro (.cons hs1 .nil) (fun h => by cases h) (by simp) (oo (args := []) (by decide)).1 (fun z hz => by omega) hrank fun χ oo2 ce2 => ?_
        have χn := oo2.next
        have χl := oo2.lim.trans κl
        have hnm : ∀ z, M ≤ z → z < ω.next → χ.get z = ω.get z := fun z z1 z2 => (oo2.get z (by omega) (by simp; omega)).trans (κo z z2)
        have χM := (hnm M (by omega) b1).trans ωM
        have χM1 := (hnm (M + 1) (by omega) b2).trans ωM1
        have χX := (hnm oX (by omega) bX).trans x2
        have χY := (hnm oY (by omega) bY).trans y2
        have e1 : M < χ.next := by omega
        have e2 : M + 1 < χ.next := by omega
        simp (disch := omega) [Und, χM, χM1, e1, e2, -Bool.exists_bool]
        generalize hψ : AH.push χ _ = ψ
        have ψn : ψ.next = χ.next + 1 := by rw [← hψ]; rfl
        have ψl : ψ.lim = 0 := by rw [← hψ]; exact χl
        have ψo : ∀ z, z < χ.next → ψ.get z = χ.get z := fun z hz => by rw [← hψ]; exact AH.get_push_old _ _ _ (by omega)
        have ψk : ψ.get χ.next = some (.cells (rowOf Ck.eER [(oX, arnB, castL (colT A)), (oY, birB, castL (colT B))])) := by rw [← hψ]; exact AH.get_push_new _ _
        clear hψ
        have hs2 := Ck.ents_snap ψk (by simp) fun x hx => by
          simp only [List.mem_cons, List.not_mem_nil, or_false] at hx
          rcases hx with rfl | rfl
          · exact (ψo oX (by omega)).trans χX
          · exact (ψo oY (by omega)).trans χY
        refine pc_ro (.cons hs2 .nil) (fun h => by cases h) (by simp) (oo (args := []) (by decide)).1 (fun z hz => by omega) hrank fun ζ oo3 ce3 => ?_
        have hs3 := Same_ok ra.isEmpty ra.isEmpty ra ra hral
        have hs4 := Same_ok rb.isEmpty rb.isEmpty rb rb hrbl
        simp only [decide_true] at hs3 hs4
        simp (disch := omega) [Und, hs3, hs4, -Bool.exists_bool]
theorem TopLogbook_ok (w0 w1 w2 : Span) (nb : Bool) (bits : List Int) {x : AV} (hb : Slice (AV.int .i64) i64 x nb bits) :
    ans prog O 3 [.agg [.int .i64 w0.lo, .int .i64 w0.hi, .int .i64 w1.lo, .int .i64 w1.hi, .int .i64 w2.lo, .int .i64 w2.hi], vs nb bits] = some (.bool true) :=
  TopLogbook_law w0 w1 w2 nb bits (by have := hb.len; omega)
end Go.Oct.Log
