/- ScrewExact. -/
import Derived.Test.YtcbiofokeadddaaOScrewExactP
import Derived.Test.YtcbiofokeadddaaOScrewGearsL
set_option maxRecDepth 100000
set_option maxHeartbeats 4000000
set_option linter.unusedVariables false
set_option linter.unusedSimpArgs false
namespace Go.Oct.Screw
open Go.Oct
theorem Before_ok (na nb : Bool) (a b : List Int) (ha : a.length < 2 ^ 62) (hb : b.length < 2 ^ 62) : ans prog O 42 [vs na a, vs nb b] = some (.bool (bef a b)) := by
  refine fn_of' pl get42 (oo (by decide)) rfl rfl ?_
  simp +contextual (disch := omega) []
  refine lp_loop pl (fun k fr σ => ∃ j : Nat, j + k = a.length + b.length ∧ fr = ⟨[(0, vs na a), (1, vs nb b), (5, .int .i64 j)], []⟩ ∧ σ = ⟨0, 0, .leaf⟩ ∧ j ≤ a.length ∧ j ≤ b.length ∧ bef (a.drop j) (b.drop j) = bef a b) ⟨a.length + b.length, 0, by omega, rfl, rfl, by omega, by omega, rfl⟩ ?_
  rintro k _ _ ⟨j, hj, rfl, rfl, hja, hjb, he⟩
  simp +contextual (disch := omega) [Und]
  refine ⟨fun hm => ?_, fun hm => ?_⟩
  · have h1 : j < a.length := by omega
    have h2 : j < b.length := by omega
    rw [drop_nth h1, drop_nth h2] at he
    simp only [bef] at he
    refine ⟨h1, h2, fun h => by rw [← he]; simp [h], fun h => ⟨h1, h2, fun h' => ?_, fun h' => ⟨k - 1, by omega, j + 1, by omega, by omega, by omega, by omega, ?_⟩⟩⟩
    · rw [← he]
      simp only [Bool.or_eq_false_iff, Bool.and_eq_false_iff, decide_eq_false_iff_not]
      exact ⟨by omega, .inl (by omega)⟩
    · rw [← he]
      have e1 : nth a j = nth b j := by omega
      simp [e1]
  · rw [← he]
    by_cases h1 : j < a.length
    · have h2 : j = b.length := by omega
      rw [drop_nth h1, h2, List.drop_length]
      simp [bef]; omega
    · have h1 : j = a.length := by omega
      rw [h1, List.drop_length]
      by_cases h2 : a.length < b.length
      · rw [drop_nth h2]; simp [bef, h2]
      · rw [List.drop_of_length_le (by omega)]; simp [bef]; omega
theorem loff_ok (a b c d : Int) (h1 : 0 ≤ a * d) (h2 : a * d ≤ 2 ^ 60) (h3 : 0 ≤ c * b) (h4 : c * b ≤ 2 ^ 60) (h5 : 0 ≤ b * d) (h6 : b * d ≤ 2 ^ 60) : ans prog O 41 [.int .i64 a, .int .i64 b, .int .i64 c, .int .i64 d] = some (.tuple [.int .i64 (max (a * d - c * b) (-(a * d - c * b))), .int .i64 (b * d)]) := by
  refine fn_of' pl get41 (oo (by decide)) rfl rfl ?_
  simp +contextual (disch := omega) []
theorem place_in (xs : List Int) (n : Int) : 0 ≤ place xs n ↔ n ∈ xs := by
  unfold place pfrom
  rw [List.drop_zero]
  split
  · rename_i h
    exact ⟨fun _ => h, fun _ => by omega⟩
  · rename_i h
    exact ⟨fun h2 => by omega, fun h2 => absurd h2 h⟩
theorem chosen_ok (nl nb : Bool) (ws bits : List Int) (ln ld : Int) (hl : okLathe ws ln ld) (hbl : bits.length < 2 ^ 62) : ∃ v, (∃ g, okGears ws.length g ∧ v = vs false g) ∧ ans prog O 40 [eL nl ws ln ld, vs nb bits] = some v := by
  refine fn_ex pl _ get40 (oo (by decide)) rfl rfl ?_
  have q1 := Int.emod_nonneg (nth bits 0) (show (2 : Int) ≠ 0 by omega)
  have q2 := Int.emod_lt_of_pos (nth bits 0) (show (0 : Int) < 2 by omega)
  simp +contextual (disch := omega) []
  obtain ⟨M, hM, hM2⟩ : ∃ M : Nat, (M : Int) = 2 + 2 * (nth bits 0 % 2) ∧ (M = 2 ∨ M = 4) := ⟨(2 + 2 * (nth bits 0 % 2)).toNat, by omega, by omega⟩
  rw [← hM]
  clear q1 q2 hM
  obtain ⟨⟨n1, n2⟩, _⟩ := hl.1
  generalize hn : ws.length = n at *
  refine lp_loop pl (fun k fr σ => ∃ (g : List Int) (v : AV) (i : Nat), g.length + k = 4 ∧ (g.length ≤ M ∧ g.length ≤ n / 2 * 2) ∧ i ≤ 5 - k ∧ fr = ⟨[(1, vs nb bits), (2, .ptr (some (0, 0))), (5, v), (6, .int .i64 M), (7, .int .i64 i)], []⟩ ∧ σ.lim = 0 ∧ 1 ≤ σ.next ∧ σ.get 0 = some (.cells [vs nl ws, .int .i64 ln, .int .i64 ld]) ∧ Buf 1 1 (AV.int .i64) σ v g ∧ dist n g)
    ⟨4, [], .vsl true [], 1, rfl, by simp, by omega, rfl, rfl, by show 1 ≤ 0 + 1; omega, by simp, Buf.nil, fun i hi => by simp at hi⟩ ?_
  rintro k _ σ ⟨g, v, i, hk, ⟨hgM, hgn⟩, hi, rfl, hlim, hnx, h0, hb, hd⟩
  have hlen := hb.len
  simp +contextual (disch := omega) [Und, hlen, h0, hn, hlim]
  refine ⟨fun hlt => ?_, fun hge => ?_⟩
  · refine ⟨by omega, ?_⟩
    have hu : σ.under 0 = σ := by rw [← hlim]; cases σ; rfl
    rw [hu]
    have hgl : g.length < n := by omega
    obtain ⟨w0, hw0, hfree⟩ := free_wheel n g hgl
    have q1 := Int.emod_nonneg (w64 (nth bits ((i : Int) % (bits.length : Int)).toNat + i)) (show (n : Int) ≠ 0 by omega)
    have q2 := Int.emod_lt_of_pos (w64 (nth bits ((i : Int) % (bits.length : Int)).toNat + i)) (show (0 : Int) < n by omega)
    generalize w64 (nth bits ((i : Int) % (bits.length : Int)).toNat + i) % (n : Int) = k0 at *
    obtain ⟨c0, rfl⟩ := Int.eq_ofNat_of_zero_le q1
    refine lp_loop pl (fun d fr σ' => ∃ c : Nat, c < n ∧ d = (if c ≤ w0 then w0 - c else w0 + n - c) ∧ fr = ⟨[(1, vs nb bits), (2, .ptr (some (0, 0))), (5, v), (6, .int .i64 M), (7, .int .i64 i), (8, .int .i64 c)], []⟩ ∧ σ' = σ) ⟨_, c0, by omega, rfl, rfl, rfl⟩ ?_
    rintro d _ _ ⟨c, hc, rfl, rfl, rfl⟩
    simp +contextual (disch := omega) [Und, -Nat.not_le]
    refine pc_scal (.cons (hb.snapS encI flatI) (.cons (Snap.int _ _ _) .nil)) (fun h => by rw [hb.nilOf h]) (by simp) (oo (args := []) (by decide)).1 (Place_ok _ g c (by omega)) rfl ?_
    have hpl := place_in g c
    by_cases hm : (c : Int) ∈ g
    · have hp0 : 0 ≤ place g c := hpl.2 hm
      have hcw : c ≠ w0 := fun e => hfree (e ▸ hm)
      have hnc : ¬ (n = 0) := by omega
      have ht : ((c : Int) + 1).tmod (n : Int) = (((c + 1) % n : Nat) : Int) := rfl
      simp +contextual (disch := omega) [hp0, h0, hn, hnc, ht, -Int.natCast_emod]
      by_cases hcn : c + 1 = n
      · rw [hcn, Nat.mod_self]
        refine ⟨_, ?_, 0, by omega, rfl, rfl⟩
        rw [if_pos (Nat.zero_le _), if_neg (by omega)]
        omega
      · rw [Nat.mod_eq_of_lt (by omega)]
        refine ⟨_, ?_, c + 1, by omega, rfl, rfl⟩
        by_cases h1 : c ≤ w0
        · rw [if_pos (by omega), if_pos h1]; omega
        · rw [if_neg (by omega), if_neg h1]; omega
    · have hp0 : ¬ 0 ≤ place g c := fun h => hm (hpl.1 h)
      simp +contextual (disch := omega) [hp0, -Nat.not_le]
      refine hb.push encI (by omega) hnx (c : Int) (by simp only [topBytes]; omega) rfl fun v' σ' hb' hk' => ?_
      have l1 := hk'.lim
      have l2 := hk'.next
      have l3 := hk'.get 0 (by omega)
      simp +contextual (disch := omega) []
      exact ⟨k - 1, by omega, g ++ [(c : Int)], by simp; omega, by simp; omega, v', i + 1, by omega, ⟨rfl, by omega⟩, by omega, by omega, by rw [l3]; exact h0, hb', dist_add hd hc hm⟩
  · refine ⟨g, ⟨by omega, hd⟩, ?_⟩
    rw [hb.fzI 6]
    have : g.isEmpty = false := by cases g with
      | nil => simp at hge; omega
      | cons => rfl
    rw [this]
theorem max_mul {s a : Int} (hs : 0 < s) : max (s * a) (-(s * a)) = s * max a (-a) := by
  by_cases h : 0 ≤ a
  · have h1 : 0 ≤ s * a := Int.mul_nonneg (by omega) h
    rw [show max a (-a) = a by omega]; omega
  · have h1 : 0 ≤ s * (-a) := Int.mul_nonneg (by omega) (by omega)
    rw [Int.mul_neg] at h1
    rw [show max a (-a) = -a by omega, Int.mul_neg]; omega
/-- A pitch in lowest terms. -/
theorem low_parts {x y : Nat} (hx : 1 ≤ x) (hy : 1 ≤ y) : ∃ g a b : Nat, 0 < g ∧ x = g * a ∧ y = g * b ∧ x / Nat.gcd x y = a ∧ y / Nat.gcd x y = b ∧ 1 ≤ a ∧ 1 ≤ b ∧ a ≤ x ∧ b ≤ y := by
  have hg : 0 < Nat.gcd x y := Nat.gcd_pos_of_pos_left y hx
  have e1 := Nat.mul_div_cancel' (Nat.gcd_dvd_left x y)
  have e2 := Nat.mul_div_cancel' (Nat.gcd_dvd_right x y)
  refine ⟨Nat.gcd x y, x / Nat.gcd x y, y / Nat.gcd x y, hg, e1.symm, e2.symm, rfl, rfl, ?_, ?_, Nat.div_le_self _ _, Nat.div_le_self _ _⟩
  · exact Nat.pos_of_ne_zero fun e => by rw [e] at e1; omega
  · exact Nat.pos_of_ne_zero fun e => by rw [e] at e2; omega
theorem ScrewExact_ok (nl : Bool) (ws : List Int) (ln ld : Int) (w0 w1 : Int) (nb : Bool) (bits : List Int) (hs : Slice (AV.int .i64) i64 (vs nl ws) nl ws) (_ : i64 ln) (_ : i64 ld) (_ : i64 w0) (_ : i64 w1) (hs2 : Slice (AV.int .i64) i64 (vs nb bits) nb bits) :
    ans prog O 7 [.agg [vs nl ws, .int .i64 ln, .int .i64 ld], .agg [.int .i64 w0, .int .i64 w1], vs nb bits] = some (.bool true) := by
  have hx := hs.len
  have hbl := hs2.len
  have m1 := Int.emod_nonneg w0 (show (1000 : Int) ≠ 0 by omega)
  have m2 := Int.emod_lt_of_pos w0 (show (0 : Int) < 1000 by omega)
  have m3 := Int.emod_nonneg w1 (show (1000 : Int) ≠ 0 by omega)
  have m4 := Int.emod_lt_of_pos w1 (show (0 : Int) < 1000 by omega)
  have wa : w64 (1 + w0 % 1000) = 1 + w0 % 1000 := w64_id _ (by omega) (by omega)
  have wb : w64 (1 + w1 % 1000) = 1 + w1 % 1000 := w64_id _ (by omega) (by omega)
  have hnum : 1 ≤ 1 + w0 % 1000 ∧ 1 + w0 % 1000 ≤ 1000 := by omega
  have hden : 1 ≤ 1 + w1 % 1000 ∧ 1 + w1 % 1000 ≤ 1000 := by omega
  generalize hnm : 1 + w0 % 1000 = num at *
  generalize hdn : 1 + w1 % 1000 = den at *
  by_cases hl : okLathe ws ln ld
  · obtain ⟨b, hb, hbm⟩ := near_some num den hl
    have hbk := gl_ok b hbm
    have c1 := Cut_ok nl ws ln ld num den (by omega) (fun _ => hb)
    have n1 := Nearest_ok nl ws ln ld num den (by omega) (fun _ => hb)
    have hnr : nearRes ws ln ld num den b = .tuple [vs false b, .int .i64 0] := by unfold nearRes; rw [if_pos hl, if_pos ⟨hnum, hden⟩]
    rw [hnr] at n1
    obtain ⟨_, ⟨g, hgk, rfl⟩, hch⟩ := chosen_ok nl nb ws bits ln ld hl (by omega)
    have hbest := near_best hl hnum hden hb hgk
    have hbl4 : b.length = 2 ∨ b.length = 4 := hbk.1
    have hgl4 : g.length = 2 ∨ g.length = 4 := hgk.1
    have hlen : 2 ≤ (ws.length : Int) ∧ (ws.length : Int) ≤ 10 := hl.1.1
    have p1 := Pitch_ok nl false ws b ln ld (by omega) (by omega)
    have p2 := Pitch_ok nl false ws g ln ld (by omega) (by omega)
    obtain ⟨E, F, eE, eF, u1, u2, u3, u4⟩ := pEO_nat hl hbk
    obtain ⟨E', F', eE', eF', v1, v2, v3, v4⟩ := pEO_nat hl hgk
    have r1 : pitchRes ws b ln ld = .tuple [.int .i64 (E / Nat.gcd E F : Nat), .int .i64 (F / Nat.gcd E F : Nat), .int .i64 0] := by
      unfold pitchRes; rw [if_pos hl, if_pos hbk, eE, eF, Int.toNat_natCast, Int.toNat_natCast]
    have r2 : pitchRes ws g ln ld = .tuple [.int .i64 (E' / Nat.gcd E' F' : Nat), .int .i64 (F' / Nat.gcd E' F' : Nat), .int .i64 0] := by
      unfold pitchRes; rw [if_pos hl, if_pos hgk, eE', eF', Int.toNat_natCast, Int.toNat_natCast]
    rw [r1] at p1
    rw [r2] at p2
    have fb := far_bd hl hbk hnum hden
    have fg := far_bd hl hgk hnum hden
    have ub : far ws ln ld num den b = max ((E : Int) * den - num * F) (-((E : Int) * den - num * F)) := by unfold far gE gO; rw [eE, eF]
    have ug : far ws ln ld num den g = max ((E' : Int) * den - num * F') (-((E' : Int) * den - num * F')) := by unfold far gE gO; rw [eE', eF']
    have ob : gO ws ld b = F := eF
    have og : gO ws ld g = F' := eF'
    rw [ob, og] at hbest
    obtain ⟨s, x, y, hs0, ex, ey, dx, dy, x1, y1, x2, y2⟩ := low_parts u1 u3
    obtain ⟨t, x', y', ht0, ex', ey', dx', dy', x1', y1', x2', y2'⟩ := low_parts v1 v3
    rw [dx, dy] at p1
    rw [dx', dy'] at p2
    -- what is compared, in lowest terms
    have hfb : far ws ln ld num den b = (s : Int) * max ((x : Int) * den - num * y) (-((x : Int) * den - num * y)) := by
      rw [ub, ← max_mul (by omega), ex, ey, Int.natCast_mul, Int.natCast_mul]
      have : (s : Int) * x * den - num * ((s : Int) * y) = (s : Int) * ((x : Int) * den - num * y) := by
        rw [Int.mul_sub, Int.mul_assoc, Int.mul_left_comm num]
      rw [this]
    have hfg : far ws ln ld num den g = (t : Int) * max ((x' : Int) * den - num * y') (-((x' : Int) * den - num * y')) := by
      rw [ug, ← max_mul (by omega), ex', ey', Int.natCast_mul, Int.natCast_mul]
      have : (t : Int) * x' * den - num * ((t : Int) * y') = (t : Int) * ((x' : Int) * den - num * y') := by
        rw [Int.mul_sub, Int.mul_assoc, Int.mul_left_comm num]
      rw [this]
    have B1 := mulB (a := (x : Int)) (b := den) (A := 40000000) (B := 1000) (by omega) (by omega) (by omega) (by omega)
    have B2 := mulB (a := num) (b := (y : Int)) (A := 1000) (B := 40000000) (by omega) (by omega) (by omega) (by omega)
    have B3 := mulB (a := (x' : Int)) (b := den) (A := 40000000) (B := 1000) (by omega) (by omega) (by omega) (by omega)
    have B4 := mulB (a := num) (b := (y' : Int)) (A := 1000) (B := 40000000) (by omega) (by omega) (by omega) (by omega)
    have B5 := mulB (a := (y : Int)) (b := den) (A := 40000000) (B := 1000) (by omega) (by omega) (by omega) (by omega)
    have B6 := mulB (a := (y' : Int)) (b := den) (A := 40000000) (B := 1000) (by omega) (by omega) (by omega) (by omega)
    have o1 := loff_ok x y num den (by omega) (by omega) (by omega) (by omega) (by omega) (by omega)
    have o2 := loff_ok x' y' num den (by omega) (by omega) (by omega) (by omega) (by omega) (by omega)
    have hz : far ws ln ld num den b = 0 ↔ (x : Int) * den = num * y := by
      rw [hfb]
      constructor
      · intro h
        rcases Int.mul_eq_zero.1 h with h | h
        · omega
        · omega
      · intro h
        rw [show max ((x : Int) * den - num * y) (-((x : Int) * den - num * y)) = 0 by omega, Int.mul_zero]
    have hfin : max ((x : Int) * den - num * y) (-((x : Int) * den - num * y)) * y' < max ((x' : Int) * den - num * y') (-((x' : Int) * den - num * y')) * y ∨
        max ((x : Int) * den - num * y) (-((x : Int) * den - num * y)) * y' = max ((x' : Int) * den - num * y') (-((x' : Int) * den - num * y')) * y ∧ ¬ isBefore g b := by
      rw [hfb, hfg, ey', ey] at hbest
      generalize max ((x : Int) * den - num * y) (-((x : Int) * den - num * y)) = P at *
      generalize max ((x' : Int) * den - num * y') (-((x' : Int) * den - num * y')) = Q at *
      have hst : 0 < (s : Int) * t := Int.mul_pos (by omega) (by omega)
      have e1 : (s : Int) * P * ((t * y' : Nat) : Int) = (s : Int) * t * (P * y') := by rw [Int.natCast_mul]; ac_rfl
      have e2 : (t : Int) * Q * ((s * y : Nat) : Int) = (s : Int) * t * (Q * y) := by rw [Int.natCast_mul]; ac_rfl
      rw [e1, e2] at hbest
      rcases hbest with h | ⟨h, h2⟩
      · exact .inl (Int.lt_of_mul_lt_mul_left h (by omega))
      · exact .inr ⟨Int.eq_of_mul_eq_mul_left (by omega) h, h2⟩
    have hbf := Before_ok false false g b (by omega) (by omega)
    have hbe : ¬ b = [] := fun e => by rw [e] at hbl4; simp at hbl4
    have B7 : 0 ≤ max ((x : Int) * den - num * y) (-((x : Int) * den - num * y)) ∧ max ((x : Int) * den - num * y) (-((x : Int) * den - num * y)) ≤ 40000000000 := by omega
    have B8 : 0 ≤ max ((x' : Int) * den - num * y') (-((x' : Int) * den - num * y')) ∧ max ((x' : Int) * den - num * y') (-((x' : Int) * den - num * y')) ≤ 40000000000 := by omega
    have W1 : w64 ((x : Int) * den) = (x : Int) * den := w64_id _ (by omega) (by omega)
    have W2 : w64 (num * (y : Int)) = num * (y : Int) := w64_id _ (by omega) (by omega)
    generalize hP : max ((x : Int) * den - num * y) (-((x : Int) * den - num * y)) = P at *
    generalize hQ : max ((x' : Int) * den - num * y') (-((x' : Int) * den - num * y')) = Q at *
    have B9 := mulB (a := P) (b := (y' : Int)) (A := 40000000000) (B := 40000000) (by omega) (by omega) (by omega) (by omega)
    have B10 := mulB (a := Q) (b := (y : Int)) (A := 40000000000) (B := 40000000) (by omega) (by omega) (by omega) (by omega)
    have W3 : w64 (P * (y' : Int)) = P * (y' : Int) := w64_id _ (by omega) (by omega)
    have W4 : w64 (Q * (y : Int)) = Q * (y : Int) := w64_id _ (by omega) (by omega)
    have i1 : (1 ≤ (x : Int) ∧ (x : Int) ≤ 40000000) ∧ (1 ≤ (y : Int) ∧ (y : Int) ≤ 40000000) ∧ (1 ≤ (x' : Int) ∧ (x' : Int) ≤ 40000000) ∧ (1 ≤ (y' : Int) ∧ (y' : Int) ≤ 40000000) := by omega
    have i2 : ¬ ((y : Int) < 1) := by omega
    have i3 : ¬ ((y' : Int) < 1) := by omega
    refine fn_of' pl get7 (oo (by decide)) rfl rfl ?_
    by_cases h0 : far ws ln ld num den b = 0
    · have hcr : cutRes ws ln ld num den b = .tuple [vs false b, .int .i64 0] := by unfold cutRes; rw [if_pos hl, if_pos ⟨hnum, hden⟩, if_pos h0]
      rw [hcr] at c1
      have hz1 := hz.1 h0
      clear hfb hfg hbest hz B1 B2 B3 B4 B5 B6 B7 B8 B9 B10 fb fg ub ug ob og eE eF eE' eF' ex ey ex' ey' r1 r2 dx dy dx' dy' hP hQ
      simp +contextual (disch := omega) [wa, wb, hnm, hdn, c1, n1, p1, p2, hch, o1, o2, hbf, W1, W2, W3, W4, i1, i2, i3, hlen, hbe, hz1]
      rcases hfin with h | ⟨h, h2⟩
      · exact .inl h
      · refine .inr ⟨h, Nat.not_lt.1 fun hc => h2 (.inl hc), ?_⟩
        by_cases e : g.length = b.length
        · right
          cases hbv : bef g b with
          | false => rfl
          | true => exact absurd (.inr ⟨e, hbv⟩) h2
        · left; omega
    · have hcr : cutRes ws ln ld num den b = .tuple [.vsl true [], .int .i64 4] := by unfold cutRes; rw [if_pos hl, if_pos ⟨hnum, hden⟩, if_neg h0]
      rw [hcr] at c1
      have hz1 : ¬ (x : Int) * den = num * y := fun h => h0 (hz.2 h)
      clear hfb hfg hbest hz B1 B2 B3 B4 B5 B6 B7 B8 B9 B10 fb fg ub ug ob og eE eF eE' eF' ex ey ex' ey' r1 r2 dx dy dx' dy' hP hQ
      simp +contextual (disch := omega) [wa, wb, hnm, hdn, c1, n1, p1, p2, hch, o1, o2, hbf, W1, W2, W3, W4, i1, i2, i3, hlen, hbe, hz1]
      rcases hfin with h | ⟨h, h2⟩
      · exact .inl h
      · refine .inr ⟨h, Nat.not_lt.1 fun hc => h2 (.inl hc), ?_⟩
        by_cases e : g.length = b.length
        · right
          cases hbv : bef g b with
          | false => rfl
          | true => exact absurd (.inr ⟨e, hbv⟩) h2
        · left; omega
  · have hcr : ∀ b, cutRes ws ln ld num den b = .tuple [.vsl true [], .int .i64 20] := fun b => by unfold cutRes; rw [if_neg hl]
    have hnr : ∀ b, nearRes ws ln ld num den b = .tuple [.vsl true [], .int .i64 20] := fun b => by unfold nearRes; rw [if_neg hl]
    have c1 := Cut_ok nl ws ln ld num den (by omega) (b := []) (fun h => absurd h hl)
    have n1 := Nearest_ok nl ws ln ld num den (by omega) (b := []) (fun h => absurd h hl)
    rw [hcr] at c1
    rw [hnr] at n1
    refine fn_of' pl get7 (oo (by decide)) rfl rfl ?_
    simp +contextual (disch := omega) [wa, wb, hnm, hdn, c1, n1]
end Go.Oct.Screw
