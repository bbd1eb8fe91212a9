/- Tasks that lack: the program's. -/
import Derived.Test.YtpgjndgpackffaaDoorOShopPosB
set_option maxRecDepth 100000
set_option maxHeartbeats 1000000
set_option linter.unusedVariables false
set_option linter.unusedSimpArgs false
namespace Go.Oct.Shop
open Go.Oct
theorem isNaN_ok (a : Int) : ans prog O 105 [.int .i64 a] = some (.bool false) := by
  refine fn_of' pl get105 (oo (by decide)) rfl rfl ?_
  simp (disch := omega) []
theorem cmp_ok (a b : Int) : ans prog O 96 [.int .i64 a, .int .i64 b] = some (.int .i64 (if a < b then -1 else if b < a then 1 else 0)) := by
  have h1 := isNaN_ok a
  have h2 := isNaN_ok b
  refine fn_of' pl get96 (oo (by decide)) rfl rfl ?_
  by_cases c1 : a < b
  · simp (disch := omega) [h1, h2, c1]
  · by_cases c2 : b < a
    · simp (disch := omega) [h1, h2, c1, c2]
    · simp (disch := omega) [h1, h2, c1, c2]
theorem Compare_ok (a b : Bool) (xs ys : List Int) (hx : xs.length < 2 ^ 62) (hy : ys.length < 2 ^ 62) : ∃ v, (∃ r : Int, v = .int .i64 r ∧ (r < 0 ↔ lexB xs ys)) ∧ ans prog O 77 [vs a xs, vs b ys] = some v := by
  refine fn_ex pl _ get77 (oo (by decide)) rfl rfl ?_
  simp (disch := omega) [-Bool.exists_bool]
  refine lp_loop pl (fun q fr σ => ∃ k : Nat, k + q = xs.length ∧ k ≤ ys.length ∧ fr = ⟨[(0, vs a xs), (1, vs b ys), (9, vs a xs), (10, .int .i64 xs.length), (11, .int .i64 k)], []⟩ ∧ σ.lim = 0 ∧ (lexB (xs.drop k) (ys.drop k) ↔ lexB xs ys)) ⟨xs.length, 0, by omega, by omega, rfl, rfl, by simp⟩ ?_
  rintro q _ σ ⟨k, hk, hky', rfl, hl0, hd⟩
  by_cases hkx : k < xs.length
  · by_cases hky : k < ys.length
    · rw [drop_nth hkx, drop_nth hky] at hd
      simp only [lexB] at hd
      have hc := cmp_ok (nth xs k) (nth ys k)
      rcases Int.lt_trichotomy (nth xs k) (nth ys k) with h1 | h1 | h1
      · have h2 : lexB xs ys := hd.1 (.inl h1)
        rw [if_pos h1] at hc
        simp (disch := omega) [Und, hl0, hkx, hky, hc, h2, -Bool.exists_bool]
      · rw [if_neg (by omega), if_neg (by omega)] at hc
        simp (disch := omega) [Und, hl0, hkx, hky, hc, -Bool.exists_bool]
        exact ⟨fun h => absurd h (by omega), q - 1, by omega, k + 1, by omega, by omega, by omega, by rw [← hd]; simp [h1]⟩
      · have h2 : ¬ lexB xs ys := fun h => by
          rcases hd.2 h with h | h
          · omega
          · omega
        rw [if_neg (by omega), if_pos h1] at hc
        simp (disch := omega) [Und, hl0, hkx, hky, hc, h2, -Bool.exists_bool]
    · obtain rfl : k = ys.length := by omega
      have h2 : ¬ lexB xs ys := fun h => by
        rw [List.drop_length] at hd
        exact lexB_nil _ (hd.2 h)
      simp (disch := omega) [Und, hl0, hkx, hky, h2, -Bool.exists_bool]
  · obtain rfl : k = xs.length := by omega
    rw [List.drop_length] at hd
    by_cases hky : xs.length < ys.length
    · rw [drop_nth hky] at hd
      have h2 : lexB xs ys := hd.1 trivial
      simp (disch := omega) [Und, hl0, hkx, hky, h2, -Bool.exists_bool]
    · rw [List.drop_of_length_le (by omega)] at hd
      have h2 : ¬ lexB xs ys := fun h => hd.2 h
      simp (disch := omega) [Und, hl0, hkx, hky, h2, -Bool.exists_bool]
theorem abin_orN (a b : Nat) (ha : a < 2 ^ 62) (hb : b < 2 ^ 62) : abin .or (.int .i64 (a : Int)) (.int .i64 (b : Int)) = some (.int .i64 ((a ||| b : Nat) : Int)) := by
  simp only [abin, if_true]
  have e (q : Nat) (h : q < 2 ^ 62) : (BitVec.ofInt (IntKind.bits .i64) (q : Int)).toNat = q := by
    show (BitVec.ofInt 64 (q : Int)).toNat = q
    rw [BitVec.ofInt_natCast, BitVec.toNat_ofNat]
    exact Nat.mod_eq_of_lt (by omega)
  rw [BitVec.toNat_or, e a ha, e b hb]
  have h := Nat.or_lt_two_pow ha hb
  generalize a ||| b = q at *
  have : IntKind.wrap .i64 (q : Int) = (q : Int) := by rw [← w64_wrap]; exact w64_id (q : Int) (by omega) (by omega)
  rw [this]
theorem abin_andN (a b : Nat) (ha : a < 2 ^ 62) (hb : b < 2 ^ 62) : abin .and (.int .i64 (a : Int)) (.int .i64 (b : Int)) = some (.int .i64 ((a &&& b : Nat) : Int)) := by
  simp only [abin, if_true]
  have e (q : Nat) (h : q < 2 ^ 62) : (BitVec.ofInt (IntKind.bits .i64) (q : Int)).toNat = q := by
    show (BitVec.ofInt 64 (q : Int)).toNat = q
    rw [BitVec.ofInt_natCast, BitVec.toNat_ofNat]
    exact Nat.mod_eq_of_lt (by omega)
  rw [BitVec.toNat_and, e a ha, e b hb]
  have h : a &&& b < 2 ^ 62 := Nat.lt_of_le_of_lt Nat.and_le_left ha
  generalize a &&& b = q at *
  have : IntKind.wrap .i64 (q : Int) = (q : Int) := by rw [← w64_wrap]; exact w64_id (q : Int) (by omega) (by omega)
  rw [this]
/-- The skills of the first tasks of a set. -/
def skT (T : List Int) (s : Nat) : Nat → Nat
  | 0 => 0
  | n + 1 => if bitAt s n then skT T s n ||| 2 ^ (nth T n).toNat else skT T s n
theorem skT_bit {T : List Int} {s : Nat} (hT : ∀ q, q < T.length → okT (nth T q)) {i : Nat} : ∀ n, n ≤ T.length → ((skT T s n).testBit i = true ↔ ∃ k, k < n ∧ bitAt s k = true ∧ (nth T k).toNat = i)
  | 0, _ => by simp [skT]
  | n + 1, hn => by
    have ih := skT_bit hT (s := s) (i := i) n (by omega)
    simp only [skT]
    split
    · rename_i hb
      rw [Nat.testBit_or, Bool.or_eq_true, ih, Nat.testBit_two_pow]
      constructor
      · rintro (⟨k, h1, h2⟩ | h)
        · exact ⟨k, by omega, h2⟩
        · exact ⟨n, by omega, hb, of_decide_eq_true h⟩
      · rintro ⟨k, h1, h2, h3⟩
        by_cases e : k = n
        · subst e; exact .inr (decide_eq_true h3)
        · exact .inl ⟨k, by omega, h2, h3⟩
    · rename_i hb
      rw [ih]
      constructor
      · rintro ⟨k, h1, h2⟩
        exact ⟨k, by omega, h2⟩
      · rintro ⟨k, h1, h2, h3⟩
        by_cases e : k = n
        · subst e; exact absurd h2 hb
        · exact ⟨k, by omega, h2, h3⟩
theorem skT_lt {T : List Int} {s : Nat} (hT : ∀ q, q < T.length → okT (nth T q)) : ∀ n, n ≤ T.length → skT T s n < 2 ^ 16
  | 0, _ => by simp [skT]
  | n + 1, hn => by
    have ih := skT_lt hT (s := s) n (by omega)
    simp only [skT]
    split
    · refine Nat.or_lt_two_pow ih ?_
      have := hT n (by omega)
      exact Nat.pow_lt_pow_right (by decide) (by have := this.2; omega)
    · exact ih
theorem and_ne {a b : Nat} : a &&& b ≠ 0 ↔ ∃ i, a.testBit i = true ∧ b.testBit i = true := by
  constructor
  · intro h
    obtain ⟨i, hi⟩ := Nat.exists_testBit_of_ne_zero h
    rw [Nat.testBit_and, Bool.and_eq_true] at hi
    exact ⟨i, hi⟩
  · rintro ⟨i, h1, h2⟩ h
    have : (a &&& b).testBit i = true := by rw [Nat.testBit_and, h1, h2]; rfl
    rw [h] at this
    simp at this
theorem skT_any {M : List Mn} {T : List Int} (hok : okTk M T) {s m : Nat} (hm : m < M.length) : (nth M m).sk.toNat &&& skT T s T.length ≠ 0 ↔ anyT M T s m T.length = true := by
  rw [and_ne, anyT_iff]
  constructor
  · rintro ⟨i, h1, h2⟩
    obtain ⟨k, k1, k2, k3⟩ := (skT_bit hok.2.2 T.length (Nat.le_refl _)).1 h2
    exact ⟨k, k1, k2, by unfold hasS; rw [k3]; exact h1⟩
  · rintro ⟨k, k1, k2, k3⟩
    exact ⟨(nth T k).toNat, k3, (skT_bit hok.2.2 T.length (Nat.le_refl _)).2 ⟨k, k1, k2, rfl⟩⟩
theorem Buf_low {lo : Nat} {σ : AH} {v : AV} {xs : List Int} (h : Buf lo 1 (AV.int .i64) σ v xs) : Buf 0 1 (AV.int .i64) σ v xs := by
  rcases h with h | ⟨i, h1, h2, h3, h4⟩
  · exact .inl h
  · exact .inr ⟨i, h1, Nat.zero_le _, h3, h4⟩
theorem Lack_ok (nM nT : Bool) (M : List Mn) (T : List Int) (hM : M.length < 2 ^ 62) (hT : T.length < 2 ^ 62) : ans prog O 24 [vl eMn nM M, vs nT T] = some (.tuple [vs (lackL M T).isEmpty (lackL M T), .int .i64 (lackE M T)]) := by
  have h1 := areTasks_ok nM nT M T hM hT
  refine fn_of' pl get24 (oo (by decide)) rfl rfl ?_
  unfold lackE lackL
  by_cases hok : okTk M T
  · have h8 := hok.1
    rw [decide_eq_true hok] at h1
    rw [if_pos hok, if_pos hok]
    have hp : (2 : Nat) ^ T.length ≤ 2 ^ 8 := Nat.pow_le_pow_right (by decide) (by omega)
    have hp1 : 1 ≤ (2 : Nat) ^ T.length := Nat.one_le_two_pow
    have hsh := abin_shl1 T.length (by omega)
    simp (disch := omega) [h1, -Bool.exists_bool]
    refine lp_loop pl (fun k fr σ => ∃ (s : Nat) (v : AV), 1 ≤ s ∧ s + k = 2 ^ T.length ∧ fr = ⟨[(0, vl eMn nM M), (1, vs nT T), (6, v), (7, .int .i64 s)], []⟩ ∧ σ.lim = 0 ∧ Buf 0 1 (AV.int .i64) σ v (lackF M T s)) ⟨2 ^ T.length - 1, 1, .vsl true [], by omega, by omega, rfl, rfl, by rw [lackF_one]; exact Buf.nil⟩ ?_
    rintro k _ σ ⟨s, v, hs1, hs, rfl, hl0, hv⟩
    by_cases hsl : s < 2 ^ T.length
    · simp (disch := omega) [Und, hl0, hsl, hsh, -Bool.exists_bool, -Int.natCast_pow]
      refine lp_loop pl (fun k2 fr τ => ∃ (n : Nat) (u : AV) (acc : List Int), n + k2 = T.length ∧ fr = ⟨[(0, vl eMn nM M), (1, vs nT T), (6, v), (7, .int .i64 s), (8, u), (9, .int .i64 (skT T s n)), (26, vs nT T), (27, .int .i64 T.length), (28, .int .i64 n)], []⟩ ∧ τ.lim = 0 ∧ σ.next ≤ τ.next ∧ (∀ i, i < σ.next → τ.get i = σ.get i) ∧ Buf σ.next 1 (AV.int .i64) τ u acc ∧ acc ++ memG (s / 2 ^ n) (T.length - n) n = memG s T.length 0 ∧ acc.length ≤ n)
        ⟨T.length, 0, .vsl true [], [], by omega, rfl, hl0, Nat.le_refl _, fun _ _ => rfl, Buf.nil, by simp, by simp⟩ ?_
      rintro k2 _ τ ⟨n, u, acc, hn, rfl, t0, tn, tg, hu, hacc, hal⟩
      by_cases hnl : n < T.length
      · have htk := hok.2.2 n hnl
        have hst := memG_step (s := s) hnl
        have a1 := abin_shr s n (by omega)
        have hle : s / 2 ^ n < 2 ^ 63 := Nat.lt_of_le_of_lt (Nat.div_le_self ..) (by omega)
        have a2 := abin_and1 _ hle
        have hbs : bitAt s n = decide (s / 2 ^ n % 2 = 1) := rfl
        have hsk : skT T s (n + 1) = if bitAt s n then skT T s n ||| 2 ^ (nth T n).toNat else skT T s n := rfl
        have hskl := skT_lt hok.2.2 (s := s) n (by omega)
        obtain ⟨t, ht⟩ : ∃ t : Nat, nth T n = t := ⟨(nth T n).toNat, by have := htk.1; omega⟩
        have ht15 : t ≤ 15 := by have := htk.2; omega
        rw [ht, Int.toNat_natCast] at hsk
        have a3 := abin_shl1 t (by omega)
        have hpt : (2 : Nat) ^ t ≤ 2 ^ 15 := Nat.pow_le_pow_right (by decide) ht15
        have a4 := abin_orN (skT T s n) (2 ^ t) (by omega) (by omega)
        rw [hbs] at hsk
        generalize skT T s n = S at *
        generalize s / 2 ^ n = Q at *
        by_cases hb : Q % 2 = 1
        · rw [if_pos hb] at hst
          rw [decide_eq_true hb, if_pos rfl] at hsk
          have hbi : ((Q % 2 : Nat) : Int) = 1 := by omega
          rw [hbi] at a2
          simp (disch := omega) [Und, t0, hnl, a1, a2, a3, a4, ht, -Bool.exists_bool, -Int.natCast_pow]
          refine hu.push encI (by omega) (by omega) (n : Int) (by simp only [topBytes]; omega) rfl fun u' τ' h3 h4 => ?_
          have t4 := h4.lim
          have t5 := h4.next
          simp (disch := omega) [a3, a4, -Bool.exists_bool, -Int.natCast_pow]
          exact ⟨k2 - 1, by omega, n + 1, by omega, u', ⟨rfl, by rw [hsk], by omega⟩, by omega, by omega, (fun i hi => (h4.get i hi).trans (tg i hi)), acc ++ [(n : Int)], h3, by rw [← hacc, hst]; simp, by simp; omega⟩
        · rw [if_neg hb] at hst
          rw [decide_eq_false hb, if_neg (by simp)] at hsk
          have hbi : ((Q % 2 : Nat) : Int) = 0 := by omega
          rw [hbi] at a2
          simp (disch := omega) [Und, t0, hnl, a1, a2, a3, a4, ht, -Bool.exists_bool, -Int.natCast_pow]
          exact ⟨k2 - 1, by omega, n + 1, by omega, u, ⟨rfl, by rw [hsk], by omega⟩, tn, tg, acc, hu, by rw [← hacc, hst], by omega⟩
      · obtain rfl : n = T.length := by omega
        rw [Nat.sub_self] at hacc
        simp only [memG, List.append_nil] at hacc
        have hSl := skT_lt hok.2.2 (s := s) T.length (Nat.le_refl _)
        have hany : ∀ m, m < M.length → ((nth M m).sk.toNat &&& skT T s T.length ≠ 0 ↔ ableL M T acc m = true) := fun m hm => by
          rw [skT_any hok hm, anyT_all, hacc]
        generalize hSS : skT T s T.length = S at *
        simp (disch := omega) [Und, t0, -Bool.exists_bool, -Int.natCast_pow]
        refine lp_loop pl (fun k3 fr ρ => ∃ m : Nat, m + k3 = M.length ∧ fr = ⟨[(0, vl eMn nM M), (1, vs nT T), (6, v), (7, .int .i64 s), (8, u), (9, .int .i64 S), (12, .int .i64 (cntN (ableL M T acc) m)), (47, vl eMn nM M), (48, .int .i64 M.length), (49, .int .i64 m)], []⟩ ∧ ρ.lim = 0 ∧ τ.next ≤ ρ.next ∧ (∀ i, i < τ.next → ρ.get i = τ.get i))
          ⟨M.length, 0, by omega, rfl, t0, Nat.le_refl _, fun _ _ => rfl⟩ ?_
        rintro k3 _ ρ ⟨m, hm, rfl, r0, rn, rg⟩
        have hcl := cntN_le (ableL M T acc) m
        by_cases hml : m < M.length
        · have hmn := hok.2.1 m hml
          have hst : cntN (ableL M T acc) (m + 1) = cntN (ableL M T acc) m + if ableL M T acc m then 1 else 0 := rfl
          have ha := hany m hml
          obtain ⟨q, hq⟩ : ∃ q : Nat, (nth M m).sk = q := ⟨(nth M m).sk.toNat, by have := hmn.1; omega⟩
          have hq2 : q ≤ 65535 := by have := hmn.1; omega
          rw [hq, Int.toNat_natCast] at ha
          have a1 := abin_andN q S (by omega) (by omega)
          by_cases hz : q &&& S = 0
          · have hab : ableL M T acc m = false := by
              cases h : ableL M T acc m with
              | false => rfl
              | true => exact absurd hz (ha.2 h)
            rw [hab] at hst
            simp at hst
            rw [hz] at a1
            simp (disch := omega) [Und, r0, hml, hq, a1, -Bool.exists_bool, -Int.natCast_pow]
            exact ⟨k3 - 1, by omega, m + 1, by omega, ⟨by omega, by omega⟩, by omega, fun i hi => by rw [if_neg (by omega), if_neg (by omega)]; exact rg i hi⟩
          · have hab := ha.1 hz
            rw [hab, if_pos rfl] at hst
            simp (disch := omega) [Und, r0, hml, hq, a1, hz, -Bool.exists_bool, -Int.natCast_pow]
            exact ⟨k3 - 1, by omega, m + 1, by omega, ⟨by omega, by omega⟩, by omega, fun i hi => by rw [if_neg (by omega), if_neg (by omega)]; exact rg i hi⟩
        · obtain rfl : m = M.length := by omega
          have e := cntN_eq (ableL M T acc) M.length
          have e2 : able M T acc = cntN (ableL M T acc) M.length := by unfold able; rw [e]
          have hstep : lackF M T (s + 1) = if lackN M T (memG s T.length 0) (lackF M T s) then memG s T.length 0 else lackF M T s := rfl
          have hlb := lackF_len (M := M) (T := T) s
          rw [← hacc] at hstep
          have hu2 : Buf 0 1 (AV.int .i64) ρ u acc := Buf_low (hu.keep fun i _ h2 => rg i h2)
          have hv2 : Buf 0 1 (AV.int .i64) ρ v (lackF M T s) := hv.keep fun i _ h2 => (rg i (by omega)).trans (tg i h2)
          have hul := hu2.len
          have hvl := hv2.len
          rw [← e2]
          generalize hB : lackF M T s = B at *
          have skip : ¬ lackN M T acc B → ∃ j, j < k ∧ ∃ s_1 : Nat, 1 ≤ s_1 ∧ s_1 + j = 2 ^ T.length ∧ ∃ x, (v = x ∧ (s : Int) + 1 = (s_1 : Nat)) ∧ Buf 0 1 (AV.int .i64) ρ x (lackF M T s_1) := fun h => by
            rw [if_neg h] at hstep
            exact ⟨k - 1, by omega, s + 1, by omega, by omega, v, ⟨rfl, by omega⟩, by rw [hstep]; exact hv2⟩
          have take : lackN M T acc B → ∃ j, j < k ∧ ∃ s_1 : Nat, 1 ≤ s_1 ∧ s_1 + j = 2 ^ T.length ∧ ∃ x, (u = x ∧ (s : Int) + 1 = (s_1 : Nat)) ∧ Buf 0 1 (AV.int .i64) ρ x (lackF M T s_1) := fun h => by
            rw [if_pos h] at hstep
            exact ⟨k - 1, by omega, s + 1, by omega, by omega, u, ⟨rfl, by omega⟩, by rw [hstep]; exact hu2⟩
          by_cases c1 : able M T acc < acc.length
          · rcases id hv2 with ⟨rfl, hBn⟩ | ⟨i, rfl, i1, i2, i3⟩
            · simp (disch := omega) [Und, r0, hul, c1, -Bool.exists_bool, -Int.natCast_pow]
              exact take ⟨c1, .inl hBn⟩
            · by_cases c3 : acc.length < B.length
              · simp (disch := omega) [Und, r0, hul, c1, c3, -Bool.exists_bool, -Int.natCast_pow]
                exact take ⟨c1, .inr (.inl c3)⟩
              · by_cases c4 : acc.length = B.length
                · obtain ⟨_, ⟨r, rfl, hr⟩, hcmp⟩ := Compare_ok acc.isEmpty B.isEmpty acc B (by omega) (by omega)
                  rcases id hu2 with ⟨rfl, hAn⟩ | ⟨i', rfl, j1, j2, j3⟩
                  · rw [hAn] at c1; simp at c1
                  have hpc : ∀ (kk : Kn (AV → AH → Prop)), kk.k (.int .i64 r) ρ → @PcI prog O false 77 [.slice (some (i', 0)) acc.length (.op 1), .slice (some (i, 0)) B.length (.op 1)] ρ kk := fun kk hkk =>
                    pc_scal (.cons (hu2.snapS encI flatI) (.cons (hv2.snapS encI flatI) .nil)) (fun h => by cases h) (by simp) (oo (args := []) (by decide)).1 hcmp rfl hkk
                  rw [c4] at hpc
                  have c6 : ¬ B.length ≤ able M T acc := by omega
                  by_cases c5 : lexB acc B
                  · have hr5 := hr.2 c5
                    simp (disch := omega) [Und, r0, c1, c3, c4, c6, -Bool.exists_bool, -Int.natCast_pow]
                    refine hpc _ ?_
                    simp (disch := omega) [Und, r0, hr5, -Bool.exists_bool, -Int.natCast_pow]
                    rw [← c4]
                    exact ⟨fun _ => take ⟨c1, .inr (.inr ⟨c4, c5⟩)⟩, fun h => absurd h (by omega)⟩
                  · have hr5 : ¬ r < 0 := fun h => c5 (hr.1 h)
                    simp (disch := omega) [Und, r0, c1, c3, c4, c6, -Bool.exists_bool, -Int.natCast_pow]
                    refine hpc _ ?_
                    simp (disch := omega) [Und, r0, hr5, -Bool.exists_bool, -Int.natCast_pow]
                    exact skip fun h => by rcases h.2 with h | h | h; exact i3 h; exact c3 h; exact c5 h.2
                · have c4' : ¬ (acc.length : Int) = B.length := by omega
                  simp (disch := omega) [Und, r0, hul, c1, c3, c4', -Bool.exists_bool, -Int.natCast_pow]
                  exact skip fun h => by rcases h.2 with h | h | h; exact i3 h; exact c3 h; exact c4 h.1
          · simp (disch := omega) [Und, r0, hul, c1, -Bool.exists_bool, -Int.natCast_pow]
            exact skip fun h => c1 h.1
    · obtain rfl : s = 2 ^ T.length := by omega
      have hlb := lackF_len (M := M) (T := T) (2 ^ T.length)
      have e : lackA M T = lackF M T (2 ^ T.length) := by unfold lackA; rfl
      rw [e]
      generalize lackF M T (2 ^ T.length) = A at *
      rcases hv with ⟨rfl, rfl⟩ | ⟨i, rfl, i1, i2, i3⟩
      · simp (disch := omega) [Und, hl0, hsh, -Bool.exists_bool, -Int.natCast_pow]
        try rfl
      · have hv : Buf 0 1 (AV.int .i64) σ (.slice (some (i, 0)) A.length (.op 1)) A := .inr ⟨i, rfl, i1, i2, i3⟩
        simp (disch := omega) [Und, hl0, hsh, i3, -Bool.exists_bool, -Int.natCast_pow]
        exact hv.fzI 5
  · rw [decide_eq_false hok] at h1
    rw [if_neg hok, if_neg hok]
    simp (disch := omega) [h1, -Bool.exists_bool]
    rfl
end Go.Oct.Shop
