/- Sorting spans by their lower ends: patterns broken, and the whole. -/
import Derived.Test.YtddclpecmjibkaaDoorOFixSrtY
set_option maxRecDepth 100000
set_option maxHeartbeats 8000000
set_option linter.unusedVariables false
set_option linter.unusedSimpArgs false
namespace Go.Oct.Fix
open Go.Oct
theorem aconv_u8' (q : IntKind) (n : Int) (h : 0 ≤ n) (h2 : n ≤ 255) : aconv .u8 (.int q n) = some (.int .u8 n) := by
  have : wr .u8 n = n := by
    show IntKind.wrap .u8 n = n
    simp only [IntKind.wrap, IntKind.bits, IntKind.signed]
    simp
    omega
  simp only [aconv, this]
theorem aconv_u64' (q : IntKind) (n : Int) (h : 0 ≤ n) (h2 : n ≤ 1000) : aconv .u64 (.int q n) = some (.int .u64 n) := by
  have : wr .u64 n = n := by
    show IntKind.wrap .u64 n = n
    simp only [IntKind.wrap, IntKind.bits, IntKind.signed]
    simp
    omega
  simp only [aconv, this]
def tab0 : ByteArray := ⟨#[0,1,2,2,3,3,3,3,4,4,4,4,4,4,4,4,5,5,5,5,5,5,5,5,5,5,5,5,5,5,5,5,6,6,6,6,6,6,6,6,6,6,6,6,6,6,6,6,6,6,6,6,6,6,6,6,6,6,6,6,6,6,6,6,7,7,7,7,7,7,7,7,7,7,7,7,7,7,7,7,7,7,7,7,7,7,7,7,7,7,7,7,7,7,7,7,7,7,7,7,7,7,7,7,7,7,7,7,7,7,7,7,7,7,7,7,7,7,7,7,7,7,7,7,7,7,7,7,8,8,8,8,8,8,8,8,8,8,8,8,8,8,8,8,8,8,8,8,8,8,8,8,8,8,8,8,8,8,8,8,8,8,8,8,8,8,8,8,8,8,8,8,8,8,8,8,8,8,8,8,8,8,8,8,8,8,8,8,8,8,8,8,8,8,8,8,8,8,8,8,8,8,8,8,8,8,8,8,8,8,8,8,8,8,8,8,8,8,8,8,8,8,8,8,8,8,8,8,8,8,8,8,8,8,8,8,8,8,8,8,8,8,8,8,8,8,8,8,8,8,8,8,8,8,8,8]⟩
theorem Len64_v (n : Nat) (h : 1 ≤ n) (h2 : n ≤ 31) : ∃ l : Nat, ans prog O 117 [.int .u64 n] = some (.int .i64 l) ∧ l ≤ 5 ∧ 2 ^ l ≤ 2 * n := by
  have main : ∃ tab : ByteArray, ((bys tab).length = 256 ∧ ∀ m, m < 32 → 0 ≤ nth (bys tab) m ∧ (nth (bys tab) m).toNat ≤ 5 ∧ (1 ≤ m → 2 ^ (nth (bys tab) m).toNat ≤ 2 * m)) ∧ ans prog O 117 [.int .u64 n] = some (.int .i64 (nth (bys tab) n)) := by
    refine ⟨tab0, by decide +kernel, ?_⟩
    refine fn_of' pl get117 (oo (by decide)) rfl rfl ?_
    have q1 : ¬ (4294967296 : Int) ≤ n := by omega
    have q2 : ¬ (65536 : Int) ≤ n := by omega
    have q3 : ¬ (256 : Int) ≤ n := by omega
    simp (disch := omega) [Und, q1, q2, q3, aconv_u8']
    have hlen : (bys tab0).length = 256 := by decide +kernel
    have hbd := bys_bd tab0 n (by omega)
    show n < (bys tab0).length ∧ w64 (w64 (nth (bys tab0) n)) = nth (bys tab0) n
    refine ⟨by omega, ?_⟩
    simp (disch := omega)
  obtain ⟨tab, ⟨ht, hb⟩, hv⟩ := main
  obtain ⟨b1, b2, b3⟩ := hb n (by omega)
  exact ⟨(nth (bys tab) n).toNat, by rw [hv, Int.toNat_of_nonneg b1], b2, b3 h⟩
theorem Len_v (n : Nat) (h : 1 ≤ n) (h2 : n ≤ 31) : ∃ l : Nat, ans prog O 104 [.int .u64 n] = some (.int .i64 l) ∧ l ≤ 5 ∧ 2 ^ l ≤ 2 * n := by
  obtain ⟨l, h3, h4⟩ := Len64_v n h h2
  refine ⟨l, ?_, h4⟩
  refine fn_of' pl get104 (oo (by decide)) rfl rfl ?_
  simp (disch := omega) [Und, h3]
theorem npow_ok (n : Nat) (h : 1 ≤ n) (h2 : n ≤ 31) : ∃ m : Nat, ans prog O 119 [.int .i64 n] = some (.int .u64 m) ∧ 1 ≤ m ∧ m ≤ 32 ∧ m ≤ 2 * n := by
  obtain ⟨l, h3, h4, h5⟩ := Len_v n h h2
  have hs : abin .shl (.int .u64 1) (.int .i64 l) = some (.int .u64 ((2 ^ l : Nat) : Int)) := by
    rcases (show l = 0 ∨ l = 1 ∨ l = 2 ∨ l = 3 ∨ l = 4 ∨ l = 5 by omega) with rfl | rfl | rfl | rfl | rfl | rfl <;> rfl
  refine ⟨2 ^ l, ?_, Nat.one_le_two_pow, ?_, h5⟩
  · refine fn_of' pl get119 (oo (by decide)) rfl rfl ?_
    simp (disch := omega) [Und, h3, hs, aconv_u64']
  · have : 2 ^ l ≤ 2 ^ 5 := Nat.pow_le_pow_right (by decide) h4
    omega
def XU (a b : Int) : Int := IntKind.wrap .u64 (BitVec.ofInt 64 a ^^^ BitVec.ofInt 64 b).toNat
def SU (a b : Int) : Int := wr .u64 (a * 2 ^ (min b.toNat 64))
def RU (a b : Int) : Int := a.fdiv (2 ^ (min b.toNat 64))
theorem abin_xorU (a b : Int) : abin .xor (.int .u64 a) (.int .u64 b) = some (.int .u64 (XU a b)) := rfl
theorem abin_shlU (a : Int) (k : Nat) : abin .shl (.int .u64 a) (.int .u64 k) = some (.int .u64 (SU a k)) := by
  show (if (k : Int) < 0 then none else _) = _
  rw [if_neg (by omega)]; rfl
theorem abin_shrU (a : Int) (k : Nat) : abin .shr (.int .u64 a) (.int .u64 k) = some (.int .u64 (RU a k)) := by
  show (if (k : Int) < 0 then none else _) = _
  rw [if_neg (by omega)]; rfl
theorem abin_andU (r : Int) (m : Nat) (hm : m ≤ 1000) : ∃ v : Nat, v ≤ m ∧ abin .and (.int .u64 r) (.int .u64 m) = some (.int .u64 v) := by
  have hb : (BitVec.ofInt 64 (m : Int)).toNat = m := by
    rw [BitVec.toNat_ofInt]
    omega
  have hle : (BitVec.ofInt 64 r &&& BitVec.ofInt 64 (m : Int)).toNat ≤ m := by
    rw [BitVec.toNat_and, hb]; exact Nat.and_le_right
  refine ⟨(BitVec.ofInt 64 r &&& BitVec.ofInt 64 (m : Int)).toNat, hle, ?_⟩
  show some (AV.int .u64 (IntKind.wrap .u64 ((BitVec.ofInt 64 r &&& BitVec.ofInt 64 (m : Int)).toNat : Int))) = _
  generalize (BitVec.ofInt 64 r &&& BitVec.ofInt 64 (m : Int)).toNat = z at hle ⊢
  congr 2
  simp only [IntKind.wrap, IntKind.bits, IntKind.signed]
  simp
  omega
theorem Next_call {σ : AH} {w : Nat} {r : Int} (hlw : σ.lim ≤ w) (hw : σ.get w = some (.cells [.int .u64 r])) {K : AV → AH → Prop}
    (hK : ∀ r' σ', Only [w] σ σ' → σ'.get w = some (.cells [.int .u64 r']) → K (.int .u64 r') σ') : Call prog O (.fn 120) [.ptr (some (w, 0))] σ K := by
  refine @call_of' _ _ pl _ _ _ _ _ _ _ ⟨K⟩ get120 ((oo (by decide)).2 _) rfl ?_
  have lw := AH.get_lt hw
  have s1 : ∀ a, abin .shl (.int .u64 a) (.int .u64 13) = some (.int .u64 (SU a 13)) := fun a => abin_shlU a 13
  have s2 : ∀ a, abin .shr (.int .u64 a) (.int .u64 7) = some (.int .u64 (RU a 7)) := fun a => abin_shrU a 7
  have s3 : ∀ a, abin .shl (.int .u64 a) (.int .u64 17) = some (.int .u64 (SU a 17)) := fun a => abin_shlU a 17
  simp (disch := omega) [Und, hw, lw, hlw, abin_xorU, s1, s2, s3, -Bool.exists_bool, -getElem?_pos]
  exact hK _ _ (((Only.set (by simp) _).trans (Only.set (by simp) _)).trans (Only.set (by simp) _)) (AH.get_set_same _ _ _ lw)
theorem break_call {σ : AH} {o n a b : Nat} {xs : List Span} (hl : σ.lim ≤ o) (hg : σ.get o = some (.cells (rowOf eSpan xs))) (hn : xs.length = n) (hn2 : n ≤ 31) (hab : a + 12 < b) (hb : b ≤ n) {c : ACap} {K : AV → AH → Prop}
    (hK : ∀ ys σ', Lay o σ σ' ys → PI a b xs ys → K (.tuple []) σ') :
    Call prog O (.fn 110) [.slice (some (o, 0)) n c, .int .i64 a, .int .i64 b, cmpF] σ K := by
  refine @call_of' _ _ pl _ _ _ _ _ _ _ ⟨K⟩ get110 ((oo (by decide)).2 _) rfl ?_
  obtain ⟨l, hlb⟩ : ∃ l : Nat, b = a + l := ⟨b - a, by omega⟩
  have lo := AH.get_lt hg
  have e0 : (b : Int) - a = (l : Int) := by omega
  have e1 : (l : Int).tdiv 4 = ((l / 4 : Nat) : Int) := by rw [Int.tdiv_eq_ediv_of_nonneg (by omega)]; omega
  have e3 : 8 ≤ (l : Int) := by omega
  have hlx : σ.lim ≤ σ.next := by omega
  obtain ⟨m, hm, m1, m2, m3⟩ := npow_ok l (by omega) (by omega)
  simp (disch := omega) [e0, e1, e3, hlx, hm, aconv_u64', Und, -Bool.exists_bool]
  generalize hT : AH.set (AH.push σ _) _ _ = T
  have t0 : T.lim = σ.lim := by rw [← hT]; rfl
  have tn : T.next = σ.next + 1 := by rw [← hT]; rfl
  have tg : ∀ z, z < σ.next → T.get z = σ.get z := fun z hz => by rw [← hT, AH.get_set_other _ _ _ _ (by omega), AH.get_push_old _ _ _ (by omega)]
  have tw : T.get σ.next = some (.cells [.int .u64 l]) := by rw [← hT, AH.get_set_same _ _ _ (Nat.lt_succ_self _)]
  clear hT
  have hT0 : Lay o σ T xs := ⟨⟨t0, by omega, fun z hz _ => tg z hz⟩, (tg o lo).trans hg⟩
  have hs1 : abin .sub (.int .u64 m) (.int .u64 1) = some (.int .u64 ((m - 1 : Nat) : Int)) := by
    have : wr .u64 ((m : Int) - 1) = ((m - 1 : Nat) : Int) := by
      show IntKind.wrap .u64 ((m : Int) - 1) = _
      simp only [IntKind.wrap, IntKind.bits, IntKind.signed]
      simp
      omega
    show some (AV.int .u64 (wr .u64 ((m : Int) - 1))) = _
    rw [this]
  refine lp_loop pl (fun k fr υ => ∃ (d : Nat) (r : Int) (zs : List Span), d + k = 3 ∧ fr = ⟨[(0, .slice (some (o, 0)) n c), (1, .int .i64 a), (8, .int .i64 l), (9, .ptr (some (σ.next, 0))), (10, .int .u64 m), (11, .int .i64 ((a + l / 4 * 2 - 1 + d : Nat) : Int))], []⟩ ∧ Lay o σ υ zs ∧ PI a b xs zs ∧ υ.get σ.next = some (.cells [.int .u64 r]))
    ⟨3, 0, l, xs, by omega, ?_, hT0, .refl _ _ _, tw⟩ ?_
  · have : (a : Int) + (l : Int) / 4 * 2 - 1 = ((a + l / 4 * 2 - 1 : Nat) : Int) := by omega
    simp [this]
  rintro k _ υ ⟨d, r, zs, hd, rfl, hZ, hQ, hw⟩
  have hzl : zs.length = n := hQ.len.trans hn
  obtain ⟨x, hx⟩ : ∃ x, x = a + l / 4 * 2 - 1 + d := ⟨_, rfl⟩
  rw [← hx]
  have hend : (a : Int) + (l : Int) / 4 * 2 + 1 = ((a + l / 4 * 2 + 1 : Nat) : Int) := by omega
  by_cases hd3 : d < 3
  · have c1 : (x : Int) ≤ (a : Int) + (l : Int) / 4 * 2 + 1 := by omega
    simp (disch := omega) [Und, e1, c1, -Bool.exists_bool]
    refine Next_call (by rw [hZ.only.lim]; omega) hw fun r' υ2 h1 h2 => ?_
    obtain ⟨v, hv, hav⟩ := abin_andU r' (m - 1) (by omega)
    have hn0 := hZ.only.next
    have hn1 := h1.next
    have hZ2 : Lay o σ υ2 zs := ⟨⟨h1.lim.trans hZ.only.lim, by omega, fun z hz hs => (h1.get z (by omega) (by simp; omega)).trans (hZ.only.get z hz hs)⟩, (h1.get o (AH.get_lt hZ.row) (by simp; omega)).trans hZ.row⟩
    have hrl := rowOf_length encSpan zs
    have hlm : υ2.lim ≤ o := by rw [hZ2.only.lim]; exact hl
    have hin : o < υ2.next := AH.get_lt hZ2.row
    have q0 : x < n := by omega
    have w0 : x * 2 + 2 ≤ zs.length * 2 := by omega
    have r0 := row_at encSpan (xs := zs) (j := x) (by omega)
    by_cases c2 : (l : Int) ≤ v
    · obtain ⟨u, hu⟩ : ∃ u : Nat, u = a + (v - l) := ⟨_, rfl⟩
      have hu' : (a : Int) + ((v : Int) - l) = (u : Int) := by omega
      have q1 : u < n := by omega
      have w1 : u * 2 + 2 ≤ zs.length * 2 := by omega
      have r1 := row_at encSpan (xs := zs) (j := u) (by omega)
      simp (disch := omega) [Und, hs1, hav, c2, hu', hZ2.row, hrl, r0, r1, q0, q1, w0, w1, hlm, hin, -Bool.exists_bool]
      rw [swpC (i := u) (j := x) (by omega) (by omega)]
      exact ⟨k - 1, by omega, d + 1, by omega, by omega, r', swp zs u x, hZ2.set2 _ _, hQ.swp (by omega) (by omega) (by omega), by rw [if_neg (by omega), if_neg (by omega)]; exact h2⟩
    · obtain ⟨u, hu⟩ : ∃ u : Nat, u = a + v := ⟨_, rfl⟩
      have hu' : (a : Int) + (v : Int) = (u : Int) := by omega
      have q1 : u < n := by omega
      have w1 : u * 2 + 2 ≤ zs.length * 2 := by omega
      have r1 := row_at encSpan (xs := zs) (j := u) (by omega)
      simp (disch := omega) [Und, hs1, hav, c2, hu', hZ2.row, hrl, r0, r1, q0, q1, w0, w1, hlm, hin, -Bool.exists_bool]
      rw [swpC (i := u) (j := x) (by omega) (by omega)]
      exact ⟨k - 1, by omega, d + 1, by omega, by omega, r', swp zs u x, hZ2.set2 _ _, hQ.swp (by omega) (by omega) (by omega), by rw [if_neg (by omega), if_neg (by omega)]; exact h2⟩
  · obtain rfl : d = 3 := by omega
    have c1 : ¬ (x : Int) ≤ (a : Int) + (l : Int) / 4 * 2 + 1 := by omega
    simp (disch := omega) [Und, e1, c1, -Bool.exists_bool]
    exact hK zs υ hZ hQ
theorem flatSpan : flatE eSpan := fun x c hc k f => by
  rw [show (eSpan x).cells = [.int .i64 x.lo, .int .i64 x.hi] from rfl] at hc
  simp only [List.mem_cons, List.not_mem_nil, or_false] at hc
  rcases hc with rfl | rfl <;> exact ⟨rfl, rfl⟩
theorem pdq_call : ∀ (N : Nat) {σ : AH} {o n a b l : Nat} {xs : List Span}, b - a ≤ N → σ.lim ≤ o → σ.get o = some (.cells (rowOf eSpan xs)) → xs.length = n → n ≤ 31 → (∀ x ∈ xs, bd x) → a ≤ b → b ≤ n → l ≤ 64 → Bel a b xs → ∀ {K : AV → AH → Prop},
    (∀ ys σ', Lay o σ σ' ys → PI a b xs ys → srt a b ys → K (.tuple []) σ') →
    Call prog O (.fn 103) [.slice (some (o, 0)) n (.op 2), .int .i64 a, .int .i64 b, .int .i64 l, cmpF] σ K := by
  intro N
  induction N using Nat.strongRecOn with
  | ind N ih =>
  intro σ o n a b l xs hN hl hg hn hn2 hbd hab hb hl64 hB K hK
  refine @call_of' _ _ pl _ _ _ _ _ _ _ ⟨K⟩ get103 ((oo (by decide)).2 _) rfl ?_
  simp (disch := omega) [-Bool.exists_bool]
  refine lp_loop pl (fun k fr υ => ∃ (a' b' l' : Nat) (wb wp : Bool) (zs : List Span), b' - a' = k ∧ a ≤ a' ∧ a' ≤ b' ∧ b' ≤ b ∧ l' ≤ 64 ∧ fr = ⟨[(0, .slice (some (o, 0)) n (.op 2)), (1, .int .i64 a'), (2, .int .i64 b'), (3, .int .i64 l'), (4, cmpF), (10, .bool wb), (11, .bool wp)], []⟩ ∧ Lay o σ υ zs ∧ PI a b xs zs ∧ Bel a' b' zs ∧ ∀ ys, PI a' b' zs ys → srt a' b' ys → srt a b ys)
    ⟨b - a, a, b, l, true, true, xs, rfl, Nat.le_refl _, hab, Nat.le_refl _, hl64, rfl, .refl hg, .refl _ _ _, hB, fun ys _ h => h⟩ ?_
  rintro k _ υ ⟨a', b', l', wb, wp, zs, hk, ha1, ha2, hb1, hl1, rfl, hZ, hQ, hBz, hfin⟩
  have hzl : zs.length = n := hQ.len.trans hn
  have hlm : υ.lim ≤ o := by rw [hZ.only.lim]; exact hl
  have hzb : ∀ x ∈ zs, bd x := fun x hx => hbd x (hQ.perm.mem_iff.1 hx)
  by_cases c1 : b' - a' ≤ 12
  · have c1' : (b' : Int) - a' ≤ 12 := by omega
    simp (disch := omega) [Und, c1', -Bool.exists_bool]
    refine isort_call hlm hZ.row hzl (by omega) hzb ha2 (by omega) fun ys υ' h1 h2 h3 => ?_
    simp (disch := omega) [-Bool.exists_bool]
    exact hK ys υ' (hZ.trans h1) (hQ.trans (h2.mono ha1 hb1)) (hfin ys h2 h3)
  · have c1' : ¬ (b' : Int) - a' ≤ 12 := by omega
    by_cases c2 : l' = 0
    · subst c2
      simp (disch := omega) [Und, c1', -Bool.exists_bool]
      refine hsort_call hlm hZ.row hzl (by omega) hzb (by omega) (by omega) fun ys υ' h1 h2 h3 => ?_
      simp (disch := omega) [-Bool.exists_bool]
      exact hK ys υ' (hZ.trans h1) (hQ.trans (h2.mono ha1 hb1)) (hfin ys h2 h3)
    · have c2' : ¬ (l' : Int) = 0 := by omega
      cases wb
      · simp (disch := omega) [Und, c1', c2', c2, -Bool.exists_bool]
        refine break_call hlm hZ.row hzl hn2 (by omega) (by omega) fun zs1 υ1 h1 h2 => ?_
        simp (disch := omega) [Und, -Bool.exists_bool]
        have hZ1 := hZ.trans h1
        have hQ1 := hQ.trans (h2.mono ha1 hb1)
        have hB1 := hBz.pi h2
        have hF1 : ∀ ws, PI a' b' zs1 ws → srt a' b' ws → srt a b ws := fun ws h3 h4 => hfin ws (h2.trans h3) h4
        obtain ⟨lq, hlq, hlq2⟩ : ∃ lq : Nat, (l' : Int) - 1 = lq ∧ lq ≤ 64 := ⟨l' - 1, by omega, by omega⟩
        clear h1 h2
        refine pivot_call (by rw [hZ1.only.lim]; exact hl) hZ1.row (hQ1.len.trans hn) (by omega) (fun x hx => hbd x (hQ1.perm.mem_iff.1 hx)) (by omega) (by omega) fun p h υ2 g1 g2 g3 g4 => ?_
        have hZ2 := hZ1.trans g1
        by_cases ch : h = 2
        · subst ch
          simp (disch := omega) [Und, -Bool.exists_bool]
          refine rev_call (by rw [hZ2.only.lim]; exact hl) hZ2.row (hQ1.len.trans hn) (by omega) (by omega) (by omega) fun zs3 υ3 h1 h2 => ?_
          have hZ3 := hZ2.trans h1
          have hQ3 := hQ1.trans (h2.mono ha1 hb1)
          have hB3 := hB1.pi h2
          have hF3 : ∀ ws, PI a' b' zs3 ws → srt a' b' ws → srt a b ws := fun ws h3 h4 => hF1 ws (h2.trans h3) h4
          obtain ⟨pq, hpq, hp1, hp2⟩ : ∃ pq : Nat, (b' : Int) - 1 - ((p : Int) - a') = pq ∧ a' ≤ pq ∧ pq < b' := ⟨b' - 1 - (p - a'), by omega, by omega, by omega⟩
          have hzl3 : zs3.length = n := hQ3.len.trans hn
          have hlm3 : υ3.lim ≤ o := by rw [hZ3.only.lim]; exact hl
          have hzb3 : ∀ x ∈ zs3, bd x := fun x hx => hbd x (hQ3.perm.mem_iff.1 hx)
          have sz : ∀ j, j < zs3.length → bd (nth zs3 j) := fun j hj => hzb3 _ (nth_mem hj)
          have hrl := rowOf_length encSpan zs3
          have r1 := row_at encSpan (xs := zs3) (j := pq) (by omega)
          have q1 : pq < n := by omega
          have w1 : pq * 2 + 2 ≤ zs3.length * 2 := by omega
          by_cases c3 : 0 < a'
          · have c3' : (0 : Int) < a' := by omega
            have r0 := row_at encSpan (xs := zs3) (j := a' - 1) (by omega)
            have e1 : ((a' : Int) - 1).toNat = a' - 1 := by omega
            have q0 : (a' : Int) - 1 < n := by omega
            have q2 : 1 ≤ (a' : Int) := by omega
            have w0 : (a' - 1) * 2 + 2 ≤ zs3.length * 2 := by omega
            have hcmp := cmpS_ok (nth zs3 (a' - 1)) (nth zs3 pq) (sz _ (by omega)) (sz _ (by omega))
            by_cases c4 : (nth zs3 (a' - 1)).lo - (nth zs3 pq).lo < 0
            · simp (disch := omega) [Und, hpq, hZ3.row, hrl, r0, r1, e1, q0, q1, q2, w0, w1, c3', c3, hcmp, c4, hrl, -Bool.exists_bool]
              refine part_call hlm3 hZ3.row hzl3 (by omega) hzb3 (by omega) (by omega) ⟨hp1, hp2⟩ fun m al ys υ4 k1 k2 k3 k4 k5 k6 => ?_
              have hZ4 := hZ3.trans k1
              have hQ4 := hQ3.trans (k2.mono ha1 hb1)
              have hB4 := hB3.pi k2
              have d8 : ((b' : Int) - a').tdiv 8 = (((b' - a') / 8 : Nat) : Int) := by rw [Int.tdiv_eq_ediv_of_nonneg (by omega)]; omega
              by_cases c5 : m - a' < b' - m
              · have c5' : (m : Int) - a' < (b' : Int) - m := by omega
                simp (disch := omega) [Und, c5', d8, hlq, -Bool.exists_bool]
                refine ih (N - 1) (by omega) (by omega) (by rw [hZ4.only.lim]; exact hl) hZ4.row (hQ4.len.trans hn) hn2 (fun x hx => hbd x (hQ4.perm.mem_iff.1 hx)) k3 (by omega) hlq2 (by
                  rcases hB4 with h | h
                  · exact .inl h
                  · exact .inr fun i i1 i2 => h i i1 (by omega)) fun ws υ5 j1 j2 j3 => ?_
                simp (disch := omega) [Und, hlq, -Bool.exists_bool]
                have hZ5 := hZ4.trans j1
                have jm : kk ws m = kk ys m := j2.kout (by omega)
                refine ⟨b' - (m + 1), by omega, m + 1, b', by omega, by omega, by omega, by omega, lq, hlq2, ⟨by omega, by omega, by omega⟩, ws, hZ5, hQ4.trans (j2.mono (by omega) (by omega)), .inr fun i i1 i2 => ?_, fun us u1 u2 => hF3 us ((k2.trans (j2.mono (Nat.le_refl _) (by omega))).trans (u1.mono (by omega) (Nat.le_refl _))) fun i j i1 i2 i3 => ?_⟩
                · rw [show m + 1 - 1 = m by omega, jm, j2.kout (by omega)]; exact k6 i (by omega) i2
                · have um : ∀ q, a' ≤ q → q ≤ m → kk us q = kk ws q := fun q _ _ => u1.kout (by omega)
                  by_cases e1 : j < m
                  · rw [um i i1 (by omega), um j (by omega) (by omega)]; exact j3 i j i1 i2 e1
                  · have hlo : ∀ q, a' ≤ q → q < m → kk ws q ≤ kk ys m := j2.all (P := fun z => z ≤ kk ys m) fun q q1 q2 => by have := k5 q q1 q2; omega
                    have hup : ∀ q, m < q → q < b' → kk ys m ≤ kk us q := fun q q1 q2 => u1.all (P := fun z => kk ys m ≤ z) (fun q q1 q2 => by rw [j2.kout (by omega)]; exact k6 q (by omega) q2) q (by omega) q2
                    by_cases e2 : j = m
                    · rw [um i i1 (by omega), e2, um m k3 (Nat.le_refl _), jm]; exact hlo i i1 (by omega)
                    · by_cases e3 : m < i
                      · exact u2 i j (by omega) i2 i3
                      · have h8 := hup j (by omega) i3
                        by_cases e4 : i = m
                        · rw [e4, um m k3 (Nat.le_refl _), jm]; exact h8
                        · rw [um i i1 (by omega)]; have := hlo i i1 (by omega); omega
              · have c5' : ¬ (m : Int) - a' < (b' : Int) - m := by omega
                obtain ⟨m1, hm1, hm2⟩ : ∃ m1 : Nat, (m : Int) + 1 = m1 ∧ m1 = m + 1 := ⟨m + 1, by omega, rfl⟩
                simp (disch := omega) [Und, c5', d8, hlq, hm1, -Bool.exists_bool]
                refine ih (N - 1) (by omega) (by omega) (by rw [hZ4.only.lim]; exact hl) hZ4.row (hQ4.len.trans hn) hn2 (fun x hx => hbd x (hQ4.perm.mem_iff.1 hx)) (by omega) (by omega) hlq2 (.inr fun i i1 i2 => by rw [show m1 - 1 = m by omega]; exact k6 i (by omega) i2) fun ws υ5 j1 j2 j3 => ?_
                simp (disch := omega) [Und, hlq, -Bool.exists_bool]
                have hZ5 := hZ4.trans j1
                have jm : kk ws m = kk ys m := j2.kout (by omega)
                refine ⟨m - a', by omega, a', m, by omega, by omega, by omega, by omega, lq, hlq2, ⟨by omega, by omega, by omega⟩, ws, hZ5, hQ4.trans (j2.mono (by omega) (by omega)), ?_, fun us u1 u2 => hF3 us ((k2.trans (j2.mono (by omega) (Nat.le_refl _))).trans (u1.mono (Nat.le_refl _) (by omega))) fun i j i1 i2 i3 => ?_⟩
                · rcases hB4 with h | h
                  · exact .inl h
                  · by_cases h0 : a' = 0
                    · exact .inl h0
                    · refine .inr fun i i1 i2 => ?_
                      rw [j2.kout (i := a' - 1) (by omega), j2.kout (i := i) (by omega)]; exact h i i1 (by omega)
                · have um : ∀ q, m ≤ q → q < b' → kk us q = kk ws q := fun q _ _ => u1.kout (by omega)
                  by_cases e1 : m < i
                  · rw [um i (by omega) (by omega), um j (by omega) i3]; exact j3 i j (by omega) i2 i3
                  · have hlo : ∀ q, a' ≤ q → q < m → kk us q ≤ kk ys m := u1.all (P := fun z => z ≤ kk ys m) fun q q1 q2 => by
                      rw [j2.kout (by omega)]; have := k5 q q1 q2; omega
                    have hup : ∀ q, m < q → q < b' → kk ys m ≤ kk ws q := fun q q1 q2 => j2.all (P := fun z => kk ys m ≤ z) (fun q q1 q2 => k6 q (by omega) q2) q (by omega) q2
                    by_cases e2 : j < m
                    · exact u2 i j i1 i2 e2
                    · by_cases e3 : j = m
                      · rw [e3, um m (Nat.le_refl _) (by omega), jm]; exact hlo i i1 (by omega)
                      · have h8 := hup j (by omega) i3
                        rw [um j (by omega) i3]
                        by_cases e4 : i = m
                        · rw [e4, um m (Nat.le_refl _) (by omega), jm]; exact h8
                        · have := hlo i i1 (by omega); omega
            · simp (disch := omega) [Und, hpq, hZ3.row, hrl, r0, r1, e1, q0, q1, q2, w0, w1, c3', c3, hcmp, c4, hrl, -Bool.exists_bool]
              refine parteq_call hlm3 hZ3.row hzl3 (by omega) hzb3 (by omega) (by omega) ⟨hp1, hp2⟩ fun m ys υ4 k1 k2 k3 k4 k5 k6 => ?_
              simp (disch := omega) [Und, hlq, -Bool.exists_bool]
              refine ⟨b' - m, by omega, m, b', by omega, by omega, by omega, by omega, lq, hlq2, ⟨by omega, by omega, by omega⟩, ys, hZ3.trans k1, hQ3.trans (k2.mono ha1 hb1), .inr fun i i1 i2 => ?_, fun us u1 u2 => hF3 us (k2.trans (u1.mono (by omega) (Nat.le_refl _))) fun i j i1 i2 i3 => ?_⟩
              · have h8 := k5 (m - 1) (by omega) (by omega)
                have h9 := k6 i i1 i2
                omega
              · have um : ∀ q, a' ≤ q → q < m → kk us q = kk ys q := fun q _ _ => u1.kout (by omega)
                have hge : ∀ q, a' ≤ q → q < b' → kk zs3 pq ≤ kk ys q := k2.all (P := fun z => kk zs3 pq ≤ z) fun q q3 q4 => by
                  rcases hB3 with h | h
                  · omega
                  · have := h q q3 q4
                    unfold kk at this ⊢
                    omega
                have hup : ∀ q, m ≤ q → q < b' → kk zs3 pq < kk us q := u1.all (P := fun z => kk zs3 pq < z) fun q q3 q4 => k6 q q3 q4
                by_cases e2 : j < m
                · rw [um i i1 (by omega), um j (by omega) e2]
                  have h8 := k5 i i1 (by omega)
                  have h9 := hge j (by omega) i3
                  omega
                · by_cases e3 : i < m
                  · rw [um i i1 e3]
                    have h8 := k5 i i1 e3
                    have h9 := hup j (by omega) i3
                    omega
                  · exact u2 i j (by omega) i2 i3
          · have c3' : ¬ (0 : Int) < a' := by omega
            have a0 : a' = 0 := by omega
            simp (disch := omega) [Und, hpq, hZ3.row, hrl, r1, q1, w1, c3', c3, hrl, -Bool.exists_bool]
            refine part_call hlm3 hZ3.row hzl3 (by omega) hzb3 (by omega) (by omega) ⟨hp1, hp2⟩ fun m al ys υ4 k1 k2 k3 k4 k5 k6 => ?_
            have hZ4 := hZ3.trans k1
            have hQ4 := hQ3.trans (k2.mono ha1 hb1)
            have hB4 := hB3.pi k2
            have d8 : ((b' : Int) - a').tdiv 8 = (((b' - a') / 8 : Nat) : Int) := by rw [Int.tdiv_eq_ediv_of_nonneg (by omega)]; omega
            by_cases c5 : m - a' < b' - m
            · have c5' : (m : Int) - a' < (b' : Int) - m := by omega
              simp (disch := omega) [Und, c5', d8, hlq, -Bool.exists_bool]
              refine ih (N - 1) (by omega) (by omega) (by rw [hZ4.only.lim]; exact hl) hZ4.row (hQ4.len.trans hn) hn2 (fun x hx => hbd x (hQ4.perm.mem_iff.1 hx)) k3 (by omega) hlq2 (by
                rcases hB4 with h | h
                · exact .inl h
                · exact .inr fun i i1 i2 => h i i1 (by omega)) fun ws υ5 j1 j2 j3 => ?_
              simp (disch := omega) [Und, hlq, -Bool.exists_bool]
              have hZ5 := hZ4.trans j1
              have jm : kk ws m = kk ys m := j2.kout (by omega)
              refine ⟨b' - (m + 1), by omega, m + 1, b', by omega, by omega, by omega, by omega, lq, hlq2, ⟨by omega, by omega, by omega⟩, ws, hZ5, hQ4.trans (j2.mono (by omega) (by omega)), .inr fun i i1 i2 => ?_, fun us u1 u2 => hF3 us ((k2.trans (j2.mono (Nat.le_refl _) (by omega))).trans (u1.mono (by omega) (Nat.le_refl _))) fun i j i1 i2 i3 => ?_⟩
              · rw [show m + 1 - 1 = m by omega, jm, j2.kout (by omega)]; exact k6 i (by omega) i2
              · have um : ∀ q, a' ≤ q → q ≤ m → kk us q = kk ws q := fun q _ _ => u1.kout (by omega)
                by_cases e1 : j < m
                · rw [um i i1 (by omega), um j (by omega) (by omega)]; exact j3 i j i1 i2 e1
                · have hlo : ∀ q, a' ≤ q → q < m → kk ws q ≤ kk ys m := j2.all (P := fun z => z ≤ kk ys m) fun q q1 q2 => by have := k5 q q1 q2; omega
                  have hup : ∀ q, m < q → q < b' → kk ys m ≤ kk us q := fun q q1 q2 => u1.all (P := fun z => kk ys m ≤ z) (fun q q1 q2 => by rw [j2.kout (by omega)]; exact k6 q (by omega) q2) q (by omega) q2
                  by_cases e2 : j = m
                  · rw [um i i1 (by omega), e2, um m k3 (Nat.le_refl _), jm]; exact hlo i i1 (by omega)
                  · by_cases e3 : m < i
                    · exact u2 i j (by omega) i2 i3
                    · have h8 := hup j (by omega) i3
                      by_cases e4 : i = m
                      · rw [e4, um m k3 (Nat.le_refl _), jm]; exact h8
                      · rw [um i i1 (by omega)]; have := hlo i i1 (by omega); omega
            · have c5' : ¬ (m : Int) - a' < (b' : Int) - m := by omega
              obtain ⟨m1, hm1, hm2⟩ : ∃ m1 : Nat, (m : Int) + 1 = m1 ∧ m1 = m + 1 := ⟨m + 1, by omega, rfl⟩
              simp (disch := omega) [Und, c5', d8, hlq, hm1, -Bool.exists_bool]
              refine ih (N - 1) (by omega) (by omega) (by rw [hZ4.only.lim]; exact hl) hZ4.row (hQ4.len.trans hn) hn2 (fun x hx => hbd x (hQ4.perm.mem_iff.1 hx)) (by omega) (by omega) hlq2 (.inr fun i i1 i2 => by rw [show m1 - 1 = m by omega]; exact k6 i (by omega) i2) fun ws υ5 j1 j2 j3 => ?_
              simp (disch := omega) [Und, hlq, -Bool.exists_bool]
              have hZ5 := hZ4.trans j1
              have jm : kk ws m = kk ys m := j2.kout (by omega)
              refine ⟨m - a', by omega, a', m, by omega, by omega, by omega, by omega, lq, hlq2, ⟨by omega, by omega, by omega⟩, ws, hZ5, hQ4.trans (j2.mono (by omega) (by omega)), ?_, fun us u1 u2 => hF3 us ((k2.trans (j2.mono (by omega) (Nat.le_refl _))).trans (u1.mono (Nat.le_refl _) (by omega))) fun i j i1 i2 i3 => ?_⟩
              · rcases hB4 with h | h
                · exact .inl h
                · by_cases h0 : a' = 0
                  · exact .inl h0
                  · refine .inr fun i i1 i2 => ?_
                    rw [j2.kout (i := a' - 1) (by omega), j2.kout (i := i) (by omega)]; exact h i i1 (by omega)
              · have um : ∀ q, m ≤ q → q < b' → kk us q = kk ws q := fun q _ _ => u1.kout (by omega)
                by_cases e1 : m < i
                · rw [um i (by omega) (by omega), um j (by omega) i3]; exact j3 i j (by omega) i2 i3
                · have hlo : ∀ q, a' ≤ q → q < m → kk us q ≤ kk ys m := u1.all (P := fun z => z ≤ kk ys m) fun q q1 q2 => by
                    rw [j2.kout (by omega)]; have := k5 q q1 q2; omega
                  have hup : ∀ q, m < q → q < b' → kk ys m ≤ kk ws q := fun q q1 q2 => j2.all (P := fun z => kk ys m ≤ z) (fun q q1 q2 => k6 q (by omega) q2) q (by omega) q2
                  by_cases e2 : j < m
                  · exact u2 i j i1 i2 e2
                  · by_cases e3 : j = m
                    · rw [e3, um m (Nat.le_refl _) (by omega), jm]; exact hlo i i1 (by omega)
                    · have h8 := hup j (by omega) i3
                      rw [um j (by omega) i3]
                      by_cases e4 : i = m
                      · rw [e4, um m (Nat.le_refl _) (by omega), jm]; exact h8
                      · have := hlo i i1 (by omega); omega
        · have ch' : ¬ (h : Int) = 2 := by omega
          obtain ⟨zs3, hz3⟩ : ∃ z, z = zs1 := ⟨_, rfl⟩
          subst hz3
          obtain ⟨υ3, hu3⟩ : ∃ z, z = υ2 := ⟨_, rfl⟩
          subst hu3
          have hZ3 := hZ2
          have hQ3 := hQ1
          have hB3 := hB1
          have hF3 := hF1
          obtain ⟨pq, hpq, hp1, hp2⟩ : ∃ pq : Nat, (p : Int) = pq ∧ a' ≤ pq ∧ pq < b' := ⟨p, rfl, g2, g3⟩
          have hzl3 : zs3.length = n := hQ3.len.trans hn
          have hlm3 : υ3.lim ≤ o := by rw [hZ3.only.lim]; exact hl
          have hzb3 : ∀ x ∈ zs3, bd x := fun x hx => hbd x (hQ3.perm.mem_iff.1 hx)
          have sz : ∀ j, j < zs3.length → bd (nth zs3 j) := fun j hj => hzb3 _ (nth_mem hj)
          have hrl := rowOf_length encSpan zs3
          have r1 := row_at encSpan (xs := zs3) (j := pq) (by omega)
          have q1 : pq < n := by omega
          have w1 : pq * 2 + 2 ≤ zs3.length * 2 := by omega
          by_cases c3 : 0 < a'
          · have c3' : (0 : Int) < a' := by omega
            have r0 := row_at encSpan (xs := zs3) (j := a' - 1) (by omega)
            have e1 : ((a' : Int) - 1).toNat = a' - 1 := by omega
            have q0 : (a' : Int) - 1 < n := by omega
            have q2 : 1 ≤ (a' : Int) := by omega
            have w0 : (a' - 1) * 2 + 2 ≤ zs3.length * 2 := by omega
            have hcmp := cmpS_ok (nth zs3 (a' - 1)) (nth zs3 pq) (sz _ (by omega)) (sz _ (by omega))
            by_cases c4 : (nth zs3 (a' - 1)).lo - (nth zs3 pq).lo < 0
            · simp (disch := omega) [Und, hpq, hZ3.row, hrl, r0, r1, e1, q0, q1, q2, w0, w1, c3', c3, hcmp, c4, ch', ch, -Bool.exists_bool]
              refine part_call hlm3 hZ3.row hzl3 (by omega) hzb3 (by omega) (by omega) ⟨hp1, hp2⟩ fun m al ys υ4 k1 k2 k3 k4 k5 k6 => ?_
              have hZ4 := hZ3.trans k1
              have hQ4 := hQ3.trans (k2.mono ha1 hb1)
              have hB4 := hB3.pi k2
              have d8 : ((b' : Int) - a').tdiv 8 = (((b' - a') / 8 : Nat) : Int) := by rw [Int.tdiv_eq_ediv_of_nonneg (by omega)]; omega
              by_cases c5 : m - a' < b' - m
              · have c5' : (m : Int) - a' < (b' : Int) - m := by omega
                simp (disch := omega) [Und, c5', d8, hlq, -Bool.exists_bool]
                refine ih (N - 1) (by omega) (by omega) (by rw [hZ4.only.lim]; exact hl) hZ4.row (hQ4.len.trans hn) hn2 (fun x hx => hbd x (hQ4.perm.mem_iff.1 hx)) k3 (by omega) hlq2 (by
                  rcases hB4 with h | h
                  · exact .inl h
                  · exact .inr fun i i1 i2 => h i i1 (by omega)) fun ws υ5 j1 j2 j3 => ?_
                simp (disch := omega) [Und, hlq, -Bool.exists_bool]
                have hZ5 := hZ4.trans j1
                have jm : kk ws m = kk ys m := j2.kout (by omega)
                refine ⟨b' - (m + 1), by omega, m + 1, b', by omega, by omega, by omega, by omega, lq, hlq2, ⟨by omega, by omega, by omega⟩, ws, hZ5, hQ4.trans (j2.mono (by omega) (by omega)), .inr fun i i1 i2 => ?_, fun us u1 u2 => hF3 us ((k2.trans (j2.mono (Nat.le_refl _) (by omega))).trans (u1.mono (by omega) (Nat.le_refl _))) fun i j i1 i2 i3 => ?_⟩
                · rw [show m + 1 - 1 = m by omega, jm, j2.kout (by omega)]; exact k6 i (by omega) i2
                · have um : ∀ q, a' ≤ q → q ≤ m → kk us q = kk ws q := fun q _ _ => u1.kout (by omega)
                  by_cases e1 : j < m
                  · rw [um i i1 (by omega), um j (by omega) (by omega)]; exact j3 i j i1 i2 e1
                  · have hlo : ∀ q, a' ≤ q → q < m → kk ws q ≤ kk ys m := j2.all (P := fun z => z ≤ kk ys m) fun q q1 q2 => by have := k5 q q1 q2; omega
                    have hup : ∀ q, m < q → q < b' → kk ys m ≤ kk us q := fun q q1 q2 => u1.all (P := fun z => kk ys m ≤ z) (fun q q1 q2 => by rw [j2.kout (by omega)]; exact k6 q (by omega) q2) q (by omega) q2
                    by_cases e2 : j = m
                    · rw [um i i1 (by omega), e2, um m k3 (Nat.le_refl _), jm]; exact hlo i i1 (by omega)
                    · by_cases e3 : m < i
                      · exact u2 i j (by omega) i2 i3
                      · have h8 := hup j (by omega) i3
                        by_cases e4 : i = m
                        · rw [e4, um m k3 (Nat.le_refl _), jm]; exact h8
                        · rw [um i i1 (by omega)]; have := hlo i i1 (by omega); omega
              · have c5' : ¬ (m : Int) - a' < (b' : Int) - m := by omega
                obtain ⟨m1, hm1, hm2⟩ : ∃ m1 : Nat, (m : Int) + 1 = m1 ∧ m1 = m + 1 := ⟨m + 1, by omega, rfl⟩
                simp (disch := omega) [Und, c5', d8, hlq, hm1, -Bool.exists_bool]
                refine ih (N - 1) (by omega) (by omega) (by rw [hZ4.only.lim]; exact hl) hZ4.row (hQ4.len.trans hn) hn2 (fun x hx => hbd x (hQ4.perm.mem_iff.1 hx)) (by omega) (by omega) hlq2 (.inr fun i i1 i2 => by rw [show m1 - 1 = m by omega]; exact k6 i (by omega) i2) fun ws υ5 j1 j2 j3 => ?_
                simp (disch := omega) [Und, hlq, -Bool.exists_bool]
                have hZ5 := hZ4.trans j1
                have jm : kk ws m = kk ys m := j2.kout (by omega)
                refine ⟨m - a', by omega, a', m, by omega, by omega, by omega, by omega, lq, hlq2, ⟨by omega, by omega, by omega⟩, ws, hZ5, hQ4.trans (j2.mono (by omega) (by omega)), ?_, fun us u1 u2 => hF3 us ((k2.trans (j2.mono (by omega) (Nat.le_refl _))).trans (u1.mono (Nat.le_refl _) (by omega))) fun i j i1 i2 i3 => ?_⟩
                · rcases hB4 with h | h
                  · exact .inl h
                  · by_cases h0 : a' = 0
                    · exact .inl h0
                    · refine .inr fun i i1 i2 => ?_
                      rw [j2.kout (i := a' - 1) (by omega), j2.kout (i := i) (by omega)]; exact h i i1 (by omega)
                · have um : ∀ q, m ≤ q → q < b' → kk us q = kk ws q := fun q _ _ => u1.kout (by omega)
                  by_cases e1 : m < i
                  · rw [um i (by omega) (by omega), um j (by omega) i3]; exact j3 i j (by omega) i2 i3
                  · have hlo : ∀ q, a' ≤ q → q < m → kk us q ≤ kk ys m := u1.all (P := fun z => z ≤ kk ys m) fun q q1 q2 => by
                      rw [j2.kout (by omega)]; have := k5 q q1 q2; omega
                    have hup : ∀ q, m < q → q < b' → kk ys m ≤ kk ws q := fun q q1 q2 => j2.all (P := fun z => kk ys m ≤ z) (fun q q1 q2 => k6 q (by omega) q2) q (by omega) q2
                    by_cases e2 : j < m
                    · exact u2 i j i1 i2 e2
                    · by_cases e3 : j = m
                      · rw [e3, um m (Nat.le_refl _) (by omega), jm]; exact hlo i i1 (by omega)
                      · have h8 := hup j (by omega) i3
                        rw [um j (by omega) i3]
                        by_cases e4 : i = m
                        · rw [e4, um m (Nat.le_refl _) (by omega), jm]; exact h8
                        · have := hlo i i1 (by omega); omega
            · simp (disch := omega) [Und, hpq, hZ3.row, hrl, r0, r1, e1, q0, q1, q2, w0, w1, c3', c3, hcmp, c4, ch', ch, -Bool.exists_bool]
              refine parteq_call hlm3 hZ3.row hzl3 (by omega) hzb3 (by omega) (by omega) ⟨hp1, hp2⟩ fun m ys υ4 k1 k2 k3 k4 k5 k6 => ?_
              simp (disch := omega) [Und, hlq, -Bool.exists_bool]
              refine ⟨b' - m, by omega, m, b', by omega, by omega, by omega, by omega, lq, hlq2, ⟨by omega, by omega, by omega⟩, ys, hZ3.trans k1, hQ3.trans (k2.mono ha1 hb1), .inr fun i i1 i2 => ?_, fun us u1 u2 => hF3 us (k2.trans (u1.mono (by omega) (Nat.le_refl _))) fun i j i1 i2 i3 => ?_⟩
              · have h8 := k5 (m - 1) (by omega) (by omega)
                have h9 := k6 i i1 i2
                omega
              · have um : ∀ q, a' ≤ q → q < m → kk us q = kk ys q := fun q _ _ => u1.kout (by omega)
                have hge : ∀ q, a' ≤ q → q < b' → kk zs3 pq ≤ kk ys q := k2.all (P := fun z => kk zs3 pq ≤ z) fun q q3 q4 => by
                  rcases hB3 with h | h
                  · omega
                  · have := h q q3 q4
                    unfold kk at this ⊢
                    omega
                have hup : ∀ q, m ≤ q → q < b' → kk zs3 pq < kk us q := u1.all (P := fun z => kk zs3 pq < z) fun q q3 q4 => k6 q q3 q4
                by_cases e2 : j < m
                · rw [um i i1 (by omega), um j (by omega) e2]
                  have h8 := k5 i i1 (by omega)
                  have h9 := hge j (by omega) i3
                  omega
                · by_cases e3 : i < m
                  · rw [um i i1 e3]
                    have h8 := k5 i i1 e3
                    have h9 := hup j (by omega) i3
                    omega
                  · exact u2 i j (by omega) i2 i3
          · have c3' : ¬ (0 : Int) < a' := by omega
            have a0 : a' = 0 := by omega
            simp (disch := omega) [Und, hpq, hZ3.row, hrl, r1, q1, w1, c3', c3, ch', ch, -Bool.exists_bool]
            refine part_call hlm3 hZ3.row hzl3 (by omega) hzb3 (by omega) (by omega) ⟨hp1, hp2⟩ fun m al ys υ4 k1 k2 k3 k4 k5 k6 => ?_
            have hZ4 := hZ3.trans k1
            have hQ4 := hQ3.trans (k2.mono ha1 hb1)
            have hB4 := hB3.pi k2
            have d8 : ((b' : Int) - a').tdiv 8 = (((b' - a') / 8 : Nat) : Int) := by rw [Int.tdiv_eq_ediv_of_nonneg (by omega)]; omega
            by_cases c5 : m - a' < b' - m
            · have c5' : (m : Int) - a' < (b' : Int) - m := by omega
              simp (disch := omega) [Und, c5', d8, hlq, -Bool.exists_bool]
              refine ih (N - 1) (by omega) (by omega) (by rw [hZ4.only.lim]; exact hl) hZ4.row (hQ4.len.trans hn) hn2 (fun x hx => hbd x (hQ4.perm.mem_iff.1 hx)) k3 (by omega) hlq2 (by
                rcases hB4 with h | h
                · exact .inl h
                · exact .inr fun i i1 i2 => h i i1 (by omega)) fun ws υ5 j1 j2 j3 => ?_
              simp (disch := omega) [Und, hlq, -Bool.exists_bool]
              have hZ5 := hZ4.trans j1
              have jm : kk ws m = kk ys m := j2.kout (by omega)
              refine ⟨b' - (m + 1), by omega, m + 1, b', by omega, by omega, by omega, by omega, lq, hlq2, ⟨by omega, by omega, by omega⟩, ws, hZ5, hQ4.trans (j2.mono (by omega) (by omega)), .inr fun i i1 i2 => ?_, fun us u1 u2 => hF3 us ((k2.trans (j2.mono (Nat.le_refl _) (by omega))).trans (u1.mono (by omega) (Nat.le_refl _))) fun i j i1 i2 i3 => ?_⟩
              · rw [show m + 1 - 1 = m by omega, jm, j2.kout (by omega)]; exact k6 i (by omega) i2
              · have um : ∀ q, a' ≤ q → q ≤ m → kk us q = kk ws q := fun q _ _ => u1.kout (by omega)
                by_cases e1 : j < m
                · rw [um i i1 (by omega), um j (by omega) (by omega)]; exact j3 i j i1 i2 e1
                · have hlo : ∀ q, a' ≤ q → q < m → kk ws q ≤ kk ys m := j2.all (P := fun z => z ≤ kk ys m) fun q q1 q2 => by have := k5 q q1 q2; omega
                  have hup : ∀ q, m < q → q < b' → kk ys m ≤ kk us q := fun q q1 q2 => u1.all (P := fun z => kk ys m ≤ z) (fun q q1 q2 => by rw [j2.kout (by omega)]; exact k6 q (by omega) q2) q (by omega) q2
                  by_cases e2 : j = m
                  · rw [um i i1 (by omega), e2, um m k3 (Nat.le_refl _), jm]; exact hlo i i1 (by omega)
                  · by_cases e3 : m < i
                    · exact u2 i j (by omega) i2 i3
                    · have h8 := hup j (by omega) i3
                      by_cases e4 : i = m
                      · rw [e4, um m k3 (Nat.le_refl _), jm]; exact h8
                      · rw [um i i1 (by omega)]; have := hlo i i1 (by omega); omega
            · have c5' : ¬ (m : Int) - a' < (b' : Int) - m := by omega
              obtain ⟨m1, hm1, hm2⟩ : ∃ m1 : Nat, (m : Int) + 1 = m1 ∧ m1 = m + 1 := ⟨m + 1, by omega, rfl⟩
              simp (disch := omega) [Und, c5', d8, hlq, hm1, -Bool.exists_bool]
              refine ih (N - 1) (by omega) (by omega) (by rw [hZ4.only.lim]; exact hl) hZ4.row (hQ4.len.trans hn) hn2 (fun x hx => hbd x (hQ4.perm.mem_iff.1 hx)) (by omega) (by omega) hlq2 (.inr fun i i1 i2 => by rw [show m1 - 1 = m by omega]; exact k6 i (by omega) i2) fun ws υ5 j1 j2 j3 => ?_
              simp (disch := omega) [Und, hlq, -Bool.exists_bool]
              have hZ5 := hZ4.trans j1
              have jm : kk ws m = kk ys m := j2.kout (by omega)
              refine ⟨m - a', by omega, a', m, by omega, by omega, by omega, by omega, lq, hlq2, ⟨by omega, by omega, by omega⟩, ws, hZ5, hQ4.trans (j2.mono (by omega) (by omega)), ?_, fun us u1 u2 => hF3 us ((k2.trans (j2.mono (by omega) (Nat.le_refl _))).trans (u1.mono (Nat.le_refl _) (by omega))) fun i j i1 i2 i3 => ?_⟩
              · rcases hB4 with h | h
                · exact .inl h
                · by_cases h0 : a' = 0
                  · exact .inl h0
                  · refine .inr fun i i1 i2 => ?_
                    rw [j2.kout (i := a' - 1) (by omega), j2.kout (i := i) (by omega)]; exact h i i1 (by omega)
              · have um : ∀ q, m ≤ q → q < b' → kk us q = kk ws q := fun q _ _ => u1.kout (by omega)
                by_cases e1 : m < i
                · rw [um i (by omega) (by omega), um j (by omega) i3]; exact j3 i j (by omega) i2 i3
                · have hlo : ∀ q, a' ≤ q → q < m → kk us q ≤ kk ys m := u1.all (P := fun z => z ≤ kk ys m) fun q q1 q2 => by
                    rw [j2.kout (by omega)]; have := k5 q q1 q2; omega
                  have hup : ∀ q, m < q → q < b' → kk ys m ≤ kk ws q := fun q q1 q2 => j2.all (P := fun z => kk ys m ≤ z) (fun q q1 q2 => k6 q (by omega) q2) q (by omega) q2
                  by_cases e2 : j < m
                  · exact u2 i j i1 i2 e2
                  · by_cases e3 : j = m
                    · rw [e3, um m (Nat.le_refl _) (by omega), jm]; exact hlo i i1 (by omega)
                    · have h8 := hup j (by omega) i3
                      rw [um j (by omega) i3]
                      by_cases e4 : i = m
                      · rw [e4, um m (Nat.le_refl _) (by omega), jm]; exact h8
                      · have := hlo i i1 (by omega); omega
      · simp (disch := omega) [Und, c1', c2', c2, -Bool.exists_bool]
        obtain ⟨zs1, hz1⟩ : ∃ z, z = zs := ⟨_, rfl⟩
        subst hz1
        obtain ⟨υ1, hu1⟩ : ∃ z, z = υ := ⟨_, rfl⟩
        subst hu1
        have hZ1 := hZ
        have hQ1 := hQ
        have hB1 := hBz
        have hF1 := hfin
        obtain ⟨lq, hlq, hlq2⟩ : ∃ lq : Nat, (l' : Int) = lq ∧ lq ≤ 64 := ⟨l', rfl, hl1⟩
        refine pivot_call (by rw [hZ1.only.lim]; exact hl) hZ1.row (hQ1.len.trans hn) (by omega) (fun x hx => hbd x (hQ1.perm.mem_iff.1 hx)) (by omega) (by omega) fun p h υ2 g1 g2 g3 g4 => ?_
        have hZ2 := hZ1.trans g1
        by_cases ch : h = 2
        · subst ch
          simp (disch := omega) [Und, -Bool.exists_bool]
          refine rev_call (by rw [hZ2.only.lim]; exact hl) hZ2.row (hQ1.len.trans hn) (by omega) (by omega) (by omega) fun zs3 υ3 h1 h2 => ?_
          have hZ3 := hZ2.trans h1
          have hQ3 := hQ1.trans (h2.mono ha1 hb1)
          have hB3 := hB1.pi h2
          have hF3 : ∀ ws, PI a' b' zs3 ws → srt a' b' ws → srt a b ws := fun ws h3 h4 => hF1 ws (h2.trans h3) h4
          obtain ⟨pq, hpq, hp1, hp2⟩ : ∃ pq : Nat, (b' : Int) - 1 - ((p : Int) - a') = pq ∧ a' ≤ pq ∧ pq < b' := ⟨b' - 1 - (p - a'), by omega, by omega, by omega⟩
          cases wp
          · have hzl3 : zs3.length = n := hQ3.len.trans hn
            have hlm3 : υ3.lim ≤ o := by rw [hZ3.only.lim]; exact hl
            have hzb3 : ∀ x ∈ zs3, bd x := fun x hx => hbd x (hQ3.perm.mem_iff.1 hx)
            have sz : ∀ j, j < zs3.length → bd (nth zs3 j) := fun j hj => hzb3 _ (nth_mem hj)
            have hrl := rowOf_length encSpan zs3
            have r1 := row_at encSpan (xs := zs3) (j := pq) (by omega)
            have q1 : pq < n := by omega
            have w1 : pq * 2 + 2 ≤ zs3.length * 2 := by omega
            by_cases c3 : 0 < a'
            · have c3' : (0 : Int) < a' := by omega
              have r0 := row_at encSpan (xs := zs3) (j := a' - 1) (by omega)
              have e1 : ((a' : Int) - 1).toNat = a' - 1 := by omega
              have q0 : (a' : Int) - 1 < n := by omega
              have q2 : 1 ≤ (a' : Int) := by omega
              have w0 : (a' - 1) * 2 + 2 ≤ zs3.length * 2 := by omega
              have hcmp := cmpS_ok (nth zs3 (a' - 1)) (nth zs3 pq) (sz _ (by omega)) (sz _ (by omega))
              by_cases c4 : (nth zs3 (a' - 1)).lo - (nth zs3 pq).lo < 0
              · simp (disch := omega) [Und, hpq, hZ3.row, hrl, r0, r1, e1, q0, q1, q2, w0, w1, c3', c3, hcmp, c4, hrl, -Bool.exists_bool]
                refine part_call hlm3 hZ3.row hzl3 (by omega) hzb3 (by omega) (by omega) ⟨hp1, hp2⟩ fun m al ys υ4 k1 k2 k3 k4 k5 k6 => ?_
                have hZ4 := hZ3.trans k1
                have hQ4 := hQ3.trans (k2.mono ha1 hb1)
                have hB4 := hB3.pi k2
                have d8 : ((b' : Int) - a').tdiv 8 = (((b' - a') / 8 : Nat) : Int) := by rw [Int.tdiv_eq_ediv_of_nonneg (by omega)]; omega
                by_cases c5 : m - a' < b' - m
                · have c5' : (m : Int) - a' < (b' : Int) - m := by omega
                  simp (disch := omega) [Und, c5', d8, hlq, -Bool.exists_bool]
                  refine ih (N - 1) (by omega) (by omega) (by rw [hZ4.only.lim]; exact hl) hZ4.row (hQ4.len.trans hn) hn2 (fun x hx => hbd x (hQ4.perm.mem_iff.1 hx)) k3 (by omega) hlq2 (by
                    rcases hB4 with h | h
                    · exact .inl h
                    · exact .inr fun i i1 i2 => h i i1 (by omega)) fun ws υ5 j1 j2 j3 => ?_
                  simp (disch := omega) [Und, hlq, -Bool.exists_bool]
                  have hZ5 := hZ4.trans j1
                  have jm : kk ws m = kk ys m := j2.kout (by omega)
                  refine ⟨b' - (m + 1), by omega, m + 1, b', by omega, by omega, by omega, by omega, lq, hlq2, ⟨by omega, by omega, by omega⟩, ws, hZ5, hQ4.trans (j2.mono (by omega) (by omega)), .inr fun i i1 i2 => ?_, fun us u1 u2 => hF3 us ((k2.trans (j2.mono (Nat.le_refl _) (by omega))).trans (u1.mono (by omega) (Nat.le_refl _))) fun i j i1 i2 i3 => ?_⟩
                  · rw [show m + 1 - 1 = m by omega, jm, j2.kout (by omega)]; exact k6 i (by omega) i2
                  · have um : ∀ q, a' ≤ q → q ≤ m → kk us q = kk ws q := fun q _ _ => u1.kout (by omega)
                    by_cases e1 : j < m
                    · rw [um i i1 (by omega), um j (by omega) (by omega)]; exact j3 i j i1 i2 e1
                    · have hlo : ∀ q, a' ≤ q → q < m → kk ws q ≤ kk ys m := j2.all (P := fun z => z ≤ kk ys m) fun q q1 q2 => by have := k5 q q1 q2; omega
                      have hup : ∀ q, m < q → q < b' → kk ys m ≤ kk us q := fun q q1 q2 => u1.all (P := fun z => kk ys m ≤ z) (fun q q1 q2 => by rw [j2.kout (by omega)]; exact k6 q (by omega) q2) q (by omega) q2
                      by_cases e2 : j = m
                      · rw [um i i1 (by omega), e2, um m k3 (Nat.le_refl _), jm]; exact hlo i i1 (by omega)
                      · by_cases e3 : m < i
                        · exact u2 i j (by omega) i2 i3
                        · have h8 := hup j (by omega) i3
                          by_cases e4 : i = m
                          · rw [e4, um m k3 (Nat.le_refl _), jm]; exact h8
                          · rw [um i i1 (by omega)]; have := hlo i i1 (by omega); omega
                · have c5' : ¬ (m : Int) - a' < (b' : Int) - m := by omega
                  obtain ⟨m1, hm1, hm2⟩ : ∃ m1 : Nat, (m : Int) + 1 = m1 ∧ m1 = m + 1 := ⟨m + 1, by omega, rfl⟩
                  simp (disch := omega) [Und, c5', d8, hlq, hm1, -Bool.exists_bool]
                  refine ih (N - 1) (by omega) (by omega) (by rw [hZ4.only.lim]; exact hl) hZ4.row (hQ4.len.trans hn) hn2 (fun x hx => hbd x (hQ4.perm.mem_iff.1 hx)) (by omega) (by omega) hlq2 (.inr fun i i1 i2 => by rw [show m1 - 1 = m by omega]; exact k6 i (by omega) i2) fun ws υ5 j1 j2 j3 => ?_
                  simp (disch := omega) [Und, hlq, -Bool.exists_bool]
                  have hZ5 := hZ4.trans j1
                  have jm : kk ws m = kk ys m := j2.kout (by omega)
                  refine ⟨m - a', by omega, a', m, by omega, by omega, by omega, by omega, lq, hlq2, ⟨by omega, by omega, by omega⟩, ws, hZ5, hQ4.trans (j2.mono (by omega) (by omega)), ?_, fun us u1 u2 => hF3 us ((k2.trans (j2.mono (by omega) (Nat.le_refl _))).trans (u1.mono (Nat.le_refl _) (by omega))) fun i j i1 i2 i3 => ?_⟩
                  · rcases hB4 with h | h
                    · exact .inl h
                    · by_cases h0 : a' = 0
                      · exact .inl h0
                      · refine .inr fun i i1 i2 => ?_
                        rw [j2.kout (i := a' - 1) (by omega), j2.kout (i := i) (by omega)]; exact h i i1 (by omega)
                  · have um : ∀ q, m ≤ q → q < b' → kk us q = kk ws q := fun q _ _ => u1.kout (by omega)
                    by_cases e1 : m < i
                    · rw [um i (by omega) (by omega), um j (by omega) i3]; exact j3 i j (by omega) i2 i3
                    · have hlo : ∀ q, a' ≤ q → q < m → kk us q ≤ kk ys m := u1.all (P := fun z => z ≤ kk ys m) fun q q1 q2 => by
                        rw [j2.kout (by omega)]; have := k5 q q1 q2; omega
                      have hup : ∀ q, m < q → q < b' → kk ys m ≤ kk ws q := fun q q1 q2 => j2.all (P := fun z => kk ys m ≤ z) (fun q q1 q2 => k6 q (by omega) q2) q (by omega) q2
                      by_cases e2 : j < m
                      · exact u2 i j i1 i2 e2
                      · by_cases e3 : j = m
                        · rw [e3, um m (Nat.le_refl _) (by omega), jm]; exact hlo i i1 (by omega)
                        · have h8 := hup j (by omega) i3
                          rw [um j (by omega) i3]
                          by_cases e4 : i = m
                          · rw [e4, um m (Nat.le_refl _) (by omega), jm]; exact h8
                          · have := hlo i i1 (by omega); omega
              · simp (disch := omega) [Und, hpq, hZ3.row, hrl, r0, r1, e1, q0, q1, q2, w0, w1, c3', c3, hcmp, c4, hrl, -Bool.exists_bool]
                refine parteq_call hlm3 hZ3.row hzl3 (by omega) hzb3 (by omega) (by omega) ⟨hp1, hp2⟩ fun m ys υ4 k1 k2 k3 k4 k5 k6 => ?_
                simp (disch := omega) [Und, hlq, -Bool.exists_bool]
                refine ⟨b' - m, by omega, m, b', by omega, by omega, by omega, by omega, lq, hlq2, ⟨by omega, by omega, by omega⟩, ys, hZ3.trans k1, hQ3.trans (k2.mono ha1 hb1), .inr fun i i1 i2 => ?_, fun us u1 u2 => hF3 us (k2.trans (u1.mono (by omega) (Nat.le_refl _))) fun i j i1 i2 i3 => ?_⟩
                · have h8 := k5 (m - 1) (by omega) (by omega)
                  have h9 := k6 i i1 i2
                  omega
                · have um : ∀ q, a' ≤ q → q < m → kk us q = kk ys q := fun q _ _ => u1.kout (by omega)
                  have hge : ∀ q, a' ≤ q → q < b' → kk zs3 pq ≤ kk ys q := k2.all (P := fun z => kk zs3 pq ≤ z) fun q q3 q4 => by
                    rcases hB3 with h | h
                    · omega
                    · have := h q q3 q4
                      unfold kk at this ⊢
                      omega
                  have hup : ∀ q, m ≤ q → q < b' → kk zs3 pq < kk us q := u1.all (P := fun z => kk zs3 pq < z) fun q q3 q4 => k6 q q3 q4
                  by_cases e2 : j < m
                  · rw [um i i1 (by omega), um j (by omega) e2]
                    have h8 := k5 i i1 (by omega)
                    have h9 := hge j (by omega) i3
                    omega
                  · by_cases e3 : i < m
                    · rw [um i i1 e3]
                      have h8 := k5 i i1 e3
                      have h9 := hup j (by omega) i3
                      omega
                    · exact u2 i j (by omega) i2 i3
            · have c3' : ¬ (0 : Int) < a' := by omega
              have a0 : a' = 0 := by omega
              simp (disch := omega) [Und, hpq, hZ3.row, hrl, r1, q1, w1, c3', c3, hrl, -Bool.exists_bool]
              refine part_call hlm3 hZ3.row hzl3 (by omega) hzb3 (by omega) (by omega) ⟨hp1, hp2⟩ fun m al ys υ4 k1 k2 k3 k4 k5 k6 => ?_
              have hZ4 := hZ3.trans k1
              have hQ4 := hQ3.trans (k2.mono ha1 hb1)
              have hB4 := hB3.pi k2
              have d8 : ((b' : Int) - a').tdiv 8 = (((b' - a') / 8 : Nat) : Int) := by rw [Int.tdiv_eq_ediv_of_nonneg (by omega)]; omega
              by_cases c5 : m - a' < b' - m
              · have c5' : (m : Int) - a' < (b' : Int) - m := by omega
                simp (disch := omega) [Und, c5', d8, hlq, -Bool.exists_bool]
                refine ih (N - 1) (by omega) (by omega) (by rw [hZ4.only.lim]; exact hl) hZ4.row (hQ4.len.trans hn) hn2 (fun x hx => hbd x (hQ4.perm.mem_iff.1 hx)) k3 (by omega) hlq2 (by
                  rcases hB4 with h | h
                  · exact .inl h
                  · exact .inr fun i i1 i2 => h i i1 (by omega)) fun ws υ5 j1 j2 j3 => ?_
                simp (disch := omega) [Und, hlq, -Bool.exists_bool]
                have hZ5 := hZ4.trans j1
                have jm : kk ws m = kk ys m := j2.kout (by omega)
                refine ⟨b' - (m + 1), by omega, m + 1, b', by omega, by omega, by omega, by omega, lq, hlq2, ⟨by omega, by omega, by omega⟩, ws, hZ5, hQ4.trans (j2.mono (by omega) (by omega)), .inr fun i i1 i2 => ?_, fun us u1 u2 => hF3 us ((k2.trans (j2.mono (Nat.le_refl _) (by omega))).trans (u1.mono (by omega) (Nat.le_refl _))) fun i j i1 i2 i3 => ?_⟩
                · rw [show m + 1 - 1 = m by omega, jm, j2.kout (by omega)]; exact k6 i (by omega) i2
                · have um : ∀ q, a' ≤ q → q ≤ m → kk us q = kk ws q := fun q _ _ => u1.kout (by omega)
                  by_cases e1 : j < m
                  · rw [um i i1 (by omega), um j (by omega) (by omega)]; exact j3 i j i1 i2 e1
                  · have hlo : ∀ q, a' ≤ q → q < m → kk ws q ≤ kk ys m := j2.all (P := fun z => z ≤ kk ys m) fun q q1 q2 => by have := k5 q q1 q2; omega
                    have hup : ∀ q, m < q → q < b' → kk ys m ≤ kk us q := fun q q1 q2 => u1.all (P := fun z => kk ys m ≤ z) (fun q q1 q2 => by rw [j2.kout (by omega)]; exact k6 q (by omega) q2) q (by omega) q2
                    by_cases e2 : j = m
                    · rw [um i i1 (by omega), e2, um m k3 (Nat.le_refl _), jm]; exact hlo i i1 (by omega)
                    · by_cases e3 : m < i
                      · exact u2 i j (by omega) i2 i3
                      · have h8 := hup j (by omega) i3
                        by_cases e4 : i = m
                        · rw [e4, um m k3 (Nat.le_refl _), jm]; exact h8
                        · rw [um i i1 (by omega)]; have := hlo i i1 (by omega); omega
              · have c5' : ¬ (m : Int) - a' < (b' : Int) - m := by omega
                obtain ⟨m1, hm1, hm2⟩ : ∃ m1 : Nat, (m : Int) + 1 = m1 ∧ m1 = m + 1 := ⟨m + 1, by omega, rfl⟩
                simp (disch := omega) [Und, c5', d8, hlq, hm1, -Bool.exists_bool]
                refine ih (N - 1) (by omega) (by omega) (by rw [hZ4.only.lim]; exact hl) hZ4.row (hQ4.len.trans hn) hn2 (fun x hx => hbd x (hQ4.perm.mem_iff.1 hx)) (by omega) (by omega) hlq2 (.inr fun i i1 i2 => by rw [show m1 - 1 = m by omega]; exact k6 i (by omega) i2) fun ws υ5 j1 j2 j3 => ?_
                simp (disch := omega) [Und, hlq, -Bool.exists_bool]
                have hZ5 := hZ4.trans j1
                have jm : kk ws m = kk ys m := j2.kout (by omega)
                refine ⟨m - a', by omega, a', m, by omega, by omega, by omega, by omega, lq, hlq2, ⟨by omega, by omega, by omega⟩, ws, hZ5, hQ4.trans (j2.mono (by omega) (by omega)), ?_, fun us u1 u2 => hF3 us ((k2.trans (j2.mono (by omega) (Nat.le_refl _))).trans (u1.mono (Nat.le_refl _) (by omega))) fun i j i1 i2 i3 => ?_⟩
                · rcases hB4 with h | h
                  · exact .inl h
                  · by_cases h0 : a' = 0
                    · exact .inl h0
                    · refine .inr fun i i1 i2 => ?_
                      rw [j2.kout (i := a' - 1) (by omega), j2.kout (i := i) (by omega)]; exact h i i1 (by omega)
                · have um : ∀ q, m ≤ q → q < b' → kk us q = kk ws q := fun q _ _ => u1.kout (by omega)
                  by_cases e1 : m < i
                  · rw [um i (by omega) (by omega), um j (by omega) i3]; exact j3 i j (by omega) i2 i3
                  · have hlo : ∀ q, a' ≤ q → q < m → kk us q ≤ kk ys m := u1.all (P := fun z => z ≤ kk ys m) fun q q1 q2 => by
                      rw [j2.kout (by omega)]; have := k5 q q1 q2; omega
                    have hup : ∀ q, m < q → q < b' → kk ys m ≤ kk ws q := fun q q1 q2 => j2.all (P := fun z => kk ys m ≤ z) (fun q q1 q2 => k6 q (by omega) q2) q (by omega) q2
                    by_cases e2 : j < m
                    · exact u2 i j i1 i2 e2
                    · by_cases e3 : j = m
                      · rw [e3, um m (Nat.le_refl _) (by omega), jm]; exact hlo i i1 (by omega)
                      · have h8 := hup j (by omega) i3
                        rw [um j (by omega) i3]
                        by_cases e4 : i = m
                        · rw [e4, um m (Nat.le_refl _) (by omega), jm]; exact h8
                        · have := hlo i i1 (by omega); omega
          · obtain ⟨d, hd1, hd2⟩ := pins_ok zs3.isEmpty zs3 a' b' (by have := hQ3.len; omega) (fun x hx => hbd x (hQ3.perm.mem_iff.1 hx)) (by omega) (by have := hQ3.len; omega)
            have hsn : Snap υ3 (.slice (some (o, 0)) n (.op 2)) [o] (vl eSpan zs3.isEmpty zs3) := by
              have h8 : Buf 0 2 eSpan υ3 (.slice (some (o, 0)) n (.op 2)) zs3 := .inr ⟨o, by rw [hQ3.len, hn], Nat.zero_le _, hZ3.row, fun h => by have := hQ3.len; rw [h] at this; simp at this; omega⟩
              exact h8.snapS encSpan flatSpan
            have hss : Snaps υ3 [.slice (some (o, 0)) n (.op 2), .int .i64 a', .int .i64 b', cmpF] ([o] ++ ([] ++ ([] ++ ([] ++ [])))) [vl eSpan zs3.isEmpty zs3, .int .i64 a', .int .i64 b', cmpF] := .cons hsn (.cons (Snap.int _ _ _) (.cons (Snap.int _ _ _) (.cons ⟨rfl, fun _ _ => rfl⟩ .nil)))
            simp (disch := omega) [Und, hlm, -Bool.exists_bool]
            refine pc_scal hss (fun h => by cases h) (by simp) (oo (args := []) (by decide)).1 hd1 rfl ?_
            cases d
            · have hzl3 : zs3.length = n := hQ3.len.trans hn
              have hlm3 : υ3.lim ≤ o := by rw [hZ3.only.lim]; exact hl
              have hzb3 : ∀ x ∈ zs3, bd x := fun x hx => hbd x (hQ3.perm.mem_iff.1 hx)
              have sz : ∀ j, j < zs3.length → bd (nth zs3 j) := fun j hj => hzb3 _ (nth_mem hj)
              have hrl := rowOf_length encSpan zs3
              have r1 := row_at encSpan (xs := zs3) (j := pq) (by omega)
              have q1 : pq < n := by omega
              have w1 : pq * 2 + 2 ≤ zs3.length * 2 := by omega
              by_cases c3 : 0 < a'
              · have c3' : (0 : Int) < a' := by omega
                have r0 := row_at encSpan (xs := zs3) (j := a' - 1) (by omega)
                have e1 : ((a' : Int) - 1).toNat = a' - 1 := by omega
                have q0 : (a' : Int) - 1 < n := by omega
                have q2 : 1 ≤ (a' : Int) := by omega
                have w0 : (a' - 1) * 2 + 2 ≤ zs3.length * 2 := by omega
                have hcmp := cmpS_ok (nth zs3 (a' - 1)) (nth zs3 pq) (sz _ (by omega)) (sz _ (by omega))
                by_cases c4 : (nth zs3 (a' - 1)).lo - (nth zs3 pq).lo < 0
                · simp (disch := omega) [Und, hpq, hZ3.row, hrl, r0, r1, e1, q0, q1, q2, w0, w1, c3', c3, hcmp, c4, hlm, -Bool.exists_bool]
                  refine part_call hlm3 hZ3.row hzl3 (by omega) hzb3 (by omega) (by omega) ⟨hp1, hp2⟩ fun m al ys υ4 k1 k2 k3 k4 k5 k6 => ?_
                  have hZ4 := hZ3.trans k1
                  have hQ4 := hQ3.trans (k2.mono ha1 hb1)
                  have hB4 := hB3.pi k2
                  have d8 : ((b' : Int) - a').tdiv 8 = (((b' - a') / 8 : Nat) : Int) := by rw [Int.tdiv_eq_ediv_of_nonneg (by omega)]; omega
                  by_cases c5 : m - a' < b' - m
                  · have c5' : (m : Int) - a' < (b' : Int) - m := by omega
                    simp (disch := omega) [Und, c5', d8, hlq, -Bool.exists_bool]
                    refine ih (N - 1) (by omega) (by omega) (by rw [hZ4.only.lim]; exact hl) hZ4.row (hQ4.len.trans hn) hn2 (fun x hx => hbd x (hQ4.perm.mem_iff.1 hx)) k3 (by omega) hlq2 (by
                      rcases hB4 with h | h
                      · exact .inl h
                      · exact .inr fun i i1 i2 => h i i1 (by omega)) fun ws υ5 j1 j2 j3 => ?_
                    simp (disch := omega) [Und, hlq, -Bool.exists_bool]
                    have hZ5 := hZ4.trans j1
                    have jm : kk ws m = kk ys m := j2.kout (by omega)
                    refine ⟨b' - (m + 1), by omega, m + 1, b', by omega, by omega, by omega, by omega, lq, hlq2, ⟨by omega, by omega, by omega⟩, ws, hZ5, hQ4.trans (j2.mono (by omega) (by omega)), .inr fun i i1 i2 => ?_, fun us u1 u2 => hF3 us ((k2.trans (j2.mono (Nat.le_refl _) (by omega))).trans (u1.mono (by omega) (Nat.le_refl _))) fun i j i1 i2 i3 => ?_⟩
                    · rw [show m + 1 - 1 = m by omega, jm, j2.kout (by omega)]; exact k6 i (by omega) i2
                    · have um : ∀ q, a' ≤ q → q ≤ m → kk us q = kk ws q := fun q _ _ => u1.kout (by omega)
                      by_cases e1 : j < m
                      · rw [um i i1 (by omega), um j (by omega) (by omega)]; exact j3 i j i1 i2 e1
                      · have hlo : ∀ q, a' ≤ q → q < m → kk ws q ≤ kk ys m := j2.all (P := fun z => z ≤ kk ys m) fun q q1 q2 => by have := k5 q q1 q2; omega
                        have hup : ∀ q, m < q → q < b' → kk ys m ≤ kk us q := fun q q1 q2 => u1.all (P := fun z => kk ys m ≤ z) (fun q q1 q2 => by rw [j2.kout (by omega)]; exact k6 q (by omega) q2) q (by omega) q2
                        by_cases e2 : j = m
                        · rw [um i i1 (by omega), e2, um m k3 (Nat.le_refl _), jm]; exact hlo i i1 (by omega)
                        · by_cases e3 : m < i
                          · exact u2 i j (by omega) i2 i3
                          · have h8 := hup j (by omega) i3
                            by_cases e4 : i = m
                            · rw [e4, um m k3 (Nat.le_refl _), jm]; exact h8
                            · rw [um i i1 (by omega)]; have := hlo i i1 (by omega); omega
                  · have c5' : ¬ (m : Int) - a' < (b' : Int) - m := by omega
                    obtain ⟨m1, hm1, hm2⟩ : ∃ m1 : Nat, (m : Int) + 1 = m1 ∧ m1 = m + 1 := ⟨m + 1, by omega, rfl⟩
                    simp (disch := omega) [Und, c5', d8, hlq, hm1, -Bool.exists_bool]
                    refine ih (N - 1) (by omega) (by omega) (by rw [hZ4.only.lim]; exact hl) hZ4.row (hQ4.len.trans hn) hn2 (fun x hx => hbd x (hQ4.perm.mem_iff.1 hx)) (by omega) (by omega) hlq2 (.inr fun i i1 i2 => by rw [show m1 - 1 = m by omega]; exact k6 i (by omega) i2) fun ws υ5 j1 j2 j3 => ?_
                    simp (disch := omega) [Und, hlq, -Bool.exists_bool]
                    have hZ5 := hZ4.trans j1
                    have jm : kk ws m = kk ys m := j2.kout (by omega)
                    refine ⟨m - a', by omega, a', m, by omega, by omega, by omega, by omega, lq, hlq2, ⟨by omega, by omega, by omega⟩, ws, hZ5, hQ4.trans (j2.mono (by omega) (by omega)), ?_, fun us u1 u2 => hF3 us ((k2.trans (j2.mono (by omega) (Nat.le_refl _))).trans (u1.mono (Nat.le_refl _) (by omega))) fun i j i1 i2 i3 => ?_⟩
                    · rcases hB4 with h | h
                      · exact .inl h
                      · by_cases h0 : a' = 0
                        · exact .inl h0
                        · refine .inr fun i i1 i2 => ?_
                          rw [j2.kout (i := a' - 1) (by omega), j2.kout (i := i) (by omega)]; exact h i i1 (by omega)
                    · have um : ∀ q, m ≤ q → q < b' → kk us q = kk ws q := fun q _ _ => u1.kout (by omega)
                      by_cases e1 : m < i
                      · rw [um i (by omega) (by omega), um j (by omega) i3]; exact j3 i j (by omega) i2 i3
                      · have hlo : ∀ q, a' ≤ q → q < m → kk us q ≤ kk ys m := u1.all (P := fun z => z ≤ kk ys m) fun q q1 q2 => by
                          rw [j2.kout (by omega)]; have := k5 q q1 q2; omega
                        have hup : ∀ q, m < q → q < b' → kk ys m ≤ kk ws q := fun q q1 q2 => j2.all (P := fun z => kk ys m ≤ z) (fun q q1 q2 => k6 q (by omega) q2) q (by omega) q2
                        by_cases e2 : j < m
                        · exact u2 i j i1 i2 e2
                        · by_cases e3 : j = m
                          · rw [e3, um m (Nat.le_refl _) (by omega), jm]; exact hlo i i1 (by omega)
                          · have h8 := hup j (by omega) i3
                            rw [um j (by omega) i3]
                            by_cases e4 : i = m
                            · rw [e4, um m (Nat.le_refl _) (by omega), jm]; exact h8
                            · have := hlo i i1 (by omega); omega
                · simp (disch := omega) [Und, hpq, hZ3.row, hrl, r0, r1, e1, q0, q1, q2, w0, w1, c3', c3, hcmp, c4, hlm, -Bool.exists_bool]
                  refine parteq_call hlm3 hZ3.row hzl3 (by omega) hzb3 (by omega) (by omega) ⟨hp1, hp2⟩ fun m ys υ4 k1 k2 k3 k4 k5 k6 => ?_
                  simp (disch := omega) [Und, hlq, -Bool.exists_bool]
                  refine ⟨b' - m, by omega, m, b', by omega, by omega, by omega, by omega, lq, hlq2, ⟨by omega, by omega, by omega⟩, ys, hZ3.trans k1, hQ3.trans (k2.mono ha1 hb1), .inr fun i i1 i2 => ?_, fun us u1 u2 => hF3 us (k2.trans (u1.mono (by omega) (Nat.le_refl _))) fun i j i1 i2 i3 => ?_⟩
                  · have h8 := k5 (m - 1) (by omega) (by omega)
                    have h9 := k6 i i1 i2
                    omega
                  · have um : ∀ q, a' ≤ q → q < m → kk us q = kk ys q := fun q _ _ => u1.kout (by omega)
                    have hge : ∀ q, a' ≤ q → q < b' → kk zs3 pq ≤ kk ys q := k2.all (P := fun z => kk zs3 pq ≤ z) fun q q3 q4 => by
                      rcases hB3 with h | h
                      · omega
                      · have := h q q3 q4
                        unfold kk at this ⊢
                        omega
                    have hup : ∀ q, m ≤ q → q < b' → kk zs3 pq < kk us q := u1.all (P := fun z => kk zs3 pq < z) fun q q3 q4 => k6 q q3 q4
                    by_cases e2 : j < m
                    · rw [um i i1 (by omega), um j (by omega) e2]
                      have h8 := k5 i i1 (by omega)
                      have h9 := hge j (by omega) i3
                      omega
                    · by_cases e3 : i < m
                      · rw [um i i1 e3]
                        have h8 := k5 i i1 e3
                        have h9 := hup j (by omega) i3
                        omega
                      · exact u2 i j (by omega) i2 i3
              · have c3' : ¬ (0 : Int) < a' := by omega
                have a0 : a' = 0 := by omega
                simp (disch := omega) [Und, hpq, hZ3.row, hrl, r1, q1, w1, c3', c3, hlm, -Bool.exists_bool]
                refine part_call hlm3 hZ3.row hzl3 (by omega) hzb3 (by omega) (by omega) ⟨hp1, hp2⟩ fun m al ys υ4 k1 k2 k3 k4 k5 k6 => ?_
                have hZ4 := hZ3.trans k1
                have hQ4 := hQ3.trans (k2.mono ha1 hb1)
                have hB4 := hB3.pi k2
                have d8 : ((b' : Int) - a').tdiv 8 = (((b' - a') / 8 : Nat) : Int) := by rw [Int.tdiv_eq_ediv_of_nonneg (by omega)]; omega
                by_cases c5 : m - a' < b' - m
                · have c5' : (m : Int) - a' < (b' : Int) - m := by omega
                  simp (disch := omega) [Und, c5', d8, hlq, -Bool.exists_bool]
                  refine ih (N - 1) (by omega) (by omega) (by rw [hZ4.only.lim]; exact hl) hZ4.row (hQ4.len.trans hn) hn2 (fun x hx => hbd x (hQ4.perm.mem_iff.1 hx)) k3 (by omega) hlq2 (by
                    rcases hB4 with h | h
                    · exact .inl h
                    · exact .inr fun i i1 i2 => h i i1 (by omega)) fun ws υ5 j1 j2 j3 => ?_
                  simp (disch := omega) [Und, hlq, -Bool.exists_bool]
                  have hZ5 := hZ4.trans j1
                  have jm : kk ws m = kk ys m := j2.kout (by omega)
                  refine ⟨b' - (m + 1), by omega, m + 1, b', by omega, by omega, by omega, by omega, lq, hlq2, ⟨by omega, by omega, by omega⟩, ws, hZ5, hQ4.trans (j2.mono (by omega) (by omega)), .inr fun i i1 i2 => ?_, fun us u1 u2 => hF3 us ((k2.trans (j2.mono (Nat.le_refl _) (by omega))).trans (u1.mono (by omega) (Nat.le_refl _))) fun i j i1 i2 i3 => ?_⟩
                  · rw [show m + 1 - 1 = m by omega, jm, j2.kout (by omega)]; exact k6 i (by omega) i2
                  · have um : ∀ q, a' ≤ q → q ≤ m → kk us q = kk ws q := fun q _ _ => u1.kout (by omega)
                    by_cases e1 : j < m
                    · rw [um i i1 (by omega), um j (by omega) (by omega)]; exact j3 i j i1 i2 e1
                    · have hlo : ∀ q, a' ≤ q → q < m → kk ws q ≤ kk ys m := j2.all (P := fun z => z ≤ kk ys m) fun q q1 q2 => by have := k5 q q1 q2; omega
                      have hup : ∀ q, m < q → q < b' → kk ys m ≤ kk us q := fun q q1 q2 => u1.all (P := fun z => kk ys m ≤ z) (fun q q1 q2 => by rw [j2.kout (by omega)]; exact k6 q (by omega) q2) q (by omega) q2
                      by_cases e2 : j = m
                      · rw [um i i1 (by omega), e2, um m k3 (Nat.le_refl _), jm]; exact hlo i i1 (by omega)
                      · by_cases e3 : m < i
                        · exact u2 i j (by omega) i2 i3
                        · have h8 := hup j (by omega) i3
                          by_cases e4 : i = m
                          · rw [e4, um m k3 (Nat.le_refl _), jm]; exact h8
                          · rw [um i i1 (by omega)]; have := hlo i i1 (by omega); omega
                · have c5' : ¬ (m : Int) - a' < (b' : Int) - m := by omega
                  obtain ⟨m1, hm1, hm2⟩ : ∃ m1 : Nat, (m : Int) + 1 = m1 ∧ m1 = m + 1 := ⟨m + 1, by omega, rfl⟩
                  simp (disch := omega) [Und, c5', d8, hlq, hm1, -Bool.exists_bool]
                  refine ih (N - 1) (by omega) (by omega) (by rw [hZ4.only.lim]; exact hl) hZ4.row (hQ4.len.trans hn) hn2 (fun x hx => hbd x (hQ4.perm.mem_iff.1 hx)) (by omega) (by omega) hlq2 (.inr fun i i1 i2 => by rw [show m1 - 1 = m by omega]; exact k6 i (by omega) i2) fun ws υ5 j1 j2 j3 => ?_
                  simp (disch := omega) [Und, hlq, -Bool.exists_bool]
                  have hZ5 := hZ4.trans j1
                  have jm : kk ws m = kk ys m := j2.kout (by omega)
                  refine ⟨m - a', by omega, a', m, by omega, by omega, by omega, by omega, lq, hlq2, ⟨by omega, by omega, by omega⟩, ws, hZ5, hQ4.trans (j2.mono (by omega) (by omega)), ?_, fun us u1 u2 => hF3 us ((k2.trans (j2.mono (by omega) (Nat.le_refl _))).trans (u1.mono (Nat.le_refl _) (by omega))) fun i j i1 i2 i3 => ?_⟩
                  · rcases hB4 with h | h
                    · exact .inl h
                    · by_cases h0 : a' = 0
                      · exact .inl h0
                      · refine .inr fun i i1 i2 => ?_
                        rw [j2.kout (i := a' - 1) (by omega), j2.kout (i := i) (by omega)]; exact h i i1 (by omega)
                  · have um : ∀ q, m ≤ q → q < b' → kk us q = kk ws q := fun q _ _ => u1.kout (by omega)
                    by_cases e1 : m < i
                    · rw [um i (by omega) (by omega), um j (by omega) i3]; exact j3 i j (by omega) i2 i3
                    · have hlo : ∀ q, a' ≤ q → q < m → kk us q ≤ kk ys m := u1.all (P := fun z => z ≤ kk ys m) fun q q1 q2 => by
                        rw [j2.kout (by omega)]; have := k5 q q1 q2; omega
                      have hup : ∀ q, m < q → q < b' → kk ys m ≤ kk ws q := fun q q1 q2 => j2.all (P := fun z => kk ys m ≤ z) (fun q q1 q2 => k6 q (by omega) q2) q (by omega) q2
                      by_cases e2 : j < m
                      · exact u2 i j i1 i2 e2
                      · by_cases e3 : j = m
                        · rw [e3, um m (Nat.le_refl _) (by omega), jm]; exact hlo i i1 (by omega)
                        · have h8 := hup j (by omega) i3
                          rw [um j (by omega) i3]
                          by_cases e4 : i = m
                          · rw [e4, um m (Nat.le_refl _) (by omega), jm]; exact h8
                          · have := hlo i i1 (by omega); omega
            · simp (disch := omega) [Und, hlm, -Bool.exists_bool]
              exact hK zs3 υ3 hZ3 hQ3 (hF3 zs3 (.refl _ _ _) (hd2 rfl))
        · have ch' : ¬ (h : Int) = 2 := by omega
          obtain ⟨zs3, hz3⟩ : ∃ z, z = zs1 := ⟨_, rfl⟩
          subst hz3
          obtain ⟨υ3, hu3⟩ : ∃ z, z = υ2 := ⟨_, rfl⟩
          subst hu3
          have hZ3 := hZ2
          have hQ3 := hQ1
          have hB3 := hB1
          have hF3 := hF1
          obtain ⟨pq, hpq, hp1, hp2⟩ : ∃ pq : Nat, (p : Int) = pq ∧ a' ≤ pq ∧ pq < b' := ⟨p, rfl, g2, g3⟩
          cases wp
          · have hzl3 : zs3.length = n := hQ3.len.trans hn
            have hlm3 : υ3.lim ≤ o := by rw [hZ3.only.lim]; exact hl
            have hzb3 : ∀ x ∈ zs3, bd x := fun x hx => hbd x (hQ3.perm.mem_iff.1 hx)
            have sz : ∀ j, j < zs3.length → bd (nth zs3 j) := fun j hj => hzb3 _ (nth_mem hj)
            have hrl := rowOf_length encSpan zs3
            have r1 := row_at encSpan (xs := zs3) (j := pq) (by omega)
            have q1 : pq < n := by omega
            have w1 : pq * 2 + 2 ≤ zs3.length * 2 := by omega
            by_cases c3 : 0 < a'
            · have c3' : (0 : Int) < a' := by omega
              have r0 := row_at encSpan (xs := zs3) (j := a' - 1) (by omega)
              have e1 : ((a' : Int) - 1).toNat = a' - 1 := by omega
              have q0 : (a' : Int) - 1 < n := by omega
              have q2 : 1 ≤ (a' : Int) := by omega
              have w0 : (a' - 1) * 2 + 2 ≤ zs3.length * 2 := by omega
              have hcmp := cmpS_ok (nth zs3 (a' - 1)) (nth zs3 pq) (sz _ (by omega)) (sz _ (by omega))
              by_cases c4 : (nth zs3 (a' - 1)).lo - (nth zs3 pq).lo < 0
              · simp (disch := omega) [Und, hpq, hZ3.row, hrl, r0, r1, e1, q0, q1, q2, w0, w1, c3', c3, hcmp, c4, ch', ch, -Bool.exists_bool]
                refine part_call hlm3 hZ3.row hzl3 (by omega) hzb3 (by omega) (by omega) ⟨hp1, hp2⟩ fun m al ys υ4 k1 k2 k3 k4 k5 k6 => ?_
                have hZ4 := hZ3.trans k1
                have hQ4 := hQ3.trans (k2.mono ha1 hb1)
                have hB4 := hB3.pi k2
                have d8 : ((b' : Int) - a').tdiv 8 = (((b' - a') / 8 : Nat) : Int) := by rw [Int.tdiv_eq_ediv_of_nonneg (by omega)]; omega
                by_cases c5 : m - a' < b' - m
                · have c5' : (m : Int) - a' < (b' : Int) - m := by omega
                  simp (disch := omega) [Und, c5', d8, hlq, -Bool.exists_bool]
                  refine ih (N - 1) (by omega) (by omega) (by rw [hZ4.only.lim]; exact hl) hZ4.row (hQ4.len.trans hn) hn2 (fun x hx => hbd x (hQ4.perm.mem_iff.1 hx)) k3 (by omega) hlq2 (by
                    rcases hB4 with h | h
                    · exact .inl h
                    · exact .inr fun i i1 i2 => h i i1 (by omega)) fun ws υ5 j1 j2 j3 => ?_
                  simp (disch := omega) [Und, hlq, -Bool.exists_bool]
                  have hZ5 := hZ4.trans j1
                  have jm : kk ws m = kk ys m := j2.kout (by omega)
                  refine ⟨b' - (m + 1), by omega, m + 1, b', by omega, by omega, by omega, by omega, lq, hlq2, ⟨by omega, by omega, by omega⟩, ws, hZ5, hQ4.trans (j2.mono (by omega) (by omega)), .inr fun i i1 i2 => ?_, fun us u1 u2 => hF3 us ((k2.trans (j2.mono (Nat.le_refl _) (by omega))).trans (u1.mono (by omega) (Nat.le_refl _))) fun i j i1 i2 i3 => ?_⟩
                  · rw [show m + 1 - 1 = m by omega, jm, j2.kout (by omega)]; exact k6 i (by omega) i2
                  · have um : ∀ q, a' ≤ q → q ≤ m → kk us q = kk ws q := fun q _ _ => u1.kout (by omega)
                    by_cases e1 : j < m
                    · rw [um i i1 (by omega), um j (by omega) (by omega)]; exact j3 i j i1 i2 e1
                    · have hlo : ∀ q, a' ≤ q → q < m → kk ws q ≤ kk ys m := j2.all (P := fun z => z ≤ kk ys m) fun q q1 q2 => by have := k5 q q1 q2; omega
                      have hup : ∀ q, m < q → q < b' → kk ys m ≤ kk us q := fun q q1 q2 => u1.all (P := fun z => kk ys m ≤ z) (fun q q1 q2 => by rw [j2.kout (by omega)]; exact k6 q (by omega) q2) q (by omega) q2
                      by_cases e2 : j = m
                      · rw [um i i1 (by omega), e2, um m k3 (Nat.le_refl _), jm]; exact hlo i i1 (by omega)
                      · by_cases e3 : m < i
                        · exact u2 i j (by omega) i2 i3
                        · have h8 := hup j (by omega) i3
                          by_cases e4 : i = m
                          · rw [e4, um m k3 (Nat.le_refl _), jm]; exact h8
                          · rw [um i i1 (by omega)]; have := hlo i i1 (by omega); omega
                · have c5' : ¬ (m : Int) - a' < (b' : Int) - m := by omega
                  obtain ⟨m1, hm1, hm2⟩ : ∃ m1 : Nat, (m : Int) + 1 = m1 ∧ m1 = m + 1 := ⟨m + 1, by omega, rfl⟩
                  simp (disch := omega) [Und, c5', d8, hlq, hm1, -Bool.exists_bool]
                  refine ih (N - 1) (by omega) (by omega) (by rw [hZ4.only.lim]; exact hl) hZ4.row (hQ4.len.trans hn) hn2 (fun x hx => hbd x (hQ4.perm.mem_iff.1 hx)) (by omega) (by omega) hlq2 (.inr fun i i1 i2 => by rw [show m1 - 1 = m by omega]; exact k6 i (by omega) i2) fun ws υ5 j1 j2 j3 => ?_
                  simp (disch := omega) [Und, hlq, -Bool.exists_bool]
                  have hZ5 := hZ4.trans j1
                  have jm : kk ws m = kk ys m := j2.kout (by omega)
                  refine ⟨m - a', by omega, a', m, by omega, by omega, by omega, by omega, lq, hlq2, ⟨by omega, by omega, by omega⟩, ws, hZ5, hQ4.trans (j2.mono (by omega) (by omega)), ?_, fun us u1 u2 => hF3 us ((k2.trans (j2.mono (by omega) (Nat.le_refl _))).trans (u1.mono (Nat.le_refl _) (by omega))) fun i j i1 i2 i3 => ?_⟩
                  · rcases hB4 with h | h
                    · exact .inl h
                    · by_cases h0 : a' = 0
                      · exact .inl h0
                      · refine .inr fun i i1 i2 => ?_
                        rw [j2.kout (i := a' - 1) (by omega), j2.kout (i := i) (by omega)]; exact h i i1 (by omega)
                  · have um : ∀ q, m ≤ q → q < b' → kk us q = kk ws q := fun q _ _ => u1.kout (by omega)
                    by_cases e1 : m < i
                    · rw [um i (by omega) (by omega), um j (by omega) i3]; exact j3 i j (by omega) i2 i3
                    · have hlo : ∀ q, a' ≤ q → q < m → kk us q ≤ kk ys m := u1.all (P := fun z => z ≤ kk ys m) fun q q1 q2 => by
                        rw [j2.kout (by omega)]; have := k5 q q1 q2; omega
                      have hup : ∀ q, m < q → q < b' → kk ys m ≤ kk ws q := fun q q1 q2 => j2.all (P := fun z => kk ys m ≤ z) (fun q q1 q2 => k6 q (by omega) q2) q (by omega) q2
                      by_cases e2 : j < m
                      · exact u2 i j i1 i2 e2
                      · by_cases e3 : j = m
                        · rw [e3, um m (Nat.le_refl _) (by omega), jm]; exact hlo i i1 (by omega)
                        · have h8 := hup j (by omega) i3
                          rw [um j (by omega) i3]
                          by_cases e4 : i = m
                          · rw [e4, um m (Nat.le_refl _) (by omega), jm]; exact h8
                          · have := hlo i i1 (by omega); omega
              · simp (disch := omega) [Und, hpq, hZ3.row, hrl, r0, r1, e1, q0, q1, q2, w0, w1, c3', c3, hcmp, c4, ch', ch, -Bool.exists_bool]
                refine parteq_call hlm3 hZ3.row hzl3 (by omega) hzb3 (by omega) (by omega) ⟨hp1, hp2⟩ fun m ys υ4 k1 k2 k3 k4 k5 k6 => ?_
                simp (disch := omega) [Und, hlq, -Bool.exists_bool]
                refine ⟨b' - m, by omega, m, b', by omega, by omega, by omega, by omega, lq, hlq2, ⟨by omega, by omega, by omega⟩, ys, hZ3.trans k1, hQ3.trans (k2.mono ha1 hb1), .inr fun i i1 i2 => ?_, fun us u1 u2 => hF3 us (k2.trans (u1.mono (by omega) (Nat.le_refl _))) fun i j i1 i2 i3 => ?_⟩
                · have h8 := k5 (m - 1) (by omega) (by omega)
                  have h9 := k6 i i1 i2
                  omega
                · have um : ∀ q, a' ≤ q → q < m → kk us q = kk ys q := fun q _ _ => u1.kout (by omega)
                  have hge : ∀ q, a' ≤ q → q < b' → kk zs3 pq ≤ kk ys q := k2.all (P := fun z => kk zs3 pq ≤ z) fun q q3 q4 => by
                    rcases hB3 with h | h
                    · omega
                    · have := h q q3 q4
                      unfold kk at this ⊢
                      omega
                  have hup : ∀ q, m ≤ q → q < b' → kk zs3 pq < kk us q := u1.all (P := fun z => kk zs3 pq < z) fun q q3 q4 => k6 q q3 q4
                  by_cases e2 : j < m
                  · rw [um i i1 (by omega), um j (by omega) e2]
                    have h8 := k5 i i1 (by omega)
                    have h9 := hge j (by omega) i3
                    omega
                  · by_cases e3 : i < m
                    · rw [um i i1 e3]
                      have h8 := k5 i i1 e3
                      have h9 := hup j (by omega) i3
                      omega
                    · exact u2 i j (by omega) i2 i3
            · have c3' : ¬ (0 : Int) < a' := by omega
              have a0 : a' = 0 := by omega
              simp (disch := omega) [Und, hpq, hZ3.row, hrl, r1, q1, w1, c3', c3, ch', ch, -Bool.exists_bool]
              refine part_call hlm3 hZ3.row hzl3 (by omega) hzb3 (by omega) (by omega) ⟨hp1, hp2⟩ fun m al ys υ4 k1 k2 k3 k4 k5 k6 => ?_
              have hZ4 := hZ3.trans k1
              have hQ4 := hQ3.trans (k2.mono ha1 hb1)
              have hB4 := hB3.pi k2
              have d8 : ((b' : Int) - a').tdiv 8 = (((b' - a') / 8 : Nat) : Int) := by rw [Int.tdiv_eq_ediv_of_nonneg (by omega)]; omega
              by_cases c5 : m - a' < b' - m
              · have c5' : (m : Int) - a' < (b' : Int) - m := by omega
                simp (disch := omega) [Und, c5', d8, hlq, -Bool.exists_bool]
                refine ih (N - 1) (by omega) (by omega) (by rw [hZ4.only.lim]; exact hl) hZ4.row (hQ4.len.trans hn) hn2 (fun x hx => hbd x (hQ4.perm.mem_iff.1 hx)) k3 (by omega) hlq2 (by
                  rcases hB4 with h | h
                  · exact .inl h
                  · exact .inr fun i i1 i2 => h i i1 (by omega)) fun ws υ5 j1 j2 j3 => ?_
                simp (disch := omega) [Und, hlq, -Bool.exists_bool]
                have hZ5 := hZ4.trans j1
                have jm : kk ws m = kk ys m := j2.kout (by omega)
                refine ⟨b' - (m + 1), by omega, m + 1, b', by omega, by omega, by omega, by omega, lq, hlq2, ⟨by omega, by omega, by omega⟩, ws, hZ5, hQ4.trans (j2.mono (by omega) (by omega)), .inr fun i i1 i2 => ?_, fun us u1 u2 => hF3 us ((k2.trans (j2.mono (Nat.le_refl _) (by omega))).trans (u1.mono (by omega) (Nat.le_refl _))) fun i j i1 i2 i3 => ?_⟩
                · rw [show m + 1 - 1 = m by omega, jm, j2.kout (by omega)]; exact k6 i (by omega) i2
                · have um : ∀ q, a' ≤ q → q ≤ m → kk us q = kk ws q := fun q _ _ => u1.kout (by omega)
                  by_cases e1 : j < m
                  · rw [um i i1 (by omega), um j (by omega) (by omega)]; exact j3 i j i1 i2 e1
                  · have hlo : ∀ q, a' ≤ q → q < m → kk ws q ≤ kk ys m := j2.all (P := fun z => z ≤ kk ys m) fun q q1 q2 => by have := k5 q q1 q2; omega
                    have hup : ∀ q, m < q → q < b' → kk ys m ≤ kk us q := fun q q1 q2 => u1.all (P := fun z => kk ys m ≤ z) (fun q q1 q2 => by rw [j2.kout (by omega)]; exact k6 q (by omega) q2) q (by omega) q2
                    by_cases e2 : j = m
                    · rw [um i i1 (by omega), e2, um m k3 (Nat.le_refl _), jm]; exact hlo i i1 (by omega)
                    · by_cases e3 : m < i
                      · exact u2 i j (by omega) i2 i3
                      · have h8 := hup j (by omega) i3
                        by_cases e4 : i = m
                        · rw [e4, um m k3 (Nat.le_refl _), jm]; exact h8
                        · rw [um i i1 (by omega)]; have := hlo i i1 (by omega); omega
              · have c5' : ¬ (m : Int) - a' < (b' : Int) - m := by omega
                obtain ⟨m1, hm1, hm2⟩ : ∃ m1 : Nat, (m : Int) + 1 = m1 ∧ m1 = m + 1 := ⟨m + 1, by omega, rfl⟩
                simp (disch := omega) [Und, c5', d8, hlq, hm1, -Bool.exists_bool]
                refine ih (N - 1) (by omega) (by omega) (by rw [hZ4.only.lim]; exact hl) hZ4.row (hQ4.len.trans hn) hn2 (fun x hx => hbd x (hQ4.perm.mem_iff.1 hx)) (by omega) (by omega) hlq2 (.inr fun i i1 i2 => by rw [show m1 - 1 = m by omega]; exact k6 i (by omega) i2) fun ws υ5 j1 j2 j3 => ?_
                simp (disch := omega) [Und, hlq, -Bool.exists_bool]
                have hZ5 := hZ4.trans j1
                have jm : kk ws m = kk ys m := j2.kout (by omega)
                refine ⟨m - a', by omega, a', m, by omega, by omega, by omega, by omega, lq, hlq2, ⟨by omega, by omega, by omega⟩, ws, hZ5, hQ4.trans (j2.mono (by omega) (by omega)), ?_, fun us u1 u2 => hF3 us ((k2.trans (j2.mono (by omega) (Nat.le_refl _))).trans (u1.mono (Nat.le_refl _) (by omega))) fun i j i1 i2 i3 => ?_⟩
                · rcases hB4 with h | h
                  · exact .inl h
                  · by_cases h0 : a' = 0
                    · exact .inl h0
                    · refine .inr fun i i1 i2 => ?_
                      rw [j2.kout (i := a' - 1) (by omega), j2.kout (i := i) (by omega)]; exact h i i1 (by omega)
                · have um : ∀ q, m ≤ q → q < b' → kk us q = kk ws q := fun q _ _ => u1.kout (by omega)
                  by_cases e1 : m < i
                  · rw [um i (by omega) (by omega), um j (by omega) i3]; exact j3 i j (by omega) i2 i3
                  · have hlo : ∀ q, a' ≤ q → q < m → kk us q ≤ kk ys m := u1.all (P := fun z => z ≤ kk ys m) fun q q1 q2 => by
                      rw [j2.kout (by omega)]; have := k5 q q1 q2; omega
                    have hup : ∀ q, m < q → q < b' → kk ys m ≤ kk ws q := fun q q1 q2 => j2.all (P := fun z => kk ys m ≤ z) (fun q q1 q2 => k6 q (by omega) q2) q (by omega) q2
                    by_cases e2 : j < m
                    · exact u2 i j i1 i2 e2
                    · by_cases e3 : j = m
                      · rw [e3, um m (Nat.le_refl _) (by omega), jm]; exact hlo i i1 (by omega)
                      · have h8 := hup j (by omega) i3
                        rw [um j (by omega) i3]
                        by_cases e4 : i = m
                        · rw [e4, um m (Nat.le_refl _) (by omega), jm]; exact h8
                        · have := hlo i i1 (by omega); omega
          · by_cases c7 : h = 1
            · obtain ⟨d, hd1, hd2⟩ := pins_ok zs3.isEmpty zs3 a' b' (by have := hQ3.len; omega) (fun x hx => hbd x (hQ3.perm.mem_iff.1 hx)) (by omega) (by have := hQ3.len; omega)
              have hsn : Snap υ3 (.slice (some (o, 0)) n (.op 2)) [o] (vl eSpan zs3.isEmpty zs3) := by
                have h8 : Buf 0 2 eSpan υ3 (.slice (some (o, 0)) n (.op 2)) zs3 := .inr ⟨o, by rw [hQ3.len, hn], Nat.zero_le _, hZ3.row, fun h => by have := hQ3.len; rw [h] at this; simp at this; omega⟩
                exact h8.snapS encSpan flatSpan
              have hss : Snaps υ3 [.slice (some (o, 0)) n (.op 2), .int .i64 a', .int .i64 b', cmpF] ([o] ++ ([] ++ ([] ++ ([] ++ [])))) [vl eSpan zs3.isEmpty zs3, .int .i64 a', .int .i64 b', cmpF] := .cons hsn (.cons (Snap.int _ _ _) (.cons (Snap.int _ _ _) (.cons ⟨rfl, fun _ _ => rfl⟩ .nil)))
              simp (disch := omega) [Und, ch', ch, c7, -Bool.exists_bool]
              refine pc_scal hss (fun h => by cases h) (by simp) (oo (args := []) (by decide)).1 hd1 rfl ?_
              cases d
              · have hzl3 : zs3.length = n := hQ3.len.trans hn
                have hlm3 : υ3.lim ≤ o := by rw [hZ3.only.lim]; exact hl
                have hzb3 : ∀ x ∈ zs3, bd x := fun x hx => hbd x (hQ3.perm.mem_iff.1 hx)
                have sz : ∀ j, j < zs3.length → bd (nth zs3 j) := fun j hj => hzb3 _ (nth_mem hj)
                have hrl := rowOf_length encSpan zs3
                have r1 := row_at encSpan (xs := zs3) (j := pq) (by omega)
                have q1 : pq < n := by omega
                have w1 : pq * 2 + 2 ≤ zs3.length * 2 := by omega
                by_cases c3 : 0 < a'
                · have c3' : (0 : Int) < a' := by omega
                  have r0 := row_at encSpan (xs := zs3) (j := a' - 1) (by omega)
                  have e1 : ((a' : Int) - 1).toNat = a' - 1 := by omega
                  have q0 : (a' : Int) - 1 < n := by omega
                  have q2 : 1 ≤ (a' : Int) := by omega
                  have w0 : (a' - 1) * 2 + 2 ≤ zs3.length * 2 := by omega
                  have hcmp := cmpS_ok (nth zs3 (a' - 1)) (nth zs3 pq) (sz _ (by omega)) (sz _ (by omega))
                  by_cases c4 : (nth zs3 (a' - 1)).lo - (nth zs3 pq).lo < 0
                  · simp (disch := omega) [Und, hpq, hZ3.row, hrl, r0, r1, e1, q0, q1, q2, w0, w1, c3', c3, hcmp, c4, ch', ch, c7, -Bool.exists_bool]
                    refine part_call hlm3 hZ3.row hzl3 (by omega) hzb3 (by omega) (by omega) ⟨hp1, hp2⟩ fun m al ys υ4 k1 k2 k3 k4 k5 k6 => ?_
                    have hZ4 := hZ3.trans k1
                    have hQ4 := hQ3.trans (k2.mono ha1 hb1)
                    have hB4 := hB3.pi k2
                    have d8 : ((b' : Int) - a').tdiv 8 = (((b' - a') / 8 : Nat) : Int) := by rw [Int.tdiv_eq_ediv_of_nonneg (by omega)]; omega
                    by_cases c5 : m - a' < b' - m
                    · have c5' : (m : Int) - a' < (b' : Int) - m := by omega
                      simp (disch := omega) [Und, c5', d8, hlq, -Bool.exists_bool]
                      refine ih (N - 1) (by omega) (by omega) (by rw [hZ4.only.lim]; exact hl) hZ4.row (hQ4.len.trans hn) hn2 (fun x hx => hbd x (hQ4.perm.mem_iff.1 hx)) k3 (by omega) hlq2 (by
                        rcases hB4 with h | h
                        · exact .inl h
                        · exact .inr fun i i1 i2 => h i i1 (by omega)) fun ws υ5 j1 j2 j3 => ?_
                      simp (disch := omega) [Und, hlq, -Bool.exists_bool]
                      have hZ5 := hZ4.trans j1
                      have jm : kk ws m = kk ys m := j2.kout (by omega)
                      refine ⟨b' - (m + 1), by omega, m + 1, b', by omega, by omega, by omega, by omega, lq, hlq2, ⟨by omega, by omega, by omega⟩, ws, hZ5, hQ4.trans (j2.mono (by omega) (by omega)), .inr fun i i1 i2 => ?_, fun us u1 u2 => hF3 us ((k2.trans (j2.mono (Nat.le_refl _) (by omega))).trans (u1.mono (by omega) (Nat.le_refl _))) fun i j i1 i2 i3 => ?_⟩
                      · rw [show m + 1 - 1 = m by omega, jm, j2.kout (by omega)]; exact k6 i (by omega) i2
                      · have um : ∀ q, a' ≤ q → q ≤ m → kk us q = kk ws q := fun q _ _ => u1.kout (by omega)
                        by_cases e1 : j < m
                        · rw [um i i1 (by omega), um j (by omega) (by omega)]; exact j3 i j i1 i2 e1
                        · have hlo : ∀ q, a' ≤ q → q < m → kk ws q ≤ kk ys m := j2.all (P := fun z => z ≤ kk ys m) fun q q1 q2 => by have := k5 q q1 q2; omega
                          have hup : ∀ q, m < q → q < b' → kk ys m ≤ kk us q := fun q q1 q2 => u1.all (P := fun z => kk ys m ≤ z) (fun q q1 q2 => by rw [j2.kout (by omega)]; exact k6 q (by omega) q2) q (by omega) q2
                          by_cases e2 : j = m
                          · rw [um i i1 (by omega), e2, um m k3 (Nat.le_refl _), jm]; exact hlo i i1 (by omega)
                          · by_cases e3 : m < i
                            · exact u2 i j (by omega) i2 i3
                            · have h8 := hup j (by omega) i3
                              by_cases e4 : i = m
                              · rw [e4, um m k3 (Nat.le_refl _), jm]; exact h8
                              · rw [um i i1 (by omega)]; have := hlo i i1 (by omega); omega
                    · have c5' : ¬ (m : Int) - a' < (b' : Int) - m := by omega
                      obtain ⟨m1, hm1, hm2⟩ : ∃ m1 : Nat, (m : Int) + 1 = m1 ∧ m1 = m + 1 := ⟨m + 1, by omega, rfl⟩
                      simp (disch := omega) [Und, c5', d8, hlq, hm1, -Bool.exists_bool]
                      refine ih (N - 1) (by omega) (by omega) (by rw [hZ4.only.lim]; exact hl) hZ4.row (hQ4.len.trans hn) hn2 (fun x hx => hbd x (hQ4.perm.mem_iff.1 hx)) (by omega) (by omega) hlq2 (.inr fun i i1 i2 => by rw [show m1 - 1 = m by omega]; exact k6 i (by omega) i2) fun ws υ5 j1 j2 j3 => ?_
                      simp (disch := omega) [Und, hlq, -Bool.exists_bool]
                      have hZ5 := hZ4.trans j1
                      have jm : kk ws m = kk ys m := j2.kout (by omega)
                      refine ⟨m - a', by omega, a', m, by omega, by omega, by omega, by omega, lq, hlq2, ⟨by omega, by omega, by omega⟩, ws, hZ5, hQ4.trans (j2.mono (by omega) (by omega)), ?_, fun us u1 u2 => hF3 us ((k2.trans (j2.mono (by omega) (Nat.le_refl _))).trans (u1.mono (Nat.le_refl _) (by omega))) fun i j i1 i2 i3 => ?_⟩
                      · rcases hB4 with h | h
                        · exact .inl h
                        · by_cases h0 : a' = 0
                          · exact .inl h0
                          · refine .inr fun i i1 i2 => ?_
                            rw [j2.kout (i := a' - 1) (by omega), j2.kout (i := i) (by omega)]; exact h i i1 (by omega)
                      · have um : ∀ q, m ≤ q → q < b' → kk us q = kk ws q := fun q _ _ => u1.kout (by omega)
                        by_cases e1 : m < i
                        · rw [um i (by omega) (by omega), um j (by omega) i3]; exact j3 i j (by omega) i2 i3
                        · have hlo : ∀ q, a' ≤ q → q < m → kk us q ≤ kk ys m := u1.all (P := fun z => z ≤ kk ys m) fun q q1 q2 => by
                            rw [j2.kout (by omega)]; have := k5 q q1 q2; omega
                          have hup : ∀ q, m < q → q < b' → kk ys m ≤ kk ws q := fun q q1 q2 => j2.all (P := fun z => kk ys m ≤ z) (fun q q1 q2 => k6 q (by omega) q2) q (by omega) q2
                          by_cases e2 : j < m
                          · exact u2 i j i1 i2 e2
                          · by_cases e3 : j = m
                            · rw [e3, um m (Nat.le_refl _) (by omega), jm]; exact hlo i i1 (by omega)
                            · have h8 := hup j (by omega) i3
                              rw [um j (by omega) i3]
                              by_cases e4 : i = m
                              · rw [e4, um m (Nat.le_refl _) (by omega), jm]; exact h8
                              · have := hlo i i1 (by omega); omega
                  · simp (disch := omega) [Und, hpq, hZ3.row, hrl, r0, r1, e1, q0, q1, q2, w0, w1, c3', c3, hcmp, c4, ch', ch, c7, -Bool.exists_bool]
                    refine parteq_call hlm3 hZ3.row hzl3 (by omega) hzb3 (by omega) (by omega) ⟨hp1, hp2⟩ fun m ys υ4 k1 k2 k3 k4 k5 k6 => ?_
                    simp (disch := omega) [Und, hlq, -Bool.exists_bool]
                    refine ⟨b' - m, by omega, m, b', by omega, by omega, by omega, by omega, lq, hlq2, ⟨by omega, by omega, by omega⟩, ys, hZ3.trans k1, hQ3.trans (k2.mono ha1 hb1), .inr fun i i1 i2 => ?_, fun us u1 u2 => hF3 us (k2.trans (u1.mono (by omega) (Nat.le_refl _))) fun i j i1 i2 i3 => ?_⟩
                    · have h8 := k5 (m - 1) (by omega) (by omega)
                      have h9 := k6 i i1 i2
                      omega
                    · have um : ∀ q, a' ≤ q → q < m → kk us q = kk ys q := fun q _ _ => u1.kout (by omega)
                      have hge : ∀ q, a' ≤ q → q < b' → kk zs3 pq ≤ kk ys q := k2.all (P := fun z => kk zs3 pq ≤ z) fun q q3 q4 => by
                        rcases hB3 with h | h
                        · omega
                        · have := h q q3 q4
                          unfold kk at this ⊢
                          omega
                      have hup : ∀ q, m ≤ q → q < b' → kk zs3 pq < kk us q := u1.all (P := fun z => kk zs3 pq < z) fun q q3 q4 => k6 q q3 q4
                      by_cases e2 : j < m
                      · rw [um i i1 (by omega), um j (by omega) e2]
                        have h8 := k5 i i1 (by omega)
                        have h9 := hge j (by omega) i3
                        omega
                      · by_cases e3 : i < m
                        · rw [um i i1 e3]
                          have h8 := k5 i i1 e3
                          have h9 := hup j (by omega) i3
                          omega
                        · exact u2 i j (by omega) i2 i3
                · have c3' : ¬ (0 : Int) < a' := by omega
                  have a0 : a' = 0 := by omega
                  simp (disch := omega) [Und, hpq, hZ3.row, hrl, r1, q1, w1, c3', c3, ch', ch, c7, -Bool.exists_bool]
                  refine part_call hlm3 hZ3.row hzl3 (by omega) hzb3 (by omega) (by omega) ⟨hp1, hp2⟩ fun m al ys υ4 k1 k2 k3 k4 k5 k6 => ?_
                  have hZ4 := hZ3.trans k1
                  have hQ4 := hQ3.trans (k2.mono ha1 hb1)
                  have hB4 := hB3.pi k2
                  have d8 : ((b' : Int) - a').tdiv 8 = (((b' - a') / 8 : Nat) : Int) := by rw [Int.tdiv_eq_ediv_of_nonneg (by omega)]; omega
                  by_cases c5 : m - a' < b' - m
                  · have c5' : (m : Int) - a' < (b' : Int) - m := by omega
                    simp (disch := omega) [Und, c5', d8, hlq, -Bool.exists_bool]
                    refine ih (N - 1) (by omega) (by omega) (by rw [hZ4.only.lim]; exact hl) hZ4.row (hQ4.len.trans hn) hn2 (fun x hx => hbd x (hQ4.perm.mem_iff.1 hx)) k3 (by omega) hlq2 (by
                      rcases hB4 with h | h
                      · exact .inl h
                      · exact .inr fun i i1 i2 => h i i1 (by omega)) fun ws υ5 j1 j2 j3 => ?_
                    simp (disch := omega) [Und, hlq, -Bool.exists_bool]
                    have hZ5 := hZ4.trans j1
                    have jm : kk ws m = kk ys m := j2.kout (by omega)
                    refine ⟨b' - (m + 1), by omega, m + 1, b', by omega, by omega, by omega, by omega, lq, hlq2, ⟨by omega, by omega, by omega⟩, ws, hZ5, hQ4.trans (j2.mono (by omega) (by omega)), .inr fun i i1 i2 => ?_, fun us u1 u2 => hF3 us ((k2.trans (j2.mono (Nat.le_refl _) (by omega))).trans (u1.mono (by omega) (Nat.le_refl _))) fun i j i1 i2 i3 => ?_⟩
                    · rw [show m + 1 - 1 = m by omega, jm, j2.kout (by omega)]; exact k6 i (by omega) i2
                    · have um : ∀ q, a' ≤ q → q ≤ m → kk us q = kk ws q := fun q _ _ => u1.kout (by omega)
                      by_cases e1 : j < m
                      · rw [um i i1 (by omega), um j (by omega) (by omega)]; exact j3 i j i1 i2 e1
                      · have hlo : ∀ q, a' ≤ q → q < m → kk ws q ≤ kk ys m := j2.all (P := fun z => z ≤ kk ys m) fun q q1 q2 => by have := k5 q q1 q2; omega
                        have hup : ∀ q, m < q → q < b' → kk ys m ≤ kk us q := fun q q1 q2 => u1.all (P := fun z => kk ys m ≤ z) (fun q q1 q2 => by rw [j2.kout (by omega)]; exact k6 q (by omega) q2) q (by omega) q2
                        by_cases e2 : j = m
                        · rw [um i i1 (by omega), e2, um m k3 (Nat.le_refl _), jm]; exact hlo i i1 (by omega)
                        · by_cases e3 : m < i
                          · exact u2 i j (by omega) i2 i3
                          · have h8 := hup j (by omega) i3
                            by_cases e4 : i = m
                            · rw [e4, um m k3 (Nat.le_refl _), jm]; exact h8
                            · rw [um i i1 (by omega)]; have := hlo i i1 (by omega); omega
                  · have c5' : ¬ (m : Int) - a' < (b' : Int) - m := by omega
                    obtain ⟨m1, hm1, hm2⟩ : ∃ m1 : Nat, (m : Int) + 1 = m1 ∧ m1 = m + 1 := ⟨m + 1, by omega, rfl⟩
                    simp (disch := omega) [Und, c5', d8, hlq, hm1, -Bool.exists_bool]
                    refine ih (N - 1) (by omega) (by omega) (by rw [hZ4.only.lim]; exact hl) hZ4.row (hQ4.len.trans hn) hn2 (fun x hx => hbd x (hQ4.perm.mem_iff.1 hx)) (by omega) (by omega) hlq2 (.inr fun i i1 i2 => by rw [show m1 - 1 = m by omega]; exact k6 i (by omega) i2) fun ws υ5 j1 j2 j3 => ?_
                    simp (disch := omega) [Und, hlq, -Bool.exists_bool]
                    have hZ5 := hZ4.trans j1
                    have jm : kk ws m = kk ys m := j2.kout (by omega)
                    refine ⟨m - a', by omega, a', m, by omega, by omega, by omega, by omega, lq, hlq2, ⟨by omega, by omega, by omega⟩, ws, hZ5, hQ4.trans (j2.mono (by omega) (by omega)), ?_, fun us u1 u2 => hF3 us ((k2.trans (j2.mono (by omega) (Nat.le_refl _))).trans (u1.mono (Nat.le_refl _) (by omega))) fun i j i1 i2 i3 => ?_⟩
                    · rcases hB4 with h | h
                      · exact .inl h
                      · by_cases h0 : a' = 0
                        · exact .inl h0
                        · refine .inr fun i i1 i2 => ?_
                          rw [j2.kout (i := a' - 1) (by omega), j2.kout (i := i) (by omega)]; exact h i i1 (by omega)
                    · have um : ∀ q, m ≤ q → q < b' → kk us q = kk ws q := fun q _ _ => u1.kout (by omega)
                      by_cases e1 : m < i
                      · rw [um i (by omega) (by omega), um j (by omega) i3]; exact j3 i j (by omega) i2 i3
                      · have hlo : ∀ q, a' ≤ q → q < m → kk us q ≤ kk ys m := u1.all (P := fun z => z ≤ kk ys m) fun q q1 q2 => by
                          rw [j2.kout (by omega)]; have := k5 q q1 q2; omega
                        have hup : ∀ q, m < q → q < b' → kk ys m ≤ kk ws q := fun q q1 q2 => j2.all (P := fun z => kk ys m ≤ z) (fun q q1 q2 => k6 q (by omega) q2) q (by omega) q2
                        by_cases e2 : j < m
                        · exact u2 i j i1 i2 e2
                        · by_cases e3 : j = m
                          · rw [e3, um m (Nat.le_refl _) (by omega), jm]; exact hlo i i1 (by omega)
                          · have h8 := hup j (by omega) i3
                            rw [um j (by omega) i3]
                            by_cases e4 : i = m
                            · rw [e4, um m (Nat.le_refl _) (by omega), jm]; exact h8
                            · have := hlo i i1 (by omega); omega
              · simp (disch := omega) [Und, ch', ch, c7, -Bool.exists_bool]
                exact hK zs3 υ3 hZ3 hQ3 (hF3 zs3 (.refl _ _ _) (hd2 rfl))
            · have c7' : ¬ (h : Int) = 1 := by omega
              have hzl3 : zs3.length = n := hQ3.len.trans hn
              have hlm3 : υ3.lim ≤ o := by rw [hZ3.only.lim]; exact hl
              have hzb3 : ∀ x ∈ zs3, bd x := fun x hx => hbd x (hQ3.perm.mem_iff.1 hx)
              have sz : ∀ j, j < zs3.length → bd (nth zs3 j) := fun j hj => hzb3 _ (nth_mem hj)
              have hrl := rowOf_length encSpan zs3
              have r1 := row_at encSpan (xs := zs3) (j := pq) (by omega)
              have q1 : pq < n := by omega
              have w1 : pq * 2 + 2 ≤ zs3.length * 2 := by omega
              by_cases c3 : 0 < a'
              · have c3' : (0 : Int) < a' := by omega
                have r0 := row_at encSpan (xs := zs3) (j := a' - 1) (by omega)
                have e1 : ((a' : Int) - 1).toNat = a' - 1 := by omega
                have q0 : (a' : Int) - 1 < n := by omega
                have q2 : 1 ≤ (a' : Int) := by omega
                have w0 : (a' - 1) * 2 + 2 ≤ zs3.length * 2 := by omega
                have hcmp := cmpS_ok (nth zs3 (a' - 1)) (nth zs3 pq) (sz _ (by omega)) (sz _ (by omega))
                by_cases c4 : (nth zs3 (a' - 1)).lo - (nth zs3 pq).lo < 0
                · simp (disch := omega) [Und, hpq, hZ3.row, hrl, r0, r1, e1, q0, q1, q2, w0, w1, c3', c3, hcmp, c4, ch', ch, c7', c7, -Bool.exists_bool]
                  refine part_call hlm3 hZ3.row hzl3 (by omega) hzb3 (by omega) (by omega) ⟨hp1, hp2⟩ fun m al ys υ4 k1 k2 k3 k4 k5 k6 => ?_
                  have hZ4 := hZ3.trans k1
                  have hQ4 := hQ3.trans (k2.mono ha1 hb1)
                  have hB4 := hB3.pi k2
                  have d8 : ((b' : Int) - a').tdiv 8 = (((b' - a') / 8 : Nat) : Int) := by rw [Int.tdiv_eq_ediv_of_nonneg (by omega)]; omega
                  by_cases c5 : m - a' < b' - m
                  · have c5' : (m : Int) - a' < (b' : Int) - m := by omega
                    simp (disch := omega) [Und, c5', d8, hlq, -Bool.exists_bool]
                    refine ih (N - 1) (by omega) (by omega) (by rw [hZ4.only.lim]; exact hl) hZ4.row (hQ4.len.trans hn) hn2 (fun x hx => hbd x (hQ4.perm.mem_iff.1 hx)) k3 (by omega) hlq2 (by
                      rcases hB4 with h | h
                      · exact .inl h
                      · exact .inr fun i i1 i2 => h i i1 (by omega)) fun ws υ5 j1 j2 j3 => ?_
                    simp (disch := omega) [Und, hlq, -Bool.exists_bool]
                    have hZ5 := hZ4.trans j1
                    have jm : kk ws m = kk ys m := j2.kout (by omega)
                    refine ⟨b' - (m + 1), by omega, m + 1, b', by omega, by omega, by omega, by omega, lq, hlq2, ⟨by omega, by omega, by omega⟩, ws, hZ5, hQ4.trans (j2.mono (by omega) (by omega)), .inr fun i i1 i2 => ?_, fun us u1 u2 => hF3 us ((k2.trans (j2.mono (Nat.le_refl _) (by omega))).trans (u1.mono (by omega) (Nat.le_refl _))) fun i j i1 i2 i3 => ?_⟩
                    · rw [show m + 1 - 1 = m by omega, jm, j2.kout (by omega)]; exact k6 i (by omega) i2
                    · have um : ∀ q, a' ≤ q → q ≤ m → kk us q = kk ws q := fun q _ _ => u1.kout (by omega)
                      by_cases e1 : j < m
                      · rw [um i i1 (by omega), um j (by omega) (by omega)]; exact j3 i j i1 i2 e1
                      · have hlo : ∀ q, a' ≤ q → q < m → kk ws q ≤ kk ys m := j2.all (P := fun z => z ≤ kk ys m) fun q q1 q2 => by have := k5 q q1 q2; omega
                        have hup : ∀ q, m < q → q < b' → kk ys m ≤ kk us q := fun q q1 q2 => u1.all (P := fun z => kk ys m ≤ z) (fun q q1 q2 => by rw [j2.kout (by omega)]; exact k6 q (by omega) q2) q (by omega) q2
                        by_cases e2 : j = m
                        · rw [um i i1 (by omega), e2, um m k3 (Nat.le_refl _), jm]; exact hlo i i1 (by omega)
                        · by_cases e3 : m < i
                          · exact u2 i j (by omega) i2 i3
                          · have h8 := hup j (by omega) i3
                            by_cases e4 : i = m
                            · rw [e4, um m k3 (Nat.le_refl _), jm]; exact h8
                            · rw [um i i1 (by omega)]; have := hlo i i1 (by omega); omega
                  · have c5' : ¬ (m : Int) - a' < (b' : Int) - m := by omega
                    obtain ⟨m1, hm1, hm2⟩ : ∃ m1 : Nat, (m : Int) + 1 = m1 ∧ m1 = m + 1 := ⟨m + 1, by omega, rfl⟩
                    simp (disch := omega) [Und, c5', d8, hlq, hm1, -Bool.exists_bool]
                    refine ih (N - 1) (by omega) (by omega) (by rw [hZ4.only.lim]; exact hl) hZ4.row (hQ4.len.trans hn) hn2 (fun x hx => hbd x (hQ4.perm.mem_iff.1 hx)) (by omega) (by omega) hlq2 (.inr fun i i1 i2 => by rw [show m1 - 1 = m by omega]; exact k6 i (by omega) i2) fun ws υ5 j1 j2 j3 => ?_
                    simp (disch := omega) [Und, hlq, -Bool.exists_bool]
                    have hZ5 := hZ4.trans j1
                    have jm : kk ws m = kk ys m := j2.kout (by omega)
                    refine ⟨m - a', by omega, a', m, by omega, by omega, by omega, by omega, lq, hlq2, ⟨by omega, by omega, by omega⟩, ws, hZ5, hQ4.trans (j2.mono (by omega) (by omega)), ?_, fun us u1 u2 => hF3 us ((k2.trans (j2.mono (by omega) (Nat.le_refl _))).trans (u1.mono (Nat.le_refl _) (by omega))) fun i j i1 i2 i3 => ?_⟩
                    · rcases hB4 with h | h
                      · exact .inl h
                      · by_cases h0 : a' = 0
                        · exact .inl h0
                        · refine .inr fun i i1 i2 => ?_
                          rw [j2.kout (i := a' - 1) (by omega), j2.kout (i := i) (by omega)]; exact h i i1 (by omega)
                    · have um : ∀ q, m ≤ q → q < b' → kk us q = kk ws q := fun q _ _ => u1.kout (by omega)
                      by_cases e1 : m < i
                      · rw [um i (by omega) (by omega), um j (by omega) i3]; exact j3 i j (by omega) i2 i3
                      · have hlo : ∀ q, a' ≤ q → q < m → kk us q ≤ kk ys m := u1.all (P := fun z => z ≤ kk ys m) fun q q1 q2 => by
                          rw [j2.kout (by omega)]; have := k5 q q1 q2; omega
                        have hup : ∀ q, m < q → q < b' → kk ys m ≤ kk ws q := fun q q1 q2 => j2.all (P := fun z => kk ys m ≤ z) (fun q q1 q2 => k6 q (by omega) q2) q (by omega) q2
                        by_cases e2 : j < m
                        · exact u2 i j i1 i2 e2
                        · by_cases e3 : j = m
                          · rw [e3, um m (Nat.le_refl _) (by omega), jm]; exact hlo i i1 (by omega)
                          · have h8 := hup j (by omega) i3
                            rw [um j (by omega) i3]
                            by_cases e4 : i = m
                            · rw [e4, um m (Nat.le_refl _) (by omega), jm]; exact h8
                            · have := hlo i i1 (by omega); omega
                · simp (disch := omega) [Und, hpq, hZ3.row, hrl, r0, r1, e1, q0, q1, q2, w0, w1, c3', c3, hcmp, c4, ch', ch, c7', c7, -Bool.exists_bool]
                  refine parteq_call hlm3 hZ3.row hzl3 (by omega) hzb3 (by omega) (by omega) ⟨hp1, hp2⟩ fun m ys υ4 k1 k2 k3 k4 k5 k6 => ?_
                  simp (disch := omega) [Und, hlq, -Bool.exists_bool]
                  refine ⟨b' - m, by omega, m, b', by omega, by omega, by omega, by omega, lq, hlq2, ⟨by omega, by omega, by omega⟩, ys, hZ3.trans k1, hQ3.trans (k2.mono ha1 hb1), .inr fun i i1 i2 => ?_, fun us u1 u2 => hF3 us (k2.trans (u1.mono (by omega) (Nat.le_refl _))) fun i j i1 i2 i3 => ?_⟩
                  · have h8 := k5 (m - 1) (by omega) (by omega)
                    have h9 := k6 i i1 i2
                    omega
                  · have um : ∀ q, a' ≤ q → q < m → kk us q = kk ys q := fun q _ _ => u1.kout (by omega)
                    have hge : ∀ q, a' ≤ q → q < b' → kk zs3 pq ≤ kk ys q := k2.all (P := fun z => kk zs3 pq ≤ z) fun q q3 q4 => by
                      rcases hB3 with h | h
                      · omega
                      · have := h q q3 q4
                        unfold kk at this ⊢
                        omega
                    have hup : ∀ q, m ≤ q → q < b' → kk zs3 pq < kk us q := u1.all (P := fun z => kk zs3 pq < z) fun q q3 q4 => k6 q q3 q4
                    by_cases e2 : j < m
                    · rw [um i i1 (by omega), um j (by omega) e2]
                      have h8 := k5 i i1 (by omega)
                      have h9 := hge j (by omega) i3
                      omega
                    · by_cases e3 : i < m
                      · rw [um i i1 e3]
                        have h8 := k5 i i1 e3
                        have h9 := hup j (by omega) i3
                        omega
                      · exact u2 i j (by omega) i2 i3
              · have c3' : ¬ (0 : Int) < a' := by omega
                have a0 : a' = 0 := by omega
                simp (disch := omega) [Und, hpq, hZ3.row, hrl, r1, q1, w1, c3', c3, ch', ch, c7', c7, -Bool.exists_bool]
                refine part_call hlm3 hZ3.row hzl3 (by omega) hzb3 (by omega) (by omega) ⟨hp1, hp2⟩ fun m al ys υ4 k1 k2 k3 k4 k5 k6 => ?_
                have hZ4 := hZ3.trans k1
                have hQ4 := hQ3.trans (k2.mono ha1 hb1)
                have hB4 := hB3.pi k2
                have d8 : ((b' : Int) - a').tdiv 8 = (((b' - a') / 8 : Nat) : Int) := by rw [Int.tdiv_eq_ediv_of_nonneg (by omega)]; omega
                by_cases c5 : m - a' < b' - m
                · have c5' : (m : Int) - a' < (b' : Int) - m := by omega
                  simp (disch := omega) [Und, c5', d8, hlq, -Bool.exists_bool]
                  refine ih (N - 1) (by omega) (by omega) (by rw [hZ4.only.lim]; exact hl) hZ4.row (hQ4.len.trans hn) hn2 (fun x hx => hbd x (hQ4.perm.mem_iff.1 hx)) k3 (by omega) hlq2 (by
                    rcases hB4 with h | h
                    · exact .inl h
                    · exact .inr fun i i1 i2 => h i i1 (by omega)) fun ws υ5 j1 j2 j3 => ?_
                  simp (disch := omega) [Und, hlq, -Bool.exists_bool]
                  have hZ5 := hZ4.trans j1
                  have jm : kk ws m = kk ys m := j2.kout (by omega)
                  refine ⟨b' - (m + 1), by omega, m + 1, b', by omega, by omega, by omega, by omega, lq, hlq2, ⟨by omega, by omega, by omega⟩, ws, hZ5, hQ4.trans (j2.mono (by omega) (by omega)), .inr fun i i1 i2 => ?_, fun us u1 u2 => hF3 us ((k2.trans (j2.mono (Nat.le_refl _) (by omega))).trans (u1.mono (by omega) (Nat.le_refl _))) fun i j i1 i2 i3 => ?_⟩
                  · rw [show m + 1 - 1 = m by omega, jm, j2.kout (by omega)]; exact k6 i (by omega) i2
                  · have um : ∀ q, a' ≤ q → q ≤ m → kk us q = kk ws q := fun q _ _ => u1.kout (by omega)
                    by_cases e1 : j < m
                    · rw [um i i1 (by omega), um j (by omega) (by omega)]; exact j3 i j i1 i2 e1
                    · have hlo : ∀ q, a' ≤ q → q < m → kk ws q ≤ kk ys m := j2.all (P := fun z => z ≤ kk ys m) fun q q1 q2 => by have := k5 q q1 q2; omega
                      have hup : ∀ q, m < q → q < b' → kk ys m ≤ kk us q := fun q q1 q2 => u1.all (P := fun z => kk ys m ≤ z) (fun q q1 q2 => by rw [j2.kout (by omega)]; exact k6 q (by omega) q2) q (by omega) q2
                      by_cases e2 : j = m
                      · rw [um i i1 (by omega), e2, um m k3 (Nat.le_refl _), jm]; exact hlo i i1 (by omega)
                      · by_cases e3 : m < i
                        · exact u2 i j (by omega) i2 i3
                        · have h8 := hup j (by omega) i3
                          by_cases e4 : i = m
                          · rw [e4, um m k3 (Nat.le_refl _), jm]; exact h8
                          · rw [um i i1 (by omega)]; have := hlo i i1 (by omega); omega
                · have c5' : ¬ (m : Int) - a' < (b' : Int) - m := by omega
                  obtain ⟨m1, hm1, hm2⟩ : ∃ m1 : Nat, (m : Int) + 1 = m1 ∧ m1 = m + 1 := ⟨m + 1, by omega, rfl⟩
                  simp (disch := omega) [Und, c5', d8, hlq, hm1, -Bool.exists_bool]
                  refine ih (N - 1) (by omega) (by omega) (by rw [hZ4.only.lim]; exact hl) hZ4.row (hQ4.len.trans hn) hn2 (fun x hx => hbd x (hQ4.perm.mem_iff.1 hx)) (by omega) (by omega) hlq2 (.inr fun i i1 i2 => by rw [show m1 - 1 = m by omega]; exact k6 i (by omega) i2) fun ws υ5 j1 j2 j3 => ?_
                  simp (disch := omega) [Und, hlq, -Bool.exists_bool]
                  have hZ5 := hZ4.trans j1
                  have jm : kk ws m = kk ys m := j2.kout (by omega)
                  refine ⟨m - a', by omega, a', m, by omega, by omega, by omega, by omega, lq, hlq2, ⟨by omega, by omega, by omega⟩, ws, hZ5, hQ4.trans (j2.mono (by omega) (by omega)), ?_, fun us u1 u2 => hF3 us ((k2.trans (j2.mono (by omega) (Nat.le_refl _))).trans (u1.mono (Nat.le_refl _) (by omega))) fun i j i1 i2 i3 => ?_⟩
                  · rcases hB4 with h | h
                    · exact .inl h
                    · by_cases h0 : a' = 0
                      · exact .inl h0
                      · refine .inr fun i i1 i2 => ?_
                        rw [j2.kout (i := a' - 1) (by omega), j2.kout (i := i) (by omega)]; exact h i i1 (by omega)
                  · have um : ∀ q, m ≤ q → q < b' → kk us q = kk ws q := fun q _ _ => u1.kout (by omega)
                    by_cases e1 : m < i
                    · rw [um i (by omega) (by omega), um j (by omega) i3]; exact j3 i j (by omega) i2 i3
                    · have hlo : ∀ q, a' ≤ q → q < m → kk us q ≤ kk ys m := u1.all (P := fun z => z ≤ kk ys m) fun q q1 q2 => by
                        rw [j2.kout (by omega)]; have := k5 q q1 q2; omega
                      have hup : ∀ q, m < q → q < b' → kk ys m ≤ kk ws q := fun q q1 q2 => j2.all (P := fun z => kk ys m ≤ z) (fun q q1 q2 => k6 q (by omega) q2) q (by omega) q2
                      by_cases e2 : j < m
                      · exact u2 i j i1 i2 e2
                      · by_cases e3 : j = m
                        · rw [e3, um m (Nat.le_refl _) (by omega), jm]; exact hlo i i1 (by omega)
                        · have h8 := hup j (by omega) i3
                          rw [um j (by omega) i3]
                          by_cases e4 : i = m
                          · rw [e4, um m (Nat.le_refl _) (by omega), jm]; exact h8
                          · have := hlo i i1 (by omega); omega
end Go.Oct.Fix
