/- TopStockbook: the law. -/
import Derived.Test.YtddkghgfbhhcdaaGreatDoorOStkStbW
import Derived.Test.YtddkghgfbhhcdaaGreatDoorOStkResW
import Derived.Test.YtddkghgfbhhcdaaGreatDoorOT3
set_option maxRecDepth 100000
set_option maxHeartbeats 16000000
set_option linter.unusedVariables false
set_option linter.unusedSimpArgs false
namespace Go.Oct.Stk
open Go.Oct
theorem flatPc : flatE Sh.ePc := fun x c hc k f => by
  have hc : c ∈ [AV.int .i64 x.into, AV.int .i64 x.br, AV.int .i64 x.iv] := hc
  simp only [List.mem_cons, List.not_mem_nil, or_false] at hc
  rcases hc with rfl | rfl | rfl <;> exact ⟨rfl, rfl⟩
theorem TopStockbook_law (nl : Bool) (l : List Sh.Pc) (men : Int) (nb : Bool) (bits : List Int) (hl : l.length < 2 ^ 62) (hb : bits.length < 2 ^ 62) :
    ans prog O 4 [vl Sh.ePc nl l, .int .i64 men, vs nb bits] = some (.bool true) := by
  have hck := Sh.Check_ok nl l hl
  by_cases h4 : (l.length : Int) < 4
  · refine fn_of' pl get4 (oo (by decide)) rfl rfl ?_
    simp (disch := omega) [Und, h4, -Bool.exists_bool]
  by_cases hno : ¬ Sh.okOrd l
  · have ho := hno
    rw [if_neg ho] at hck
    refine fn_of' pl get4 (oo (by decide)) rfl rfl ?_
    simp (disch := omega) [Und, h4, hck, -Bool.exists_bool]
  have ho : Sh.okOrd l := Decidable.byContradiction hno
  rw [if_pos ho] at hck
  obtain ⟨b, hbb⟩ : ∃ b : Nat → Nat, ∀ i, b i = ((nth l i).br % 9000).toNat + 7 * (nth bits ((i : Int) % (bits.length : Int)).toNat % 100).toNat := ⟨_, fun _ => rfl⟩
  have hb1 : ∀ i : Nat, (nth l i).br % 9000 + 7 * (nth bits ((i : Int) % (bits.length : Int)).toNat % 100) = (b i : Int) := fun i => by rw [hbb]; omega
  have hb2 : ∀ i, b i ≤ 9692 := fun i => by rw [hbb]; omega
  have hb3 : ∀ i, b i ≤ 10000 := fun i => by have := hb2 i; omega
  clear hbb
  have hF := pgS_full hb3
  obtain ⟨_, ⟨R, rfl, hW, hL5⟩, hwet⟩ := wet_ok (tb := tabS b) rfl hF nb bits hb
  have hokP := hW.okP hF
  obtain ⟨_, ⟨n, g, rfl, hn1, hn2, hg, hg1⟩, hres⟩ := Restore_ok hokP hL5 (okL_lost hokP hL5) (truth_ok hF hW) (D := was (pgS b)) fun j hj => (truth_nth hj).symm
  have hsb := stockbook_ok hb3
  have hpo := pcs_ok hb3
  obtain ⟨m, hm⟩ : ∃ m : Int, m = 1 + men % 4 := ⟨_, rfl⟩
  have hmb : 1 ≤ m ∧ m ≤ 12 := by omega
  obtain ⟨_, ⟨Q, rfl, hQ, jQ, hQ1, hQ2⟩, hplan⟩ := Sh.Plan_ok false (pcs b) m hpo hmb
  have hQlen : Q.length < 2 ^ 62 := by
    have h1 := Sh.bnd_bd hpo (men := m) hmb.1 (j := (jQ : Int)) (by omega)
    have h2 := Sh.height_bd hpo
    omega
  have hQrow : ∀ d, d < Q.length → (Sh.row Q d).length < 2 ^ 62 := fun d hd => by have := (hQ.day d hd).1; omega
  obtain ⟨tot, htot⟩ : ∃ t : Nat, t = b 0 + b 1 + b 2 + b 3 := ⟨_, rfl⟩
  obtain ⟨B1, e1, hv1⟩ := Sh.begV_ex (pcs b) m Q (sto (tot : Int))
  obtain ⟨B2, e2, hv2⟩ := Sh.begV_ex (pcs b) m Q (sto ((tot : Int) - 1))
  have hbg1 := Sh.Begins_ok false false true (pcs b) m Q (sto (tot : Int)) (by show 4 < 2 ^ 62; decide) hQlen hQrow (by show 0 < 2 ^ 62; decide) hv1
  have hbg2 := Sh.Begins_ok false false true (pcs b) m Q (sto ((tot : Int) - 1)) (by show 4 < 2 ^ 62; decide) hQlen hQrow (by show 0 < 2 ^ 62; decide) hv2
  obtain ⟨rfl, rfl⟩ := begin_now hb3 hmb hQ (by rw [← htot]; exact hv1)
  have hv2' : 1 ≤ tot → B2 = 0 ∧ e2 = 4 := fun h => begin_not hb3 hmb hQ (by omega) (by rw [← htot]; exact hv2)
  refine fn_of' pl get4 (oo (by decide)) rfl rfl ?_
  simp (disch := omega) [Und, h4, hck, -Bool.exists_bool]
  refine lp_loop pl (fun k fr σ => ∃ (i : Nat) (v : AV), i + k = 4 ∧ fr = ⟨[(0, vl Sh.ePc nl l), (1, .int .i64 men), (2, vs nb bits), (7, v), (8, .int .i64 i)], []⟩ ∧ σ.lim = 0 ∧ Buf 0 3 Sh.ePc σ v ((pcs b).take i))
    ⟨4, 0, .vsl true [], by omega, rfl, rfl, Buf.nil⟩ ?_
  rintro k _ σ ⟨i, v, hk, rfl, σl, hB⟩
  have hpl : (pcs b).length = 4 := rfl
  by_cases hi : i < 4
  · have hi' : (i : Int) < 4 := by omega
    have hi2 : (i : Int) < l.length := by omega
    have hbi := hb1 i
    have hbi2 := hb2 i
    simp (disch := omega) [Und, hi, hi', hi2, hbi, -Bool.exists_bool]
    refine hB.push Sh.encPc (by omega) (by omega) (⟨-1, b i, 0⟩ : Sh.Pc) (bytes := 24) (by rw [List.length_take]; simp only [topBytes]; omega) rfl fun v2 τ q1 q2 => ?_
    have q3 := q2.next
    have q4 := q2.lim
    simp (disch := omega) [Und, -Bool.exists_bool]
    refine ⟨k - 1, by omega, i + 1, by omega, v2, ⟨rfl, by omega⟩, by omega, ?_⟩
    rw [take_succ_nth (by omega), pcs_nth hi]
    exact q1
  · obtain e : i = 4 := by omega
    subst e
    have e4 : (pcs b).take 4 = pcs b := rfl
    rw [e4] at hB
    have hB0 := hB
    rcases hB with ⟨_, e5⟩ | ⟨o, rfl, o1, o2, o3⟩
    · cases e5
    have hsn := hB0.snapS Sh.encPc flatPc
    simp (disch := omega) [Und, -Bool.exists_bool]
    refine pc_ro (.cons hsn .nil) (fun h => by cases h) (by simp) (oo (args := []) (by decide)).1 (fun z hz => by omega) hsb fun τ oo1 ce1 => ?_
    have τl := oo1.lim.trans σl
    have hVτ : View 0 3 Sh.ePc τ (.slice (some (o, 0)) (pcs b).length (.op 3)) (pcs b) := (hB0.whole o3).view.seen fun z _ => ce1 z
    have hk1 : ¬ (n : Int) < 1 := by omega
    have hpg : (putP g R).length = 3 := by rw [putP_len, hW.rows]; rfl
    have hpg' : ((putP g R).length : Int) = 3 := by omega
    simp (disch := omega) [Und, hwet, hres, hk1, hpg, hpg', -Bool.exists_bool]
    have hgD : ∀ p x, g p = some x → p ∈ lost R ∧ x = 48 + was (pgS b) p := hg
    have hpr : ∀ i, i < 3 → (nth (putP g R) i).length = 3 := fun i hi => by
      rw [putP_nth (by rw [hW.rows]; exact hi), putR_len]; exact hW.wide i hi
    have hp0l : (pgS b).length = 3 := rfl
    have htl : (tabS b).length = 3 := rfl
    have htr : ∀ i, i < 3 → (nth (tabS b) i).length = 3 := fun i hi => by rcases i3 hi with rfl | rfl | rfl <;> rfl
    have hpe : ∀ i k, i < 3 → k < 3 → ∃ L X : List Int, ∃ q : Nat, q < 100000 ∧ nth (nth (tabS b) i) k = q ∧ L = dg q ∧ nth (nth (putP g R) i) k = X ∧ X.length = L.length ∧ L.length ≤ 5 ∧ byt X ∧ byt L ∧ ∀ a, a < L.length → nth X a = nth L a ∨ (nth X a = 63 ∧ n ≠ 1) := fun i k hi hk => by
      obtain ⟨q, hq, he⟩ := hF.ent i k hi hk
      have hL : nth (nth (pgS b) i) k = dg (nth (nth (tabS b) i) k) := by
        unfold pgS
        rw [nth_map _ hi, dgs_nth (by rw [htr i hi]; exact hk)]
      have hqq : nth (nth (tabS b) i) k = q := by
        rw [hL] at he
        have := congrArg val he
        rw [val_dg, val_dg] at this
        omega
      have hX : nth (nth (putP g R) i) k = put (fun j => g ⟨i, k, j⟩) (nth (nth R i) k) := by
        rw [putP_nth (by rw [hW.rows]; exact hi), putR_nth (by rw [hW.wide i hi]; exact hk)]
      have hXl : (nth (nth (putP g R) i) k).length = (dg q).length := by rw [hX, put_len, hW.len i k hi hk]; exact congrArg List.length he
      have hXb : ∀ a, a < (dg q).length → nth (nth (nth (putP g R) i) k) a = nth (dg q) a ∨ (nth (nth (nth (putP g R) i) k) a = 63 ∧ n ≠ 1) := fun a ha => by
        rcases put_byte hF hW hgD hi hk (a := a) (by rw [he]; exact ha) with ⟨h1, h2, h3⟩ | h1
        · refine .inr ⟨h1, fun e => ?_⟩
          have := hg1 e _ h3
          rw [h2] at this
          cases this
        · rw [he] at h1
          exact .inl h1
      refine ⟨dg q, _, q, hq, hqq, rfl, rfl, hXl, dg_len 4 q hq, fun x hx => ?_, (dg_digs q).byt, hXb⟩
      obtain ⟨a, ha, rfl⟩ := mem_nth.1 hx
      rw [hXl] at ha
      have hd := dg_digs q _ (nth_mem ha)
      rcases hXb a ha with h1 | h1 <;> omega
    refine lp_loop pl (fun k fr υ => ∃ i : Nat, i + k = 3 ∧ fr = ⟨[(1, .int .i64 men), (7, .slice (some (o, 0)) (pcs b).length (.op 3)), (9, vR (tabS b)), (10, vP (putP g R)), (11, .int .i64 n), (13, .int .i64 i)], []⟩ ∧ υ = τ)
      ⟨3, 0, by omega, rfl, rfl⟩ ?_
    rintro k1 _ υ ⟨i, hk1', rfl, rfl⟩
    by_cases hi : i < 3
    · have hi' : (i : Int) < 3 := by omega
      have hri := hpr i hi
      have hti := htr i hi
      simp (disch := omega) [Und, hi, hi', hpg, hri, -Bool.exists_bool]
      refine lp_loop pl (fun k fr υ' => ∃ c : Nat, c + k = 3 ∧ fr = ⟨[(1, .int .i64 men), (7, .slice (some (o, 0)) (pcs b).length (.op 3)), (9, vR (tabS b)), (10, vP (putP g R)), (11, .int .i64 n), (13, .int .i64 i), (14, .int .i64 c)], []⟩ ∧ υ' = υ)
        ⟨3, 0, by omega, rfl, rfl⟩ ?_
      rintro k2 _ υ' ⟨c, hk2, rfl, rfl⟩
      by_cases hc : c < 3
      · have hc' : (c : Int) < 3 := by omega
        obtain ⟨L, X, q, hq, hqq, hLq, hXX, hXl, hL5', hXb, hLb, hcmp⟩ := hpe i c hi hc
        have htx := Text_ok q (by omega)
        rw [← hLq] at htx
        have hbX := bys_strA hXb
        have hbL := bys_strA hLb
        simp (disch := omega) [Und, eT, hi, hi', hc, hc', hpg, hri, htl, hti, castL_len, nth_cast, hqq, htx, hXX, hbX, hbL, hXl, -Bool.exists_bool]
        refine lp_loop pl (fun k fr υ'' => ∃ a : Nat, a + k = L.length ∧ fr = ⟨[(1, .int .i64 men), (7, .slice (some (o, 0)) (pcs b).length (.op 3)), (9, vR (tabS b)), (10, vP (putP g R)), (11, .int .i64 n), (13, .int .i64 i), (14, .int .i64 c), (15, .str (strA L)), (16, .int .i64 a)], []⟩ ∧ υ'' = υ')
          ⟨L.length, 0, by omega, rfl, rfl⟩ ?_
        rintro k3 _ υ'' ⟨a, hk3, rfl, rfl⟩
        by_cases ha : a < L.length
        · have ha' : (a : Int) < L.length := by omega
          have hbd := hLb _ (nth_mem ha)
          rcases hcmp a ha with h1 | ⟨h1, h2⟩
          · simp (disch := omega) [Und, eT, hi, hi', hc, hc', hpg, hri, hXX, hbX, hbL, hXl, ha, ha', h1, -Bool.exists_bool]
            exact ⟨k3 - 1, by omega, a + 1, by omega, by omega⟩
          · have h2' : ¬ (n : Int) = 1 := by omega
            simp (disch := omega) [Und, eT, hi, hi', hc, hc', hpg, hri, hXX, hbX, hbL, hXl, ha, ha', h1, h2, h2', -Bool.exists_bool]
            exact ⟨k3 - 1, by omega, a + 1, by omega, by omega⟩
        · obtain e : a = L.length := by omega
          simp (disch := omega) [Und, eT, hbL, e, -Bool.exists_bool]
          exact ⟨k2 - 1, by omega, c + 1, by omega, by omega⟩
      · obtain e : c = 3 := by omega
        subst e
        simp (disch := omega) [Und, -Bool.exists_bool]
        exact ⟨k1 - 1, by omega, i + 1, by omega, by omega⟩
    · obtain e : i = 3 := by omega
      subst e
      by_cases hn : 1 < (n : Int)
      · simp (disch := omega) [Und, hn, -Bool.exists_bool]
      · obtain rfl : n = 1 := by omega
        have hback : putP g R = pgS b := put_back hF hW hg (hg1 rfl)
        rw [hback]
        have hrr : nth (nth (pgS b) 2) 2 = dg tot := by rw [htot]; rfl
        have hrl : (nth (pgS b) 2).length = 3 := rfl
        have hb0 := hb2 0
        have hb1' := hb2 1
        have hb2' := hb2 2
        have hb3' := hb2 3
        have hrd := Read_ok tot (by omega)
        have hsn2 := hVτ.snap Sh.encPc flatPc
        simp (disch := omega) [Und, hp0l, hrr, hrl, hrd, ← hm, -Bool.exists_bool]
        refine pc_ro (.cons hsn2 (.cons (Snap.int _ _ _) .nil)) (fun h => by cases h) (by simp) (oo (args := []) (by decide)).1 (fun z hz => by omega) hplan fun χ oo2 ce2 => ?_
        have χl := oo2.lim.trans τl
        have hVχ := hVτ.seen fun z _ => ce2 z
        have hsn3 := hVχ.snap Sh.encPc flatPc
        simp (disch := omega) [Und, -Bool.exists_bool]
        refine pc_scal (.cons hsn3 (.cons (Snap.int _ _ _) (.cons (Snap.vl _ _ _ _) (.cons (⟨rfl, fun _ _ => rfl⟩ : Snap χ (.agg [AV.int IntKind.i64 tot, AV.int .i64 0, AV.vsl true []]) [] (.agg [AV.int IntKind.i64 tot, AV.int .i64 0, AV.vsl true []])) .nil)))) (fun h => by cases h) (by simp) (oo (args := []) (by decide)).1 hbg1 rfl ?_
        by_cases hz : tot = 0
        · subst hz
          simp (disch := omega) [Und, -Bool.exists_bool]
        · obtain ⟨rfl, rfl⟩ := hv2' (by omega)
          have hz' : ¬ (tot : Int) = 0 := by omega
          simp (disch := omega) [Und, hz, hz', -Bool.exists_bool]
          refine pc_scal (.cons hsn3 (.cons (Snap.int _ _ _) (.cons (Snap.vl _ _ _ _) (.cons (⟨rfl, fun _ _ => rfl⟩ : Snap χ (.agg [AV.int IntKind.i64 (tot - 1), AV.int .i64 0, AV.vsl true []]) [] (.agg [AV.int IntKind.i64 (tot - 1), AV.int .i64 0, AV.vsl true []])) .nil)))) (fun h => by cases h) (by simp) (oo (args := []) (by decide)).1 hbg2 rfl ?_
          simp (disch := omega) [Und, -Bool.exists_bool]
theorem TopStockbook_ok (nl : Bool) (l : List Sh.Pc) (men : Int) (nb : Bool) (bits : List Int) {x y : AV} (h : Slice Sh.ePc Sh.pcOK x nl l) (hm : i64 men) (hb : Slice (AV.int .i64) i64 y nb bits) :
    ans prog O 4 [vl Sh.ePc nl l, .int .i64 men, vs nb bits] = some (.bool true) :=
  TopStockbook_law nl l men nb bits (by have := h.len; omega) (by have := hb.len; omega)
end Go.Oct.Stk
