/- Logs: where true tracks are, as the specification finds it: the walk. -/
import Derived.Test.YtddclpecmjibkaaDoorOFixRefA
set_option maxRecDepth 100000
set_option maxHeartbeats 8000000
set_option linter.unusedVariables false
set_option linter.unusedSimpArgs false
namespace Go.Oct.Fix
open Go.Oct
/-- Where the ship can have been behind each run. -/
def sets (E N : Span) (S : List Stp) : List (Nat → Bool) := (List.range ((rns S).length + 1)).map fun j => wasF E N S ((rns S).length - j)
@[simp] theorem cells_sS (p : Nat) : (sS p).cells = [sS p] := rfl
@[simp] theorem dfd_sS (p : Nat) : (sS p).dfd = true := rfl
@[simp] theorem one_sS (p : Nat) : (sS p).one = true := rfl
theorem rall_ok (E N : Span) (nS : Bool) (S : List Stp) (hz : szLog S) (hok : okLog E N S) : ans prog O 75 [eLog E N nS S] = some (vl eSet false (sets E N S)) := by
  have h12 := hok.2.2.1
  have hE := hok.1
  have hN := hok.2.1
  unfold isSp at hE hN
  have hRle := rnT_le S S.length
  rw [rnT_all] at hRle
  refine fn_of' pl get75 (oo (by decide)) rfl rfl ?_
  simp (disch := omega) [eLog, topBytes, Und, -Bool.exists_bool]
  refine lp_loop pl (fun k fr σ => ∃ i : Nat, i + k = 3600 ∧ fr = ⟨[(1, .ptr (some (0, 0))), (3, .slice (some (1, 0)) 3600 (.ex 3600)), (4, .int .i64 i)], []⟩ ∧ σ.lim = 0 ∧ 2 ≤ σ.next ∧ σ.get 0 = some (.cells [.int .i64 E.lo, .int .i64 E.hi, .int .i64 N.lo, .int .i64 N.hi, vl eStp nS S]) ∧ σ.get 1 = some (.cells (seaC fun n => decide (n < i) && in0 E N n)))
    ⟨3600, 0, by omega, rfl, by simp, by simp, by simp, by simp⟩ ?_
  rintro k _ σ ⟨i, hi, rfl, s0, sn, sg0, sg1⟩
  have l0 := AH.get_lt sg0
  have l1 := AH.get_lt sg1
  by_cases hi3 : i < 3600
  · have hi3' : (i : Int) < 3600 := by omega
    have hsl := seaC_len (fun n => decide (n < i) && in0 E N n)
    have hset := fun b => seaC_set (fun n => decide (n < i) && in0 E N n) i b
    have hcx : ((i / 60 : Nat) : Int) = (i : Int) / 60 := rfl
    have hcy : ((i % 60 : Nat) : Int) = (i : Int) % 60 := rfl
    have fin : ∀ b : Bool, in0 E N i = b → (∀ m, m < 3600 → (if m = i then b else decide (m < i) && in0 E N m) = (decide (m < i + 1) && in0 E N m)) := fun b hb m _ => by
      by_cases e : m = i
      · subst e; simp [hb]
      · by_cases e2 : m < i
        · simp [e, e2, show m < i + 1 by omega]
        · simp [e, e2, show ¬ m < i + 1 by omega]
    by_cases c1 : E.lo ≤ (i : Int) / 60 ∧ (i : Int) / 60 ≤ E.hi
    · by_cases c2 : N.lo ≤ (i : Int) % 60 ∧ (i : Int) % 60 ≤ N.hi
      · have hin : in0 E N i = true := by unfold in0; rw [hcx, hcy, inI_iff.2 c1, inI_iff.2 c2]; rfl
        simp (disch := omega) [Und, eqf1, eqf2, s0, sg0, sg1, l0, l1, hi3, hi3', hsl, hset, eq_true c1, eq_true c2, -Bool.exists_bool, -getElem?_pos]
        refine ⟨by omega, k - 1, by omega, i + 1, by omega, by omega, by omega, seaC_congr fun m hm => ?_⟩
        have := fin _ hin m hm
        by_cases e : m = i <;> simpa [e] using this
      · have hin : in0 E N i = false := by
          unfold in0; rw [hcx, hcy]
          cases e : inI N.lo N.hi ((i : Int) % 60) with
          | false => simp
          | true => exact absurd (inI_iff.1 e) c2
        simp (disch := omega) [Und, eqf1, eqf2, s0, sg0, sg1, l0, l1, hi3, hi3', hsl, hset, eq_true c1, eq_false c2, -Bool.exists_bool, -getElem?_pos]
        refine ⟨by omega, k - 1, by omega, i + 1, by omega, by omega, by omega, seaC_congr fun m hm => ?_⟩
        have := fin _ hin m hm
        by_cases e : m = i <;> simpa [e] using this
    · have hin : in0 E N i = false := by
        unfold in0; rw [hcx, hcy]
        cases e : inI E.lo E.hi ((i : Int) / 60) with
        | false => simp
        | true => exact absurd (inI_iff.1 e) c1
      simp (disch := omega) [Und, eqf1, eqf2, s0, sg0, sg1, l0, l1, hi3, hi3', hsl, hset, eq_false c1, -Bool.exists_bool, -getElem?_pos]
      refine ⟨by omega, k - 1, by omega, i + 1, by omega, by omega, by omega, seaC_congr fun m hm => ?_⟩
      have := fin _ hin m hm
      by_cases e : m = i <;> simpa [e] using this
  · obtain rfl : i = 3600 := by omega
    simp (disch := omega) [Und, s0, sg0, -Bool.exists_bool]
    have hI0 : AI E N nS S 0 σ 1 (.vsl true []) (.vsl true []) [] := ⟨s0, sg0, by omega, sg1.trans (congrArg (fun c => some (AObj.cells c)) (seaC_congr fun n hn => by rw [decide_eq_true hn, Bool.true_and]; rfl)), Buf.nil, Buf.nil, fun z hz => (by cases hz), rfl, fun j hj => (by cases hj), fun j k _ hk => (by cases hk), fun j hj => (by cases hj), fun hz => (by cases hz), fun hz => (by cases hz)⟩
    refine lp_loop pl (fun k fr σ => ∃ (i p : Nat) (ov bv : AV) (ps : List Nat), i + k = S.length ∧ fr = ⟨[(1, .ptr (some (0, 0))), (3, sS p), (5, ov), (6, bv), (7, .int .i64 i)], []⟩ ∧ AI E N nS S i σ p ov bv ps)
      ⟨S.length, 0, 1, .vsl true [], .vsl true [], [], by omega, rfl, hI0⟩ ?_
    clear hI0 s0 sn sg0 sg1 l0 l1
    rintro k _ σ ⟨i, p, ov, bv, ps, hi, rfl, hI⟩
    have s0 := hI.lim
    have sg0 := hI.g0
    have l0 := AH.get_lt sg0
    have lp := AH.get_lt hI.gp
    have hrl := rnT_le S i
    by_cases hiS : i < S.length
    · have hiS' : (i : Int) < S.length := by omega
      have hst := hok.2.2.2 i hiS
      by_cases hk : (nth S i).k = 2
      · simp (disch := omega) [eStp, Und, eqf1, eqf2, s0, sg0, l0, hiS', eq_true hk, -Bool.exists_bool, -getElem?_pos]
        generalize hτ : AH.set (AH.push σ _) σ.next _ = τ
        have t0 : τ.lim = 0 := by rw [← hτ]; exact s0
        have tn : τ.next = σ.next + 1 := by rw [← hτ]; rfl
        have tg : ∀ z, z < σ.next → τ.get z = σ.get z := fun z hz => by rw [← hτ, AH.get_set_other _ _ _ _ (by omega), AH.get_push_old _ _ _ (by omega)]
        have tx : τ.get σ.next = some (.cells [.int .i64 (nth S i).k, .int .i64 (nth S i).a, .int .i64 (nth S i).b, .int .i64 (nth S i).vlo, .int .i64 (nth S i).vhi, .int .i64 (nth S i).elo, .int .i64 (nth S i).ehi, .int .i64 (nth S i).nlo, .int .i64 (nth S i).nhi, vl eSpan (nth S i).cn (nth S i).cl]) := by rw [← hτ, AH.get_set_same _ _ _ (Nat.lt_succ_self _), hk]
        clear hτ
        have hI2 := hI.stay (σ' := τ) (t0.trans s0.symm) tg
        have holo := hI.bo.obj_lt
        have hblo := hI.bb.obj_lt
        have hlen := hI.len
        refine Buf.apk hI2.bo encS (by omega) (by show 1 ≤ σ.next + 1; omega) (by show σ.next + 1 ≤ τ.next; omega) (fun z hz => ⟨by have := (holo z hz).2; show z < σ.next + 1; omega, by simp⟩) p (by rw [hlen]; simp only [topBytes]; omega) rfl fun ov' τ1 sts h1 g1 hst1 => ?_
        have u0 : τ1.lim = 0 := g1.lim.trans t0
        have un := g1.next
        have ux : τ1.get σ.next = _ := (g1.only.get _ (by omega) fun hz => by have := (holo _ hz).2; omega).trans tx
        have lux := AH.get_lt ux
        simp (disch := omega) [Und, eqf1, eqf2, u0, ux, lux, -Bool.exists_bool, -getElem?_pos]
        have hb2 : Buf 1 10 eStp τ1 bv (rnT S i) := hI2.bb.stay g1.only fun z hz hz2 => hI.dis z hz2 hz
        refine ⟨fun hz => ?_, ?_⟩
        · rcases hst1 _ hz with h | h
          · cases h
          · have := (holo _ h).2; omega
        refine hb2.pushT encStp (by omega) (by omega) (nth S i) (by simp only [topBytes]; omega) rfl fun bv' τ2 h2 g2 => ?_
        have v0 : τ2.lim = 0 := g2.lim.trans u0
        have vn := g2.next
        have vx : τ2.get σ.next = _ := (g2.only.get _ (by omega) fun hz => by have := (hblo _ hz).2; omega).trans ux
        have lvx := AH.get_lt vx
        have hb' := h1.obj_lt
        have vp : τ2.get p = some (.cells (seaC (fw E N S i))) := by
          rw [g2.only.get _ (by omega) hI.pb, g1.only.get _ (by omega) hI.po]; exact hI2.gp
        simp (disch := omega) [Und, eqf1, eqf2, v0, vx, lvx, -Bool.exists_bool, -getElem?_pos]
        refine rmoved_call (nth S i) (fw E N S i) false hst hk (by omega) vp fun p' τ' h4 h5 h6 => ?_
        have h6' : τ'.get p' = some (.cells (seaC (mv (nth S i) (fw E N S i)))) := h6
        have hI3 := hI2.run hiS hk h1 g1 h2 g2 h5 h4 h6'
        simp (disch := omega) [Und, hI3.lim, -Bool.exists_bool]
        exact ⟨k - 1, by omega, i + 1, by omega, p', ov', bv', ⟨rfl, rfl, rfl, by omega⟩, ps ++ [p], hI3⟩
      · simp (disch := omega) [eStp, Und, eqf1, eqf2, s0, sg0, l0, hiS', hk, -Bool.exists_bool, -getElem?_pos]
        generalize hτ : AH.set (AH.push σ _) σ.next _ = τ
        have t0 : τ.lim = 0 := by rw [← hτ]; exact s0
        have tn : τ.next = σ.next + 1 := by rw [← hτ]; rfl
        have tg : ∀ z, z < σ.next → τ.get z = σ.get z := fun z hz => by rw [← hτ, AH.get_set_other _ _ _ _ (by omega), AH.get_push_old _ _ _ (by omega)]
        clear hτ
        have hI2 := hI.stay (σ' := τ) (t0.trans s0.symm) tg
        refine rheld_call (nth S i) (fw E N S i) hst hk (by omega) hI2.gp fun p' τ' h1 h2 h3 => ?_
        have hI3 := hI2.held hiS hk h2 h1 h3
        simp (disch := omega) [Und, hI3.lim, -Bool.exists_bool]
        exact ⟨k - 1, by omega, i + 1, by omega, p', ov, bv, ⟨rfl, rfl, rfl, by omega⟩, ps, hI3⟩
    · obtain rfl : i = S.length := by omega
      simp (disch := omega) [Und, eqf1, eqf2, s0, sg0, l0, -Bool.exists_bool, -getElem?_pos]
      have hlen := hI.len
      rw [rnT_all] at hlen
      have hbbr := hI.bb
      have hII := hI
      refine hI.bo.push encS (by omega) (by omega) p (by rw [hlen]; simp only [topBytes]; omega) rfl fun ov' τ h1 g1 => ?_
      have t0 : τ.lim = 0 := g1.lim.trans s0
      have tn := g1.next
      have holo := hI.bo.obj_lt
      have hblo := hI.bb.obj_lt
      have nlen : (ps ++ [p]).length = (rns S).length + 1 := by simp [hlen]
      have hlo : ∀ j, j < ps.length → nth (ps ++ [p]) j = nth ps j := fun j hj => nth_app_lo hj
      have hhi : nth (ps ++ [p]) ps.length = p := nth_app_hi
      obtain ⟨qs, hqs⟩ : ∃ qs, qs = ps ++ [p] := ⟨_, rfl⟩
      rw [← hqs] at h1 nlen hlo hhi
      have hpj : ∀ j, j ≤ (rns S).length → 1 ≤ nth qs j ∧ τ.get (nth qs j) = some (.cells (seaC (can E N (rns S) (sgs S S.length) j))) ∧ nth qs j ∉ obj ov' ∧ nth qs j ∉ obj bv ∧ nth qs j < σ.next := fun j hj => by
        by_cases e : j = ps.length
        · rw [e, hhi]
          refine ⟨hI.p1, ?_, fun hz => ?_, hI.pb, lp⟩
          · rw [g1.only.get _ lp hI.po, hI.gp]
            refine congrArg (fun c => some (AObj.cells c)) (seaC_congr fun n _ => ?_)
            rw [fw_end, hlen]
          · rcases g1.fresh _ hz with h | h
            · exact hI.po h
            · omega
        · rw [hlo j (by omega)]
          obtain ⟨a, b, c, d⟩ := hI.pj j (by omega)
          refine ⟨a, (g1.only.get _ (AH.get_lt b) c).trans b, fun hz => ?_, d, AH.get_lt b⟩
          rcases g1.fresh _ hz with h | h
          · exact c h
          · have := AH.get_lt b; omega
      have hinc : ∀ j k, j < k → k ≤ (rns S).length → nth qs j < nth qs k := fun j k hjk hk => by
        by_cases e : k = ps.length
        · rw [e, hhi, hlo j (by omega)]; exact hI.lt j (by omega)
        · rw [hlo j (by omega), hlo k (by omega)]; exact hI.inc j k hjk (by omega)
      have hbb : Buf 1 10 eStp τ bv (rns S) := by
        have := hI.bb.stay g1.only fun z hz hz2 => hI.dis z hz2 hz
        rwa [rnT_all] at this
      have hdis : ∀ z ∈ obj ov', z ∉ obj bv := fun z hz hz2 => by
        rcases g1.fresh _ hz with h | h
        · exact hI.dis z h hz2
        · have := (hblo _ hz2).2; omega
      clear hlo hhi hqs hlen hbbr hII holo hblo g1
      have hbl := hbb.len
      obtain ⟨x1, x2, x3⟩ := buf_cel h1
      simp (disch := omega) [Und, t0, hbl, -Bool.exists_bool]
      rcases id h1 with ⟨_, e2⟩ | ⟨co, rfl, co1, cog, _⟩
      · rw [e2] at nlen; simp at nlen
      refine lp_loop pl (fun k fr υ => ∃ d : Nat, d + k = (rns S).length ∧ fr = ⟨[(5, .slice (some (co, 0)) qs.length (.op 1)), (6, bv), (9, .int .i64 (((rns S).length : Int) - 1 - d))], []⟩ ∧ υ.lim = 0 ∧ υ.get co = some (.cells (rowOf sS qs)) ∧ Buf 1 10 eStp υ bv (rns S) ∧ ∀ j, j ≤ (rns S).length → υ.get (nth qs j) = some (.cells (seaC (if (rns S).length - d ≤ j then wasF E N S ((rns S).length - j) else can E N (rns S) (sgs S S.length) j))))
        ⟨(rns S).length, 0, by omega, by simp, t0, cog, hbb, fun j hj => ?_⟩ ?_
      · rw [(hpj j hj).2.1]
        by_cases e : (rns S).length - 0 ≤ j
        · obtain rfl : j = (rns S).length := by omega
          rw [if_pos e, Nat.sub_self]; rfl
        · rw [if_neg e]
      rintro k2 _ υ ⟨d, hd, rfl, u0, uc, ub, uj⟩
      have luc := AH.get_lt uc
      have rcl := rowOf_length encS qs
      simp only [Nat.mul_one] at rcl
      by_cases hdR : d < (rns S).length
      · obtain ⟨r, hr⟩ : ∃ r, r = (rns S).length - 1 - d := ⟨_, rfl⟩
        have hr' : ((rns S).length : Int) - 1 - d = (r : Int) := by omega
        rw [hr']
        rcases id ub with ⟨_, e2⟩ | ⟨bo, rfl, bo1, bog, _⟩
        · rw [e2] at hdR; simp at hdR
        have lbo := AH.get_lt bog
        have hrr := okLog_run hok r (by omega)
        have hst : okStp (nth (rns S) r) := by
          have hm := nth_mem (xs := rns S) (i := r) (by omega)
          unfold rns at hm
          rw [List.mem_filter] at hm
          obtain ⟨q, hq, he⟩ := mem_nth.1 hm.1
          have := hok.2.2.2 q hq
          rw [he] at this
          exact this
        have rcb := row_at encStp (xs := rns S) (j := r) (by omega)
        have rcbl := rowOf_length encStp (rns S)
        have rc := row_cell encS (xs := qs) (j := r + 1) (c := 0) (by omega) (by omega)
        have hcc : (sS (nth qs (r + 1))).cells[0]? = some (sS (nth qs (r + 1))) := rfl
        rw [hcc] at rc
        have rc0 := row_cell encS (xs := qs) (j := r) (c := 0) (by omega) (by omega)
        have hcc0 : (sS (nth qs r)).cells[0]? = some (sS (nth qs r)) := rfl
        rw [hcc0] at rc0
        simp only [Nat.mul_one, Nat.add_zero] at rc rc0
        have i1 : (r : Int) < (rns S).length := by omega
        have i2 : r < (rns S).length := by omega
        have i3 : (r : Int) + 1 < qs.length := by omega
        have i4 : r + 1 < qs.length := by omega
        have i5 : r * 10 + 10 ≤ (rns S).length * 10 := by omega
        have i6 : r + 1 + 1 ≤ qs.length := by omega
        simp (disch := omega) [Und, eqf1, eqf2, u0, uc, bog, luc, lbo, rcl, rc, rcb, rcbl, i1, i2, i3, i4, i5, i6, ltT, -Bool.exists_bool, -getElem?_pos]
        refine ⟨by omega, ?_⟩
        have hjr : υ.get (nth qs (r + 1)) = some (.cells (seaC (wasF E N S d))) := by
          rw [uj (r + 1) (by omega), if_pos (by omega), show (rns S).length - (r + 1) = d by omega]
        refine rmoved_call (nth (rns S) r) (wasF E N S d) true hst hrr.2 (by omega) hjr fun o' τ' h4 h5 h6 => ?_
        have v0 : τ'.lim = 0 := h5.lim.trans u0
        have vn := h5.next
        have vg : ∀ z, z < υ.next → τ'.get z = υ.get z := fun z hz => h5.get z hz (by simp)
        have vco := (vg co luc).trans uc
        have vj : ∀ j, j ≤ (rns S).length → τ'.get (nth qs j) = υ.get (nth qs j) := fun j hj => vg _ (AH.get_lt (uj j hj))
        have ujl : ∀ j, j ≤ (rns S).length → nth qs j < υ.next := fun j hj => AH.get_lt (uj j hj)
        have h6' : τ'.get o' = some (.cells (seaC (mb (nth (rns S) r) (wasF E N S d)))) := h6
        have lo' := AH.get_lt h6'
        have hpr := hpj r (by omega)
        have hcor : nth qs r ≠ co := fun h => hpr.2.2.1 (by simp [obj, h])
        have hbor : nth qs r ≠ bo := fun h => hpr.2.2.2.1 (by simp [obj, h])
        have hor : ¬ o' = nth qs r := by have := ujl r (by omega); omega
        simp (disch := omega) [sS, Und, v0, -Bool.exists_bool, -getElem?_pos]
        refine lp_loop pl (fun k fr ω => ∃ n : Nat, n + k = 3600 ∧ fr = ⟨[(5, .slice (some (co, 0)) qs.length (.op 1)), (6, .slice (some (bo, 0)) (rns S).length (.op 10)), (9, .int .i64 r), (10, .slice (some (o', 0)) 3600 (.ex 3600)), (11, .int .i64 n)], []⟩ ∧ ω.lim = 0 ∧ (∀ z, z < τ'.next → z ≠ nth qs r → ω.get z = τ'.get z) ∧ ω.get (nth qs r) = some (.cells (seaC fun m => can E N (rns S) (sgs S S.length) r m && (decide (n ≤ m) || mb (nth (rns S) r) (wasF E N S d) m))))
          ⟨3600, 0, by omega, by simp, v0, fun _ _ _ => rfl, ?_⟩ ?_
        · rw [vj r (by omega), uj r (by omega), if_neg (by omega)]
          exact congrArg (fun c => some (AObj.cells c)) (seaC_congr fun m _ => by simp)
        rintro k3 _ ω ⟨n, hn, rfl, w0, wg, wr⟩
        have wco := (wg co (by omega) (fun h => hcor h.symm)).trans vco
        have wo := (wg o' lo' hor).trans h6'
        have lwco := AH.get_lt wco
        have lwo := AH.get_lt wo
        have lwr := AH.get_lt wr
        by_cases hn3 : n < 3600
        · have hn3' : (n : Int) < 3600 := by omega
          have j1 : (r : Int) < qs.length := by omega
          have j2 : r < qs.length := by omega
          have j3 : r + 1 ≤ qs.length := by omega
          have hsl := seaC_len (fun m => can E N (rns S) (sgs S S.length) r m && (decide (n ≤ m) || mb (nth (rns S) r) (wasF E N S d) m))
          have hsg := seaC_get (f := fun m => can E N (rns S) (sgs S S.length) r m && (decide (n ≤ m) || mb (nth (rns S) r) (wasF E N S d) m)) hn3
          have hset := fun b => seaC_set (fun m => can E N (rns S) (sgs S S.length) r m && (decide (n ≤ m) || mb (nth (rns S) r) (wasF E N S d) m)) n b
          have hml := seaC_len (mb (nth (rns S) r) (wasF E N S d))
          have hmg := seaC_get (f := mb (nth (rns S) r) (wasF E N S d)) hn3
          simp only [decide_eq_true (Nat.le_refl n), Bool.true_or, Bool.and_true] at hsg
          have rc1 : (rowOf sS qs)[r]? = some (.slice (some (nth qs r, 0)) 3600 (.ex 3600)) := rc0
          cases hc : can E N (rns S) (sgs S S.length) r n
          · rw [hc] at hsg
            simp (disch := omega) [Und, eqf1, eqf2, w0, wco, wo, wr, lwco, lwo, lwr, rcl, rc1, hn3, hn3', j1, j2, j3, hsl, hsg, hset, hml, hmg, hor, ltT, -Bool.exists_bool, -getElem?_pos]
            refine ⟨by omega, k3 - 1, by omega, n + 1, by omega, by omega, fun z h1 h2 => by rw [if_neg h2]; exact wg z h1 h2, seaC_congr fun m _ => ?_⟩
            by_cases e : m = n
            · subst e; simp [hc]
            · by_cases e2 : n ≤ m
              · simp [e, e2, show n + 1 ≤ m by omega]
              · simp [e, e2, show ¬ n + 1 ≤ m by omega]
          · rw [hc] at hsg
            simp (disch := omega) [Und, eqf1, eqf2, w0, wco, wo, wr, lwco, lwo, lwr, rcl, rc1, hn3, hn3', j1, j2, j3, hsl, hsg, hset, hml, hmg, hor, ltT, -Bool.exists_bool, -getElem?_pos]
            refine ⟨by omega, k3 - 1, by omega, n + 1, by omega, by omega, fun z h1 h2 => by rw [if_neg h2]; exact wg z h1 h2, seaC_congr fun m _ => ?_⟩
            by_cases e : m = n
            · subst e; rw [if_pos rfl, hc, decide_eq_false (by omega)]; simp
            · by_cases e2 : n ≤ m
              · simp [e, e2, show n + 1 ≤ m by omega]
              · simp [e, e2, show ¬ n + 1 ≤ m by omega]
        · obtain rfl : n = 3600 := by omega
          simp (disch := omega) [Und, w0, -Bool.exists_bool]
          have fin : ∀ z, z < υ.next → z ≠ nth qs r → ω.get z = υ.get z := fun z h1 h2 => (wg z (by omega) h2).trans (vg z h1)
          refine ⟨k2 - 1, by omega, d + 1, by omega, by omega, wco, ?_, fun j hj => ?_⟩
          · rcases id ub with ⟨h, _⟩ | ⟨i, hi1, hi2, hi3, hi4⟩
            · cases h
            · cases hi1
              exact .inr ⟨bo, rfl, bo1, (fin bo lbo fun h => hbor h.symm).trans bog, hi4⟩
          · by_cases e : j = r
            · rw [e, wr, if_pos (by omega)]
              refine congrArg (fun c => some (AObj.cells c)) (seaC_congr fun m hm => ?_)
              rw [decide_eq_false (by omega), Bool.false_or, show (rns S).length - r = d + 1 by omega]
              show _ = (can E N (rns S) (sgs S S.length) ((rns S).length - (d + 1)) m && mb (nth (rns S) ((rns S).length - (d + 1))) (was E N (rns S) (sgs S S.length) d) m)
              rw [show (rns S).length - (d + 1) = r by omega]
            · have hne : nth qs j ≠ nth qs r := fun h => by
                rcases Nat.lt_or_ge j r with h2 | h2
                · have := hinc j r h2 (by omega); omega
                · have := hinc r j (by omega) hj; omega
              rw [fin _ (ujl j hj) hne, uj j hj]
              by_cases e2 : (rns S).length - d ≤ j
              · rw [if_pos e2, if_pos (by omega)]
              · rw [if_neg e2, if_neg (by omega)]
      · obtain rfl : d = (rns S).length := by omega
        simp (disch := omega) [Und, u0, -Bool.exists_bool]
        refine ⟨fun h => by omega, fun _ => ?_⟩
        have := fz_sets (σ := υ) (ps := qs) (co := co) (F := fun j => wasF E N S ((rns S).length - j)) 5 uc fun j hj => by
          rw [uj j (by omega), if_pos (by omega)]
        rw [this, nlen]; rfl
end Go.Oct.Fix
