/- Sawing: most. -/
import Derived.Test.YtpgjndgpackffaaDoorOShopSaw
set_option maxRecDepth 100000
set_option maxHeartbeats 4000000
set_option linter.unusedVariables false
set_option linter.unusedSimpArgs false
namespace Go.Oct.Shop
open Go.Oct
theorem most_ok {nl : Bool} {L : List Int} {cut : Int} {m a : Nat} (hL : L.length ≤ 16) (hx : ∀ x ∈ L, 1 ≤ x ∧ x ≤ 10000) (hc : 0 ≤ cut ∧ cut ≤ 1000) (ham : a ≠ m) : ∀ (d nx : Nat), nx + d = L.length → ∀ (bar : Int) (sn : Bool) (σ : AH) (es : List (AV × AV × Nat)) (c : Nat) (K : AV → AH → Prop),
    σ.lim = 0 → σ.get a = some (.cells [vs nl L, .int .i64 cut, .map (some m)]) → σ.get m = some (.map es c) → okE cut L es → 0 ≤ bar ∧ bar ≤ 10000 →
    (∀ (σ' : AH) es' c', σ'.lim = 0 → σ.next ≤ σ'.next → (∀ k, k < σ.next → k ≠ m → σ'.get k = σ.get k) → σ'.get m = some (.map es' c') → okE cut L es' → K (.int .i64 (best cut (L.drop nx) bar sn)) σ') →
    Call prog O (.fn 68) [.ptr (some (a, 0)), keyS nx bar sn] σ K := by
  intro d
  induction d using Nat.strongRecOn with
  | ind d ih =>
    intro nx hd bar sn σ es c K hl0 hg hm hes hb hK
    have gl := AH.get_lt hg
    have ml := AH.get_lt hm
    refine @call_of' _ _ pl _ _ _ _ _ _ _ ⟨K⟩ get68 ((oo (by decide)).2 _) rfl ?_
    have hm1 : (σ.push (.cells [.int .i64 nx, .int .i64 bar, .bool sn])).get m = some (.map es c) := by rw [AH.get_push_old _ _ _ (by omega)]; exact hm
    obtain ⟨f, w, hlk, hw⟩ : ∃ (f : Bool) (w : Int), alookup true [.int, .int, .bool] (Oct.L.z 0) true (.map (some m)) (.agg [.int .i64 nx, .int .i64 bar, .bool sn]) (σ.push (.cells [.int .i64 nx, .int .i64 bar, .bool sn])) = some (.tuple [.int .i64 w, .bool f], σ.push (.cells [.int .i64 nx, .int .i64 bar, .bool sn])) ∧ (f = true → w = best cut (L.drop nx) bar sn) := look_S hm1 hes
    simp (disch := omega) [keyS, hl0, hg, gl, hm, ml, eqF1, eqF2, ahop_lookup, hlk, -Bool.exists_bool]
    cases f with
    | true =>
      rw [hw rfl]
      simp (disch := omega) [Und, -Bool.exists_bool]
      refine hK _ es c (by simpa using hl0) (by simp) (fun k h1 _ => by simp (disch := omega) [eqF1]) hm1 hes
    | false =>
      simp (disch := omega) [Und, hl0, hg, gl, eqF1, eqF2, -Bool.exists_bool]
      refine lp_loop pl (fun k fr τ => ∃ (i : Nat) (cur : Int) (es' : List (AV × AV × Nat)) (c' : Nat), i + k = L.length ∧ nx ≤ i ∧ 0 ≤ cur ∧ max cur (best cut (L.drop i) bar sn) = best cut (L.drop nx) bar sn ∧ fr = ⟨[(0, .ptr (some (a, 0))), (3, .ptr (some (σ.next, 0))), (7, .int .i64 cur), (8, .int .i64 i)], []⟩ ∧
          τ.lim = 0 ∧ σ.next + 1 ≤ τ.next ∧ (∀ k, k < σ.next → k ≠ m → τ.get k = σ.get k) ∧ τ.get m = some (.map es' c') ∧ okE cut L es' ∧ τ.get σ.next = some (.cells [.int .i64 nx, .int .i64 bar, .bool sn]))
        ⟨d, nx, 0, es, c, by omega, by omega, by omega, ?_, rfl, by simpa using hl0, by simp, fun k h1 _ => by simp (disch := omega) [eqF1], hm1, hes, by simp⟩ ?_
      · have := (best_bd hc.1 (xs := L.drop nx) (bar := bar) (sn := sn) fun x h => (hx x (List.mem_of_mem_drop h)).1).1
        omega
      rintro k _ τ ⟨i, cur, es', c', hi, hni, hcur, hmax, rfl, t0, tn, tg, tm, tes, tx⟩
      have tga : τ.get a = _ := (tg a gl ham).trans hg
      have tal := AH.get_lt tga
      have txl := AH.get_lt tx
      have tml := AH.get_lt tm
      by_cases hil : i < L.length
      · have hxi := hx _ (nth_mem hil)
        simp (disch := omega) [Und, t0, tga, tal, tx, txl, hil, -Bool.exists_bool]
        refine take_ok (nl := nl) (cut := cut) (m := m) (nx := nx) (bar := bar) (sn := sn) t0 tga hil hL hx hc hb fun σ1 s0 sn1 sg => ?_
        have s1x : σ1.get σ.next = _ := (sg _ txl).trans tx
        have s1a : σ1.get a = _ := (sg _ tal).trans tga
        have s1m : σ1.get m = _ := (sg _ tml).trans tm
        have w0 := AH.get_lt s1x
        have w1 := AH.get_lt s1a
        have w2 := AH.get_lt s1m
        have hbd := best_drop (cut := cut) (L := L) (bar := bar) (sn := sn) hil
        have hnd : 1 ≤ nd cut sn (nth L i) ∧ nd cut sn (nth L i) ≤ 11000 := by unfold nd; split <;> omega
        by_cases hfit : nd cut sn (nth L i) ≤ bar
        · rw [if_pos hfit] at hbd
          have hb2 := best_bd hc.1 (xs := L.drop (i + 1)) (bar := bar - nd cut sn (nth L i)) (sn := true) fun x h => (hx x (List.mem_of_mem_drop h)).1
          have hb3 := hb2.2 (by omega)
          simp (disch := omega) [Und, s0, s1x, s1a, w0, w1, hfit, eqF1, eqF2, -Bool.exists_bool]
          generalize hτ2 : (σ1.push _).set σ1.next _ = τ2
          have t20 : τ2.lim = 0 := by rw [← hτ2]; exact s0
          have t2n : τ2.next = σ1.next + 1 := by rw [← hτ2]; rfl
          have t2g : ∀ k, k < σ1.next → τ2.get k = σ1.get k := fun k h1 => by rw [← hτ2]; simp (disch := omega) [eqF1]
          refine ih (L.length - (i + 1)) (by omega) (i + 1) (by omega) (bar - nd cut sn (nth L i)) true τ2 es' c' _ t20 (by rw [t2g _ w1]; exact s1a) (by rw [t2g _ w2]; exact s1m) tes (by omega) fun σ2 es2 c2 u0 un ug um ues => ?_
          simp (disch := omega) [-Bool.exists_bool]
          refine ⟨k - 1, by omega, i + 1, by omega, by omega, _, by omega, by omega, ⟨rfl, by omega⟩, u0, by omega, fun q h1 h2 => by rw [ug q (by omega) h2, t2g q (by omega), sg q (by omega)]; exact tg q h1 h2, es2, ⟨c2, um⟩, ues, by rw [ug _ (by omega) (by omega), t2g _ (by omega)]; exact s1x⟩
        · rw [if_neg hfit] at hbd
          simp (disch := omega) [Und, s0, s1x, s1a, w0, w1, hfit, eqF1, eqF2, -Bool.exists_bool]
          refine ⟨k - 1, by omega, i + 1, by omega, by omega, cur, by omega, by omega, ⟨rfl, by omega⟩, by omega, fun q h1 h2 => ?_, ?_⟩
          · rw [if_neg (by omega), if_neg (by omega), sg q (by omega)]; exact tg q h1 h2
          · exact ⟨es', ⟨c', s1m⟩, tes⟩
      · obtain rfl : i = L.length := by omega
        have hcb : cur = best cut (L.drop nx) bar sn := by
          rw [List.drop_length] at hmax
          simp only [best] at hmax
          omega
        subst hcb
        obtain ⟨es2, c2, hup, hes2⟩ := upd_S (cut := cut) (L := L) (nx := nx) (bar := bar) (sn := sn) (σ := τ) (by omega) tm tes
        unfold keyS at hup
        simp (disch := omega) [Und, t0, tga, tal, tx, txl, ahop_mapUpd, hup, -Bool.exists_bool]
        exact hK _ es2 c2 (by simpa using t0) (by simp; omega) (fun q h1 h2 => by rw [AH.get_set_other _ _ _ _ h2]; exact tg q h1 h2) (AH.get_set_same _ _ _ tml) hes2
end Go.Oct.Shop
