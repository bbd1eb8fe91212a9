/- Nets: Some, Spans and Proof of the program. -/
import Derived.Test.YtddkghgfbhhcdaaOTriChk
set_option maxRecDepth 100000
set_option maxHeartbeats 8000000
set_option linter.unusedVariables false
set_option linter.unusedSimpArgs false
namespace Go.Oct.Tri
open Go.Oct
theorem abound_self (n m : Nat) : abound n m (some (.int .i64 n)) = some n := by simp [abound]
theorem aslS_full (z i n : Nat) : aslS z (.slice (some (i, 0)) n (.op z)) none (some (.int .i64 n)) (some (.int .i64 n)) = some (.slice (some (i, 0)) n (.ex n)) := by
  have e : (ACap.op z).sure n = n := rfl
  have e2 : (ACap.op z).less z 0 (some n) = some (.ex n) := rfl
  simp only [aslS, e, abounds, abound_self]
  simp [abound, e2]
/-- Some proof holds. -/
def Proved (N : Int) (C : List Bool) (A : List An) : Prop := ∃ P Q small, okPf N C P Q ∧ hold A P Q small
theorem flatAn : flatE eAn := fun x c hc k f => by
  simp at hc
  rcases hc with rfl | rfl | rfl | rfl <;> exact ⟨rfl, rfl⟩
theorem check_pc {T : Int} {nC : Bool} {C : List Bool} {A : List An} {w : AV} {σ : AH} (h : RdA σ A w) (hC : C.length < 2 ^ 62) (hA : A.length < 2 ^ 62) {k : Kn (AV → AH → Prop)} (hk : k.k (.int .i64 (if okNet T C A then 0 else 60)) σ) : @PcI prog O (closed 7 w) 47 [eNetW T nC C w] σ k := by
  cases h with
  | vl nl =>
    have := Check_ok T nC C nl A hC hA
    rw [show closed 7 (vl eAn nl A) = true from rfl, pcI_true, ← eNet_w, this, ok1_some]
    exact hk
  | sl o c g hc =>
    have hck := Check_ok T nC C false A hC hA
    have hcel : σ.cel o = some (rowOf eAn A) := AH.cel_get g
    have hsn : Snap σ (eNetW T nC C (.slice (some (o, 0)) A.length c)) [o] (eNet T nC C false A) := by
      refine ⟨?_, fun S hS => ?_⟩
      · show [AV.int .i64 T, vl AV.bool nC C, .slice (some (o, 0)) A.length c].flatMap (idsV 7 σ.cel) = [o]
        have e : idsV 7 σ.cel (.slice (some (o, 0)) A.length c) = [o] := by
          show (match σ.cel o with | some cs => o :: cs.flatMap (idsV 6 σ.cel) | none => []) = _
          rw [hcel]
          have : (rowOf eAn A).flatMap (idsV 6 σ.cel) = [] := by
            rw [List.flatMap_eq_nil_iff]
            intro x hx
            exact (flat_row flatAn A x hx 5 _).1
          simp [this]
        simp only [List.flatMap_cons, List.flatMap_nil, e]
        rfl
      · have hce : σ.celOf S o = some (rowOf eAn A) := by
          unfold AH.celOf
          rw [if_pos (by simpa using hS o (by simp)), hcel]
        have := fz_whole encAn flatAn (f := σ.celOf S) (o := o) (xs := A) (c := c) hce hc 5
        show AV.agg [AV.int .i64 T, vl AV.bool nC C, fzV 7 (σ.celOf S) (.slice (some (o, 0)) A.length c)] = _
        rw [this]
        rfl
    refine pc_scal (.cons hsn .nil) (fun h => by simp at h) (by simp) (oo (args := []) (by decide)).1 hck rfl hk
theorem settled_call {T : Int} {nC : Bool} {w : AV} {C : List Bool} {A : List An} (hC : C.length < 2 ^ 62) (hA : A.length < 2 ^ 62) {σ : AH} (h0 : σ.lim = 0) (hrd : RdA σ A w) {K : AV → AH → Prop}
    (k1 : ∀ σ', ¬ okNet T C A → Only [] σ σ' → K (.tuple [.ptr none, .int .i64 60]) σ')
    (k2 : ∀ σ', okNet T C A → Proved T C A → Only [] σ σ' → K (.tuple [.ptr none, .int .i64 4]) σ')
    (k3 : ∀ n i h L σ', okNet T C A → NetI T nC C w (edges C A) n i h L σ' → isCl T C A h → Only [] σ σ' → K (.tuple [.ptr (some (n, 0)), .int .i64 0]) σ') :
    Call prog O (.fn 45) [eNetW T nC C w] σ K := by
  refine @call_of' _ _ pl _ _ _ _ _ _ _ ⟨K⟩ get45 ((oo (by decide)).2 _) rfl ?_
  have hb : σ.push (.cells [.int .i64 T, vl AV.bool nC C, w]) = σ.push (.cells [.int .i64 T, vl AV.bool nC C, w]) := rfl
  have hrd1 : RdA (σ.push (.cells [.int .i64 T, vl AV.bool nC C, w])) A w := hrd.keep fun q hq => AH.get_push_old _ _ _ (by omega)
  have hck := fun (k : Kn (AV → AH → Prop)) h => check_pc (T := T) (nC := nC) (C := C) (k := k) hrd1 hC hA h
  have hwc : w.cells = [w] ∧ w.dfd = true ∧ w.one = true := by
    cases hrd with
    | vl nl => exact ⟨rfl, rfl, rfl⟩
    | sl o c _ _ => exact ⟨rfl, rfl, rfl⟩
  by_cases hok : okNet T C A
  · obtain ⟨N, rfl⟩ : ∃ N : Nat, T = N := ⟨T.toNat, by have := hok.1; omega⟩
    simp (disch := omega) [eNetW, h0, -Bool.exists_bool, -Check_ok]
    refine hck _ ?_
    rw [if_pos hok]
    simp (disch := omega) [Und, -Bool.exists_bool, -Check_ok]
    refine netOf_call hok (by exact h0) hrd1 fun i L σ1 hi n1 hs h16 o1 => ?_
    have q1 := o1.next
    simp at q1 hi
    have g1 : ∀ q, q < σ.next → σ1.get q = σ.get q := fun q hq => by rw [o1.get q (by simp; omega) (by simp), AH.get_push_old _ _ _ (by omega)]
    have ol := o1.lim
    simp (disch := omega) [Und, -Bool.exists_bool, -Check_ok]
    refine settle_call hok n1 hs h16 (fun h' L' σ2 n2 hc qq => ?_) (fun v1 v2 small σ2 hpf qq => ?_)
    · have q2 := qq.next
      simp (disch := omega) [Und, n2.lim, -Bool.exists_bool, -Check_ok]
      refine k3 _ i h' L' _ hok (n2.stay rfl ?_ ?_) hc ⟨n2.lim.trans h0.symm, by show σ.next ≤ σ2.next + 1; omega, fun q hq _ => ?_⟩
      · have : σ.next + 1 + 1 < σ2.next := AH.get_lt n2.net
        simp (disch := omega) [eqf1, eqf2]
      · have := AH.get_lt n2.ang
        simp (disch := omega) [eqf1, eqf2]
      · rw [AH.get_set_other _ _ _ _ (by omega), AH.get_push_old _ _ _ (by omega), qq.get q (by omega) (by simp; omega)]; exact g1 q hq
    · obtain ⟨hlo, P, Q, s1, s2, p1, p2⟩ := hpf
      have q2 := qq.next
      have q0 : σ2.lim = 0 := qq.lim.trans n1.lim
      obtain ⟨x1, x2, x3⟩ := s1.cel
      obtain ⟨y1, y2, y3⟩ := s2.cel
      simp (disch := omega) [Und, q0, x1, x2, x3, y1, y2, y3, -Bool.exists_bool, -Check_ok]
      refine k2 _ hok ⟨P, Q, small, p1, p2⟩ ⟨q0.trans h0.symm, by show σ.next ≤ σ2.next + 1; omega, fun q hq _ => ?_⟩
      rw [AH.get_set_other _ _ _ _ (by omega), AH.get_push_old _ _ _ (by omega), qq.get q (by omega) (by simp; omega)]; exact g1 q hq
  · simp (disch := omega) [eNetW, h0, -Bool.exists_bool, -Check_ok]
    refine hck _ ?_
    rw [if_neg hok]
    simp (disch := omega) [Und, -Bool.exists_bool, -Check_ok]
    exact k1 _ hok ⟨rfl, Nat.le_succ _, fun q hq _ => AH.get_push_old _ _ _ (by omega)⟩
/-- What Some answers. -/
inductive SomeV (T : Int) (C : List Bool) (A : List An) : AV → Prop
  | bad : ¬ okNet T C A → SomeV T C A (.tuple [vs true [], .int .i64 60])
  | none : okNet T C A → Proved T C A → SomeV T C A (.tuple [vs true [], .int .i64 4])
  | ok (h : List Int) : okNet T C A → isCl T C A h → SomeV T C A (.tuple [vs false h, .int .i64 0])
theorem Some_ok (T : Int) (nC : Bool) (C : List Bool) (nA : Bool) (A : List An) (hC : C.length < 2 ^ 62) (hA : A.length < 2 ^ 62) : ∃ v, SomeV T C A v ∧ ans prog O 20 [eNet T nC C nA A] = some v := by
  refine fn_ex pl _ get20 (oo (by decide)) rfl rfl ?_
  have he : AV.agg [.int .i64 T, vl AV.bool nC C, vl eAn nA A] = eNet T nC C nA A := rfl
  simp (disch := omega) [eNet, -Bool.exists_bool]
  rw [he]
  refine settled_call (w := vl eAn nA A) hC hA rfl (.vl nA) (fun σ' h1 h2 => ?_) (fun σ' h1 h3 h2 => ?_) (fun n i h L σ' hok hn hc _ => ?_)
  · simp (disch := omega) [Und, -Bool.exists_bool]
    exact .bad h1
  · simp (disch := omega) [Und, -Bool.exists_bool]
    exact .none h1 h3
  · have s0 := hn.lim
    have snn := hn.net
    have san := hn.ang
    have hnl := netC_len (T := T) (nC := nC) (C := C) (aA := vl eAn nA A) (i := i) (m := (edges C A).length) (L := L)
    have ll := hn.ll
    have hE := okE_edges hok
    have hhl := hn.bd.1
    have hlen := gRow_len (edges C A) h hhl
    have hN := hok.1
    have hA3 := hok.2.2.1
    have hel := edges_len C A
    simp (disch := omega) [Und, snn, hnl, ll, -Bool.exists_bool, -getElem?_pos]
    refine lp_loop pl (fun k fr τ => ∃ (j : Nat) (v : AV), k + j = (edges C A).length ∧ fr = ⟨[(6, v), (20, .slice (some (i, 0)) (edges C A).length (.op 5)), (21, .int .i64 (edges C A).length), (22, .int .i64 j)], []⟩ ∧ τ.lim = 0 ∧ σ'.next ≤ τ.next ∧ τ.get i = some (.cells (gRow (edges C A) h)) ∧ Buf σ'.next 1 (AV.int .i64) τ v (h.take j))
      ⟨(edges C A).length, 0, .vsl true [], by omega, rfl, s0, Nat.le_refl _, san, Buf.nil⟩ ?_
    rintro k _ τ ⟨j, v, hj, rfl, t0, tn, tg, tb⟩
    have lti := AH.get_lt tg
    by_cases hjE : j < (edges C A).length
    · have hjE' : (j : Int) < (edges C A).length := by omega
      have hat := gRow_at (edges C A) h j hhl hjE
      have i5 : j * 5 + 5 ≤ (edges C A).length * 5 := by omega
      have htl : (h.take j).length = j := by rw [List.length_take]; omega
      simp (disch := omega) [eqf1, eqf2, Und, t0, tg, hjE', hlen, hat, i5, -Bool.exists_bool, -getElem?_pos]
      generalize hτ1 : AH.set _ τ.next _ = τ1
      have u0 : τ1.lim = 0 := by rw [← hτ1]; exact t0
      have un : τ1.next = τ.next + 1 := by rw [← hτ1]; rfl
      have ug : ∀ q, q < τ.next → τ1.get q = τ.get q := fun q hq => by rw [← hτ1, AH.get_set_other _ _ _ _ (by omega), AH.get_push_old _ _ _ (by omega)]
      clear hτ1
      rw [← un]
      have hli := AH.get_lt san
      refine (tb.keep (σ' := τ1) fun q _ hq => ug q hq).push encI (by omega) (by omega) (nth h j) (by rw [htl]; simp only [topBytes]; omega) rfl fun v' τ2 q1 q2 => ?_
      have q3 := q2.lim
      have q4 := q2.next
      simp (disch := omega) [Und, -Bool.exists_bool, -getElem?_pos]
      refine ⟨k - 1, by omega, j + 1, by omega, v', ⟨rfl, by omega⟩, by omega, by omega, ?_, ?_⟩
      · rw [q2.get i hli, ug i lti]; exact tg
      · rw [take_succ_nth (by omega)]; exact q1
    · obtain rfl : j = (edges C A).length := by omega
      have hta : h.take (edges C A).length = h := List.take_of_length_le (by omega)
      rw [hta] at tb
      rcases tb with ⟨_, hx⟩ | ⟨o, rfl, o1, o2, _⟩
      · rw [hx] at hhl; simp at hhl; omega
      have hsl := aslS_full 1 o h.length
      simp (disch := omega) [eqf1, eqf2, Und, t0, hsl, -Bool.exists_bool, -getElem?_pos]
      have hfz := fz_whole encI flatI (f := τ.cel) (o := o) (xs := h) (c := .ex h.length) (by simp [o2]) (.inr rfl) 5
      rw [show fzV 7 τ.cel (.slice (some (o, 0)) h.length (.ex h.length)) = vs false h from hfz]
      exact .ok h hok hc
/-- Between what an angle lies, just. -/
structure IsSpan (T : Int) (C : List Bool) (A : List An) (k : Nat) (s : Span) : Prop where
  low : ∃ h, isCl T C A h ∧ nth h k = s.lo
  high : ∃ h, isCl T C A h ∧ nth h k = s.hi
  all : ∀ h, isCl T C A h → s.lo ≤ nth h k ∧ nth h k ≤ s.hi
/-- What Spans answers. -/
inductive SpansV (T : Int) (C : List Bool) (A : List An) : AV → Prop
  | bad : ¬ okNet T C A → SpansV T C A (.tuple [vl eSpan true [], .int .i64 60])
  | none : okNet T C A → Proved T C A → SpansV T C A (.tuple [vl eSpan true [], .int .i64 4])
  | ok (l : List Span) : okNet T C A → l.length = A.length → (∀ k, k < A.length → IsSpan T C A k (nth l k)) → SpansV T C A (.tuple [vl eSpan false l, .int .i64 0])
theorem Spans_ok (T : Int) (nC : Bool) (C : List Bool) (nA : Bool) (A : List An) (hC : C.length < 2 ^ 62) (hA : A.length < 2 ^ 62) : ∃ v, SpansV T C A v ∧ ans prog O 17 [eNet T nC C nA A] = some v := by
  refine fn_ex pl _ get17 (oo (by decide)) rfl rfl ?_
  have he : AV.agg [.int .i64 T, vl AV.bool nC C, vl eAn nA A] = eNet T nC C nA A := rfl
  simp (disch := omega) [eNet, -Bool.exists_bool]
  rw [he]
  refine settled_call (w := vl eAn nA A) hC hA rfl (.vl nA) (fun σ' h1 h2 => ?_) (fun σ' h1 h3 h2 => ?_) (fun n i h L σ' hok hn hc _ => ?_)
  · simp (disch := omega) [Und, -Bool.exists_bool]
    exact .bad h1
  · simp (disch := omega) [Und, -Bool.exists_bool]
    exact .none h1 h3
  · obtain ⟨N, rfl⟩ : ∃ N : Nat, T = N := ⟨T.toNat, by have := hok.1; omega⟩
    have s0 := hn.lim
    have snn := hn.net
    have hnl := netC_len (T := (N : Int)) (nC := nC) (C := C) (aA := vl eAn nA A) (i := i) (m := (edges C A).length) (L := L)
    have ll := hn.ll
    have hN := hok.1
    have hA3 := hok.2.2.1
    have hel := edges_len C A
    have lsn := AH.get_lt snn
    have lsi := AH.get_lt hn.ang
    have hE := okE_edges hok
    simp (disch := omega) [Und, snn, hnl, ll, -Bool.exists_bool, -getElem?_pos]
    refine lp_loop pl (fun k fr τ => ∃ (j : Nat) (v : AV) (h : List Int) (l : List Span), k + j = (edges C A).length ∧ fr = ⟨[(4, .ptr (some (n, 0))), (6, v), (21, .int .i64 (edges C A).length), (22, .int .i64 j)], []⟩ ∧ NetI N nC C (vl eAn nA A) (edges C A) n i h L τ ∧ isCl N C A h ∧ σ'.next ≤ τ.next ∧ Buf σ'.next 2 eSpan τ v l ∧ l.length = j ∧ ∀ q, q < j → IsSpan N C A q (nth l q))
      ⟨(edges C A).length, 0, .vsl true [], h, [], by omega, rfl, hn, hc, Nat.le_refl _, Buf.nil, rfl, fun q hq => by omega⟩ ?_
    rintro k _ τ ⟨j, v, h1, l, hj, rfl, tN, tc, tn, tb, tl, ts⟩
    by_cases hjE : j < (edges C A).length
    · have hjE' : (j : Int) < (edges C A).length := by omega
      simp (disch := omega) [eqf1, eqf2, Und, hjE', -Bool.exists_bool, -getElem?_pos]
      refine change_call hok hjE tN tc fun h2 τ2 n2 c2 e2 o2 => ?_
      simp (disch := omega) [eqf1, eqf2, Und, -Bool.exists_bool, -getElem?_pos]
      refine change_call hok hjE n2 c2 fun h3 τ3 n3 c3 e3 o3 => ?_
      simp (disch := omega) [eqf1, eqf2, Und, -Bool.exists_bool, -getElem?_pos]
      have t3 := n3.lim
      have x2 := o2.next
      have x3 := o3.next
      have tb3 : Buf σ'.next 2 eSpan τ3 v l := tb.keep fun q q1 q2 => by rw [o3.get q (by omega) (by simp; omega), o2.get q q2 (by simp; omega)]
      have hb2 := c2.1.2 j hjE
      have hb3 := c3.1.2 j hjE
      refine tb3.push encSpan (by omega) (by omega) (⟨nth h2 j, nth h3 j⟩ : Span) (by simp only [topBytes]; omega) rfl fun v' τ4 q1 q2 => ?_
      have q3 := q2.lim
      have q4 := q2.next
      simp (disch := omega) [Und, -Bool.exists_bool, -getElem?_pos]
      refine ⟨k - 1, by omega, j + 1, by omega, v', ⟨rfl, by omega⟩, h3, n3.stay q3 (q2.get n lsn) (q2.get i lsi), c3, by omega, l ++ [⟨nth h2 j, nth h3 j⟩], q1, by simp; omega, fun q hq => ?_⟩
      by_cases e : q < j
      · rw [nth_append_left (by omega)]; exact ts q e
      · have e5 : q = l.length := by omega
        rw [e5, nth_append_right (by omega) (by simp), Nat.sub_self, tl]
        refine ⟨⟨h2, c2, rfl⟩, ⟨h3, c3, rfl⟩, fun f hf => ⟨?_, ?_⟩⟩
        · exact e2 f hf
        · exact e3 f hf
    · obtain rfl : j = (edges C A).length := by omega
      rcases tb with ⟨_, hx⟩ | ⟨o, rfl, o1, o2, _⟩
      · rw [hx] at tl; simp at tl; omega
      have hsl := aslS_full 2 o l.length
      simp (disch := omega) [eqf1, eqf2, Und, tN.lim, hsl, -Bool.exists_bool, -getElem?_pos]
      have hfz := fz_whole encSpan (fun x c hc k f => by
        simp at hc
        rcases hc with rfl | rfl <;> exact ⟨rfl, rfl⟩) (f := τ.cel) (o := o) (xs := l) (c := .ex l.length) (by simp [o2]) (.inr rfl) 5
      rw [show fzV 7 τ.cel (.slice (some (o, 0)) l.length (.ex l.length)) = vl eSpan false l from hfz]
      exact .ok l hok (by omega) fun k hk => ts k (by omega)
/-- What Proof answers. -/
inductive ProofV (T : Int) (C : List Bool) (A : List An) : AV → Prop
  | bad : ¬ okNet T C A → ProofV T C A (.tuple [.agg [vs true [], vs true [], .bool false], .int .i64 60])
  | none (h : List Int) : okNet T C A → isCl T C A h → ProofV T C A (.tuple [.agg [vs true [], vs true [], .bool false], .int .i64 4])
  | ok (a b : Bool) (P Q : List Int) (small : Bool) : okNet T C A → okPf T C P Q → hold A P Q small → ProofV T C A (.tuple [.agg [vs a P, vs b Q, .bool small], .int .i64 0])
theorem Proof_ok (T : Int) (nC : Bool) (C : List Bool) (nA : Bool) (A : List An) (hC : C.length < 2 ^ 62) (hA : A.length < 2 ^ 62) : ∃ v, ProofV T C A v ∧ ans prog O 19 [eNet T nC C nA A] = some v := by
  refine fn_ex pl _ get19 (oo (by decide)) rfl rfl ?_
  have hck := Check_ok T nC C nA A hC hA
  have he : AV.agg [.int .i64 T, vl AV.bool nC C, vl eAn nA A] = eNet T nC C nA A := rfl
  by_cases hok : okNet T C A
  · obtain ⟨N, rfl⟩ : ∃ N : Nat, T = N := ⟨T.toNat, by have := hok.1; omega⟩
    rw [if_pos hok] at hck
    simp (disch := omega) [eNet, -Bool.exists_bool, -Check_ok]
    rw [he]
    simp (disch := omega) [hck, Und, -Bool.exists_bool, -Check_ok]
    rw [he]
    refine netOf_call hok rfl (.vl nA) fun i L σ1 _ n1 hs h16 o1 => ?_
    simp (disch := omega) [Und, -Bool.exists_bool, -Check_ok]
    have q1 := o1.next
    simp at q1
    have hi2 : (1 : Nat) ≠ i := fun e => by
      have h1 := n1.ang
      rw [← e, o1.get 1 (by simp) (by simp)] at h1
      simp at h1
      have h2 := congrArg List.length h1
      rw [gRow_len _ _ (by simp [edges, lows])] at h2
      simp at h2; omega
    have e1 : σ1.get 1 = some (.cells [.vsl true [], .vsl true [], .bool false]) := by rw [o1.get 1 (by simp) (by simp)]; simp
    refine settle_call hok n1 hs h16 (fun h' L' σ2 n2 hc qq => ?_) (fun v1 v2 small σ2 hpf qq => ?_)
    · have q2 := qq.next
      have f1 := (qq.get 1 (by omega) (by simp; omega)).trans e1
      have q0 := n2.lim
      have l1 := AH.get_lt f1
      have l0 : 0 < σ2.next := by omega
      simp (disch := omega) [Und, q0, f1, l1, l0, eqf1, eqf2, -Bool.exists_bool, -Check_ok]
      exact .none h' hok hc
    · obtain ⟨hlo, P, Q, s1, s2, p1, p2⟩ := hpf
      obtain ⟨x1, x2, x3⟩ := s1.cel
      obtain ⟨y1, y2, y3⟩ := s2.cel
      have q2 := qq.next
      have q0 : σ2.lim = 0 := qq.lim.trans n1.lim
      have f1 := (qq.get 1 (by omega) (by simp; omega)).trans e1
      have l1 := AH.get_lt f1
      have l0 : 0 < σ2.next := by omega
      simp (disch := omega) [Und, q0, f1, l1, l0, eqf1, eqf2, x1, x2, x3, y1, y2, y3, -Bool.exists_bool, -Check_ok]
      generalize hτ : AH.set _ 1 _ = τ
      have hlo' : ∀ x, (x ∈ obj v1 ∨ x ∈ obj v2) → 2 ≤ x := fun x hx => by
        have := hlo x hx
        have := o1.next
        simp at this; omega
      have tg : ∀ x, x < σ2.next → 2 ≤ x → τ.get x = σ2.get x := fun x h1 h2 => by
        rw [← hτ, AH.get_set_other _ _ _ _ (by omega), AH.get_set_other _ _ _ _ (by omega), AH.get_push_old _ _ _ (by omega)]
      obtain ⟨a, ha⟩ := (s1.keep fun x h1 h2 => tg x h1 (hlo' x (.inl h2))).fz 4
      obtain ⟨b, hb⟩ := (s2.keep fun x h1 h2 => tg x h1 (hlo' x (.inr h2))).fz 4
      rw [ha, hb]
      exact .ok a b P Q small hok p1 p2
  · rw [if_neg hok] at hck
    simp (disch := omega) [eNet, -Bool.exists_bool, -Check_ok]
    rw [he]
    simp (disch := omega) [hck, Und, -Bool.exists_bool, -Check_ok]
    exact .bad hok
end Go.Oct.Tri
