/- Logs: all points of a sea; where the ship is. -/
import Derived.Test.YtddclpecmjibkaaDoorOFixLogW
set_option maxRecDepth 100000
set_option maxHeartbeats 8000000
set_option linter.unusedVariables false
set_option linter.unusedSimpArgs false
namespace Go.Oct.Fix
open Go.Oct
def shSea : List Leaf := List.replicate 3600 .bool
@[simp ↓] theorem rep_sh : List.replicate 3600 Leaf.bool = shSea := rfl
theorem sea_eq (f g : Nat → Bool) : eqCells shSea (seaC f) (seaC g) = some (sameSea f g) := seaC_eq f g
@[simp] theorem aidx_sea {nl : Bool} {xs : List (Nat → Bool)} (q : IntKind) (i : Int) : aidx 1 (vl eSea nl xs) (.int q i) = if 0 ≤ i ∧ i < (xs.length : Int) then some (.vptr [eSea (nth xs i.toNat)] 0) else none :=
  aidx_vl (e := eSea) (fun _ => rfl) q i
theorem last_call {E N : Span} {nS : Bool} {S : List Stp} (h12 : S.length ≤ 12) {σ : AH} {K : AV → AH → Prop}
    (hK : ∀ σ', Only [] σ σ' → K (.tuple [eSea (can E N (rns S) (sgs S S.length) (rns S).length), .bool (!sameSea (can E N (rns S) (sgs S S.length) (rns S).length) fun _ => false)]) σ') : Call prog O (.fn 70) [logP E N nS S] σ K := by
  refine @call_of' _ _ pl _ _ _ _ _ _ _ ⟨K⟩ get70 ((oo (by decide)).2 _) rfl ?_
  have hsl := seas_len E N S
  have hn := seas_nth (E := E) (N := N) (S := S) (j := (rns S).length) (Nat.le_refl _)
  have i1 : ((rns S).length : Int) < (seas E N S).length := by omega
  have i2 : (rns S).length < (seas E N S).length := by omega
  have hcl := seaC_len (can E N (rns S) (sgs S S.length) (rns S).length)
  have htk : (seaC (can E N (rns S) (sgs S S.length) (rns S).length)).take 3600 = seaC (can E N (rns S) (sgs S S.length) (rns S).length) := List.take_of_length_le (by omega)
  simp (disch := omega) [logP, Und, i1, i2, hn, eSea, hcl, htk, sea_eq, -Bool.exists_bool]
  exact hK σ (Only.refl _ _)
/-- The points of a sea, in order. -/
def ptsTo (f : Nat → Bool) (n : Nat) : List Span := ((List.range n).filter f).map pt
theorem ptsTo_succ (f : Nat → Bool) (n : Nat) : ptsTo f (n + 1) = ptsTo f n ++ if f n = true then [pt n] else [] := by
  unfold ptsTo
  rw [List.range_succ, List.filter_append, List.map_append]
  congr 1
  by_cases e : f n = true <;> simp [List.filter, e]
theorem ptsTo_len (f : Nat → Bool) (n : Nat) : (ptsTo f n).length ≤ n := by
  unfold ptsTo
  rw [List.length_map]
  have := List.length_filter_le f (List.range n)
  rwa [List.length_range] at this
abbrev ptsL (f : Nat → Bool) : List Span := ptsTo f 3600
theorem ptsL_mem {f : Nat → Bool} {q : Span} : q ∈ ptsL f ↔ ∃ n, n < 3600 ∧ f n = true ∧ q = pt n := by
  unfold ptsL ptsTo
  rw [List.mem_map]
  constructor
  · rintro ⟨n, h1, rfl⟩
    rw [List.mem_filter] at h1
    exact ⟨n, List.mem_range.1 h1.1, h1.2, rfl⟩
  · rintro ⟨n, h1, h2, rfl⟩
    exact ⟨n, List.mem_filter.2 ⟨List.mem_range.2 h1, h2⟩, rfl⟩
/-- A sea that may be read. -/
def SeaV (σ : AH) (v : AV) (f : Nat → Bool) : Prop := v = eSea f ∨ ∃ o, v = .ptr (some (o, 0)) ∧ σ.get o = some (.cells (seaC f))
theorem SeaV.rd {σ : AH} {v : AV} {f : Nat → Bool} (h : SeaV σ v f) {n : Nat} (hn : n < 3600) : RdAt σ v n (f n) := by
  rcases h with rfl | ⟨o, rfl, hg⟩
  · exact .inl ⟨_, rfl, seaC_len f, seaC_get hn⟩
  · exact .inr ⟨o, _, rfl, hg, seaC_len f, seaC_get hn⟩
theorem SeaV.stay {σ σ' : AH} {v : AV} {f : Nat → Bool} (h : SeaV σ v f) (hk : ∀ z, z < σ.next → σ'.get z = σ.get z) : SeaV σ' v f := by
  rcases h with rfl | ⟨o, rfl, hg⟩
  · exact .inl rfl
  · exact .inr ⟨o, rfl, (hk o (AH.get_lt hg)).trans hg⟩
/-- A round of all. -/
structure AY (T : AH) (n0 : Nat) (env : Env) (f : Nat → Bool) (n : Nat) (σ : AH) : Prop where
  lim : σ.lim = 0
  nx : T.next + 2 ≤ σ.next
  low : ∀ k, k < T.next → k ≠ n0 → σ.get k = T.get k
  mark : σ.get T.next = some .dfr
  loop : σ.get (T.next + 1) = some (.loop 71 0 env .ready none T.next)
  buf : ∃ sv, σ.get n0 = some (.cells [sv]) ∧ Buf (T.next + 2) 2 eSpan σ sv (ptsTo f n)
theorem ptsL_ne {f : Nat → Bool} (h : sameSea f (fun _ => false) = false) : ptsL f ≠ [] := fun e => by
  have : sameSea f (fun _ => false) = true := sameSea_iff.2 fun n hn => by
    cases hf : f n with
    | false => rfl
    | true =>
      have hm : pt n ∈ ptsL f := ptsL_mem.2 ⟨n, hn, hf, rfl⟩
      rw [e] at hm; cases hm
  rw [h] at this; cases this
theorem ptsL_nil {f : Nat → Bool} (h : sameSea f (fun _ => false) = true) : ptsL f = [] := by
  cases e : ptsL f with
  | nil => rfl
  | cons q l =>
    have hm : q ∈ ptsL f := by rw [e]; exact List.mem_cons_self ..
    obtain ⟨n, h1, h2, _⟩ := ptsL_mem.1 hm
    rw [sameSea_iff.1 h n h1] at h2; cases h2
theorem flatSp : flatE eSpan := fun x c hc k f => by
  simp at hc
  rcases hc with rfl | rfl <;> exact ⟨rfl, rfl⟩
/-- The last sea. -/
abbrev canR (E N : Span) (S : List Stp) : Nat → Bool := can E N (rns S) (sgs S S.length) (rns S).length
/-- What Where and Was answer. -/
noncomputable def whereV (E N : Span) (S : List Stp) : AV := if okLog E N S then (if (ptsL (canR E N S)) = [] then .tuple [vl eSpan true [], .int .i64 4] else .tuple [vl eSpan false (ptsL (canR E N S)), .int .i64 0]) else .tuple [vl eSpan true [], .int .i64 80]
theorem logOf_bad (E N : Span) (nS : Bool) (S : List Stp) (hz : szLog S) (hok : ¬ okLog E N S) : ans prog O 69 [eLog E N nS S] = some (.tuple [.ptr none, .int .i64 80]) := by
  have hck := Check_ok E N nS S hz
  rw [if_neg hok] at hck
  refine fn_of' pl get69 (oo (by decide)) rfl rfl ?_
  unfold eLog at hck
  simp (disch := omega) [eLog, hck, Und, -Bool.exists_bool]
  rfl
end Go.Oct.Fix
