/- Logs: where the ship was. -/
import Derived.Test.YtddclpecmjibkaaDoorOFixWasW
set_option maxRecDepth 100000
set_option maxHeartbeats 8000000
set_option linter.unusedVariables false
set_option linter.unusedSimpArgs false
namespace Go.Oct.Fix
open Go.Oct
@[simp] theorem vptr_cells (cs : List AV) (o : Nat) : (AV.vptr cs o).cells = [AV.vptr cs o] := (rfl)
@[simp] theorem vptr_dfd (cs : List AV) (o : Nat) : (AV.vptr cs o).dfd = true := (rfl)
@[simp] theorem vptr_one (cs : List AV) (o : Nat) : (AV.vptr cs o).one = true := (rfl)
/-- A round of an outer loop over points, a sea being written. -/
structure RgS (fno idx : Nat) (T : AH) (hb : Nat) (env : Env) (c : Nat → Nat → Bool) (n : Nat) (σ : AH) : Prop where
  lim : σ.lim = 0
  nx : T.next + 2 ≤ σ.next
  low : ∀ k, k < T.next → k ≠ hb → σ.get k = T.get k
  mark : σ.get T.next = some .dfr
  loop : σ.get (T.next + 1) = some (.loop fno idx env .ready none T.next)
  sea : σ.get hb = some (.cells (seaC (c n)))
/-- A round of an inner one. -/
structure RgN (fno idx : Nat) (U : AH) (hb l d : Nat) (env : Env) (c : Nat → Nat → Bool) (m : Nat) (σ : AH) : Prop where
  lim : σ.lim = 0
  nx : l + 1 ≤ σ.next
  low : ∀ k, k < l → k ≠ hb → σ.get k = U.get k
  loop : σ.get l = some (.loop fno idx env .ready none d)
  sea : σ.get hb = some (.cells (seaC (c m)))
abbrev wasF (E N : Span) (S : List Stp) : Nat → Nat → Bool := was E N (rns S) (sgs S S.length)
theorem was_ne {E N : Span} {S : List Stp} {d : Nat} (hd : d ≤ (rns S).length) (h : ptsL (canR E N S) ≠ []) : ptsL (wasF E N S d) ≠ [] := fun e => by
  obtain ⟨q, hq⟩ := List.exists_mem_of_ne_nil _ h
  obtain ⟨n, h1, h2, _⟩ := ptsL_mem.1 hq
  obtain ⟨t, ht, _⟩ := of_can _ n h1 h2
  have hw := was_of ht d hd
  have hm : pt (ix (nth t ((rns S).length - d))) ∈ ptsL (wasF E N S d) := ptsL_mem.2 ⟨_, ix_lt (ht.sea _ (by omega)), hw, rfl⟩
  rw [e] at hm; cases hm
noncomputable def wasV (E N : Span) (S : List Stp) (run : Int) : AV := if okLog E N S then (if 0 ≤ run ∧ run ≤ (rns S).length then (if (ptsL (canR E N S)) = [] then .tuple [vl eSpan true [], .int .i64 4] else .tuple [vl eSpan false (ptsL (wasF E N S ((rns S).length - run.toNat))), .int .i64 0]) else .tuple [vl eSpan true [], .int .i64 81]) else .tuple [vl eSpan true [], .int .i64 80]
end Go.Oct.Fix
