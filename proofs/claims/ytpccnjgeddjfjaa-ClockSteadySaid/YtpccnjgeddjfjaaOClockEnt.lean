/- Clocks on trial: their names and numbers. -/
import Derived.Test.YtpccnjgeddjfjaaOClockConE
import Derived.Test.YtpccnjgeddjfjaaOT4
set_option maxRecDepth 100000
set_option maxHeartbeats 2000000
set_option linter.unusedVariables false
set_option linter.unusedSimpArgs false
namespace Go.Oct.Clock
open Go.Oct
/-- A clock on trial. -/
structure Ent where
  name : ByteArray
  wn : Bool
  weeks : List Int
  deriving Inhabited
def eEnt (x : Ent) : AV := .agg [.str x.name, vs x.wn x.weeks]
theorem encEnt : Enc eEnt 2 := ⟨fun _ => rfl, fun _ => rfl, fun _ => rfl, by decide⟩
@[simp] theorem aidx_ent {nl : Bool} {xs : List Ent} (q : IntKind) (i : Int) : aidx 2 (vl eEnt nl xs) (.int q i) = if 0 ≤ i ∧ i < (xs.length : Int) then some (.vptr [.str (nth xs i.toNat).name, vs (nth xs i.toNat).wn (nth xs i.toNat).weeks] 0) else none :=
  aidx_vl (e := eEnt) (fun _ => rfl) q i
@[simp] theorem aslS_ent {nl : Bool} {xs : List Ent} (lo hi mx : Option AV) : aslS 2 (vl eEnt nl xs) lo hi mx = (abounds xs.length xs.length lo hi mx).map fun r => vl eEnt nl ((xs.drop r.1).take (r.2.1 - r.1)) := aslS_vl (e := eEnt) (fun _ => rfl) lo hi mx
/-! ### Names -/
def chOK (s : ByteArray) (i : Nat) : Prop := (97 ≤ nth (bys s) i ∧ nth (bys s) i ≤ 122) ∨ ((nth (bys s) i = 45 ∨ (48 ≤ nth (bys s) i ∧ nth (bys s) i ≤ 57)) ∧ 0 < i)
instance (s : ByteArray) (i : Nat) : Decidable (chOK s i) := by unfold chOK; infer_instance
def nameTo (s : ByteArray) (n : Nat) : Prop := (1 ≤ ((bys s).length : Int) ∧ ((bys s).length : Int) ≤ 16) ∧ ∀ i, i < n → chOK s i
instance (s : ByteArray) (n : Nat) : Decidable (nameTo s n) := by unfold nameTo; infer_instance
abbrev nameOK (s : ByteArray) : Prop := nameTo s (bys s).length
theorem nameTo_succ {s : ByteArray} {n : Nat} : nameTo s (n + 1) ↔ nameTo s n ∧ chOK s n := by
  unfold nameTo
  constructor
  · rintro ⟨h1, h2⟩; exact ⟨⟨h1, fun i hi => h2 i (by omega)⟩, h2 n (by omega)⟩
  · rintro ⟨⟨h1, h2⟩, h3⟩
    refine ⟨h1, fun i hi => ?_⟩
    by_cases e : i = n
    · rw [e]; exact h3
    · exact h2 i (by omega)
theorem s2b_cells (s : ByteArray) : (s.data.toList.map fun b => AV.int .u8 b.toNat) = (bys s).map (AV.int .u8) := by unfold bys; rw [List.map_map]; rfl
def as2b (x : AV) (σ : AH) : Option (AV × AH) := match x with
  | .str s => some (.slice (some (σ.next, 0)) (bys s).length (.op 1), σ.push (.ro ((bys s).map (AV.int .u8))))
  | _ => none
theorem ahop_s2b (ρ : Opd → AV) (σ : AH) (x : Opd) : ahop ρ σ (.s2b x) = as2b (ρ x) σ := by
  simp only [ahop, as2b]
  cases ρ x <;> try rfl
  simp only [s2b_cells, bys_len]
@[simp ↓] theorem o1_s2b {p : AProg} {O : Caller} {pl : List Nat} {env : Env} {σ : AH} (k : Kn (AV → AH → Prop)) (x : Opd) : @O1 p O pl (.h (.s2b x)) env σ k = @Ok2 (as2b (x.ev env) σ) k := by
  show OptK2 (ahop (Opd.ev env) σ (.s2b x)) k.k = _
  rw [ahop_s2b]; rfl
@[simp] theorem as2b_str (s : ByteArray) (σ : AH) : as2b (.str s) σ = some (.slice (some (σ.next, 0)) (bys s).length (.op 1), σ.push (.ro ((bys s).map (AV.int .u8)))) := (rfl)
theorem map_get (l : List Int) {i : Nat} (h : i < l.length) : (l.map (AV.int .u8))[i]? = some (.int .u8 (nth l i)) := by
  rw [List.getElem?_map, nth_get? h]; rfl

@[simp] theorem isName_ok (s : ByteArray) : ans prog O 65 [.str s] = some (.bool (decide (nameOK s))) := by
  refine fn_of' pl get65 (oo (by decide)) rfl rfl ?_
  by_cases hl : 1 ≤ ((bys s).length : Int) ∧ ((bys s).length : Int) ≤ 16
  · have h1 : 0 < (bys s).length := by omega
    have hb0 := bys_bd s 0 h1
    by_cases h97 : nth (bys s) 0 < 97
    · simp (disch := omega) [hl, h1, h97]
      have hn : ¬ nameOK s := fun h => by
        have := h.2 0 h1
        unfold chOK at this
        omega
      simp [hn]
    · simp (disch := omega) [hl, h1, h97, map_get, bys_bd]
      refine lp_count pl (bys s).length (fun j => [(15, .slice (some (0, 0)) (bys s).length (.op 1)), (16, .int .i64 (bys s).length), (17, .int .i64 j)]) (fun _ => _) (fun j => nameTo s j) ⟨rfl, rfl, hl, fun i hi => by omega⟩ ?_
      intro j hj hi
      by_cases hjl : j < (bys s).length
      · have hb := bys_bd s j hjl
        simp (disch := omega) [Und, hjl, map_get, -List.getElem?_map]
        refine ⟨by omega, fun h2 h3 h4 => ?_, fun h2 => ?_⟩
        · have hn : ¬ nameOK s := fun h => by
            have := h.2 j hjl
            unfold chOK at this
            omega
          simp [hn]
        · refine nameTo_succ.2 ⟨hi, ?_⟩
          unfold chOK
          by_cases e : j = 0
          · subst e; omega
          · omega
      · obtain rfl : j = (bys s).length := by omega
        simp (disch := omega) [Und, hi]
  · have hn : ¬ nameOK s := fun h => hl h.1
    simp (disch := omega) [hl, hn, Und]
end Go.Oct.Clock
