/- The theory, part T3. -/
import Derived.Test.YtddkghgfbhhcdaaGreatDoorOT2
import Derived.OpenShut
import Derived.SizedLaws
import Derived.Carry
import Derived.WideKeyArgs
import Derived.Handed
import Derived.Stop.Joined
import Derived.LaidMore
/- What a run of code leads to: rules, one for each kind of code and of operation, as rewriting. -/
section
set_option linter.unusedVariables false
set_option linter.unusedSimpArgs false
namespace Go.Oct

section
variable (p : AProg) (O : Caller)
/-- A call answers, and what it leaves is K. -/
def Call (t : Tgt) (args : List AV) (σ : AH) (K : AV → AH → Prop) : Prop := ∃ n v s, arun p O n t args σ = some (v, s) ∧ K v s
def WO (os : List AOper) (env : Env) (σ : AH) (K : Env → AH → Prop) : Prop := ∃ n e s, aops p (arun p O n) os env σ = some (e, s) ∧ K e s
def WD (os : List AOper) (env : Env) (σ : AH) (g : Seg) (K : Env → AH → Prop) : Prop := ∃ n e s, adraw p (arun p O n) os env σ g = some (e, s) ∧ K e s
def WC (f : Nat) (rd : Option Nat) (c : ACode) (fr : Fr) (σ : AH) (Q : AEx → Fr → AH → Prop) : Prop := ∃ n ex fr' s, acode p (arun p O n) n f rd c fr σ = some (ex, fr', s) ∧ Q ex fr' s
/-- A function that is run apart answers v, and leaves the heap as it is. -/
def Fn (g : Nat) (args : List AV) (v : AV) : Prop :=
  (∀ σ, O (.fn g) args σ = some (v, σ)) ∨
  ∃ af n u s, p.funcs.get g = some af ∧ af.pure = true ∧ (∀ a σ, a ≠ [] → O (.fn g) a σ = none) ∧ (∀ σ, O (.fn g) args σ = none) ∧ args.all (closed 8) = true ∧ abody p (arun p O n) n g af args ⟨0, 0, .leaf⟩ = some (u, s) ∧ v = fzV 8 s.cel u
open Classical in
/-- What a function that is run apart answers. -/
noncomputable def ans (g : Nat) (args : List AV) : Option AV := if h : ∃ v, Fn p O g args v then some h.choose else none
end

def OptK {α : Type} (o : Option α) (k : α → Prop) : Prop := ∃ v, o = some v ∧ k v
@[simp] theorem optK_some {α : Type} (v : α) (k : α → Prop) : OptK (some v) k ↔ k v := by simp [OptK]
@[simp] theorem optK_none {α : Type} (k : α → Prop) : OptK none k ↔ False := by simp [OptK]
@[simp] theorem optK_ite {α : Type} (c : Prop) [Decidable c] (a : Option α) (k : α → Prop) : OptK (if c then a else none) k ↔ c ∧ OptK a k := by
  by_cases h : c <;> simp [h]
@[simp] theorem optK_ite_not {α : Type} (c : Prop) [Decidable c] (a : Option α) (k : α → Prop) : OptK (if c then none else a) k ↔ ¬ c ∧ OptK a k := by
  by_cases h : c <;> simp [h]
@[simp] theorem optK_map {α β : Type} (f : α → β) (o : Option α) (k : β → Prop) : OptK (o.map f) k ↔ OptK o (fun x => k (f x)) := by
  cases o <;> simp
def OptK2 (o : Option (AV × AH)) (k : AV → AH → Prop) : Prop := ∃ v s, o = some (v, s) ∧ k v s
@[simp] theorem optK2_some (v : AV) (s : AH) (k : AV → AH → Prop) : OptK2 (some (v, s)) k ↔ k v s := by
  constructor
  · rintro ⟨v', s', e, h⟩; cases e; exact h
  · intro h; exact ⟨v, s, rfl, h⟩
@[simp] theorem optK2_none (k : AV → AH → Prop) : OptK2 none k ↔ False := by simp [OptK2]
@[simp] theorem optK2_ite (c : Prop) [Decidable c] (a : Option (AV × AH)) (k : AV → AH → Prop) : OptK2 (if c then a else none) k ↔ c ∧ OptK2 a k := by
  by_cases h : c <;> simp [h]
@[simp] theorem optK2_map {α : Type} (f : α → AV × AH) (o : Option α) (k : AV → AH → Prop) : OptK2 (o.map f) k ↔ OptK o (fun x => k (f x).1 (f x).2) := by
  cases o with
  | none => simp
  | some x => rw [Option.map_some, optK_some]; exact optK2_some _ _ _


/-- A condition under which more is asked. -/
def Und (c A : Prop) : Prop := c → A
@[congr] theorem und_congr {c c' A A' : Prop} (h : c = c') (hA : c' → A = A') : Und c A = Und c' A' := by
  subst h
  exact propext ⟨fun k hc => (hA hc) ▸ k hc, fun k hc => (hA hc).symm ▸ k hc⟩
@[simp] theorem und_true (A : Prop) : Und True A ↔ A := by simp [Und]
@[simp] theorem und_false (A : Prop) : Und False A ↔ True := by simp [Und]
@[simp] theorem und_self (c : Prop) : Und c True ↔ True := by simp [Und]
@[congr] theorem optK_congr {α : Type} {o o' : Option α} {k : α → Prop} (h : o = o') : OptK o k = OptK o' k := by rw [h]
@[congr] theorem optK2_congr {o o' : Option (AV × AH)} {k : AV → AH → Prop} (h : o = o') : OptK2 o k = OptK2 o' k := by rw [h]

/-- A value that is there under a condition. -/
def gv (c : Prop) [Decidable c] (x : AV) : AV := if c then x else .tuple []
@[simp] theorem gv_true (x : AV) [Decidable True] : gv True x = x := by simp [gv]
@[simp] theorem gv_false (x : AV) [Decidable False] : gv False x = .tuple [] := by simp [gv]
@[simp] theorem gv_gv (c d : Prop) [Decidable c] [Decidable d] (x : AV) : gv c (gv d x) = gv (c ∧ d) x := by
  by_cases h : c <;> by_cases h2 : d <;> simp [gv, h, h2]
@[simp] theorem gv_of (c : Prop) [Decidable c] (x : AV) (h : c) : gv c x = x := by simp [gv, h]
/-- One of two values. -/
def Pk (c : Prop) [Decidable c] (a b : AV) : AV := if c then a else b
@[congr] theorem pk_congr {c c' : Prop} [Decidable c] [Decidable c'] {a a' b b' : AV} (h : c = c') (ha : c' → a = a') (hb : ¬ c' → b = b') : Pk c a b = Pk c' a' b' := by
  subst h
  unfold Pk
  by_cases hc : c
  · rw [if_pos hc, if_pos hc, ha hc]
  · rw [if_neg hc, if_neg hc, hb hc]
@[simp] theorem pk_true (a b : AV) [Decidable True] : Pk True a b = a := by simp [Pk]
@[simp] theorem pk_false (a b : AV) [Decidable False] : Pk False a b = b := by simp [Pk]
@[simp] theorem pk_bool (c : Prop) [Decidable c] (a b : Bool) : Pk c (.bool a) (.bool b) = .bool (if c then a else b) := by by_cases h : c <;> simp [Pk, h]
@[simp] theorem pk_int (c : Prop) [Decidable c] (q : IntKind) (a b : Int) : Pk c (.int q a) (.int q b) = .int q (if c then a else b) := by by_cases h : c <;> simp [Pk, h]
/-- An answer that is asked for under a condition. -/
def GK (c : Prop) [Decidable c] (a : Option AV) (k : AV → Prop) : Prop := OptK (if c then a else some (.tuple [])) k
@[congr] theorem gK_congr {c c' : Prop} [Decidable c] [Decidable c'] {a a' : Option AV} {k : AV → Prop} (h : c = c') (ha : c' → a = a') : GK c a k = GK c' a' k := by
  subst h
  unfold GK
  by_cases hc : c
  · rw [if_pos hc, if_pos hc, ha hc]
  · rw [if_neg hc, if_neg hc]
@[simp] theorem gK_true (a : Option AV) (k : AV → Prop) [Decidable True] : GK True a k ↔ OptK a k := by simp [GK]
@[simp] theorem gK_false (a : Option AV) (k : AV → Prop) [Decidable False] : GK False a k ↔ k (.tuple []) := by simp [GK]
@[simp] theorem gK_some (c : Prop) [Decidable c] (x : AV) (k : AV → Prop) : GK c (some x) k ↔ k (gv c x) := by
  unfold GK gv
  by_cases h : c <;> simp [h]
@[simp] theorem gK_ite (c e : Prop) [Decidable c] [Decidable e] (a : Option AV) (k : AV → Prop) : GK c (if e then a else none) k ↔ Und c e ∧ GK c a k := by
  unfold GK Und
  by_cases h : c <;> simp [h]
@[simp] theorem gK_none (c : Prop) [Decidable c] (k : AV → Prop) : GK c none k ↔ ¬ c ∧ k (.tuple []) := by
  unfold GK
  by_cases h : c <;> simp [h]

def SeqK (k : Fr → AH → Prop) (Q : AEx → Fr → AH → Prop) : AEx → Fr → AH → Prop
  | .normal, fr, σ => k fr σ
  | ex, fr, σ => Q ex fr σ
@[simp] theorem seqK_normal (k : Fr → AH → Prop) (Q : AEx → Fr → AH → Prop) (fr : Fr) (σ : AH) : SeqK k Q .normal fr σ = k fr σ := (rfl)
@[simp] theorem seqK_exit (k : Fr → AH → Prop) (Q : AEx → Fr → AH → Prop) (j : Nat) (fr : Fr) (σ : AH) : SeqK k Q (.exit j) fr σ = Q (.exit j) fr σ := (rfl)
@[simp] theorem seqK_ret (k : Fr → AH → Prop) (Q : AEx → Fr → AH → Prop) (fr : Fr) (σ : AH) : SeqK k Q .ret fr σ = Q .ret fr σ := (rfl)
@[congr] theorem seqK_congr {k : Fr → AH → Prop} {Q : AEx → Fr → AH → Prop} {ex ex' : AEx} {fr fr' : Fr} {σ σ' : AH} (h : ex = ex') (h1 : fr = fr') (h2 : σ = σ') : SeqK k Q ex fr σ = SeqK k Q ex' fr' σ' := by rw [h, h1, h2]
def BlockK (id : Nat) (Q : AEx → Fr → AH → Prop) : AEx → Fr → AH → Prop
  | .exit j, fr, σ => if j = id then Q .normal fr σ else Q (.exit j) fr σ
  | ex, fr, σ => Q ex fr σ
@[simp] theorem blockK_normal (id : Nat) (Q : AEx → Fr → AH → Prop) (fr : Fr) (σ : AH) : BlockK id Q .normal fr σ = Q .normal fr σ := (rfl)
@[simp] theorem blockK_same (id : Nat) (Q : AEx → Fr → AH → Prop) (fr : Fr) (σ : AH) : BlockK id Q (.exit id) fr σ = Q .normal fr σ := by simp [BlockK]
theorem blockK_exit (id j : Nat) (Q : AEx → Fr → AH → Prop) (fr : Fr) (σ : AH) : BlockK id Q (.exit j) fr σ = Q (if j = id then .normal else .exit j) fr σ := by
  by_cases h : j = id <;> simp [BlockK, h]
@[simp] theorem blockK_other (id j : Nat) (Q : AEx → Fr → AH → Prop) (fr : Fr) (σ : AH) (h : j ≠ id) : BlockK id Q (.exit j) fr σ = Q (.exit j) fr σ := by simp [BlockK, h]
@[simp] theorem blockK_ret (id : Nat) (Q : AEx → Fr → AH → Prop) (fr : Fr) (σ : AH) : BlockK id Q .ret fr σ = Q .ret fr σ := (rfl)
@[congr] theorem blockK_congr {id : Nat} {Q : AEx → Fr → AH → Prop} {ex ex' : AEx} {fr fr' : Fr} {σ σ' : AH} (h : ex = ex') (h1 : fr = fr') (h2 : σ = σ') : BlockK id Q ex fr σ = BlockK id Q ex' fr' σ' := by rw [h, h1, h2]
def CondK : AV → Prop → Prop → Prop
  | .bool t, A, B => Und (t = true) A ∧ Und (t = false) B
  | _, _, _ => False
@[congr] theorem condK_congr {x x' : AV} {A B : Prop} (h : x = x') : CondK x A B = CondK x' A B := by rw [h]
@[simp] theorem condK_bool (t : Bool) (A B : Prop) : CondK (.bool t) A B ↔ Und (t = true) A ∧ Und (t = false) B := Iff.rfl
/-- Is a guard met? -/
def wantP (x : AV) (w : Bool) : Prop := match x with
  | .bool b => b = w
  | _ => False
instance (x : AV) (w : Bool) : Decidable (wantP x w) := by
  cases x <;> simp only [wantP] <;> infer_instance
def isDef (x : AV) : Prop := match x with
  | .undef => False
  | _ => True
@[simp] theorem wantP_bool (b w : Bool) : wantP (.bool b) w = (b = w) := (rfl)
@[simp] theorem wantP_gv (c : Prop) [Decidable c] (b w : Bool) : wantP (gv c (.bool b)) w = (c ∧ b = w) := by
  by_cases h : c <;> simp [gv, h, wantP]
@[simp] theorem isDef_bool (b : Bool) : isDef (.bool b) = True := (rfl)
@[simp] theorem isDef_gv (c : Prop) [Decidable c] (b : Bool) : isDef (gv c (.bool b)) = True := by
  by_cases h : c <;> simp [gv, h, isDef]
theorem wantP_ok {env : Env} {t : Nat} {w : Bool} (hd : isDef (env.get t)) : (wantP (env.get t) w → wantedA env (some (t, w)) = some true) ∧ (¬ wantP (env.get t) w → wantedA env (some (t, w)) = some false) := by
  simp only [wantedA]
  cases hx : env.get t <;> rw [hx] at hd <;> simp [wantP, isDef] at hd ⊢

section
variable {p : AProg} {O : Caller}

/-! ### Fuel -/
theorem call_le {n m : Nat} (h : n ≤ m) {t : Tgt} {args : List AV} {σ : AH} {r : AV × AH} (e : arun p O n t args σ = some r) : arun p O m t args σ = some r := arun_mono p O h _ _ _ _ e
theorem aops_up {n m : Nat} (h : n ≤ m) {os : List AOper} {env : Env} {σ : AH} {r : Env × AH} (e : aops p (arun p O n) os env σ = some r) : aops p (arun p O m) os env σ = some r := aops_le (arun_mono p O h) _ _ _ _ e
theorem adraw_up {n m : Nat} (h : n ≤ m) {os : List AOper} {env : Env} {σ : AH} {g : Seg} {r : Env × AH} (e : adraw p (arun p O n) os env σ g = some r) : adraw p (arun p O m) os env σ g = some r := adraw_le (arun_mono p O h) _ _ _ _ _ e
theorem acode_up {n m f : Nat} {rd : Option Nat} (h : n ≤ m) {c : ACode} {fr : Fr} {σ : AH} {r : Out} (e : acode p (arun p O n) n f rd c fr σ = some r) : acode p (arun p O m) m f rd c fr σ = some r := acode_le (arun_mono p O h) h _ _ _ _ e
theorem call_det {n m : Nat} {t : Tgt} {args : List AV} {σ : AH} {r r' : AV × AH} (e : arun p O n t args σ = some r) (e' : arun p O m t args σ = some r') : r = r' := by
  have h1 := call_le (Nat.le_max_left n m) e
  have h2 := call_le (Nat.le_max_right n m) e'
  rw [h1] at h2
  exact Option.some.inj h2
theorem Call.mono {t : Tgt} {args : List AV} {σ : AH} {K K' : AV → AH → Prop} (h : Call p O t args σ K) (hk : ∀ v s, K v s → K' v s) : Call p O t args σ K' := by
  obtain ⟨n, v, s, e, k⟩ := h
  exact ⟨n, v, s, e, hk v s k⟩
theorem Fn.run {g : Nat} {args : List AV} {v : AV} (h : Fn p O g args v) : ∃ n, ∀ σ, arun p O n (.fn g) args σ = some (v, σ) := by
  rcases h with h | ⟨af, n, u, s, h1, h2, h3, h3', h4, h5, rfl⟩
  · exact ⟨0, fun σ => h σ⟩
  · refine ⟨n + 1, fun σ => ?_⟩
    simp only [arun, h3' σ, arun1, h1, h2, if_true, apart, h4, h5]
theorem Fn.det {g : Nat} {args : List AV} {v v' : AV} (h : Fn p O g args v) (h' : Fn p O g args v') : v = v' := by
  obtain ⟨n, hn⟩ := h.run
  obtain ⟨m, hm⟩ := h'.run
  have := call_det (hn ⟨0, 0, .leaf⟩) (hm ⟨0, 0, .leaf⟩)
  exact congrArg Prod.fst this
theorem ans_of {g : Nat} {args : List AV} {v : AV} (h : Fn p O g args v) : ans p O g args = some v := by
  have hex : ∃ v, Fn p O g args v := ⟨v, h⟩
  unfold ans
  rw [dif_pos hex]
  exact congrArg some (hex.choose_spec.det h)
theorem Fn.of_ans {g : Nat} {args : List AV} {v : AV} (h : ans p O g args = some v) : Fn p O g args v := by
  unfold ans at h
  split at h
  · rename_i hex
    cases h
    exact hex.choose_spec
  · cases h
/-- A call with arguments that lead to objects. -/
theorem Fn.snap {g : Nat} {args : List AV} {σ : AH} {v : AV} (hne : args ≠ []) (hnc : ¬ args.all (closed 8) = true) (h : Fn p O g (args.map (fzV 8 (σ.celOf (args.flatMap (idsV 8 σ.cel))))) v) (hO : ∀ a σ, a ≠ [] → O (.fn g) a σ = none) :
    ∃ n, (isScal 8 v = true → arun p O n (.fn g) args σ = some (v, σ)) ∧
      (isScal 8 v = false → (args.flatMap (idsV 8 σ.cel)).all (fun i => decide (σ.lim ≤ i)) = true → arun p O n (.fn g) args σ = some (v, σ.kills (args.flatMap (idsV 8 σ.cel)))) := by
  rcases h with h | ⟨af, n, u, s, h1, h2, h3, h3', h4, h5, rfl⟩
  · have := h σ
    rw [hO _ _ (by simpa using hne)] at this
    cases this
  · refine ⟨n + 1, fun hs => ?_, fun hs hall => ?_⟩
    · simp only [arun, h3 args σ hne, arun1, h1, h2, if_true, apart, hnc, h5, hs]
      simp
    · simp only [arun, h3 args σ hne, arun1, h1, h2, if_true, apart, hnc, h5, hs, hall]
      simp

/-! ### What a load answers -/
def aload (σ : AH) (agg : Bool) (n : Nat) : AV → Option AV
  | .ptr (some (i, o)) => match σ.row i with
    | some cs => if o + n ≤ cs.length then partV agg n cs o else none
    | none => none
  | .vptr cs o => if o + n ≤ cs.length then partV agg n cs o else none
  | _ => none
theorem ahop_load (ρ : Opd → AV) (σ : AH) (agg : Bool) (n : Nat) (a : Opd) : ahop ρ σ (.load agg n a) = (aload σ agg n (ρ a)).map fun v => (v, σ) := by
  simp only [ahop]
  generalize ρ a = x
  unfold aload
  split
  · rename_i i o
    simp only
    cases σ.row i with
    | none => rfl
    | some cs => simp only; split <;> rfl
  · simp only; split <;> rfl
  · rename_i h1 h2
    split
    · exact absurd rfl (h1 _ _)
    · exact absurd rfl (h2 _ _)
    · rfl

/-! ### The conditions of code -/
section
variable (p : AProg) (O : Caller) (pl : List Nat)
/-- A call of a function that is run apart. -/
def PCall (g : Nat) (args : List AV) (σ : AH) (k : AV → AH → Prop) : Prop :=
  if args.all (closed 8) = true then OptK (ans p O g args) (fun v => k v σ)
  else args ≠ [] ∧ (∀ a σ, a ≠ [] → O (.fn g) a σ = none) ∧ OptK (ans p O g (args.map (fzV 8 (σ.celOf (args.flatMap (idsV 8 σ.cel)))))) fun v =>
    if isScal 8 v = true then k v σ
    else (args.flatMap (idsV 8 σ.cel)).all (fun i => decide (σ.lim ≤ i)) = true ∧ k v (σ.kills (args.flatMap (idsV 8 σ.cel)))
def vCall : Tgt → List AV → AH → (AV → AH → Prop) → Prop
  | .fn g, args, σ, k => if pl.contains g = true then Call p O (.fn g) args σ k else PCall p O g args σ k
  | .yield l, args, σ, k => Call p O (.yield l) args σ k
def TgtK (t : Option (Tgt × List AV × List AV)) (k : Tgt → List AV → List AV → Prop) : Prop :=
  match t with
  | some (.fn g, xs, ys) => k (.fn g) xs ys
  | some (.yield l, xs, _) => k (.yield l) xs []
  | none => False
def MethK (f : Option Nat) (v : AV) (k : Nat → AV → Prop) : Prop :=
  match f with
  | some f => k f v
  | none => False
def InvK (p : AProg) (name : String) (r : AV) (k : Nat → AV → Prop) : Prop :=
  match r with
  | .iface t v => MethK (p.meth t name) v k
  | _ => False
def vOp (o : AOp) (env : Env) (σ : AH) (k : AV → AH → Prop) : Prop :=
  match o with
  | .v o => OptK (avopM p (Opd.ev env) o) (fun v => k v σ)
  | .h (.load g n a) => OptK (aload σ g n ((Opd.ev env) a)) (fun v => k v σ)
  | .h o => OptK2 (ahop (Opd.ev env) σ o) k
  | .call f args => TgtK (target ((Opd.ev env) f)) fun t xs ys => vCall p O pl t (xs ++ args.map (Opd.ev env) ++ ys) σ k
  | .invoke nm r args => InvK p nm ((Opd.ev env) r) fun f v => vCall p O pl (.fn f) (v :: args.map (Opd.ev env)) σ k
  | _ => False
/-- An operation that is carried out under a condition. -/
def vOpG (c : Prop) [Decidable c] (o : AOp) (env : Env) (σ : AH) (k : AV → AH → Prop) : Prop :=
  match o with
  | .v o => GK c (avopM p (Opd.ev env) o) (fun v => k v σ)
  | .h (.load g n a) => GK c (aload σ g n ((Opd.ev env) a)) (fun v => k v σ)
  | .call (.const (.func (.func g) [] [])) args =>
    if pl.contains g = true then Und c (vOp p O pl o env σ k) ∧ Und (¬ c) (k (.tuple []) σ)
    else if (args.map (Opd.ev env)).all (closed 8) = true then GK c (ans p O g (args.map (Opd.ev env))) (fun v => k v σ)
    else Und c (PCall p O g (args.map (Opd.ev env)) σ k) ∧ Und (¬ c) (k (.tuple []) σ)
  | o => Und c (vOp p O pl o env σ k) ∧ Und (¬ c) (k (.tuple []) σ)
def vO : List AOper → Env → AH → (Env → AH → Prop) → Prop
  | [], env, σ, K => K env σ
  | ⟨d, o, none, _⟩ :: r, env, σ, K => vOp p O pl o env σ (fun v s => vO r (putDst env d v) s K)
  | ⟨d, o, some (t, w), _⟩ :: r, env, σ, K => isDef (env.get t) ∧ vOpG p O pl (wantP (env.get t) w) o env σ (fun v s => vO r (putDst env d v) s K)
end

theorem PCall.sound {g : Nat} {args : List AV} {σ : AH} {k : AV → AH → Prop} (h : PCall p O g args σ k) : Call p O (.fn g) args σ k := by
  unfold PCall at h
  split at h
  · obtain ⟨v, hv, hk⟩ := h
    obtain ⟨n, hn⟩ := (Fn.of_ans hv).run
    exact ⟨n, v, σ, hn σ, hk⟩
  · rename_i hnc
    obtain ⟨hne, hO, v, hv, hk⟩ := h
    obtain ⟨n, h1, h2⟩ := Fn.snap hne hnc (Fn.of_ans hv) hO
    split at hk
    · rename_i hs
      exact ⟨n, v, σ, h1 hs, hk⟩
    · rename_i hs
      exact ⟨n, v, _, h2 (by simpa using hs) hk.1, hk.2⟩
variable {pl : List Nat}
theorem vCall.sound {t : Tgt} {args : List AV} {σ : AH} {k : AV → AH → Prop} (h : vCall p O pl t args σ k) : Call p O t args σ k := by
  cases t with
  | fn g =>
    simp only [vCall] at h
    split at h
    · exact h
    · exact h.sound
  | yield l => exact h
/-- What an operation leaves. -/
def OpK (p : AProg) (O : Caller) (o : AOp) (ρ : Opd → AV) (σ : AH) (k : AV → AH → Prop) : Prop := ∃ n v s, aop p (arun p O n) ρ σ o = some (v, s) ∧ k v s
theorem OpK.v {o : VOp} {ρ : Opd → AV} {σ : AH} {k : AV → AH → Prop} (h : OptK (avopM p ρ o) (fun v => k v σ)) : OpK p O (.v o) ρ σ k := by
  obtain ⟨v, h, hk⟩ := h
  exact ⟨0, v, σ, by simp only [aop, h, Option.map_some], hk⟩
theorem OpK.load {g : Bool} {n : Nat} {a : Opd} {ρ : Opd → AV} {σ : AH} {k : AV → AH → Prop} (h : OptK (aload σ g n (ρ a)) (fun v => k v σ)) : OpK p O (.h (.load g n a)) ρ σ k := by
  obtain ⟨v, h, hk⟩ := h
  exact ⟨0, v, σ, by simp only [aop, ahop_load, h, Option.map_some], hk⟩
theorem vOp.sound {o : AOp} {env : Env} {σ : AH} {k : AV → AH → Prop} (h : vOp p O pl o env σ k) : OpK p O o (Opd.ev env) σ k := by
  unfold vOp at h
  split at h
  · exact OpK.v h
  · exact OpK.load h
  · obtain ⟨v, s, h, hk⟩ := h
    exact ⟨0, v, s, h, hk⟩
  · rename_i f args
    unfold TgtK at h
    split at h
    · rename_i g xs ys ht
      obtain ⟨n, v, s, h, hk⟩ := h.sound
      exact ⟨n, v, s, by simp only [aop, ht]; exact h, hk⟩
    · rename_i l xs ys ht
      obtain ⟨n, v, s, h, hk⟩ := h.sound
      exact ⟨n, v, s, by simp only [aop, ht]; simpa using h, hk⟩
    · exact h.elim
  · rename_i nm r args
    unfold InvK at h
    split at h
    · rename_i t u hr
      unfold MethK at h
      split at h
      · rename_i f hm
        obtain ⟨n, v, s, h, hk⟩ := h.sound
        exact ⟨n, v, s, by simp only [aop, hr, hm]; exact h, hk⟩
      · exact h.elim
    · exact h.elim
  · exact h.elim
theorem vOpG.sound {c : Prop} [Decidable c] {o : AOp} {env : Env} {σ : AH} {k : AV → AH → Prop} (h : vOpG p O pl c o env σ k) : (c → OpK p O o (Opd.ev env) σ k) ∧ (¬ c → k (.tuple []) σ) := by
  unfold vOpG at h
  split at h
  · refine ⟨fun hc => ?_, fun hc => ?_⟩
    · unfold GK at h; rw [if_pos hc] at h; exact OpK.v h
    · unfold GK at h; rw [if_neg hc] at h; simpa using h
  · refine ⟨fun hc => ?_, fun hc => ?_⟩
    · unfold GK at h; rw [if_pos hc] at h; exact OpK.load h
    · unfold GK at h; rw [if_neg hc] at h; simpa using h
  · split at h
    · exact ⟨fun hc => (h.1 hc).sound, fun hc => h.2 hc⟩
    · rename_i g args hg
      split at h
      · refine ⟨fun hc => ?_, fun hc => ?_⟩
        · unfold GK at h; rw [if_pos hc] at h
          obtain ⟨v, hv, hk⟩ := h
          obtain ⟨n, hn⟩ := (Fn.of_ans hv).run
          refine ⟨n, v, σ, ?_, hk⟩
          simp only [aop, Opd.ev, target, List.nil_append, List.append_nil]
          exact hn σ
        · unfold GK at h; rw [if_neg hc] at h; simpa using h
      · refine ⟨fun hc => ?_, fun hc => h.2 hc⟩
        refine vOp.sound (pl := pl) (o := .call (.const (.func (.func g) [] [])) args) ?_
        simp only [vOp, Opd.ev, target, TgtK, vCall, hg, if_false, List.nil_append, List.append_nil]
        exact h.1 hc
  · exact ⟨fun hc => (h.1 hc).sound, fun hc => h.2 hc⟩

theorem wo_cons {d : Option Nat} {o : AOp} {gd : Option (Nat × Bool)} {cl : Cls} {r : List AOper} {env : Env} {σ : AH} {K : Env → AH → Prop}
    (h : (wantedA env gd = some true ∧ OpK p O o (Opd.ev env) σ (fun v s => WO p O r (putDst env d v) s K)) ∨ (wantedA env gd = some false ∧ WO p O r (putDst env d (.tuple [])) σ K)) : WO p O (⟨d, o, gd, cl⟩ :: r) env σ K := by
  rcases h with ⟨hw, n, v, s1, h1, m, e, s, h, k⟩ | ⟨hw, n, e, s, h, k⟩
  · refine ⟨max n m, e, s, ?_, k⟩
    simp only [aops, hw, aop_le (arun_mono p O (Nat.le_max_left n m)) h1]
    exact aops_up (Nat.le_max_right n m) h
  · exact ⟨n, e, s, by simp only [aops, hw]; exact h, k⟩
theorem OpK.mono {o : AOp} {ρ : Opd → AV} {σ : AH} {k k' : AV → AH → Prop} (h : OpK p O o ρ σ k) (hk : ∀ v s, k v s → k' v s) : OpK p O o ρ σ k' := by
  obtain ⟨n, v, s, h1, h2⟩ := h
  exact ⟨n, v, s, h1, hk _ _ h2⟩
theorem vO.sound : ∀ {os : List AOper} {env : Env} {σ : AH} {K : Env → AH → Prop}, vO p O pl os env σ K → WO p O os env σ K
  | [], env, σ, K, h => ⟨0, _, _, rfl, h⟩
  | ⟨d, o, none, cl⟩ :: r, env, σ, K, h => wo_cons (.inl ⟨rfl, (vOp.sound h).mono fun v s h => vO.sound h⟩)
  | ⟨d, o, some (t, w), cl⟩ :: r, env, σ, K, h => by
    obtain ⟨hd, h⟩ := h
    obtain ⟨h1, h2⟩ := vOpG.sound h
    obtain ⟨w1, w2⟩ := wantP_ok (w := w) hd
    by_cases hb : wantP (env.get t) w
    · exact wo_cons (.inl ⟨w1 hb, (h1 hb).mono fun v s h => vO.sound h⟩)
    · exact wo_cons (.inr ⟨w2 hb, vO.sound (h2 hb)⟩)

/-! ### Regions whose order is open -/
def AH.under (σ : AH) (m : Nat) : AH := { σ with lim := m }
@[simp] theorem AH.under_next (σ : AH) (m : Nat) : (σ.under m).next = σ.next := (rfl)
@[simp] theorem AH.under_lim (σ : AH) (m : Nat) : (σ.under m).lim = m := (rfl)
@[simp] theorem AH.under_get (σ : AH) (m i : Nat) : (σ.under m).get i = σ.get i := (rfl)
@[simp] theorem AH.under_under (σ : AH) (m k : Nat) : (σ.under m).under k = σ.under k := (rfl)
@[simp] theorem AH.under_self (σ : AH) : σ.under σ.lim = σ := (rfl)
@[simp] theorem aload_under (σ : AH) (m : Nat) (g : Bool) (n : Nat) (x : AV) : aload (σ.under m) g n x = aload σ g n x := (rfl)
instance : DecidableEq Cls := fun a b => by cases a <;> cases b <;> first | exact isTrue rfl | exact isFalse (by simp)
def segFree (r : List AOper) : Bool := r.all fun o => isV o.op || (match o.cls with | .full | .froz => true | _ => false)
theorem adraw_free {C : Caller} : ∀ (r : List AOper) (env : Env) (σ : AH) (s s' : Seg), segFree r = true → adraw p C r env σ s = adraw p C r env σ s'
  | [], env, σ, s, s', _ => rfl
  | o :: r, env, σ, s, s', h => by
    simp only [segFree, List.all_cons, Bool.and_eq_true] at h
    have ih := adraw_free (C := C) r
    simp only [adraw, dstep]
    cases hw : wantedA env o.guard with
    | none => rfl
    | some b =>
      cases b with
      | false => exact ih _ _ _ _ h.2
      | true =>
        by_cases hv : isV o.op = true
        · simp only [hv, if_true]
          cases aop p C (Opd.ev env) σ o.op with
          | none => rfl
          | some x => exact ih _ _ _ _ h.2
        · simp only [hv, Bool.false_eq_true, if_false]
          have hc := h.1
          simp only [hv, Bool.false_or] at hc
          cases hcl : o.cls <;> simp only [hcl, Bool.false_eq_true] at hc
          · rfl
          · simp only
            cases aop p C (Opd.ev env) { σ with lim := σ.next } o.op with
            | none => rfl
            | some x => exact ih _ _ _ _ h.2

section
variable (p : AProg) (O : Caller) (pl : List Nat)
def vDOp (o : AOp) (cl : Cls) (env : Env) (σ : AH) (s : Seg) (k : AV → AH → Seg → Prop) : Prop :=
  match o with
  | .v o => OptK (avopM p (Opd.ev env) o) (fun v => k v σ s)
  | .h (.tslice _ len zero ps) => OptK (afill (Opd.ev env) zero ps) (fun cs => k (.tsl len cs) σ s)
  | o =>
    match cl with
    | .full => vOp p O pl o env σ (fun v σ' => k v σ' ⟨σ'.next, [], []⟩)
    | .semi => match oldApp (Opd.ev env) o s with
      | some i => vOp p O pl o env σ (fun v σ' => k v σ' { s with sts := i :: s.sts })
      | none => σ.lim ≤ s.seg ∧ vOp p O pl o env (σ.under s.seg) (fun v σ' => k v (σ'.under σ.lim) s)
    | .froz => vOp p O pl o env (σ.under σ.next) (fun v σ' => k v (σ'.under σ.lim) s)
    | .sload =>
      match o with
      | .h (.load g n a) =>
        match (Opd.ev env) a with
        | .vptr cs q => OptK (aload σ g n (.vptr cs q)) (fun v => k v σ s)
        | .ptr (some (i, q)) => i < s.seg ∧ s.sts.contains i = false ∧ OptK (aload σ g n (.ptr (some (i, q)))) (fun v => k v σ { s with lds := i :: s.lds })
        | _ => False
      | _ => False
    | .st1 => match oldSto (Opd.ev env) σ o s with
      | some i => vOp p O pl o env σ (fun v σ' => k v σ' { s with sts := i :: s.sts })
      | none => σ.lim ≤ s.seg ∧ vOp p O pl o env (σ.under s.seg) (fun v σ' => k v (σ'.under σ.lim) s)
def vDOpG (free : Bool) (c : Prop) [Decidable c] (o : AOp) (cl : Cls) (env : Env) (σ : AH) (s : Seg) (k : AV → AH → Seg → Prop) : Prop :=
  match o with
  | .v o => GK c (avopM p (Opd.ev env) o) (fun v => k v σ s)
  | .h (.load g n a) =>
    match cl with
    | .froz => GK c (aload σ g n ((Opd.ev env) a)) (fun v => k v σ s)
    | cl => if free = true ∧ cl = .full then GK c (aload σ g n ((Opd.ev env) a)) (fun v => k v σ s)
      else Und c (vDOp p O pl o cl env σ s k) ∧ Und (¬ c) (k (.tuple []) σ s)
  | .call (.const (.func (.func g) [] [])) args =>
    if pl.contains g = false ∧ (cl = .froz ∨ (free = true ∧ cl = .full)) then
      if (args.map (Opd.ev env)).all (closed 8) = true then GK c (ans p O g (args.map (Opd.ev env))) (fun v => k v σ s)
      else Und c (vDOp p O pl o cl env σ s k) ∧ Und (¬ c) (k (.tuple []) σ s)
    else Und c (vDOp p O pl o cl env σ s k) ∧ Und (¬ c) (k (.tuple []) σ s)
  | o => Und c (vDOp p O pl o cl env σ s k) ∧ Und (¬ c) (k (.tuple []) σ s)
def vD : List AOper → Env → AH → Seg → (Env → AH → Prop) → Prop
  | [], env, σ, _, K => K env σ
  | ⟨d, o, none, cl⟩ :: r, env, σ, s, K => vDOp p O pl o cl env σ s (fun v σ' s' => vD r (putDst env d v) σ' s' K)
  | ⟨d, o, some (t, w), cl⟩ :: r, env, σ, s, K => isDef (env.get t) ∧ vDOpG p O pl (segFree r) (wantP (env.get t) w) o cl env σ s (fun v σ' s' => vD r (putDst env d v) σ' s' K)
end

/-- What a step of such a region leaves. -/
def DK (p : AProg) (O : Caller) (o : AOper) (env : Env) (σ : AH) (s : Seg) (k : AV → AH → Seg → Prop) : Prop := ∃ n v σ' s', dstep p (arun p O n) o env σ s = some (v, σ', s') ∧ k v σ' s'
theorem wd_cons {o : AOper} {r : List AOper} {env : Env} {σ : AH} {s : Seg} {K : Env → AH → Prop} (h : DK p O o env σ s (fun v σ' s' => WD p O r (putDst env o.dst v) σ' s' K)) : WD p O (o :: r) env σ s K := by
  obtain ⟨n, v, σ1, s1, h1, m, e, s2, h, k⟩ := h
  refine ⟨max n m, e, s2, ?_, k⟩
  simp only [adraw, dstep_le (arun_mono p O (Nat.le_max_left n m)) h1]
  exact adraw_up (Nat.le_max_right n m) h
theorem vDOp.sound {d : Option Nat} {o : AOp} {gd : Option (Nat × Bool)} {cl : Cls} {env : Env} {σ : AH} {s : Seg} {k : AV → AH → Seg → Prop} (hw : wantedA env gd = some true) (h : vDOp p O pl o cl env σ s k) :
    DK p O ⟨d, o, gd, cl⟩ env σ s k := by
  unfold vDOp at h
  split at h
  · obtain ⟨v, h, hk⟩ := h
    exact ⟨0, v, σ, s, by simp only [dstep, hw, isV, if_true, aop, h, Option.map_some], hk⟩
  · obtain ⟨cs, h, hk⟩ := h
    exact ⟨0, _, σ, s, by simp only [dstep, hw, isV, if_true, aop, ahop, h], hk⟩
  · rename_i hnv hnt
    have hv : isV o = false := by
      cases o with
      | v o => exact absurd rfl (hnv _)
      | h o => cases o <;> first | rfl | exact absurd rfl (hnt _ _ _ _)
      | _ => rfl
    split at h
    · obtain ⟨n, v, σ1, h1, hk⟩ := vOp.sound h
      exact ⟨n, v, σ1, _, by simp only [dstep, hw, hv, Bool.false_eq_true, if_false, h1], hk⟩
    · cases hoa : oldApp (Opd.ev env) o s with
      | some i =>
        simp only [hoa] at h
        obtain ⟨n, v, σ1, h1, hk⟩ := vOp.sound h
        exact ⟨n, v, _, _, by simp only [dstep, hw, hv, Bool.false_eq_true, if_false, hoa, h1], hk⟩
      | none =>
      simp only [hoa] at h
      obtain ⟨hl, h⟩ := h
      obtain ⟨n, v, σ1, h1, hk⟩ := vOp.sound h
      have h1 : aop p (arun p O n) (Opd.ev env) { σ with lim := s.seg } o = some (v, σ1) := h1
      exact ⟨n, v, _, _, by simp only [dstep, hw, hv, Bool.false_eq_true, if_false, hoa, h1, hl, if_true]; rfl, hk⟩
    · obtain ⟨n, v, σ1, h1, hk⟩ := vOp.sound h
      have h1 : aop p (arun p O n) (Opd.ev env) { σ with lim := σ.next } o = some (v, σ1) := h1
      exact ⟨n, v, _, _, by simp only [dstep, hw, hv, Bool.false_eq_true, if_false, h1]; rfl, hk⟩
    · split at h
      · rename_i g n a
        split at h
        · rename_i cs q hp
          obtain ⟨v, h, hk⟩ := h
          refine ⟨0, v, σ, s, ?_, hk⟩
          simp only [dstep, hw, isV, Bool.false_eq_true, if_false, addrOf, isVLoad, hp, if_true, aop, ahop_load, h, Option.map_some]
        · rename_i i q hp
          obtain ⟨hi, hs, v, h, hk⟩ := h
          refine ⟨0, v, σ, _, ?_, hk⟩
          simp only [dstep, hw, isV, Bool.false_eq_true, if_false, addrOf, hp, hi, hs, Bool.not_false, and_self, if_true, aop, ahop_load, h, Option.map_some]
        · exact h.elim
      · exact h.elim
    · cases hoa : oldSto (Opd.ev env) σ o s with
      | some i =>
        simp only [hoa] at h
        obtain ⟨n, v, σ1, h1, hk⟩ := vOp.sound h
        exact ⟨n, v, _, _, by simp only [dstep, hw, hv, Bool.false_eq_true, if_false, hoa, h1], hk⟩
      | none =>
      simp only [hoa] at h
      obtain ⟨hl, h⟩ := h
      obtain ⟨n, v, σ1, h1, hk⟩ := vOp.sound h
      have h1 : aop p (arun p O n) (Opd.ev env) { σ with lim := s.seg } o = some (v, σ1) := h1
      exact ⟨n, v, _, _, by simp only [dstep, hw, hv, Bool.false_eq_true, if_false, hoa, h1, hl, if_true]; rfl, hk⟩
theorem dk_skip {d : Option Nat} {o : AOp} {gd : Option (Nat × Bool)} {cl : Cls} {env : Env} {σ : AH} {s : Seg} {k : AV → AH → Seg → Prop} (hw : wantedA env gd = some false) (h : k (.tuple []) σ s) : DK p O ⟨d, o, gd, cl⟩ env σ s k :=
  ⟨0, _, _, _, by simp only [dstep, hw], h⟩
theorem DK.mono {o : AOper} {env : Env} {σ : AH} {s : Seg} {k k' : AV → AH → Seg → Prop} (h : DK p O o env σ s k) (hk : ∀ v σ s, k v σ s → k' v σ s) : DK p O o env σ s k' := by
  obtain ⟨n, v, σ1, s1, h1, h2⟩ := h
  exact ⟨n, v, σ1, s1, h1, hk _ _ _ h2⟩
/-- A step that leaves the heap, whatever becomes of the segment. -/
theorem dk_free {d : Option Nat} {o : AOp} {gd : Option (Nat × Bool)} {cl : Cls} {env : Env} {σ : AH} {s : Seg} {r : List AOper} {v : AV} {K : Env → AH → Prop} (hw : wantedA env gd = some true) (hv : isV o = false) (hcl : cl = .froz ∨ (segFree r = true ∧ cl = .full))
    (h : ∀ m, ∃ n, aop p (arun p O n) (Opd.ev env) (σ.under m) o = some (v, σ.under m)) (hk : WD p O r (putDst env d v) σ s K) : DK p O ⟨d, o, gd, cl⟩ env σ s (fun v σ' s' => WD p O r (putDst env d v) σ' s' K) := by
  rcases hcl with rfl | ⟨hfree, rfl⟩
  · obtain ⟨n, h1⟩ := h σ.next
    have h1 : aop p (arun p O n) (Opd.ev env) { σ with lim := σ.next } o = some (v, { σ with lim := σ.next }) := h1
    exact ⟨n, v, σ, s, by simp only [dstep, hw, hv, Bool.false_eq_true, if_false, h1], hk⟩
  · obtain ⟨n, h1⟩ := h σ.lim
    have h1 : aop p (arun p O n) (Opd.ev env) σ o = some (v, σ) := h1
    refine ⟨n, v, σ, ⟨σ.next, [], []⟩, by simp only [dstep, hw, hv, Bool.false_eq_true, if_false, h1], ?_⟩
    obtain ⟨m, e, s1, h2, h3⟩ := hk
    exact ⟨m, e, s1, by rw [adraw_free r _ _ _ s hfree]; exact h2, h3⟩
theorem vD.sound : ∀ {os : List AOper} {env : Env} {σ : AH} {s : Seg} {K : Env → AH → Prop}, vD p O pl os env σ s K → WD p O os env σ s K
  | [], env, σ, s, K, h => ⟨0, _, _, rfl, h⟩
  | ⟨d, o, none, cl⟩ :: r, env, σ, s, K, h => wd_cons ((vDOp.sound rfl h).mono fun v σ s h => vD.sound h)
  | ⟨d, o, some (t, w), cl⟩ :: r, env, σ, s, K, h => by
    obtain ⟨hd, h⟩ := h
    obtain ⟨w1, w2⟩ := wantP_ok (w := w) hd
    have hsplit : Und (wantP (env.get t) w) (vDOp p O pl o cl env σ s (fun v σ' s' => vD p O pl r (putDst env d v) σ' s' K)) ∧ Und (¬ wantP (env.get t) w) (vD p O pl r (putDst env d (.tuple [])) σ s K) → WD p O (⟨d, o, some (t, w), cl⟩ :: r) env σ s K := by
      rintro ⟨h1, h2⟩
      by_cases hb : wantP (env.get t) w
      · exact wd_cons ((vDOp.sound (w1 hb) (h1 hb)).mono fun v σ s h => vD.sound h)
      · exact wd_cons (dk_skip (w2 hb) (vD.sound (h2 hb)))
    have hmerge : ∀ (a : Option AV), isV o = false → (cl = .froz ∨ (segFree r = true ∧ cl = .full)) → (∀ v, wantP (env.get t) w → a = some v → ∀ m, ∃ n, aop p (arun p O n) (Opd.ev env) (σ.under m) o = some (v, σ.under m)) →
        GK (wantP (env.get t) w) a (fun v => vD p O pl r (putDst env d v) σ s K) → WD p O (⟨d, o, some (t, w), cl⟩ :: r) env σ s K := by
      intro a hv hcl ha hg
      unfold GK at hg
      by_cases hb : wantP (env.get t) w
      · rw [if_pos hb] at hg
        obtain ⟨v, hv1, hk⟩ := hg
        exact wd_cons (dk_free (w1 hb) hv hcl (ha v hb hv1) (vD.sound hk))
      · rw [if_neg hb] at hg
        obtain ⟨v, e, hk⟩ := hg
        cases e
        exact wd_cons (dk_skip (w2 hb) (vD.sound hk))
    have hload : ∀ {g : Bool} {n : Nat} {a : Opd}, o = .h (.load g n a) → (cl = .froz ∨ (segFree r = true ∧ cl = .full)) → GK (wantP (env.get t) w) (aload σ g n ((Opd.ev env) a)) (fun v => vD p O pl r (putDst env d v) σ s K) → WD p O (⟨d, o, some (t, w), cl⟩ :: r) env σ s K := by
      intro g n a ho hcl hg
      refine hmerge _ (by rw [ho]; rfl) hcl (fun v _ hv m => ⟨0, ?_⟩) hg
      rw [ho]
      simp only [aop, ahop_load, aload_under, hv, Option.map_some]
    unfold vDOpG at h
    split at h
    · unfold GK at h
      by_cases hb : wantP (env.get t) w
      · rw [if_pos hb] at h
        obtain ⟨v, hv, hk⟩ := h
        exact wd_cons ⟨0, v, σ, s, by simp only [dstep, w1 hb, isV, if_true, aop, hv, Option.map_some], vD.sound hk⟩
      · rw [if_neg hb] at h
        obtain ⟨v, e, hk⟩ := h
        cases e
        exact wd_cons (dk_skip (w2 hb) (vD.sound hk))
    · split at h
      · exact hload rfl (.inl rfl) h
      · split at h
        · rename_i hc
          exact hload rfl (.inr hc) h
        · exact hsplit h
    · split at h
      · rename_i g args hc
        split at h
        · refine hmerge _ rfl hc.2 (fun v _ hv m => ?_) h
          obtain ⟨n, hn⟩ := (Fn.of_ans hv).run
          refine ⟨n, ?_⟩
          simp only [aop, Opd.ev, target, List.nil_append, List.append_nil]
          exact hn _
        · exact hsplit h
      · exact hsplit h
    · exact hsplit h

/-! ### Code -/
section
variable (p : AProg) (O : Caller) (pl : List Nat) (f : Nat) (rd : Option Nat)
def vC : ACode → Fr → AH → (AEx → Fr → AH → Prop) → Prop
  | .skip, fr, σ, Q => Q .normal fr σ
  | .region false ops ks, fr, σ, Q => vO p O pl ops fr.env σ (fun e s => Q .normal ⟨e.keep ks, fr.marks⟩ s)
  | .region true ops ks, fr, σ, Q => vD p O pl ops fr.env σ ⟨σ.next, [], []⟩ (fun e s => Q .normal ⟨e.keep ks, fr.marks⟩ s)
  | .seq a b, fr, σ, Q => vC a fr σ (SeqK (fun fr s => vC b fr s Q) Q)
  | .cond c a b, fr, σ, Q => CondK (c.ev fr.env) (vC a fr σ Q) (vC b fr σ Q)
  | .block id b, fr, σ, Q => vC b fr σ (BlockK id Q)
  | .loop b, fr, σ, Q => WC p O f rd (.loop b) fr σ Q
  | .rangeFunc i g, fr, σ, Q => WC p O f rd (.rangeFunc i g) fr σ Q
  | .exit id, fr, σ, Q => Q (.exit id) fr σ
  | .scope b, fr, σ, Q => vC b fr σ Q
  | .ret, fr, σ, Q => Q .ret fr σ
end
variable {f : Nat} {rd : Option Nat} {fr : Fr} {σ : AH} {Q : AEx → Fr → AH → Prop}
theorem WC.mono {c : ACode} {Q' : AEx → Fr → AH → Prop} (h : WC p O f rd c fr σ Q) (hq : ∀ ex fr s, Q ex fr s → Q' ex fr s) : WC p O f rd c fr σ Q' := by
  obtain ⟨n, ex, fr', s, e, k⟩ := h
  exact ⟨n, ex, fr', s, e, hq _ _ _ k⟩
theorem vC.sound : ∀ {c : ACode} {fr : Fr} {σ : AH} {Q : AEx → Fr → AH → Prop}, vC p O pl f rd c fr σ Q → WC p O f rd c fr σ Q := by
  intro c
  induction c with
  | skip => intro fr σ Q h; exact ⟨0, _, _, _, rfl, h⟩
  | region d ops ks =>
    intro fr σ Q h
    cases d with
    | false =>
      obtain ⟨n, env, s, e, h⟩ := vO.sound h
      exact ⟨n, _, _, _, by simp only [acode, e], h⟩
    | true =>
      obtain ⟨n, env, s, e, h⟩ := vD.sound h
      exact ⟨n, _, _, _, by simp only [acode, e], h⟩
  | seq a b iha ihb =>
    intro fr σ Q h
    obtain ⟨n, ex, fr1, s1, e1, h⟩ := iha h
    cases ex with
    | normal =>
      obtain ⟨m, ex, fr', s, e2, h⟩ := ihb h
      refine ⟨max n m, ex, fr', s, ?_, h⟩
      simp only [acode, acode_up (Nat.le_max_left n m) e1]
      exact acode_up (Nat.le_max_right n m) e2
    | exit j => exact ⟨n, _, _, _, by simp only [acode, e1], h⟩
    | ret => exact ⟨n, _, _, _, by simp only [acode, e1], h⟩
  | cond c a b iha ihb =>
    intro fr σ Q h
    simp only [vC] at h
    cases hc : c.ev fr.env with
    | bool t =>
      rw [hc] at h
      cases t with
      | true => obtain ⟨n, ex, fr', s, e, h⟩ := iha (h.1 rfl); exact ⟨n, _, _, _, by simp only [acode, hc]; exact e, h⟩
      | false => obtain ⟨n, ex, fr', s, e, h⟩ := ihb (h.2 rfl); exact ⟨n, _, _, _, by simp only [acode, hc]; exact e, h⟩
    | _ => rw [hc] at h; exact h.elim
  | block id b ih =>
    intro fr σ Q h
    obtain ⟨n, ex, fr1, s1, e1, h⟩ := ih h
    cases ex with
    | normal => exact ⟨n, _, _, _, by simp only [acode, e1], h⟩
    | exit j =>
      rw [blockK_exit] at h
      by_cases hj : j = id
      · rw [if_pos hj] at h
        exact ⟨n, .normal, fr1, s1, by simp only [acode, e1, hj, if_true], h⟩
      · rw [if_neg hj] at h
        exact ⟨n, .exit j, fr1, s1, by simp only [acode, e1, hj, if_false], h⟩
    | ret => exact ⟨n, _, _, _, by simp only [acode, e1], h⟩
  | loop b ih => intro fr σ Q h; exact h
  | rangeFunc i g => intro fr σ Q h; exact h
  | exit id => intro fr σ Q h; exact ⟨0, _, _, _, rfl, h⟩
  | scope b ih =>
    intro fr σ Q h
    obtain ⟨n, ex, fr', s, e, h⟩ := ih h
    exact ⟨n, ex, fr', s, by simpa only [acode] using e, h⟩
  | ret => intro fr σ Q h; exact ⟨0, _, _, _, rfl, h⟩

/-- What a round of a loop leaves: the invariant, at a smaller number; or the loop is left. -/
def LoopK (Inv : Nat → Fr → AH → Prop) (k : Nat) (Q : AEx → Fr → AH → Prop) : AEx → Fr → AH → Prop
  | .normal, fr, σ => ∃ j, j < k ∧ Inv j fr σ
  | ex, fr, σ => Q ex fr σ
@[simp] theorem loopK_normal (Inv : Nat → Fr → AH → Prop) (k : Nat) (Q : AEx → Fr → AH → Prop) (fr : Fr) (σ : AH) : LoopK Inv k Q .normal fr σ = ∃ j, j < k ∧ Inv j fr σ := (rfl)
@[simp] theorem loopK_exit (Inv : Nat → Fr → AH → Prop) (k : Nat) (Q : AEx → Fr → AH → Prop) (j : Nat) (fr : Fr) (σ : AH) : LoopK Inv k Q (.exit j) fr σ = Q (.exit j) fr σ := (rfl)
@[simp] theorem loopK_ret (Inv : Nat → Fr → AH → Prop) (k : Nat) (Q : AEx → Fr → AH → Prop) (fr : Fr) (σ : AH) : LoopK Inv k Q .ret fr σ = Q .ret fr σ := (rfl)
@[congr] theorem loopK_congr {Inv : Nat → Fr → AH → Prop} {k : Nat} {Q : AEx → Fr → AH → Prop} {ex ex' : AEx} {fr fr' : Fr} {σ σ' : AH} (h : ex = ex') (h1 : fr = fr') (h2 : σ = σ') : LoopK Inv k Q ex fr σ = LoopK Inv k Q ex' fr' σ' := by rw [h, h1, h2]
theorem wc_loop' {b : ACode} (Inv : Nat → Fr → AH → Prop) (h0 : ∃ k, Inv k fr σ) (step : ∀ k fr σ, Inv k fr σ → WC p O f rd b fr σ (LoopK Inv k Q)) : WC p O f rd (.loop b) fr σ Q := by
  obtain ⟨k, hk⟩ := h0
  have main : ∀ k fr σ, Inv k fr σ → ∃ n m ex fr' s, aloop (acode p (arun p O n) n f rd b) m fr σ = some (ex, fr', s) ∧ Q ex fr' s := by
    intro k
    induction k using Nat.strongRecOn with
    | _ k ih =>
      intro fr σ hk
      obtain ⟨n, ex, fr1, s1, e1, h1⟩ := step k fr σ hk
      cases ex with
      | normal =>
        obtain ⟨j, hj, hi⟩ := h1
        obtain ⟨n2, m, ex, fr', s, e2, h2⟩ := ih j hj fr1 s1 hi
        refine ⟨max n n2, m + 1, ex, fr', s, ?_, h2⟩
        simp only [aloop, acode_up (Nat.le_max_left n n2) e1]
        exact aloop_le (fun fr σ r e => acode_up (Nat.le_max_right n n2) e) m m fr1 s1 _ (Nat.le_refl _) e2
      | exit j => exact ⟨n, 1, _, _, _, by simp only [aloop, e1], h1⟩
      | ret => exact ⟨n, 1, _, _, _, by simp only [aloop, e1], h1⟩
  obtain ⟨n, m, ex, fr', s, e, h⟩ := main k fr σ hk
  refine ⟨max n m, ex, fr', s, ?_, h⟩
  simp only [acode]
  exact aloop_le (fun fr σ r e => acode_up (Nat.le_max_left n m) e) m (max n m) fr σ _ (Nat.le_max_right n m) e
theorem wc_loop {b : ACode} (pl : List Nat) (Inv : Nat → Fr → AH → Prop) (h0 : ∃ k, Inv k fr σ) (step : ∀ k fr σ, Inv k fr σ → vC p O pl f rd b fr σ (LoopK Inv k Q)) : WC p O f rd (.loop b) fr σ Q :=
  wc_loop' Inv h0 fun k fr σ h => (step k fr σ h).sound
/-- What a round leaves in a loop whose state is known round by round. -/
def CountK (n : Nat) (E : Nat → Env) (S : Nat → AH) (I : Nat → Prop) (ms : List Nat) (j : Nat) (Q : AEx → Fr → AH → Prop) : AEx → Fr → AH → Prop
  | .normal, fr, σ => j < n ∧ fr = ⟨E (j + 1), ms⟩ ∧ σ = S (j + 1) ∧ I (j + 1)
  | ex, fr, σ => Q ex fr σ
@[simp] theorem countK_normal (n : Nat) (E : Nat → Env) (S : Nat → AH) (I : Nat → Prop) (ms : List Nat) (j : Nat) (Q : AEx → Fr → AH → Prop) (fr : Fr) (σ : AH) :
    CountK n E S I ms j Q .normal fr σ = (j < n ∧ fr = ⟨E (j + 1), ms⟩ ∧ σ = S (j + 1) ∧ I (j + 1)) := rfl
@[simp] theorem countK_exit (n : Nat) (E : Nat → Env) (S : Nat → AH) (I : Nat → Prop) (ms : List Nat) (j : Nat) (Q : AEx → Fr → AH → Prop) (i : Nat) (fr : Fr) (σ : AH) : CountK n E S I ms j Q (.exit i) fr σ = Q (.exit i) fr σ := (rfl)
@[simp] theorem countK_ret (n : Nat) (E : Nat → Env) (S : Nat → AH) (I : Nat → Prop) (ms : List Nat) (j : Nat) (Q : AEx → Fr → AH → Prop) (fr : Fr) (σ : AH) : CountK n E S I ms j Q .ret fr σ = Q .ret fr σ := (rfl)
@[congr] theorem countK_congr {n : Nat} {E : Nat → Env} {S : Nat → AH} {I : Nat → Prop} {ms : List Nat} {j : Nat} {Q : AEx → Fr → AH → Prop} {ex ex' : AEx} {fr fr' : Fr} {σ σ' : AH} (h : ex = ex') (h1 : fr = fr') (h2 : σ = σ') :
    CountK n E S I ms j Q ex fr σ = CountK n E S I ms j Q ex' fr' σ' := by rw [h, h1, h2]
/-- A loop whose state behind j rounds is known; n rounds at most. -/
theorem wc_count {b : ACode} (pl : List Nat) (n : Nat) (E : Nat → Env) (S : Nat → AH) (I : Nat → Prop) (h0 : fr = ⟨E 0, []⟩ ∧ σ = S 0 ∧ I 0)
    (step : ∀ j, j ≤ n → I j → vC p O pl f rd b ⟨E j, []⟩ (S j) (CountK n E S I [] j Q)) : WC p O f rd (.loop b) fr σ Q := by
  refine wc_loop' (fun k fr σ => ∃ j, j + k = n ∧ fr = ⟨E j, []⟩ ∧ σ = S j ∧ I j) ⟨n, 0, by omega, h0⟩ ?_
  rintro k _ _ ⟨j, hj, rfl, rfl, hi⟩
  refine (vC.sound (step j (by omega) hi)).mono fun ex fr s h => ?_
  cases ex with
  | normal =>
    obtain ⟨h1, rfl, rfl, h4⟩ := h
    exact ⟨k - 1, by omega, j + 1, by omega, rfl, rfl, h4⟩
  | exit j => exact h
  | ret => exact h

/-! ### Functions -/
/-- What is left of a call's run. -/
def RetK (res : List ARes) (v : AV) : AEx → Fr → AH → Prop
  | .exit _, _, _ => False
  | _, fr, σ => OptK (takeMarks σ fr.marks) fun s => OptK (aresults fr.env s res) fun vs => fzV 8 s.cel (oneOf vs) = v
@[simp] theorem retK_ret (res : List ARes) (v : AV) (env : Env) (σ : AH) : RetK res v .ret ⟨env, []⟩ σ ↔ OptK (aresults env σ res) fun vs => fzV 8 σ.cel (oneOf vs) = v := by simp [RetK, takeMarks]
@[simp] theorem retK_normal (res : List ARes) (v : AV) (env : Env) (σ : AH) : RetK res v .normal ⟨env, []⟩ σ ↔ OptK (aresults env σ res) fun vs => fzV 8 σ.cel (oneOf vs) = v := by simp [RetK, takeMarks]
@[simp] theorem retK_exit (res : List ARes) (v : AV) (j : Nat) (fr : Fr) (σ : AH) : RetK res v (.exit j) fr σ ↔ False := Iff.rfl
theorem fn_of (pl : List Nat) {g : Nat} {af : AFunc} {args : List AV} {v : AV} (hf : p.funcs.get g = some af) (hO : (∀ a σ, a ≠ [] → O (.fn g) a σ = none) ∧ ∀ σ, O (.fn g) args σ = none) (hp : af.pure = true) (hc : args.all (closed 8) = true) (hl : args.length = af.np)
    (h : vC p O pl g none af.body ⟨argEnv 0 args, []⟩ ⟨0, 0, .leaf⟩ (RetK af.res v)) : ans p O g args = some v := by
  obtain ⟨n, ex, fr, s, e, h⟩ := h.sound
  refine ans_of (.inr ⟨af, n, ?_⟩)
  cases ex with
  | exit j => exact h.elim
  | normal =>
    obtain ⟨s', h1, vs, h2, rfl⟩ := h
    exact ⟨oneOf vs, s', hf, hp, hO.1, hO.2, hc, by simp only [abody, hl, if_true, e, h1, h2], rfl⟩
  | ret =>
    obtain ⟨s', h1, vs, h2, rfl⟩ := h
    exact ⟨oneOf vs, s', hf, hp, hO.1, hO.2, hc, by simp only [abody, hl, if_true, e, h1, h2], rfl⟩
/-- What a function that is not run apart does. -/
def RetP (res : List ARes) (K : AV → AH → Prop) : AEx → Fr → AH → Prop
  | .exit _, _, _ => False
  | _, fr, σ => OptK (takeMarks σ fr.marks) fun s => OptK (aresults fr.env s res) fun vs => K (oneOf vs) s
@[simp] theorem retP_ret (res : List ARes) (K : AV → AH → Prop) (env : Env) (σ : AH) : RetP res K .ret ⟨env, []⟩ σ ↔ OptK (aresults env σ res) fun vs => K (oneOf vs) σ := by simp [RetP, takeMarks]
@[simp] theorem retP_normal (res : List ARes) (K : AV → AH → Prop) (env : Env) (σ : AH) : RetP res K .normal ⟨env, []⟩ σ ↔ OptK (aresults env σ res) fun vs => K (oneOf vs) σ := by simp [RetP, takeMarks]
@[simp] theorem retP_exit (res : List ARes) (K : AV → AH → Prop) (j : Nat) (fr : Fr) (σ : AH) : RetP res K (.exit j) fr σ ↔ False := Iff.rfl
theorem call_of (pl : List Nat) {g : Nat} {af : AFunc} {args : List AV} {σ : AH} {K : AV → AH → Prop} (hf : p.funcs.get g = some af) (hO : O (.fn g) args σ = none) (hp : af.pure = false) (hl : args.length = af.np)
    (h : vC p O pl g none af.body ⟨argEnv 0 args, []⟩ σ (RetP af.res K)) : Call p O (.fn g) args σ K := by
  obtain ⟨n, ex, fr, s, e, h⟩ := h.sound
  cases ex with
  | exit j => exact h.elim
  | normal =>
    obtain ⟨s', h1, vs, h2, hk⟩ := h
    exact ⟨n + 1, _, _, by simp only [arun, hO, arun1, hf, hp, Bool.false_eq_true, if_false, abody, hl, if_true, e, h1, h2], hk⟩
  | ret =>
    obtain ⟨s', h1, vs, h2, hk⟩ := h
    exact ⟨n + 1, _, _, by simp only [arun, hO, arun1, hf, hp, Bool.false_eq_true, if_false, abody, hl, if_true, e, h1, h2], hk⟩
end
end Go.Oct
end
/- A run in parts: calls whose answers are known are not run again. -/
section
set_option linter.unusedVariables false
set_option linter.unusedSimpArgs false
namespace Go.Oct

/- Are values alike? (of data alone) -/
mutual
def same : Nat → AV → AV → Bool
  | 0, _, _ => false
  | k + 1, x, y => match x, y with
    | .int q n, .int q' n' => decide (q = q' ∧ n = n')
    | .bool a, .bool b => decide (a = b)
    | .vsl a xs, .vsl b ys => decide (a = b) && sameL k xs ys
    | .agg xs, .agg ys => sameL k xs ys
    | .tuple xs, .tuple ys => sameL k xs ys
    | .str a, .str b => decide (a.data.toList = b.data.toList)
    | _, _ => false
def sameL : Nat → List AV → List AV → Bool
  | 0, _, _ => false
  | k + 1, xs, ys => match xs, ys with
    | [], [] => true
    | x :: xs, y :: ys => same k x y && sameL k xs ys
    | _, _ => false
end
theorem same_sound : ∀ k, (∀ x y, same k x y = true → x = y) ∧ (∀ xs ys, sameL k xs ys = true → xs = ys)
  | 0 => ⟨fun x y h => by simp [same] at h, fun xs ys h => by simp [sameL] at h⟩
  | k + 1 => by
    obtain ⟨h1, h2⟩ := same_sound k
    refine ⟨fun x y h => ?_, fun xs ys h => ?_⟩
    · cases x <;> cases y <;> simp only [same, Bool.and_eq_true, decide_eq_true_eq, Bool.false_eq_true] at h
      · rw [h.1, h.2]
      · rw [h]
      · rename_i a b
        obtain ⟨⟨a⟩⟩ := a
        obtain ⟨⟨b⟩⟩ := b
        simp only at h
        rw [h]
      · rw [h2 _ _ h]
      · rw [h2 _ _ h]
      · rw [h.1, h2 _ _ h.2]
    · cases xs <;> cases ys <;> simp only [sameL, Bool.and_eq_true, Bool.false_eq_true] at h
      · rfl
      · rw [h1 _ _ h.1, h2 _ _ h.2]

/-- What is known: a function, its arguments, its answer. -/
abbrev Known := List (Nat × List AV × AV)
def findK (g : Nat) (a : List AV) : Known → Option AV
  | [] => none
  | (g', a', v) :: r => if g = g' ∧ sameL 100 a a' = true then some v else findK g a r
theorem findK_mem {g : Nat} {a : List AV} {v : AV} : ∀ {K : Known}, findK g a K = some v → (g, a, v) ∈ K
  | (g', a', v') :: r, h => by
    simp only [findK] at h
    split at h
    · rename_i hc
      cases h
      rw [hc.1, (same_sound 100).2 _ _ hc.2]
      exact List.mem_cons_self ..
    · exact List.mem_cons_of_mem _ (findK_mem h)
def withK (K : Known) (C : Caller) : Caller := fun t args σ => match t with
  | .fn g =>
    if args.all (closed 8) then
      match findK g args K with
      | some v => some (v, σ)
      | none => C t args σ
    else
      match findK g (args.map (fzV 8 (σ.celOf (args.flatMap (idsV 8 σ.cel))))) K with
      | some v => if isScal 8 v then some (v, σ)
        else if (args.flatMap (idsV 8 σ.cel)).all (fun i => decide (σ.lim ≤ i)) then some (v, σ.kills (args.flatMap (idsV 8 σ.cel)))
        else none
      | none => C t args σ
  | t => C t args σ
/-- What is known is so. -/
def KnownAt (p : AProg) (n : Nat) (g : Nat) (a : List AV) (v : AV) : Prop :=
  ∃ af u s, p.funcs.get g = some af ∧ af.pure = true ∧ abody p (arun p noO n) n g af a ⟨0, 0, .leaf⟩ = some (u, s) ∧ fzV 8 s.cel u = v
theorem withK_le {p : AProg} {K : Known} {N : Nat} (h : ∀ k ∈ K, KnownAt p N k.1 k.2.1 k.2.2) : CLe (withK K (arun p noO N)) (arun p noO (N + 1)) := by
  intro t args σ r e
  have hup : ∀ r, arun p noO N t args σ = some r → arun p noO (N + 1) t args σ = some r := fun r e => arun_mono p noO (Nat.le_succ N) _ _ _ _ e
  unfold withK at e
  cases t with
  | yield l => exact hup _ e
  | fn g =>
    simp only at e
    split at e
    · rename_i hc
      split at e
      · rename_i v hv
        obtain ⟨af, u, s, h1, h2, h3, h4⟩ := h _ (findK_mem hv)
        cases e
        simp only at h1 h2 h3 h4
        simp only [arun, noO, arun1, h1, h2, if_true, apart, hc, h3, h4]
      · exact hup _ e
    · rename_i hc
      split at e
      · rename_i v hv
        obtain ⟨af, u, s, h1, h2, h3, h4⟩ := h _ (findK_mem hv)
        simp only at h1 h2 h3 h4
        simp only [arun, noO, arun1, h1, h2, if_true, apart, hc, h3, h4]
        simpa using e
      · exact hup _ e
theorem KnownAt.of {p : AProg} {n : Nat} {g : Nat} {af : AFunc} {a : List AV} {v : AV} (hf : p.funcs.get g = some af) (hp : af.pure = true)
    (h : (abody p (arun p noO n) n g af a ⟨0, 0, .leaf⟩).map (fun r => fzV 8 r.2.cel r.1) = some v) : KnownAt p n g a v := by
  obtain ⟨⟨u, s⟩, e, hv⟩ := Option.map_eq_some_iff.1 h
  exact ⟨af, u, s, hf, hp, e, hv⟩
/-- What is known, with calls of it. -/
theorem KnownAt.more {p : AProg} {K : Known} {N : Nat} (h : ∀ k ∈ K, KnownAt p N k.1 k.2.1 k.2.2) {g : Nat} {af : AFunc} {a : List AV} {v : AV} (hf : p.funcs.get g = some af) (hp : af.pure = true)
    (e : (abody p (withK K (arun p noO N)) N g af a ⟨0, 0, .leaf⟩).map (fun r => fzV 8 r.2.cel r.1) = some v) : KnownAt p (N + 1) g a v := by
  obtain ⟨⟨u, s⟩, e', hv⟩ := Option.map_eq_some_iff.1 e
  exact ⟨af, u, s, hf, hp, abody_le p (withK_le h) (Nat.le_succ N) e', hv⟩
end Go.Oct
end
/- The conditions of code as rewriting: what simp needs to walk through a function. -/
section
set_option linter.unusedVariables false
set_option linter.unusedSimpArgs false
namespace Go.Oct

/-- Something that simp is not to look into. -/
class Kn (α : Type) where
  k : α

section
variable (p : AProg) (O : Caller) (pl : List Nat) (f : Nat) (rd : Option Nat)
def C (c : ACode) (fr : Fr) (σ : AH) [Q : Kn (AEx → Fr → AH → Prop)] : Prop := vC p O pl f rd c fr σ Q.k
/-- A loop that lies ahead. -/
def Lp (b : ACode) (fr : Fr) (σ : AH) [Q : Kn (AEx → Fr → AH → Prop)] : Prop := WC p O f rd (.loop b) fr σ Q.k
/-- A loop over a function that lies ahead. -/
def Rg (i : Nat) (g : Opd) (fr : Fr) (σ : AH) [Q : Kn (AEx → Fr → AH → Prop)] : Prop := WC p O f rd (.rangeFunc i g) fr σ Q.k
def Ow (os : List AOper) (env : Env) (σ : AH) [K : Kn (Env → AH → Prop)] : Prop := vO p O pl os env σ K.k
def Dw (os : List AOper) (env : Env) (σ : AH) (s : Seg) [K : Kn (Env → AH → Prop)] : Prop := vD p O pl os env σ s K.k
def O1 (o : AOp) (env : Env) (σ : AH) [k : Kn (AV → AH → Prop)] : Prop := vOp p O pl o env σ k.k
def G1 (c : Prop) [Decidable c] (o : AOp) (env : Env) (σ : AH) [k : Kn (AV → AH → Prop)] : Prop := vOpG p O pl c o env σ k.k
def D1 (o : AOp) (cl : Cls) (env : Env) (σ : AH) (s : Seg) [k : Kn (AV → AH → Seg → Prop)] : Prop := vDOp p O pl o cl env σ s k.k
def E1 (fe : Bool) (c : Prop) [Decidable c] (o : AOp) (cl : Cls) (env : Env) (σ : AH) (s : Seg) [k : Kn (AV → AH → Seg → Prop)] : Prop := vDOpG p O pl fe c o cl env σ s k.k
/-- A call that lies ahead. -/
def Cl (t : Tgt) (args : List AV) (σ : AH) [k : Kn (AV → AH → Prop)] : Prop := Call p O t args σ k.k
def Pc (g : Nat) (args : List AV) (σ : AH) [k : Kn (AV → AH → Prop)] : Prop := PCall p O g args σ k.k
/-- A call of a function that is run apart; b: do its arguments lead to no object? -/
def PcI (b : Bool) (g : Nat) (args : List AV) (σ : AH) [k : Kn (AV → AH → Prop)] : Prop :=
  if b = true then OptK (ans p O g args) (fun v => k.k v σ)
  else args ≠ [] ∧ (∀ a σ, a ≠ [] → O (.fn g) a σ = none) ∧ OptK (ans p O g (args.map (fzV 8 (σ.celOf (args.flatMap (idsV 8 σ.cel)))))) fun v =>
    if isScal 8 v = true then k.k v σ
    else (args.flatMap (idsV 8 σ.cel)).all (fun i => decide (σ.lim ≤ i)) = true ∧ k.k v (σ.kills (args.flatMap (idsV 8 σ.cel)))
def Vc (t : Tgt) (args : List AV) (σ : AH) [k : Kn (AV → AH → Prop)] : Prop := vCall p O pl t args σ k.k
end
def Ok1 {α : Type} (o : Option α) [k : Kn (α → Prop)] : Prop := OptK o k.k
def Ok2 (o : Option (AV × AH)) [k : Kn (AV → AH → Prop)] : Prop := OptK2 o k.k
def Gk (c : Prop) [Decidable c] (a : Option AV) [k : Kn (AV → Prop)] : Prop := GK c a k.k
def Tk (t : Option (Tgt × List AV × List AV)) [k : Kn (Tgt → List AV → List AV → Prop)] : Prop := TgtK t k.k
def Mk (f : Option Nat) (v : AV) [k : Kn (Nat → AV → Prop)] : Prop := MethK f v k.k
def Ik (p : AProg) (name : String) (r : AV) [k : Kn (Nat → AV → Prop)] : Prop := InvK p name r k.k
@[simp] theorem mk_some (f : Nat) (v : AV) (k : Kn (Nat → AV → Prop)) : @Mk (some f) v k = k.k f v := (rfl)
@[simp] theorem ik_iface (p : AProg) (name : String) (t : Nat) (v : AV) (k : Kn (Nat → AV → Prop)) : @Ik p name (.iface t v) k = @Mk (p.meth t name) v k := (rfl)
def Ck (x : AV) [A : Kn Prop] [B : Kn Prop] : Prop := CondK x A.k B.k
def Sk [k : Kn (Fr → AH → Prop)] [Q : Kn (AEx → Fr → AH → Prop)] (ex : AEx) (fr : Fr) (σ : AH) : Prop := SeqK k.k Q.k ex fr σ
def Bk (id : Nat) [Q : Kn (AEx → Fr → AH → Prop)] (ex : AEx) (fr : Fr) (σ : AH) : Prop := BlockK id Q.k ex fr σ

section
variable {α : Type} (k : Kn (α → Prop))
@[simp] theorem ok1_some (v : α) : @Ok1 α (some v) k = k.k v := by simp [Ok1]
@[simp] theorem ok1_none : @Ok1 α none k = False := by simp [Ok1]
@[simp] theorem ok1_ite (c : Prop) [Decidable c] (a : Option α) : @Ok1 α (if c then a else none) k = (c ∧ @Ok1 α a k) := by simp [Ok1]
@[simp] theorem ok1_ite_not (c : Prop) [Decidable c] (a : Option α) : @Ok1 α (if c then none else a) k = (¬ c ∧ @Ok1 α a k) := by simp [Ok1]
@[simp] theorem ok1_map {β : Type} (f : α → β) (o : Option α) (k : Kn (β → Prop)) : @Ok1 β (o.map f) k = @Ok1 α o ⟨fun x => k.k (f x)⟩ := by simp [Ok1]
end
section
variable (k : Kn (AV → AH → Prop))
@[simp] theorem ok2_some (v : AV) (s : AH) : @Ok2 (some (v, s)) k = k.k v s := by simp [Ok2]
@[simp] theorem ok2_none : @Ok2 none k = False := by simp [Ok2]
@[simp] theorem ok2_ite (c : Prop) [Decidable c] (a : Option (AV × AH)) : @Ok2 (if c then a else none) k = (c ∧ @Ok2 a k) := by simp [Ok2]
@[simp] theorem ok2_map {α : Type} (f : α → AV × AH) (o : Option α) : @Ok2 (o.map f) k = @Ok1 α o ⟨fun x => k.k (f x).1 (f x).2⟩ := by simp [Ok2, Ok1]
variable (k : Kn (AV → Prop))
@[congr] theorem gk_congr {c c' : Prop} [Decidable c] [Decidable c'] {a a' : Option AV} {k : Kn (AV → Prop)} (h : c = c') (ha : c' → a = a') : @Gk c _ a k = @Gk c' _ a' k := gK_congr h ha
@[simp] theorem gk_true (a : Option AV) [Decidable True] : @Gk True _ a k = @Ok1 AV a k := by simp [Gk, Ok1]
@[simp] theorem gk_false (a : Option AV) [Decidable False] : @Gk False _ a k = k.k (.tuple []) := by simp [Gk]
@[simp] theorem gk_some (c : Prop) [Decidable c] (x : AV) : @Gk c _ (some x) k = k.k (gv c x) := by simp [Gk]
@[simp] theorem gk_ite (c e : Prop) [Decidable c] [Decidable e] (a : Option AV) : @Gk c _ (if e then a else none) k = (Und c e ∧ @Gk c _ a k) := by simp [Gk]
@[simp] theorem gk_none (c : Prop) [Decidable c] : @Gk c _ none k = (¬ c ∧ k.k (.tuple [])) := by simp [Gk]
end
@[simp] theorem ck_bool (t : Bool) (A B : Kn Prop) : @Ck (.bool t) A B = (Und (t = true) A.k ∧ Und (t = false) B.k) := (rfl)
section
variable (k : Kn (Fr → AH → Prop)) (Q : Kn (AEx → Fr → AH → Prop)) (fr : Fr) (σ : AH)
@[simp] theorem sk_normal : @Sk k Q .normal fr σ = k.k fr σ := (rfl)
@[simp] theorem sk_exit (j : Nat) : @Sk k Q (.exit j) fr σ = Q.k (.exit j) fr σ := (rfl)
@[simp] theorem sk_ret : @Sk k Q .ret fr σ = Q.k .ret fr σ := (rfl)
@[simp] theorem bk_normal (id : Nat) : @Bk id Q .normal fr σ = Q.k .normal fr σ := (rfl)
@[simp] theorem bk_same (id : Nat) : @Bk id Q (.exit id) fr σ = Q.k .normal fr σ := by simp [Bk]
@[simp] theorem bk_other (id j : Nat) (h : j ≠ id) : @Bk id Q (.exit j) fr σ = Q.k (.exit j) fr σ := by simp [Bk, h]
@[simp] theorem bk_ret (id : Nat) : @Bk id Q .ret fr σ = Q.k .ret fr σ := (rfl)
end
@[simp] theorem tk_fn (g : Nat) (xs ys : List AV) (k : Kn (Tgt → List AV → List AV → Prop)) : @Tk (target (.func (.func g) xs ys)) k = k.k (.fn g) xs ys := (rfl)
@[simp] theorem tk_yield (l : Nat) (xs ys : List AV) (k : Kn (Tgt → List AV → List AV → Prop)) : @Tk (target (.func (.yield l) xs ys)) k = k.k (.yield l) xs [] := (rfl)

/-- A slice that is made. -/
def amk (b : Nat) (zero : List AV) (x y : AV) (σ : AH) : Option (AV × AH) := match x, y with
    | .int _ l, .int _ c => if 0 ≤ l ∧ l ≤ c ∧ c * b ≤ topBytes ∧ c ≤ topBytes then
        some (.slice (some (σ.next, 0)) l.toNat (.ex c.toNat), σ.push (.cells (zcells zero c.toNat))) else none
    | _, _ => none
@[simp] theorem amk_int (b : Nat) (zero : List AV) (q q' : IntKind) (l c : Int) (σ : AH) : amk b zero (.int q l) (.int q' c) σ = if 0 ≤ l ∧ l ≤ c ∧ c * b ≤ topBytes ∧ c ≤ topBytes then
        some (.slice (some (σ.next, 0)) l.toNat (.ex c.toNat), σ.push (.cells (zcells zero c.toNat))) else none := (rfl)
section
variable {p : AProg} {O : Caller} {pl : List Nat} {f : Nat} {rd : Option Nat} {fr : Fr} {σ : AH} (Q : Kn (AEx → Fr → AH → Prop))
@[simp ↓] theorem c_skip : @C p O pl f rd (.skip) fr σ Q = Q.k .normal fr σ := (rfl)
@[simp ↓] theorem c_region (ops : List AOper) (ks : List Nat) : @C p O pl f rd (.region false ops ks) fr σ Q = @Ow p O pl (ops) fr.env σ ⟨fun e s => Q.k .normal ⟨e.keep ks, fr.marks⟩ s⟩ := (rfl)
@[simp ↓] theorem c_draw (ops : List AOper) (ks : List Nat) : @C p O pl f rd (.region true ops ks) fr σ Q = @Dw p O pl (ops) fr.env σ ⟨σ.next, [], []⟩ ⟨fun e s => Q.k .normal ⟨e.keep ks, fr.marks⟩ s⟩ := (rfl)
@[simp ↓] theorem c_seq (a b : ACode) : @C p O pl f rd (.seq a b) fr σ Q = @C p O pl f rd (a) fr σ ⟨@Sk ⟨fun fr s => @C p O pl f rd (b) fr s Q⟩ Q⟩ := (rfl)
@[simp ↓] theorem c_cond (c : Opd) (a b : ACode) : @C p O pl f rd (.cond c a b) fr σ Q = @Ck (c.ev fr.env) ⟨@C p O pl f rd (a) fr σ Q⟩ ⟨@C p O pl f rd (b) fr σ Q⟩ := (rfl)
@[simp ↓] theorem c_block (id : Nat) (b : ACode) : @C p O pl f rd (.block id b) fr σ Q = @C p O pl f rd (b) fr σ ⟨@Bk id Q⟩ := (rfl)
@[simp ↓] theorem c_loop (b : ACode) : @C p O pl f rd (.loop b) fr σ Q = @Lp p O f rd (b) fr σ Q := (rfl)
@[simp ↓] theorem c_range (i : Nat) (g : Opd) : @C p O pl f rd (.rangeFunc i g) fr σ Q = @Rg p O f rd i g fr σ Q := (rfl)
@[simp ↓] theorem c_exit (id : Nat) : @C p O pl f rd (.exit id) fr σ Q = Q.k (.exit id) fr σ := (rfl)
@[simp ↓] theorem c_scope (b : ACode) : @C p O pl f rd (.scope b) fr σ Q = @C p O pl f rd (b) fr σ Q := (rfl)
@[simp ↓] theorem c_ret : @C p O pl f rd (.ret) fr σ Q = Q.k .ret fr σ := (rfl)

variable {env : Env} {r : List AOper} {d : Option Nat} {cl : Cls} {s : Seg} (K : Kn (Env → AH → Prop)) (k : Kn (AV → AH → Prop))
@[simp ↓] theorem os_nil : @Ow p O pl ([]) env σ K = K.k env σ := (rfl)
@[simp ↓] theorem os_cons (o : AOp) : @Ow p O pl (⟨d, o, none, cl⟩ :: r) env σ K = @O1 p O pl (o) env σ ⟨fun v s => @Ow p O pl (r) (putDst env d v) s K⟩ := (rfl)
@[simp ↓] theorem os_guard (o : AOp) (t : Nat) (w : Bool) : @Ow p O pl (⟨d, o, some (t, w), cl⟩ :: r) env σ K = (isDef (env.get t) ∧ @G1 p O pl (wantP (env.get t) w) _ (o) env σ ⟨fun v s => @Ow p O pl (r) (putDst env d v) s K⟩) := (rfl)
@[simp ↓] theorem ds_nil : @Dw p O pl ([]) env σ s K = K.k env σ := (rfl)
@[simp ↓] theorem ds_cons (o : AOp) : @Dw p O pl (⟨d, o, none, cl⟩ :: r) env σ s K = @D1 p O pl (o) cl env σ s ⟨fun v σ' s' => @Dw p O pl (r) (putDst env d v) σ' s' K⟩ := (rfl)
@[simp ↓] theorem ds_guard (o : AOp) (t : Nat) (w : Bool) : @Dw p O pl (⟨d, o, some (t, w), cl⟩ :: r) env σ s K = (isDef (env.get t) ∧ @E1 p O pl (segFree r) (wantP (env.get t) w) _ (o) cl env σ s ⟨fun v σ' s' => @Dw p O pl (r) (putDst env d v) σ' s' K⟩) := (rfl)

@[simp] theorem vc_fn (g : Nat) (args : List AV) : @Vc p O pl (.fn g) args σ k = if pl.contains g = true then @Cl p O (.fn g) args σ k else @Pc p O g args σ k := (rfl)
@[simp] theorem vc_yield (l : Nat) (args : List AV) : @Vc p O pl (.yield l) args σ k = @Cl p O (.yield l) args σ k := (rfl)
@[simp] theorem pc_def (g : Nat) (args : List AV) : @Pc p O g args σ k = @PcI p O (args.all (closed 8)) g args σ k := (rfl)
@[simp] theorem pcI_true (g : Nat) (args : List AV) : @PcI p O true g args σ k = @Ok1 AV (ans p O g args) ⟨fun v => k.k v σ⟩ := by simp [PcI, Ok1]
theorem pcI_false (g : Nat) (args : List AV) : @PcI p O false g args σ k = (args ≠ [] ∧ (∀ a σ, a ≠ [] → O (.fn g) a σ = none) ∧ @Ok1 AV (ans p O g (args.map (fzV 8 (σ.celOf (args.flatMap (idsV 8 σ.cel)))))) ⟨fun v =>
    if isScal 8 v = true then k.k v σ
    else (args.flatMap (idsV 8 σ.cel)).all (fun i => decide (σ.lim ≤ i)) = true ∧ k.k v (σ.kills (args.flatMap (idsV 8 σ.cel)))⟩) := by simp [PcI, Ok1]

@[simp ↓] theorem o1_v (o : VOp) : @O1 p O pl (.v o) env σ k = @Ok1 AV (avopM p (Opd.ev env) o) ⟨fun v => k.k v σ⟩ := (rfl)
@[simp ↓] theorem o1_load (g : Bool) (n : Nat) (a : Opd) : @O1 p O pl (.h (.load g n a)) env σ k = @Ok1 AV (aload σ g n (a.ev env)) ⟨fun v => k.k v σ⟩ := (rfl)
@[simp ↓] theorem o1_call (x : Opd) (args : List Opd) : @O1 p O pl (.call x args) env σ k = @Tk (target (x.ev env)) ⟨fun t xs ys => @Vc p O pl t (xs ++ args.map (Opd.ev env) ++ ys) σ k⟩ := (rfl)
@[simp ↓] theorem o1_invoke (nm : String) (r : Opd) (args : List Opd) : @O1 p O pl (.invoke nm r args) env σ k = @Ik p nm (r.ev env) ⟨fun f v => @Vc p O pl (.fn f) (v :: args.map (Opd.ev env)) σ k⟩ := (rfl)
@[simp ↓] theorem o1_alloc (cs : List AV) : @O1 p O pl (.h (.alloc cs)) env σ k = k.k (.ptr (some (σ.next, 0))) (σ.push (.cells cs)) := by simp [O1, vOp, ahop]
@[simp ↓] theorem o1_box (x : Opd) : @O1 p O pl (.h (.box x)) env σ k = ((x.ev env).dfd = true ∧ k.k (.ptr (some (σ.next, 0))) (σ.push (.cells (x.ev env).cells))) := by simp [O1, vOp, ahop]
@[simp ↓] theorem o1_bslice (z len : Nat) (zero : List AV) (ps : List (Nat × Nat × Opd)) : @O1 p O pl (.h (.bslice z len zero ps)) env σ k = @Ok1 (List AV) (afill (Opd.ev env) zero ps) ⟨fun cs => k.k (.slice (some (σ.next, 0)) len (.ex len)) (σ.push (.cells cs))⟩ := by
  simp only [O1, Ok1, vOp, ahop]
  cases afill (Opd.ev env) zero ps <;> simp
@[simp ↓] theorem o1_store (n : Nat) (a x : Opd) : @O1 p O pl (.h (.store n a x)) env σ k = @Ok2 (ahop (Opd.ev env) σ (.store n a x)) k := (rfl)
@[simp ↓] theorem o1_mkMap : @O1 p O pl (.h .mkMap) env σ k = k.k (.map (some σ.next)) (σ.push (.map [] 0)) := by simp [O1, vOp, ahop]
@[simp ↓] theorem o1_mkSlice (b : Nat) (zero : List AV) (l c : Opd) : @O1 p O pl (.h (.mkSlice b zero l c)) env σ k = @Ok2 (amk b zero (l.ev env) (c.ev env) σ) k := by
  simp only [O1, Ok2, vOp]
  congr 1
@[simp ↓] theorem o1_append (z b : Nat) (x y : Opd) : @O1 p O pl (.h (.append z b x y)) env σ k = @Ok2 (aappend z b (x.ev env) (y.ev env) σ) k := (rfl)
@[simp ↓] theorem o1_appendZ (b : Nat) (zero : List AV) (x y : Opd) : @O1 p O pl (.h (.appendZ b zero x y)) env σ k = @Ok2 (aappendZ b zero (x.ev env) (y.ev env) σ) k := (rfl)
@[simp ↓] theorem o1_copy (z : Nat) (x y : Opd) : @O1 p O pl (.h (.copy z x y)) env σ k = @Ok2 (ahop (Opd.ev env) σ (.copy z x y)) k := (rfl)
@[simp ↓] theorem o1_lookup (g : Bool) (sh : List Leaf) (z : AV) (ok : Bool) (m x : Opd) : @O1 p O pl (.h (.lookup g sh z ok m x)) env σ k = @Ok2 (ahop (Opd.ev env) σ (.lookup g sh z ok m x)) k := (rfl)
@[simp ↓] theorem o1_mapUpd (g : Bool) (sh : List Leaf) (m x y : Opd) : @O1 p O pl (.h (.mapUpd g sh m x y)) env σ k = @Ok2 (ahop (Opd.ev env) σ (.mapUpd g sh m x y)) k := (rfl)
@[simp ↓] theorem o1_mapEntry (g : Bool) (sh : List Leaf) (z : AV) (m x : Opd) : @O1 p O pl (.h (.mapEntry g sh z m x)) env σ k = @Ok2 (ahop (Opd.ev env) σ (.mapEntry g sh z m x)) k := (rfl)
@[simp ↓] theorem o1_entryStore (m x y : Opd) : @O1 p O pl (.h (.entryStore m x y)) env σ k = @Ok2 (ahop (Opd.ev env) σ (.entryStore m x y)) k := (rfl)
@[simp ↓] theorem o1_lenM (m : Opd) : @O1 p O pl (.h (.lenM m)) env σ k = @Ok2 (ahop (Opd.ev env) σ (.lenM m)) k := (rfl)
@[simp ↓] theorem o1_cap (m : Opd) : @O1 p O pl (.h (.cap m)) env σ k = @Ok2 (ahop (Opd.ev env) σ (.cap m)) k := (rfl)
@[simp ↓] theorem o1_fail : @O1 p O pl (.fail) env σ k = False := (rfl)

variable {c : Prop} [Decidable c]
@[simp ↓] theorem g1_v (o : VOp) : @G1 p O pl c _ (.v o) env σ k = @Gk c _ (avopM p (Opd.ev env) o) ⟨fun v => k.k v σ⟩ := (rfl)
@[simp ↓] theorem g1_load (g : Bool) (n : Nat) (a : Opd) : @G1 p O pl c _ (.h (.load g n a)) env σ k = @Gk c _ (aload σ g n (a.ev env)) ⟨fun v => k.k v σ⟩ := (rfl)
@[simp ↓] theorem g1_call (g : Nat) (args : List Opd) : @G1 p O pl c _ (.call (.const (.func (.func g) [] [])) args) env σ k =
    if pl.contains g = true then Und c (@Cl p O (.fn g) (args.map (Opd.ev env)) σ k) ∧ Und (¬ c) (k.k (.tuple []) σ)
    else if (args.map (Opd.ev env)).all (closed 8) = true then @Gk c _ (ans p O g (args.map (Opd.ev env))) ⟨fun v => k.k v σ⟩
    else Und c (@PcI p O false g (args.map (Opd.ev env)) σ k) ∧ Und (¬ c) (k.k (.tuple []) σ) := by
  simp only [G1, vOpG]
  split
  · rename_i hg
    simp only [vOp, Opd.ev, target, TgtK, vCall, hg, if_true, List.nil_append, List.append_nil, Cl]
  · split
    · rfl
    · rename_i h
      have h2 : (args.map (Opd.ev env)).all (closed 8) = false := by simpa using h
      have : @PcI p O false g (args.map (Opd.ev env)) σ k = PCall p O g (args.map (Opd.ev env)) σ k.k := by
        have : @Pc p O g (args.map (Opd.ev env)) σ k = @PcI p O ((args.map (Opd.ev env)).all (closed 8)) g (args.map (Opd.ev env)) σ k := rfl
        rw [← h2, ← this]; rfl
      rw [this]
@[simp ↓] theorem g1_callV (t : Nat) (args : List Opd) : @G1 p O pl c _ (.call (.tmp t) args) env σ k = (Und c (@O1 p O pl (.call (.tmp t) args) env σ k) ∧ Und (¬ c) (k.k (.tuple []) σ)) := (rfl)
@[simp ↓] theorem g1_invoke (nm : String) (r : Opd) (args : List Opd) : @G1 p O pl c _ (.invoke nm r args) env σ k = (Und c (@O1 p O pl (.invoke nm r args) env σ k) ∧ Und (¬ c) (k.k (.tuple []) σ)) := (rfl)
@[simp ↓] theorem g1_append (z b : Nat) (x y : Opd) : @G1 p O pl c _ (.h (.append z b x y)) env σ k = (Und c (@O1 p O pl (.h (.append z b x y)) env σ k) ∧ Und (¬ c) (k.k (.tuple []) σ)) := (rfl)
@[simp ↓] theorem g1_bslice (z len : Nat) (zero : List AV) (ps : List (Nat × Nat × Opd)) : @G1 p O pl c _ (.h (.bslice z len zero ps)) env σ k = (Und c (@O1 p O pl (.h (.bslice z len zero ps)) env σ k) ∧ Und (¬ c) (k.k (.tuple []) σ)) := (rfl)

variable (kd : Kn (AV → AH → Seg → Prop))
@[simp ↓] theorem d1_v (o : VOp) : @D1 p O pl (.v o) cl env σ s kd = @Ok1 AV (avopM p (Opd.ev env) o) ⟨fun v => kd.k v σ s⟩ := (rfl)
@[simp ↓] theorem d1_load_full (g : Bool) (n : Nat) (a : Opd) : @D1 p O pl (.h (.load g n a)) .full env σ s kd = @Ok1 AV (aload σ g n (a.ev env)) ⟨fun v => kd.k v σ ⟨σ.next, [], []⟩⟩ := (rfl)
@[simp ↓] theorem d1_load_froz (g : Bool) (n : Nat) (a : Opd) : @D1 p O pl (.h (.load g n a)) .froz env σ s kd = @Ok1 AV (aload σ g n (a.ev env)) ⟨fun v => kd.k v σ s⟩ := (rfl)
/-- A load that floats. -/
def SlK (x : AV) (σ : AH) (g : Bool) (n : Nat) (s : Seg) [kd : Kn (AV → AH → Seg → Prop)] : Prop :=
  match x with
  | .vptr cs q => OptK (aload σ g n (.vptr cs q)) (fun v => kd.k v σ s)
  | .ptr (some (i, q)) => i < s.seg ∧ s.sts.contains i = false ∧ OptK (aload σ g n (.ptr (some (i, q)))) (fun v => kd.k v σ { s with lds := i :: s.lds })
  | _ => False
@[simp] theorem slK_vptr (cs : List AV) (q : Nat) (g : Bool) (n : Nat) : @SlK (.vptr cs q) σ g n s kd = @Ok1 AV (aload σ g n (.vptr cs q)) ⟨fun v => kd.k v σ s⟩ := (rfl)
@[simp] theorem slK_ptr (i q : Nat) (g : Bool) (n : Nat) : @SlK (.ptr (some (i, q))) σ g n s kd = (i < s.seg ∧ s.sts.contains i = false ∧ @Ok1 AV (aload σ g n (.ptr (some (i, q)))) ⟨fun v => kd.k v σ { s with lds := i :: s.lds }⟩) := (rfl)
@[simp ↓] theorem d1_load_sload (g : Bool) (n : Nat) (a : Opd) : @D1 p O pl (.h (.load g n a)) .sload env σ s kd = @SlK (a.ev env) σ g n s kd := by
  first
  | (simp only [D1, vDOp, SlK]; done)
  | (simp only [D1, vDOp, SlK]
     generalize Opd.ev env a = x
     rcases x with _ | _ | _ | _ | (_ | ⟨_, _⟩) | _ | _ | _ | _ | _ | _ | _ | _ | _ | _ <;> rfl)
@[simp ↓] theorem d1_call_full (x : Opd) (args : List Opd) : @D1 p O pl (.call x args) .full env σ s kd = @O1 p O pl (.call x args) env σ ⟨fun v σ' => kd.k v σ' ⟨σ'.next, [], []⟩⟩ := (rfl)
@[simp ↓] theorem d1_call_semi (x : Opd) (args : List Opd) : @D1 p O pl (.call x args) .semi env σ s kd = (σ.lim ≤ s.seg ∧ @O1 p O pl (.call x args) env (σ.under s.seg) ⟨fun v σ' => kd.k v (σ'.under σ.lim) s⟩) := (rfl)
@[simp ↓] theorem d1_call_froz (x : Opd) (args : List Opd) : @D1 p O pl (.call x args) .froz env σ s kd = @O1 p O pl (.call x args) env (σ.under σ.next) ⟨fun v σ' => kd.k v (σ'.under σ.lim) s⟩ := (rfl)
@[simp ↓] theorem d1_invoke_full (nm : String) (r : Opd) (args : List Opd) : @D1 p O pl (.invoke nm r args) .full env σ s kd = @O1 p O pl (.invoke nm r args) env σ ⟨fun v σ' => kd.k v σ' ⟨σ'.next, [], []⟩⟩ := (rfl)
@[simp ↓] theorem d1_invoke_semi (nm : String) (r : Opd) (args : List Opd) : @D1 p O pl (.invoke nm r args) .semi env σ s kd = (σ.lim ≤ s.seg ∧ @O1 p O pl (.invoke nm r args) env (σ.under s.seg) ⟨fun v σ' => kd.k v (σ'.under σ.lim) s⟩) := (rfl)
@[simp ↓] theorem d1_invoke_froz (nm : String) (r : Opd) (args : List Opd) : @D1 p O pl (.invoke nm r args) .froz env σ s kd = @O1 p O pl (.invoke nm r args) env (σ.under σ.next) ⟨fun v σ' => kd.k v (σ'.under σ.lim) s⟩ := (rfl)
@[simp ↓] theorem d1_store_full (n : Nat) (a x : Opd) : @D1 p O pl (.h (.store n a x)) .full env σ s kd = @Ok2 (ahop (Opd.ev env) σ (.store n a x)) ⟨fun v σ' => kd.k v σ' ⟨σ'.next, [], []⟩⟩ := (rfl)
@[simp ↓] theorem d1_tslice (z len : Nat) (zero : List AV) (ps : List (Nat × Nat × Opd)) : @D1 p O pl (.h (.tslice z len zero ps)) cl env σ s kd = @Ok1 (List AV) (afill (Opd.ev env) zero ps) ⟨fun cs => kd.k (.tsl len cs) σ s⟩ := (rfl)
@[simp ↓] theorem d1_bslice_full (z len : Nat) (zero : List AV) (ps : List (Nat × Nat × Opd)) : @D1 p O pl (.h (.bslice z len zero ps)) .full env σ s kd = @O1 p O pl (.h (.bslice z len zero ps)) env σ ⟨fun v σ' => kd.k v σ' ⟨σ'.next, [], []⟩⟩ := (rfl)
@[simp ↓] theorem d1_bslice_froz (z len : Nat) (zero : List AV) (ps : List (Nat × Nat × Opd)) : @D1 p O pl (.h (.bslice z len zero ps)) .froz env σ s kd = @O1 p O pl (.h (.bslice z len zero ps)) env (σ.under σ.next) ⟨fun v σ' => kd.k v (σ'.under σ.lim) s⟩ := (rfl)
@[simp ↓] theorem d1_bslice_semi (z len : Nat) (zero : List AV) (ps : List (Nat × Nat × Opd)) : @D1 p O pl (.h (.bslice z len zero ps)) .semi env σ s kd = (σ.lim ≤ s.seg ∧ @O1 p O pl (.h (.bslice z len zero ps)) env (σ.under s.seg) ⟨fun v σ' => kd.k v (σ'.under σ.lim) s⟩) := (rfl)
@[simp ↓] theorem d1_append_full (z b : Nat) (x y : Opd) : @D1 p O pl (.h (.append z b x y)) .full env σ s kd = @Ok2 (aappend z b (x.ev env) (y.ev env) σ) ⟨fun v σ' => kd.k v σ' ⟨σ'.next, [], []⟩⟩ := (rfl)
@[simp ↓] theorem d1_append_froz (z b : Nat) (x y : Opd) : @D1 p O pl (.h (.append z b x y)) .froz env σ s kd = @Ok2 (aappend z b (x.ev env) (y.ev env) (σ.under σ.next)) ⟨fun v σ' => kd.k v (σ'.under σ.lim) s⟩ := (rfl)
/-- An append inside such a region: to what lay there before, or not. -/
def oldA (v : AV) (s : Seg) : Option Nat := match v with
  | .slice (some (i, _)) _ _ => if i < s.seg ∧ !s.lds.contains i then some i else none
  | _ => none
@[simp] theorem oldA_nil (n : Nat) (c : ACap) : oldA (.slice none n c) s = none := (rfl)
@[simp] theorem oldA_vsl (nl : Bool) (es : List AV) : oldA (.vsl nl es) s = none := (rfl)
@[simp] theorem oldA_some (i o n : Nat) (c : ACap) : oldA (.slice (some (i, o)) n c) s = if i < s.seg ∧ !s.lds.contains i then some i else none := (rfl)
def ApK (oa : Option Nat) (z b : Nat) (x y : AV) (σ : AH) (s : Seg) [kd : Kn (AV → AH → Seg → Prop)] : Prop := match oa with
  | some i => @Ok2 (aappend z b x y σ) ⟨fun v σ' => kd.k v σ' { s with sts := i :: s.sts }⟩
  | none => (σ.lim ≤ s.seg ∧ @Ok2 (aappend z b x y (σ.under s.seg)) ⟨fun v σ' => kd.k v (σ'.under σ.lim) s⟩)
@[simp] theorem apk_some (i z b : Nat) (x y : AV) : @ApK (some i) z b x y σ s kd = @Ok2 (aappend z b x y σ) ⟨fun v σ' => kd.k v σ' { s with sts := i :: s.sts }⟩ := (rfl)
@[simp] theorem apk_none (z b : Nat) (x y : AV) : @ApK none z b x y σ s kd = (σ.lim ≤ s.seg ∧ @Ok2 (aappend z b x y (σ.under s.seg)) ⟨fun v σ' => kd.k v (σ'.under σ.lim) s⟩) := (rfl)
theorem oldApp_eq (z b : Nat) (x y : Opd) : oldApp (Opd.ev env) (.h (.append z b x y)) s = oldA (x.ev env) s := by
  simp only [oldApp, appOf, oldA]
  generalize Opd.ev env x = v
  rcases v with _ | _ | _ | _ | _ | ⟨_ | ⟨i, q⟩, _, _⟩ | _ | _ | _ | _ | _ | _ | _ | _ | _ | _ <;> rfl
@[simp ↓] theorem d1_append_semi (z b : Nat) (x y : Opd) : @D1 p O pl (.h (.append z b x y)) .semi env σ s kd = @ApK (oldA (x.ev env) s) z b (x.ev env) (y.ev env) σ s kd := by
  have h : @D1 p O pl (.h (.append z b x y)) .semi env σ s kd = (match oldApp (Opd.ev env) (.h (.append z b x y)) s with
      | some i => vOp p O pl (.h (.append z b x y)) env σ (fun v σ' => kd.k v σ' { s with sts := i :: s.sts })
      | none => σ.lim ≤ s.seg ∧ vOp p O pl (.h (.append z b x y)) env (σ.under s.seg) (fun v σ' => kd.k v (σ'.under σ.lim) s)) := (rfl)
  rw [h, oldApp_eq]
  cases oldA (x.ev env) s <;> rfl
@[simp ↓] theorem e1_v (fe : Bool) (o : VOp) : @E1 p O pl fe c _ (.v o) cl env σ s kd = @Gk c _ (avopM p (Opd.ev env) o) ⟨fun v => kd.k v σ s⟩ := (rfl)
@[simp ↓] theorem e1_load_froz (fe : Bool) (g : Bool) (n : Nat) (a : Opd) : @E1 p O pl fe c _ (.h (.load g n a)) .froz env σ s kd = @Gk c _ (aload σ g n (a.ev env)) ⟨fun v => kd.k v σ s⟩ := (rfl)
@[simp ↓] theorem e1_load_full (fe : Bool) (g : Bool) (n : Nat) (a : Opd) : @E1 p O pl fe c _ (.h (.load g n a)) .full env σ s kd =
    if fe = true then @Gk c _ (aload σ g n (a.ev env)) ⟨fun v => kd.k v σ s⟩ else Und c (@Ok1 AV (aload σ g n (a.ev env)) ⟨fun v => kd.k v σ ⟨σ.next, [], []⟩⟩) ∧ Und (¬ c) (kd.k (.tuple []) σ s) := by
  cases fe <;> simp [E1, vDOpG, Gk, Ok1, vDOp, vOp]
@[simp ↓] theorem e1_load_sload (fe : Bool) (g : Bool) (n : Nat) (a : Opd) : @E1 p O pl fe c _ (.h (.load g n a)) .sload env σ s kd =
    (Und c (@SlK (a.ev env) σ g n s kd) ∧ Und (¬ c) (kd.k (.tuple []) σ s)) := by
  have := d1_load_sload (p := p) (O := O) (pl := pl) (env := env) (σ := σ) (s := s) kd g n a
  rw [← this]
  cases fe <;> simp [E1, vDOpG, D1, -d1_load_sload]
@[simp ↓] theorem e1_call_full (fe : Bool) (g : Nat) (args : List Opd) : @E1 p O pl fe c _ (.call (.const (.func (.func g) [] [])) args) .full env σ s kd =
    if pl.contains g = false ∧ fe = true ∧ (args.map (Opd.ev env)).all (closed 8) = true then @Gk c _ (ans p O g (args.map (Opd.ev env))) ⟨fun v => kd.k v σ s⟩
    else Und c (@O1 p O pl (.call (.const (.func (.func g) [] [])) args) env σ ⟨fun v σ' => kd.k v σ' ⟨σ'.next, [], []⟩⟩) ∧ Und (¬ c) (kd.k (.tuple []) σ s) := by
  cases fe <;> simp [E1, vDOpG, Gk, O1, vDOp, -o1_call]
  by_cases h : g ∈ pl <;> by_cases h2 : ∀ (x : Opd), x ∈ args → closed 8 (Opd.ev env x) = true <;> simp [h, h2]
@[simp ↓] theorem e1_call_froz (fe : Bool) (g : Nat) (args : List Opd) : @E1 p O pl fe c _ (.call (.const (.func (.func g) [] [])) args) .froz env σ s kd =
    if pl.contains g = false ∧ (args.map (Opd.ev env)).all (closed 8) = true then @Gk c _ (ans p O g (args.map (Opd.ev env))) ⟨fun v => kd.k v σ s⟩
    else Und c (@O1 p O pl (.call (.const (.func (.func g) [] [])) args) env (σ.under σ.next) ⟨fun v σ' => kd.k v (σ'.under σ.lim) s⟩) ∧ Und (¬ c) (kd.k (.tuple []) σ s) := by
  simp [E1, vDOpG, Gk, O1, vDOp, -o1_call]
  by_cases h : g ∈ pl <;> by_cases h2 : ∀ (x : Opd), x ∈ args → closed 8 (Opd.ev env x) = true <;> simp [h, h2]
@[simp ↓] theorem e1_call_semi (fe : Bool) (g : Nat) (args : List Opd) : @E1 p O pl fe c _ (.call (.const (.func (.func g) [] [])) args) .semi env σ s kd =
    (Und c (@D1 p O pl (.call (.const (.func (.func g) [] [])) args) .semi env σ s kd) ∧ Und (¬ c) (kd.k (.tuple []) σ s)) := by
  simp [E1, vDOpG, D1, -d1_call_semi]
@[simp ↓] theorem e1_callV (fe : Bool) (t : Nat) (args : List Opd) : @E1 p O pl fe c _ (.call (.tmp t) args) cl env σ s kd = (Und c (@D1 p O pl (.call (.tmp t) args) cl env σ s kd) ∧ Und (¬ c) (kd.k (.tuple []) σ s)) := (rfl)
@[simp ↓] theorem e1_append (fe : Bool) (z b : Nat) (x y : Opd) : @E1 p O pl fe c _ (.h (.append z b x y)) cl env σ s kd = (Und c (@D1 p O pl (.h (.append z b x y)) cl env σ s kd) ∧ Und (¬ c) (kd.k (.tuple []) σ s)) := (rfl)
@[simp ↓] theorem e1_tslice (fe : Bool) (z len : Nat) (zero : List AV) (ps : List (Nat × Nat × Opd)) : @E1 p O pl fe c _ (.h (.tslice z len zero ps)) cl env σ s kd = (Und c (@D1 p O pl (.h (.tslice z len zero ps)) cl env σ s kd) ∧ Und (¬ c) (kd.k (.tuple []) σ s)) := (rfl)
@[simp ↓] theorem e1_bslice (fe : Bool) (z len : Nat) (zero : List AV) (ps : List (Nat × Nat × Opd)) : @E1 p O pl fe c _ (.h (.bslice z len zero ps)) cl env σ s kd = (Und c (@D1 p O pl (.h (.bslice z len zero ps)) cl env σ s kd) ∧ Und (¬ c) (kd.k (.tuple []) σ s)) := (rfl)
end

@[simp ↓] theorem segFree_nil : segFree [] = true := (rfl)
@[simp ↓] theorem segFree_v (d : Option Nat) (o : VOp) (g : Option (Nat × Bool)) (c : Cls) (r : List AOper) : segFree (⟨d, .v o, g, c⟩ :: r) = segFree r := by simp [segFree, isV]
@[simp ↓] theorem segFree_full (d : Option Nat) (o : AOp) (g : Option (Nat × Bool)) (r : List AOper) : segFree (⟨d, o, g, .full⟩ :: r) = segFree r := by simp [segFree]
@[simp ↓] theorem segFree_froz (d : Option Nat) (o : AOp) (g : Option (Nat × Bool)) (r : List AOper) : segFree (⟨d, o, g, .froz⟩ :: r) = segFree r := by simp [segFree]
@[simp ↓] theorem segFree_tslice (d : Option Nat) (z len : Nat) (zero : List AV) (ps : List (Nat × Nat × Opd)) (g : Option (Nat × Bool)) (c : Cls) (r : List AOper) : segFree (⟨d, .h (.tslice z len zero ps), g, c⟩ :: r) = segFree r := by simp [segFree, isV]
@[simp ↓] theorem segFree_sload (d : Option Nat) (b : Bool) (n : Nat) (x : Opd) (g : Option (Nat × Bool)) (r : List AOper) : segFree (⟨d, .h (.load b n x), g, .sload⟩ :: r) = false := by simp [segFree, isV]
@[simp ↓] theorem segFree_st1 (d : Option Nat) (n : Nat) (x y : Opd) (g : Option (Nat × Bool)) (r : List AOper) : segFree (⟨d, .h (.store n x y), g, .st1⟩ :: r) = false := by simp [segFree, isV]
@[simp ↓] theorem segFree_semiA (d : Option Nat) (z n : Nat) (x y : Opd) (g : Option (Nat × Bool)) (r : List AOper) : segFree (⟨d, .h (.append z n x y), g, .semi⟩ :: r) = false := by simp [segFree, isV]
@[simp ↓] theorem segFree_semiB (d : Option Nat) (z n : Nat) (zero : List AV) (ps : List (Nat × Nat × Opd)) (g : Option (Nat × Bool)) (r : List AOper) : segFree (⟨d, .h (.bslice z n zero ps), g, .semi⟩ :: r) = false := by simp [segFree, isV]
@[simp ↓] theorem segFree_semiX (d : Option Nat) (x : Opd) (g : Option (Nat × Bool)) (r : List AOper) : segFree (⟨d, .h (.box x), g, .semi⟩ :: r) = false := by simp [segFree, isV]
@[simp ↓] theorem segFree_semiL (d : Option Nat) (x : List AV) (g : Option (Nat × Bool)) (r : List AOper) : segFree (⟨d, .h (.alloc x), g, .semi⟩ :: r) = false := by simp [segFree, isV]
@[simp ↓] theorem segFree_semiS (d : Option Nat) (n : Nat) (x y : Opd) (g : Option (Nat × Bool)) (r : List AOper) : segFree (⟨d, .h (.store n x y), g, .semi⟩ :: r) = false := by simp [segFree, isV]
@[simp ↓] theorem segFree_semiM (d : Option Nat) (g : Option (Nat × Bool)) (r : List AOper) : segFree (⟨d, .h .mkMap, g, .semi⟩ :: r) = false := by simp [segFree, isV]
@[simp ↓] theorem segFree_semiK (d : Option Nat) (b : Nat) (zero : List AV) (x y : Opd) (g : Option (Nat × Bool)) (r : List AOper) : segFree (⟨d, .h (.mkSlice b zero x y), g, .semi⟩ :: r) = false := by simp [segFree, isV]
@[simp ↓] theorem segFree_call (d : Option Nat) (x : Opd) (as : List Opd) (g : Option (Nat × Bool)) (r : List AOper) : segFree (⟨d, .call x as, g, .semi⟩ :: r) = false := by simp [segFree, isV]

/-! ### Loops and functions -/
section
variable {p : AProg} {O : Caller} {f : Nat} {rd : Option Nat} {fr : Fr} {σ : AH}
def Lk [Inv : Kn (Nat → Fr → AH → Prop)] (k : Nat) [Q : Kn (AEx → Fr → AH → Prop)] (ex : AEx) (fr : Fr) (σ : AH) : Prop := LoopK Inv.k k Q.k ex fr σ
def Nk (n : Nat) [E : Kn (Nat → Env)] [S : Kn (Nat → AH)] [I : Kn (Nat → Prop)] (j : Nat) [Q : Kn (AEx → Fr → AH → Prop)] (ex : AEx) (fr : Fr) (σ : AH) : Prop := CountK n E.k S.k I.k [] j Q.k ex fr σ
@[simp] theorem lk_normal (Inv : Kn (Nat → Fr → AH → Prop)) (k : Nat) (Q : Kn (AEx → Fr → AH → Prop)) : @Lk Inv k Q .normal fr σ = ∃ j, j < k ∧ Inv.k j fr σ := (rfl)
@[simp] theorem lk_exit (Inv : Kn (Nat → Fr → AH → Prop)) (k : Nat) (Q : Kn (AEx → Fr → AH → Prop)) (j : Nat) : @Lk Inv k Q (.exit j) fr σ = Q.k (.exit j) fr σ := (rfl)
@[simp] theorem lk_ret (Inv : Kn (Nat → Fr → AH → Prop)) (k : Nat) (Q : Kn (AEx → Fr → AH → Prop)) : @Lk Inv k Q .ret fr σ = Q.k .ret fr σ := (rfl)
@[simp] theorem nk_normal (n : Nat) (E : Kn (Nat → Env)) (S : Kn (Nat → AH)) (I : Kn (Nat → Prop)) (j : Nat) (Q : Kn (AEx → Fr → AH → Prop)) : @Nk n E S I j Q .normal fr σ = (j < n ∧ fr = ⟨E.k (j + 1), []⟩ ∧ σ = S.k (j + 1) ∧ I.k (j + 1)) := (rfl)
@[simp] theorem nk_exit (n : Nat) (E : Kn (Nat → Env)) (S : Kn (Nat → AH)) (I : Kn (Nat → Prop)) (j : Nat) (Q : Kn (AEx → Fr → AH → Prop)) (i : Nat) : @Nk n E S I j Q (.exit i) fr σ = Q.k (.exit i) fr σ := (rfl)
@[simp] theorem nk_ret (n : Nat) (E : Kn (Nat → Env)) (S : Kn (Nat → AH)) (I : Kn (Nat → Prop)) (j : Nat) (Q : Kn (AEx → Fr → AH → Prop)) : @Nk n E S I j Q .ret fr σ = Q.k .ret fr σ := (rfl)
theorem lp_loop (pl : List Nat) {b : ACode} {Q : Kn (AEx → Fr → AH → Prop)} (Inv : Nat → Fr → AH → Prop) (h0 : ∃ k, Inv k fr σ) (step : ∀ k fr σ, Inv k fr σ → @C p O pl f rd (b) fr σ ⟨@Lk ⟨Inv⟩ k Q⟩) : @Lp p O f rd (b) fr σ Q :=
  wc_loop pl Inv h0 step
theorem lp_count (pl : List Nat) {b : ACode} {Q : Kn (AEx → Fr → AH → Prop)} (n : Nat) (E : Nat → Env) (S : Nat → AH) (I : Nat → Prop) (h0 : fr = ⟨E 0, []⟩ ∧ σ = S 0 ∧ I 0)
    (step : ∀ j, j ≤ n → I j → @C p O pl f rd (b) ⟨E j, []⟩ (S j) ⟨@Nk n ⟨E⟩ ⟨S⟩ ⟨I⟩ j Q⟩) : @Lp p O f rd (b) fr σ Q :=
  wc_count pl n E S I h0 step
theorem fn_of' (pl : List Nat) {g : Nat} {np : Nat} {res : List ARes} {body : ACode} {rec : List ALoop} {args : List AV} {v : AV} (hf : p.funcs.get g = some ⟨np, res, body, rec, true⟩) (hO : (∀ a σ, a ≠ [] → O (.fn g) a σ = none) ∧ ∀ σ, O (.fn g) args σ = none) (hc : args.all (closed 8) = true) (hl : args.length = np)
    (h : @C p O pl g none body ⟨argEnv 0 args, []⟩ ⟨0, 0, .leaf⟩ ⟨RetK res v⟩) : ans p O g args = some v := fn_of pl hf hO rfl hc hl h
theorem call_of' (pl : List Nat) {g : Nat} {np : Nat} {res : List ARes} {body : ACode} {rec : List ALoop} {args : List AV} {σ : AH} {K : Kn (AV → AH → Prop)} (hf : p.funcs.get g = some ⟨np, res, body, rec, false⟩) (hO : O (.fn g) args σ = none) (hl : args.length = np)
    (h : @C p O pl g none body ⟨argEnv 0 args, []⟩ σ ⟨RetP res K.k⟩) : @Cl p O (.fn g) args σ K := call_of pl hf hO rfl hl h
end

/-! ### Environments -/
@[simp] theorem ev_tmp (env : Env) (t : Nat) : Opd.ev env (.tmp t) = env.get t := (rfl)
@[simp] theorem ev_const (env : Env) (v : AV) : Opd.ev env (.const v) = v := (rfl)
@[simp] theorem get_set (env : Env) (t s : Nat) (v : AV) : (env.set t v).get s = if s = t then v else env.get s := by
  by_cases h : s = t
  · subst h; rw [Env.get_set_same, if_pos rfl]
  · rw [Env.get_set_other _ _ _ _ h, if_neg h]
@[simp] theorem get_cons (s : Nat) (u : AV) (r : Env) (t : Nat) : Env.get ((s, u) :: r) t = if s = t then u else Env.get r t := (rfl)
@[simp] theorem get_nil (t : Nat) : Env.get [] t = .undef := (rfl)
@[simp] theorem keep_nil (env : Env) : Env.keep [] env = [] := (rfl)
@[simp] theorem keep_cons (k : Nat) (ks : List Nat) (env : Env) : Env.keep (k :: ks) env = (k, env.get k) :: Env.keep ks env := (rfl)
@[simp] theorem putDst_some (env : Env) (d : Nat) (v : AV) : putDst env (some d) v = env.set d v := (rfl)
@[simp] theorem putDst_none (env : Env) (v : AV) : putDst env none v = env := (rfl)
@[simp] theorem argEnv_nil (k : Nat) : argEnv k [] = [] := (rfl)
@[simp] theorem argEnv_cons (k : Nat) (v : AV) (vs : List AV) : argEnv k (v :: vs) = (k, v) :: argEnv (k + 1) vs := (rfl)
@[simp] theorem aresults_nil (env : Env) (σ : AH) : aresults env σ [] = some [] := (rfl)
@[simp] theorem aresults_tmp (env : Env) (σ : AH) (t : Nat) (rs : List ARes) : aresults env σ (.tmp t :: rs) = (aresults env σ rs).map (env.get t :: ·) := by
  simp only [aresults, aresult]
  cases aresults env σ rs <;> rfl
/-- What a result that lies in cells is. -/
def acell (g : Bool) (n : Nat) (x : AV) (σ : AH) : Option AV := match x with
    | .ptr (some (i, o)) => match σ.row i with
      | some cs => if o + n ≤ cs.length then partV g n cs o else none
      | none => none
    | _ => none
@[simp] theorem acell_ptr (g : Bool) (n i o : Nat) (σ : AH) : acell g n (.ptr (some (i, o))) σ = match σ.row i with
      | some cs => if o + n ≤ cs.length then partV g n cs o else none
      | none => none := (rfl)
@[simp] theorem aresults_cell (env : Env) (σ : AH) (g : Bool) (a n : Nat) (rs : List ARes) : aresults env σ (.cell g a n :: rs) = (acell g n (env.get a) σ).bind fun v => (aresults env σ rs).map (v :: ·) := by
  have : aresult env σ (.cell g a n) = acell g n (env.get a) σ := rfl
  simp only [aresults, this]
  cases acell g n (env.get a) σ with
  | none => rfl
  | some v => cases aresults env σ rs <;> rfl
@[simp] theorem oneOf_one (v : AV) : oneOf [v] = v := (rfl)
@[simp] theorem oneOf_two (a b : AV) (vs : List AV) : oneOf (a :: b :: vs) = .tuple (a :: b :: vs) := (rfl)
@[simp] theorem oneOf_nil : oneOf [] = .tuple [] := (rfl)

/-! ### Numbers -/
/-- A number, brought into 64 bits. -/
def w64 (n : Int) : Int := wr .i64 n
theorem w64_wrap (n : Int) : w64 n = IntKind.wrap .i64 n := wr_eq .i64 n
@[simp] theorem w64_id (n : Int) (h1 : -9223372036854775808 ≤ n) (h2 : n ≤ 9223372036854775807) : w64 n = n := by
  unfold w64 wr
  simp only [h1, h2, and_self, if_true]
@[simp] theorem abin_add (a b : Int) : abin .add (.int .i64 a) (.int .i64 b) = some (.int .i64 (w64 (a + b))) := (rfl)
@[simp] theorem abin_sub (a b : Int) : abin .sub (.int .i64 a) (.int .i64 b) = some (.int .i64 (w64 (a - b))) := (rfl)
@[simp] theorem abin_mul (a b : Int) : abin .mul (.int .i64 a) (.int .i64 b) = some (.int .i64 (w64 (a * b))) := (rfl)
@[simp] theorem abin_quo (a b : Int) : abin .quo (.int .i64 a) (.int .i64 b) = if b ≠ 0 then some (.int .i64 (w64 (a.tdiv b))) else none := by simp [abin, w64]
@[simp] theorem abin_rem (a b : Int) : abin .rem (.int .i64 a) (.int .i64 b) = if b ≠ 0 then some (.int .i64 (a.tmod b)) else none := by simp [abin]
@[simp] theorem abin_eql (q : IntKind) (a b : Int) : abin .eql (.int q a) (.int q b) = some (.bool (decide (a = b))) := by
  simp only [abin, if_true]; rfl
@[simp] theorem abin_neq (q : IntKind) (a b : Int) : abin .neq (.int q a) (.int q b) = some (.bool (!decide (a = b))) := by
  simp only [abin, if_true]; rfl
@[simp] theorem abin_lss (q : IntKind) (a b : Int) : abin .lss (.int q a) (.int q b) = some (.bool (decide (a < b))) := by simp only [abin, if_true]
@[simp] theorem abin_leq (q : IntKind) (a b : Int) : abin .leq (.int q a) (.int q b) = some (.bool (decide (a ≤ b))) := by simp only [abin, if_true]
@[simp] theorem abin_gtr (q : IntKind) (a b : Int) : abin .gtr (.int q a) (.int q b) = some (.bool (decide (b < a))) := by simp only [abin, if_true]
@[simp] theorem abin_geq (q : IntKind) (a b : Int) : abin .geq (.int q a) (.int q b) = some (.bool (decide (b ≤ a))) := by simp only [abin, if_true]
@[simp] theorem aun_neg (n : Int) : aun .neg (.int .i64 n) = some (.int .i64 (w64 (-n))) := by simp [aun, w64]
@[simp] theorem aun_not (b : Bool) : aun .not (.bool b) = some (.bool !b) := (rfl)

/-! ### Operations that only compute -/
section
variable {ρ : Opd → AV}
@[simp] theorem avop_mov (x : Opd) : avop ρ (.mov x) = some (ρ x) := (rfl)
@[simp] theorem avop_bin (op : BinOp) (x y : Opd) : avop ρ (.bin op x y) = abin op (ρ x) (ρ y) := (rfl)
@[simp] theorem avop_un (op : UnOp) (x : Opd) : avop ρ (.un op x) = aun op (ρ x) := (rfl)
def apick (c a b : AV) : Option AV := match c with | .bool c => some (if c = true then a else b) | _ => none
@[simp] theorem avop_pick (c a b : Opd) : avop ρ (.pick c a b) = apick (ρ c) (ρ a) (ρ b) := by
  simp only [avop, apick]
  generalize ρ c = x
  cases x <;> rfl
@[simp] theorem apick_bool (c : Bool) (a b : AV) : apick (.bool c) a b = some (Pk (c = true) a b) := (rfl)
def aeqB (neg : Bool) (a b : AV) : Option AV := match a, b with | .bool a, .bool b => some (.bool (if neg then !(a == b) else (a == b))) | _, _ => none
@[simp] theorem avop_eqB (neg : Bool) (x y : Opd) : avop ρ (.eqB neg x y) = aeqB neg (ρ x) (ρ y) := (rfl)
@[simp] theorem aeqB_f (a b : Bool) : aeqB false (.bool a) (.bool b) = some (.bool (a == b)) := (rfl)
@[simp] theorem aeqB_t (a b : Bool) : aeqB true (.bool a) (.bool b) = some (.bool !(a == b)) := (rfl)
def aeqA (neg : Bool) (sh : List Leaf) (a b : AV) : Option AV := match a, b with | .agg xs, .agg ys => (eqCells sh xs ys).map fun r => .bool (if neg then !r else r) | _, _ => none
@[simp] theorem avop_eqA (neg : Bool) (sh : List Leaf) (x y : Opd) : avop ρ (.eqA neg sh x y) = aeqA neg sh (ρ x) (ρ y) := (rfl)
@[simp] theorem aeqA_agg (neg : Bool) (sh : List Leaf) (xs ys : List AV) : aeqA neg sh (.agg xs) (.agg ys) = (eqCells sh xs ys).map fun r => .bool (if neg then !r else r) := (rfl)
@[simp] theorem eqCells_nil' : eqCells [] [] [] = some true := (rfl)
@[simp] theorem eqCells_int (sh : List Leaf) (q : IntKind) (a b : Int) (xs ys : List AV) : eqCells (.int :: sh) (.int q a :: xs) (.int q b :: ys) = (eqCells sh xs ys).map fun r => decide (a = b) && r := by simp only [eqCells, if_true]; rfl
@[simp] theorem avop_eqN (neg : Bool) (k : NilK) (x : Opd) : avop ρ (.eqN neg k x) = (isNil k (ρ x)).map fun r => .bool (if neg then !r else r) := (rfl)
@[simp] theorem isNil_vsl (nl : Bool) (es : List AV) : isNil .slice (.vsl nl es) = some nl := (rfl)
@[simp] theorem isNil_slice (a : Nat × Nat) (n : Nat) (c : ACap) : isNil .slice (.slice (some a) n c) = some false := (rfl)
def aconv (k : IntKind) (x : AV) : Option AV := match x with | .int _ n => some (.int k (wr k n)) | _ => none
@[simp] theorem avop_conv (k : IntKind) (x : Opd) : avop ρ (.conv k x) = aconv k (ρ x) := (rfl)
@[simp] theorem aconv_64 (q : IntKind) (n : Int) : aconv .i64 (.int q n) = some (.int .i64 (w64 n)) := (rfl)
@[simp] theorem avop_build (zero : List AV) (ps : List (Nat × Nat × Opd)) : avop ρ (.build zero ps) = (afill ρ zero ps).map .agg := (rfl)
@[simp] theorem afill_nil (cs : List AV) : afill ρ cs [] = some cs := (rfl)
@[simp] theorem afill_cons (cs : List AV) (off n : Nat) (x : Opd) (r : List (Nat × Nat × Opd)) : afill ρ cs ((off, n, x) :: r) = if (ρ x).dfd = true ∧ (ρ x).cells.length = n ∧ off + n ≤ cs.length then afill ρ (putCells cs off (ρ x).cells) r else none := (rfl)
@[simp] theorem putCells_nil (cs : List AV) (off : Nat) : putCells cs off [] = cs := (rfl)
@[simp] theorem putCells_cons (cs : List AV) (off : Nat) (x : AV) (xs : List AV) : putCells cs off (x :: xs) = putCells (cs.set off x) (off + 1) xs := (rfl)
def afield (g : Bool) (off n : Nat) (x : AV) : Option AV := match x with | .agg cs => partV g n cs off | _ => none
@[simp] theorem avop_fieldV (g : Bool) (off n : Nat) (x : Opd) : avop ρ (.fieldV g off n x) = afield g off n (ρ x) := (rfl)
@[simp] theorem afield_agg (g : Bool) (off n : Nat) (cs : List AV) : afield g off n (.agg cs) = partV g n cs off := (rfl)
@[simp] theorem partV_f (n : Nat) (cs : List AV) (off : Nat) : partV false n cs off = cs[off]? := (rfl)
@[simp] theorem partV_t (n : Nat) (cs : List AV) (off : Nat) : partV true n cs off = some (.agg ((cs.drop off).take n)) := (rfl)
def afieldA (off : Nat) (x : AV) : Option AV := match x with | .ptr (some (i, o)) => some (.ptr (some (i, o + off))) | .vptr cs o => some (.vptr cs (o + off)) | _ => none
@[simp] theorem avop_fieldAddr (off : Nat) (x : Opd) : avop ρ (.fieldAddr off x) = afieldA off (ρ x) := (rfl)
@[simp] theorem afieldA_ptr (off i o : Nat) : afieldA off (.ptr (some (i, o))) = some (.ptr (some (i, o + off))) := (rfl)
@[simp] theorem afieldA_vptr (off o : Nat) (cs : List AV) : afieldA off (.vptr cs o) = some (.vptr cs (o + off)) := (rfl)
def aidx (z : Nat) (x i : AV) : Option AV := match x, i with
  | .slice (some (id, o)) len _, .int _ i => if 0 ≤ i ∧ i < (len : Int) then some (.ptr (some (id, o + i.toNat * z))) else none
  | .vsl _ es, .int _ i => if 0 ≤ i then
      match es[i.toNat]? with
      | some e => if e.cells.length = z then some (.vptr e.cells 0) else none
      | none => none
    else none
  | _, _ => none
@[simp] theorem avop_indexAddrS (z : Nat) (x i : Opd) : avop ρ (.indexAddrS z x i) = aidx z (ρ x) (ρ i) := (rfl)
@[simp] theorem aidx_slice (z id o len : Nat) (c : ACap) (q : IntKind) (i : Int) : aidx z (.slice (some (id, o)) len c) (.int q i) = if 0 ≤ i ∧ i < (len : Int) then some (.ptr (some (id, o + i.toNat * z))) else none := (rfl)
def aidxA (len z : Nat) (x i : AV) : Option AV := match x, i with
  | .ptr (some (id, o)), .int _ i => if 0 ≤ i ∧ i < (len : Int) then some (.ptr (some (id, o + i.toNat * z))) else none
  | .vptr cs o, .int _ i => if 0 ≤ i ∧ i < (len : Int) then some (.vptr cs (o + i.toNat * z)) else none
  | _, _ => none
@[simp] theorem avop_indexAddrA (len z : Nat) (x i : Opd) : avop ρ (.indexAddrA len z x i) = aidxA len z (ρ x) (ρ i) := (rfl)
@[simp] theorem aidxA_ptr (len z id o : Nat) (q : IntKind) (i : Int) : aidxA len z (.ptr (some (id, o))) (.int q i) = if 0 ≤ i ∧ i < (len : Int) then some (.ptr (some (id, o + i.toNat * z))) else none := (rfl)
@[simp] theorem aidxA_vptr (len z o : Nat) (cs : List AV) (q : IntKind) (i : Int) : aidxA len z (.vptr cs o) (.int q i) = if 0 ≤ i ∧ i < (len : Int) then some (.vptr cs (o + i.toNat * z)) else none := (rfl)
def aidxV (g : Bool) (len z : Nat) (x i : AV) : Option AV := match x, i with
    | .agg cs, .int _ i => if 0 ≤ i ∧ i < (len : Int) then partV g z cs (i.toNat * z) else none
    | _, _ => none
@[simp] theorem avop_indexA (g : Bool) (len z : Nat) (x i : Opd) : avop ρ (.indexA g len z x i) = aidxV g len z (ρ x) (ρ i) := (rfl)
@[simp] theorem aidxV_agg (g : Bool) (len z : Nat) (cs : List AV) (q : IntKind) (i : Int) : aidxV g len z (.agg cs) (.int q i) = if 0 ≤ i ∧ i < (len : Int) then partV g z cs (i.toNat * z) else none := (rfl)
def aslS (z : Nat) (x : AV) (lo hi mx : Option AV) : Option AV := match x with
    | .slice a len cap => match abounds (cap.sure len) len lo hi mx with
      | some (l, h, m) => (cap.less z l m).map fun c => .slice (a.map fun p => (p.1, p.2 + l * z)) (h - l) c
      | none => none
    | .vsl nl es => if widthOK z es then (abounds es.length es.length lo hi mx).map fun (l, h, _) => .vsl nl ((es.drop l).take (h - l)) else none
    | _ => none
@[simp] theorem avop_slS (z : Nat) (x : Opd) (lo hi mx : Option Opd) : avop ρ (.slS z x lo hi mx) = aslS z (ρ x) (lo.map ρ) (hi.map ρ) (mx.map ρ) := (rfl)
@[simp] theorem avop_mkF (f : Nat) (a b : List Opd) : avop ρ (.mkF f a b) = some (.func (.func f) (a.map ρ) (b.map ρ)) := (rfl)
@[simp] theorem avop_mkI (t : Nat) (x : Opd) : avop ρ (.mkI t x) = some (.iface t (ρ x)) := (rfl)
def aextr (i : Nat) (x : AV) : Option AV := match x with | .tuple vs => vs[i]? | _ => none
@[simp] theorem avop_extract (i : Nat) (x : Opd) : avop ρ (.extract i x) = aextr i (ρ x) := (rfl)
@[simp] theorem aextr_tuple (i : Nat) (vs : List AV) : aextr i (.tuple vs) = vs[i]? := (rfl)
def alen (x : AV) : Option AV := match x with | .slice _ n _ => some (.int .i64 n) | .vsl _ es => some (.int .i64 es.length) | _ => none
@[simp] theorem avop_len (x : Opd) : avop ρ (.len x) = alen (ρ x) := (rfl)
@[simp] theorem alen_slice (a : Option (Nat × Nat)) (n : Nat) (c : ACap) : alen (.slice a n c) = some (.int .i64 n) := (rfl)
@[simp] theorem alen_vsl (nl : Bool) (es : List AV) : alen (.vsl nl es) = some (.int .i64 es.length) := (rfl)
@[simp] theorem avop_lenC (n : Nat) : avop ρ (.lenC n) = some (.int .i64 n) := (rfl)
@[simp] theorem avop_min (x : Opd) (xs : List Opd) : avop ρ (.min x xs) = foldAV amin (ρ x) (xs.map ρ) := (rfl)
@[simp] theorem avop_max (x : Opd) (xs : List Opd) : avop ρ (.max x xs) = foldAV amax (ρ x) (xs.map ρ) := (rfl)
@[simp] theorem foldAV_nil (f : AV → AV → Option AV) (x : AV) : foldAV f x [] = some x := (rfl)
@[simp] theorem foldAV_min (q q' : IntKind) (a b : Int) (r : List AV) : foldAV amin (.int q a) (.int q' b :: r) = foldAV amin (.int q (min a b)) r := by
  simp only [foldAV, amin]
  congr 2
  omega
@[simp] theorem foldAV_max (q q' : IntKind) (a b : Int) (r : List AV) : foldAV amax (.int q a) (.int q' b :: r) = foldAV amax (.int q (max a b)) r := by
  simp only [foldAV, amax]
  congr 2
  omega
def anilc (x : AV) : Option AV := match x with
    | .ptr (some p) => some (.ptr (some p))
    | .vptr cs o => some (.vptr cs o)
    | .func (.func f) xs ys => some (.func (.func f) xs ys)
    | .func (.yield l) xs ys => some (.func (.yield l) xs ys)
    | .iface t v => some (.iface t v)
    | _ => none
@[simp] theorem avop_nilCheck (x : Opd) : avop ρ (.nilCheck x) = anilc (ρ x) := (rfl)
@[simp] theorem anilc_ptr (p : Nat × Nat) : anilc (.ptr (some p)) = some (.ptr (some p)) := (rfl)
@[simp] theorem anilc_vptr (cs : List AV) (o : Nat) : anilc (.vptr cs o) = some (.vptr cs o) := (rfl)
@[simp] theorem anilc_func (f : Nat) (xs ys : List AV) : anilc (.func (.func f) xs ys) = some (.func (.func f) xs ys) := (rfl)
@[simp] theorem avopM_mov {p : AProg} {ρ : Opd → AV} {x} : avopM p ρ (.mov x) = avop ρ (.mov x) := avopM_id (by simp)
@[simp] theorem avopM_pick {p : AProg} {ρ : Opd → AV} {c} {a} {b} : avopM p ρ (.pick c a b) = avop ρ (.pick c a b) := avopM_id (by simp)
@[simp] theorem avopM_bin {p : AProg} {ρ : Opd → AV} {op} {x} {y} : avopM p ρ (.bin op x y) = avop ρ (.bin op x y) := avopM_id (by simp)
@[simp] theorem avopM_eqB {p : AProg} {ρ : Opd → AV} {n} {x} {y} : avopM p ρ (.eqB n x y) = avop ρ (.eqB n x y) := avopM_id (by simp)
@[simp] theorem avopM_eqA {p : AProg} {ρ : Opd → AV} {n} {s} {x} {y} : avopM p ρ (.eqA n s x y) = avop ρ (.eqA n s x y) := avopM_id (by simp)
@[simp] theorem avopM_eqN {p : AProg} {ρ : Opd → AV} {n} {k} {x} : avopM p ρ (.eqN n k x) = avop ρ (.eqN n k x) := avopM_id (by simp)
@[simp] theorem avopM_un {p : AProg} {ρ : Opd → AV} {op} {x} : avopM p ρ (.un op x) = avop ρ (.un op x) := avopM_id (by simp)
@[simp] theorem avopM_conv {p : AProg} {ρ : Opd → AV} {k} {x} : avopM p ρ (.conv k x) = avop ρ (.conv k x) := avopM_id (by simp)
@[simp] theorem avopM_build {p : AProg} {ρ : Opd → AV} {z} {ps} : avopM p ρ (.build z ps) = avop ρ (.build z ps) := avopM_id (by simp)
@[simp] theorem avopM_fieldV {p : AProg} {ρ : Opd → AV} {g} {o} {n} {x} : avopM p ρ (.fieldV g o n x) = avop ρ (.fieldV g o n x) := avopM_id (by simp)
@[simp] theorem avopM_indexA {p : AProg} {ρ : Opd → AV} {g} {l} {z} {x} {i} : avopM p ρ (.indexA g l z x i) = avop ρ (.indexA g l z x i) := avopM_id (by simp)
@[simp] theorem avopM_indexS {p : AProg} {ρ : Opd → AV} {x} {i} : avopM p ρ (.indexS x i) = avop ρ (.indexS x i) := avopM_id (by simp)
@[simp] theorem avopM_fieldAddr {p : AProg} {ρ : Opd → AV} {o} {x} : avopM p ρ (.fieldAddr o x) = avop ρ (.fieldAddr o x) := avopM_id (by simp)
@[simp] theorem avopM_indexAddrS {p : AProg} {ρ : Opd → AV} {z} {x} {i} : avopM p ρ (.indexAddrS z x i) = avop ρ (.indexAddrS z x i) := avopM_id (by simp)
@[simp] theorem avopM_indexAddrA {p : AProg} {ρ : Opd → AV} {l} {z} {x} {i} : avopM p ρ (.indexAddrA l z x i) = avop ρ (.indexAddrA l z x i) := avopM_id (by simp)
@[simp] theorem avopM_slS {p : AProg} {ρ : Opd → AV} {z} {x} {lo} {hi} {mx} : avopM p ρ (.slS z x lo hi mx) = avop ρ (.slS z x lo hi mx) := avopM_id (by simp)
@[simp] theorem avopM_slA {p : AProg} {ρ : Opd → AV} {n} {z} {x} {lo} {hi} {mx} : avopM p ρ (.slA n z x lo hi mx) = avop ρ (.slA n z x lo hi mx) := avopM_id (by simp)
@[simp] theorem avopM_slT {p : AProg} {ρ : Opd → AV} {x} {lo} {hi} : avopM p ρ (.slT x lo hi) = avop ρ (.slT x lo hi) := avopM_id (by simp)
@[simp] theorem avopM_mkI {p : AProg} {ρ : Opd → AV} {t} {x} : avopM p ρ (.mkI t x) = avop ρ (.mkI t x) := avopM_id (by simp)
@[simp] theorem avopM_mkF {p : AProg} {ρ : Opd → AV} {f} {a} {b} : avopM p ρ (.mkF f a b) = avop ρ (.mkF f a b) := avopM_id (by simp)
@[simp] theorem avopM_extract {p : AProg} {ρ : Opd → AV} {i} {x} : avopM p ρ (.extract i x) = avop ρ (.extract i x) := avopM_id (by simp)
@[simp] theorem avopM_len {p : AProg} {ρ : Opd → AV} {x} : avopM p ρ (.len x) = avop ρ (.len x) := avopM_id (by simp)
@[simp] theorem avopM_lenT {p : AProg} {ρ : Opd → AV} {x} : avopM p ρ (.lenT x) = avop ρ (.lenT x) := avopM_id (by simp)
@[simp] theorem avopM_lenC {p : AProg} {ρ : Opd → AV} {n} : avopM p ρ (.lenC n) = avop ρ (.lenC n) := avopM_id (by simp)
@[simp] theorem avopM_min {p : AProg} {ρ : Opd → AV} {x} {xs} : avopM p ρ (.min x xs) = avop ρ (.min x xs) := avopM_id (by simp)
@[simp] theorem avopM_max {p : AProg} {ρ : Opd → AV} {x} {xs} : avopM p ρ (.max x xs) = avop ρ (.max x xs) := avopM_id (by simp)
@[simp] theorem avopM_mkM {p : AProg} {ρ : Opd → AV} {nm} {x} : avopM p ρ (.mkM nm x) = avop ρ (.mkM nm x) := avopM_id (by simp)
@[simp] theorem avopM_cmpS {p : AProg} {ρ : Opd → AV} {x} {y} : avopM p ρ (.cmpS x y) = avop ρ (.cmpS x y) := avopM_id (by simp)
@[simp] theorem avop_mkM (nm : String) (x : Opd) : avop ρ (.mkM nm x) = some (.func (.method nm) [ρ x] []) := (rfl)
def acmpS (x y : AV) : Option AV := match x, y with
    | .str a, .str b => some (.int .i64 (Extern.BytealgCompare.cmp a b))
    | _, _ => none
@[simp] theorem avop_cmpS (x y : Opd) : avop ρ (.cmpS x y) = acmpS (ρ x) (ρ y) := (rfl)
@[simp] theorem acmpS_str (a b : ByteArray) : acmpS (.str a) (.str b) = some (.int .i64 (Extern.BytealgCompare.cmp a b)) := (rfl)
def anilM (p : AProg) (v : AV) : Option AV := match anilc v with
    | some r => some r
    | none => nilM p v
@[simp] theorem avopM_nilCheck {p : AProg} {ρ : Opd → AV} (x : Opd) : avopM p ρ (.nilCheck x) = anilM p (ρ x) := (rfl)
@[simp] theorem anilM_ptr (p : AProg) (q : Nat × Nat) : anilM p (.ptr (some q)) = some (.ptr (some q)) := (rfl)
@[simp] theorem anilM_vptr (p : AProg) (cs : List AV) (o : Nat) : anilM p (.vptr cs o) = some (.vptr cs o) := (rfl)
@[simp] theorem anilM_func (p : AProg) (f : Nat) (xs ys : List AV) : anilM p (.func (.func f) xs ys) = some (.func (.func f) xs ys) := (rfl)
@[simp] theorem anilM_yield (p : AProg) (f : Nat) (xs ys : List AV) : anilM p (.func (.yield f) xs ys) = some (.func (.yield f) xs ys) := (rfl)
@[simp] theorem anilM_iface (p : AProg) (t : Nat) (v : AV) : anilM p (.iface t v) = some (.iface t v) := (rfl)
@[simp] theorem anilM_meth (p : AProg) (nm : String) (t : Nat) (v : AV) : anilM p (.func (.method nm) [.iface t v] []) = (p.meth t nm).map fun _ => .func (.method nm) [.iface t v] [] := by
  simp only [anilM, anilc, nilM]
  cases p.meth t nm <;> rfl
end

/-! ### Cells -/
@[simp] theorem getQ_zero (a : AV) (l : List AV) : (a :: l)[0]? = some a := (rfl)
@[simp] theorem getQ_succ (a : AV) (l : List AV) (i : Nat) : (a :: l)[i + 1]? = l[i]? := (rfl)
@[simp] theorem cells_int (q : IntKind) (n : Int) : (AV.int q n).cells = [.int q n] := (rfl)
@[simp] theorem cells_bool (b : Bool) : (AV.bool b).cells = [.bool b] := (rfl)
@[simp] theorem cells_agg (cs : List AV) : (AV.agg cs).cells = cs := (rfl)
@[simp] theorem cells_vsl (nl : Bool) (es : List AV) : (AV.vsl nl es).cells = [.vsl nl es] := (rfl)
@[simp] theorem cells_slice (a : Option (Nat × Nat)) (n : Nat) (c : ACap) : (AV.slice a n c).cells = [.slice a n c] := (rfl)
@[simp] theorem cells_func (f : Go.Fn) (xs ys : List AV) : (AV.func f xs ys).cells = [.func f xs ys] := (rfl)
@[simp] theorem cells_map (m : Option Nat) : (AV.map m).cells = [.map m] := (rfl)
@[simp] theorem cells_ptr (m : Option (Nat × Nat)) : (AV.ptr m).cells = [.ptr m] := (rfl)
@[simp] theorem cells_str (m : ByteArray) : (AV.str m).cells = [.str m] := (rfl)
@[simp] theorem dfd_int (q : IntKind) (n : Int) : (AV.int q n).dfd = true := (rfl)
@[simp] theorem dfd_bool (b : Bool) : (AV.bool b).dfd = true := (rfl)
@[simp] theorem dfd_agg (cs : List AV) : (AV.agg cs).dfd = true := (rfl)
@[simp] theorem dfd_vsl (nl : Bool) (es : List AV) : (AV.vsl nl es).dfd = true := (rfl)
@[simp] theorem dfd_slice (a : Option (Nat × Nat)) (n : Nat) (c : ACap) : (AV.slice a n c).dfd = true := (rfl)
@[simp] theorem dfd_func (f : Go.Fn) (xs ys : List AV) : (AV.func f xs ys).dfd = true := (rfl)
@[simp] theorem dfd_map (m : Option Nat) : (AV.map m).dfd = true := (rfl)
@[simp] theorem dfd_ptr (m : Option (Nat × Nat)) : (AV.ptr m).dfd = true := (rfl)
@[simp] theorem dfd_str (m : ByteArray) : (AV.str m).dfd = true := (rfl)
@[simp] theorem one_int (q : IntKind) (n : Int) : (AV.int q n).one = true := (rfl)
@[simp] theorem one_bool (b : Bool) : (AV.bool b).one = true := (rfl)
@[simp] theorem one_vsl (nl : Bool) (es : List AV) : (AV.vsl nl es).one = true := (rfl)
@[simp] theorem one_slice (a : Option (Nat × Nat)) (n : Nat) (c : ACap) : (AV.slice a n c).one = true := (rfl)
@[simp] theorem one_func (f : Go.Fn) (xs ys : List AV) : (AV.func f xs ys).one = true := (rfl)
@[simp] theorem one_map (m : Option Nat) : (AV.map m).one = true := (rfl)
@[simp] theorem one_ptr (m : Option (Nat × Nat)) : (AV.ptr m).one = true := (rfl)
@[simp] theorem one_str (m : ByteArray) : (AV.str m).one = true := (rfl)

/-! ### The heap -/
@[simp] theorem get_push (σ : AH) (o : AObj) (i : Nat) : (σ.push o).get i = if i = σ.next then some o else σ.get i := by
  by_cases h : i = σ.next
  · subst h; rw [AH.get_push_new, if_pos rfl]
  · rw [AH.get_push_old _ _ _ h, if_neg h]
@[simp] theorem get_setH (σ : AH) (i j : Nat) (o : AObj) : (σ.set i o).get j = if j = i then (if i < σ.next then some o else none) else σ.get j := by
  by_cases h : j = i
  · subst h
    rw [if_pos rfl]
    by_cases hn : j < σ.next
    · rw [AH.get_set_same _ _ _ hn, if_pos hn]
    · rw [if_neg hn]
      unfold AH.get
      rw [if_neg (by simpa using hn)]
  · rw [AH.get_set_other _ _ _ _ h, if_neg h]
@[simp] theorem get_empty (i m : Nat) : (⟨0, m, .leaf⟩ : AH).get i = none := by simp [AH.get]
@[simp] theorem row_def (σ : AH) (i : Nat) : σ.row i = match σ.get i with | some (.cells cs) | some (.ro cs) => some cs | _ => none := (rfl)
@[simp] theorem own_def (σ : AH) (i : Nat) : σ.own i = if σ.lim ≤ i then match σ.get i with | some (.cells cs) => some cs | _ => none else none := (rfl)
@[simp] theorem cel_def (σ : AH) (i : Nat) : σ.cel i = match σ.get i with | some (.cells cs) | some (.ro cs) => some cs | _ => none := (rfl)
@[simp] theorem aload_vptr (σ : AH) (g : Bool) (n : Nat) (cs : List AV) (o : Nat) : aload σ g n (.vptr cs o) = if o + n ≤ cs.length then partV g n cs o else none := (rfl)
@[simp] theorem aload_ptr (σ : AH) (g : Bool) (n i o : Nat) : aload σ g n (.ptr (some (i, o))) = match σ.row i with | some cs => if o + n ≤ cs.length then partV g n cs o else none | none => none := (rfl)
def astore (n : Nat) (a x : AV) (σ : AH) : Option (AV × AH) := match a with
    | .ptr (some (i, o)) => match σ.own i with
      | some cs => if x.dfd ∧ x.cells.length = n ∧ o + n ≤ cs.length ∧ x.cells.all AV.one then some (.undef, σ.set i (.cells (putCells cs o x.cells))) else none
      | none => none
    | _ => none
@[simp] theorem ahop_store (ρ : Opd → AV) (σ : AH) (n : Nat) (a x : Opd) : ahop ρ σ (.store n a x) = astore n (ρ a) (ρ x) σ := (rfl)
@[simp] theorem astore_ptr (n i o : Nat) (x : AV) (σ : AH) : astore n (.ptr (some (i, o))) x σ = match σ.own i with
      | some cs => if x.dfd ∧ x.cells.length = n ∧ o + n ≤ cs.length ∧ x.cells.all AV.one then some (.undef, σ.set i (.cells (putCells cs o x.cells))) else none
      | none => none := (rfl)

@[simp] theorem under_mk (n m k : Nat) (t : Tr AObj) : (⟨n, m, t⟩ : AH).under k = ⟨n, k, t⟩ := (rfl)
@[simp] theorem under_push (σ : AH) (o : AObj) (k : Nat) : (σ.push o).under k = (σ.under k).push o := (rfl)

/-! ### Values that stand for data -/
/-- An element of a list, or some value. -/
def nth {α : Type} [Inhabited α] (xs : List α) (i : Nat) : α := xs.getD i default
theorem nth_eq {α : Type} [Inhabited α] {xs : List α} {i : Nat} (h : i < xs.length) : nth xs i = xs[i] := by simp [nth, h]
theorem nth_get? {α : Type} [Inhabited α] {xs : List α} {i : Nat} (h : i < xs.length) : xs[i]? = some (nth xs i) := by simp [nth, h]
theorem nth_mem {α : Type} [Inhabited α] {xs : List α} {i : Nat} (h : i < xs.length) : nth xs i ∈ xs := by rw [nth_eq h]; exact List.getElem_mem h
/-- A slice that no one will write: what stands for its elements; is it nil; they. -/
def vl {α : Type} (e : α → AV) (nl : Bool) (xs : List α) : AV := .vsl nl (xs.map e)
abbrev vs (nl : Bool) (xs : List Int) : AV := vl (AV.int .i64) nl xs
section
variable {α : Type} {e : α → AV} {nl : Bool} {xs : List α}
@[simp] theorem alen_vl : alen (vl e nl xs) = some (.int .i64 xs.length) := by simp [vl]
@[simp] theorem closed_vl (k : Nat) : closed (k + 1) (vl e nl xs) = true := (rfl)
@[simp] theorem fzV_vl (k : Nat) (c : Nat → Option (List AV)) : fzV (k + 1) c (vl e nl xs) = vl e nl xs := (rfl)
@[simp] theorem isNil_vl : isNil .slice (vl e nl xs) = some nl := (rfl)
@[simp] theorem cells_vl : (vl e nl xs).cells = [vl e nl xs] := (rfl)
@[simp] theorem dfd_vl : (vl e nl xs).dfd = true := (rfl)
@[simp] theorem one_vl : (vl e nl xs).one = true := (rfl)
@[simp] theorem na_vl : (vl e nl xs).na = vl e nl xs := (rfl)
theorem aidx_vl [Inhabited α] {z : Nat} (he : ∀ x, (e x).cells.length = z) (q : IntKind) (i : Int) : aidx z (vl e nl xs) (.int q i) = if 0 ≤ i ∧ i < (xs.length : Int) then some (.vptr (e (nth xs i.toNat)).cells 0) else none := by
  unfold vl
  simp only [aidx]
  by_cases h0 : 0 ≤ i
  · rw [if_pos h0]
    by_cases h1 : i < (xs.length : Int)
    · have hlt : i.toNat < xs.length := by omega
      rw [if_pos ⟨h0, h1⟩, List.getElem?_map, nth_get? hlt]
      simp [he]
    · have hge : xs.length ≤ i.toNat := by omega
      rw [if_neg (by omega), List.getElem?_map, List.getElem?_eq_none hge]
      rfl
  · rw [if_neg h0, if_neg (by omega)]
theorem widthOK_vl {z : Nat} (he : ∀ x, (e x).cells.length = z) : widthOK z (xs.map e) = true := by
  cases xs <;> simp [widthOK, he]
theorem aslS_vl {z : Nat} (he : ∀ x, (e x).cells.length = z) (lo hi mx : Option AV) : aslS z (vl e nl xs) lo hi mx = (abounds xs.length xs.length lo hi mx).map fun r => vl e nl ((xs.drop r.1).take (r.2.1 - r.1)) := by
  unfold vl
  simp only [aslS, widthOK_vl he, if_true, List.length_map]
  congr 1
  funext r
  simp [List.map_take, List.map_drop]
end
@[simp] theorem aidx_vs {nl : Bool} {xs : List Int} (q : IntKind) (i : Int) : aidx 1 (vl (AV.int .i64) nl xs) (.int q i) = if 0 ≤ i ∧ i < (xs.length : Int) then some (.vptr [.int .i64 (nth xs i.toNat)] 0) else none := aidx_vl (e := AV.int .i64) (fun _ => rfl) q i
@[simp] theorem aslS_vs {nl : Bool} {xs : List Int} (lo hi mx : Option AV) : aslS 1 (vl (AV.int .i64) nl xs) lo hi mx = (abounds xs.length xs.length lo hi mx).map fun r => vl (AV.int .i64) nl ((xs.drop r.1).take (r.2.1 - r.1)) := aslS_vl (e := AV.int .i64) (fun _ => rfl) lo hi mx
@[simp] theorem abounds_lh (top len : Nat) (q q' : IntKind) (l h : Int) : abounds top len (some (.int q l)) (some (.int q' h)) none = if 0 ≤ h ∧ h ≤ (top : Int) then (if 0 ≤ l ∧ l ≤ h then some (l.toNat, h.toNat, none) else none) else none := by
  simp only [abounds, abound]
  by_cases h1 : 0 ≤ h ∧ h ≤ (top : Int)
  · simp only [if_pos h1]
    by_cases h2 : 0 ≤ l ∧ l ≤ h
    · rw [if_pos h2, if_pos (by omega)]; rfl
    · rw [if_neg h2, if_neg (by omega)]; rfl
  · simp only [if_neg h1]
@[simp] theorem abounds_h (top len : Nat) (q' : IntKind) (h : Int) : abounds top len none (some (.int q' h)) none = if 0 ≤ h ∧ h ≤ (top : Int) then some (0, h.toNat, none) else none := by
  simp only [abounds, abound]
  by_cases h1 : 0 ≤ h ∧ h ≤ (top : Int)
  · simp only [if_pos h1]; rfl
  · simp only [if_neg h1]
@[simp] theorem abounds_l (top len : Nat) (q : IntKind) (l : Int) : abounds top len (some (.int q l)) none none = if 0 ≤ l ∧ l ≤ (len : Int) then some (l.toNat, len, none) else none := by
  simp only [abounds, abound]
  by_cases h1 : 0 ≤ l ∧ l ≤ (len : Int)
  · simp only [if_pos h1]; rfl
  · simp only [if_neg h1]; rfl
@[simp] theorem abounds_lhm (top len : Nat) (q q' q'' : IntKind) (l h m : Int) : abounds top len (some (.int q l)) (some (.int q' h)) (some (.int q'' m)) =
    if 0 ≤ m ∧ m ≤ (top : Int) then (if 0 ≤ h ∧ h ≤ m then (if 0 ≤ l ∧ l ≤ h then some (l.toNat, h.toNat, some m.toNat) else none) else none) else none := by
  simp only [abounds, abound]
  by_cases h1 : 0 ≤ m ∧ m ≤ (top : Int)
  · simp only [if_pos h1]
    by_cases h2 : 0 ≤ h ∧ h ≤ m
    · rw [if_pos h2, if_pos (by omega)]
      simp only
      by_cases h3 : 0 ≤ l ∧ l ≤ h
      · rw [if_pos h3, if_pos (by omega)]; rfl
      · rw [if_neg h3, if_neg (by omega)]; rfl
    · rw [if_neg h2, if_neg (by omega)]
  · simp only [if_neg h1]
@[simp] theorem abounds_hm (top len : Nat) (q' q'' : IntKind) (h m : Int) : abounds top len none (some (.int q' h)) (some (.int q'' m)) =
    if 0 ≤ m ∧ m ≤ (top : Int) then (if 0 ≤ h ∧ h ≤ m then some (0, h.toNat, some m.toNat) else none) else none := by
  simp only [abounds, abound]
  by_cases h1 : 0 ≤ m ∧ m ≤ (top : Int)
  · simp only [if_pos h1]
    by_cases h2 : 0 ≤ h ∧ h ≤ m
    · rw [if_pos h2, if_pos (by omega)]; rfl
    · rw [if_neg h2, if_neg (by omega)]
  · simp only [if_neg h1]
@[simp] theorem optK_ite2 {α : Type} (c : Prop) [Decidable c] (x : α) (k : α → Prop) : OptK (if c then some x else none) k ↔ c ∧ k x := by simp

@[simp] theorem fzV_int (k : Nat) (c : Nat → Option (List AV)) (q : IntKind) (n : Int) : fzV (k + 1) c (.int q n) = .int q n := (rfl)
@[simp] theorem fzV_bool (k : Nat) (c : Nat → Option (List AV)) (b : Bool) : fzV (k + 1) c (.bool b) = .bool b := (rfl)
@[simp] theorem fzV_str (k : Nat) (c : Nat → Option (List AV)) (b : ByteArray) : fzV (k + 1) c (.str b) = .str b := (rfl)
@[simp] theorem fzV_vsl (k : Nat) (c : Nat → Option (List AV)) (nl : Bool) (es : List AV) : fzV (k + 1) c (.vsl nl es) = .vsl nl es := (rfl)
@[simp] theorem fzV_vptr (k : Nat) (c : Nat → Option (List AV)) (cs : List AV) (o : Nat) : fzV (k + 1) c (.vptr cs o) = .vptr cs o := (rfl)
@[simp] theorem fzV_tuple (k : Nat) (c : Nat → Option (List AV)) (vs : List AV) : fzV (k + 1) c (.tuple vs) = .tuple (vs.map (fzV k c)) := (rfl)
@[simp] theorem fzV_agg (k : Nat) (c : Nat → Option (List AV)) (vs : List AV) : fzV (k + 1) c (.agg vs) = .agg (vs.map (fzV k c)) := (rfl)
@[simp] theorem fzV_func (k : Nat) (c : Nat → Option (List AV)) (f : Nat) (xs ys : List AV) : fzV (k + 1) c (.func (.func f) xs ys) = .func (.func f) (xs.map (fzV k c)) (ys.map (fzV k c)) := (rfl)
@[simp] theorem fzV_ptr (k : Nat) (c : Nat → Option (List AV)) (i o : Nat) : fzV (k + 1) c (.ptr (some (i, o))) = match c i with | some cs => .vptr (cs.map fun x => (fzV k c x).na) o | none => .undef := (rfl)
@[simp] theorem na_int (q : IntKind) (n : Int) : (AV.int q n).na = .int q n := (rfl)
@[simp] theorem na_bool (b : Bool) : (AV.bool b).na = .bool b := (rfl)
@[simp] theorem na_str (b : ByteArray) : (AV.str b).na = .str b := (rfl)
@[simp] theorem na_vsl (nl : Bool) (es : List AV) : (AV.vsl nl es).na = .vsl nl es := (rfl)
@[simp] theorem na_func (f : Go.Fn) (xs ys : List AV) : (AV.func f xs ys).na = .func f xs ys := (rfl)
@[simp] theorem na_vptr (cs : List AV) (o : Nat) : (AV.vptr cs o).na = .vptr cs o := (rfl)
@[simp] theorem closed_int (k : Nat) (q : IntKind) (n : Int) : closed (k + 1) (.int q n) = true := (rfl)
@[simp] theorem closed_gv (k : Nat) (c : Prop) [Decidable c] (x : AV) : closed (k + 1) (gv c x) = (!decide c || closed (k + 1) x) := by
  by_cases h : c
  · simp [gv, h]
  · simp [gv, h]; rfl
@[simp] theorem closed_bool (k : Nat) (b : Bool) : closed (k + 1) (.bool b) = true := (rfl)
@[simp] theorem closed_str (k : Nat) (b : ByteArray) : closed (k + 1) (.str b) = true := (rfl)
@[simp] theorem closed_vsl (k : Nat) (nl : Bool) (es : List AV) : closed (k + 1) (.vsl nl es) = true := (rfl)
@[simp] theorem closed_vptr (k : Nat) (cs : List AV) (o : Nat) : closed (k + 1) (.vptr cs o) = true := (rfl)
@[simp] theorem closed_agg (k : Nat) (cs : List AV) : closed (k + 1) (.agg cs) = cs.all (closed k) := (rfl)
@[simp] theorem closed_func (k f : Nat) (xs ys : List AV) : closed (k + 1) (.func (.func f) xs ys) = (xs.all (closed k) && ys.all (closed k)) := (rfl)
@[simp] theorem closed_ptr (k : Nat) (p : Nat × Nat) : closed (k + 1) (.ptr (some p)) = false := (rfl)
@[simp] theorem closed_slice (k : Nat) (p : Nat × Nat) (n : Nat) (c : ACap) : closed (k + 1) (.slice (some p) n c) = false := (rfl)
@[simp] theorem closed_nilFunc (k : Nat) : closed (k + 1) .nilFunc = true := (rfl)
@[simp] theorem isScal_int (k : Nat) (q : IntKind) (n : Int) : isScal (k + 1) (.int q n) = true := (rfl)
@[simp] theorem isScal_bool (k : Nat) (b : Bool) : isScal (k + 1) (.bool b) = true := (rfl)
@[simp] theorem isScal_agg (k : Nat) (cs : List AV) : isScal (k + 1) (.agg cs) = cs.all (isScal k) := (rfl)
@[simp] theorem isScal_tuple (k : Nat) (cs : List AV) : isScal (k + 1) (.tuple cs) = cs.all (isScal k) := (rfl)
@[simp] theorem isScal_nilv (k : Nat) (nl : Bool) : isScal (k + 1) (.vsl nl []) = true := (rfl)
end Go.Oct
end
/- What the arguments of a call read as stands for values that no one will write. -/
section
set_option linter.unusedVariables false
set_option linter.unusedSimpArgs false
set_option linter.unusedSectionVars false
namespace Go.Oct
variable [Gl]
open Go.RowKit

/-- The kinds of cells of data. -/
inductive Sh where
  | int (k : IntKind)
  | bool
  | str
  | sl (agg : Bool) (ls : List Sh)

/-- How many bytes the cells of an element have, at least. -/
def wt : Sh → Nat
  | .int .i64 => 8
  | .str => 16
  | .sl _ _ => 24
  | _ => 1
def wtL (ls : List Sh) : Nat := max 1 (ls.map wt).sum
theorem wtL_pos (ls : List Sh) : 0 < wtL ls := by unfold wtL; omega
/-- A cell of a kind. -/
inductive CellIs : Sh → AV → Prop where
  | int (k : IntKind) (n : Int) (h : k.min ≤ n ∧ n ≤ k.max) : CellIs (.int k) (.int k n)
  | bool (b : Bool) : CellIs .bool (.bool b)
  | str (s : ByteArray) (h : s.size < 140737488355328) : CellIs .str (.str s)
  | sl (agg : Bool) (ls : List Sh) (nl : Bool) (css : List (List AV)) (h0 : nl = true → css = []) (h1 : css.length * wtL ls < 140737488355328) (h2 : ∀ cs ∈ css, cs.length = ls.length)
      (h3 : ∀ (cs : List AV), cs ∈ css → ∀ (i : Nat) (s : Sh) (c : AV), ls[i]? = some s → cs[i]? = some c → CellIs s c) : CellIs (.sl agg ls) (.vsl nl (css.map fun cs => if agg then .agg cs else cs.headD .undef))
/-- A row of cells of kinds. -/
def CellsAre (ls : List Sh) (cs : List AV) : Prop := cs.length = ls.length ∧ ∀ (i : Nat) (s : Sh) (c : AV), ls[i]? = some s → cs[i]? = some c → CellIs s c
theorem CellsAre.nil : CellsAre [] [] := ⟨rfl, fun i s c h => by simp at h⟩
theorem CellsAre.cons {s : Sh} {ls : List Sh} {c : AV} {cs : List AV} (h : CellIs s c) (hs : CellsAre ls cs) : CellsAre (s :: ls) (c :: cs) :=
  ⟨by simp [hs.1], fun i s' c' h1 h2 => by
    cases i with
    | zero => simp at h1 h2; subst h1; subst h2; exact h
    | succ i => exact hs.2 i s' c' (by simpa using h1) (by simpa using h2)⟩
theorem CellsAre.append {ls ls' : List Sh} {cs cs' : List AV} (h : CellsAre ls cs) (h' : CellsAre ls' cs') : CellsAre (ls ++ ls') (cs ++ cs') := by
  refine ⟨by simp [h.1, h'.1], fun i s c h1 h2 => ?_⟩
  by_cases hi : i < ls.length
  · rw [List.getElem?_append_left hi] at h1
    rw [List.getElem?_append_left (by rw [h.1]; exact hi)] at h2
    exact h.2 i s c h1 h2
  · rw [List.getElem?_append_right (by omega)] at h1
    rw [List.getElem?_append_right (by rw [h.1]; omega), h.1] at h2
    exact h'.2 _ s c h1 h2
theorem CellsAre.one {s : Sh} {cs : List AV} (h : CellsAre [s] cs) : ∃ c, cs = [c] ∧ CellIs s c := by
  obtain ⟨h1, h2⟩ := h
  match cs, h1 with
  | [c], _ => exact ⟨c, rfl, h2 0 s c rfl rfl⟩
theorem CellsAre.uncons {s : Sh} {ls : List Sh} {cs : List AV} (h : CellsAre (s :: ls) cs) : ∃ c cs', cs = c :: cs' ∧ CellIs s c ∧ CellsAre ls cs' := by
  obtain ⟨h1, h2⟩ := h
  match cs, h1 with
  | c :: cs', h1 => exact ⟨c, cs', rfl, h2 0 s c rfl rfl, by simpa using h1, fun i s' c' e1 e2 => h2 (i + 1) s' c' (by simpa using e1) (by simpa using e2)⟩
/-- The cells of a type of data. -/
def flatFs (P : Program) (fl : TypeId → Option (List Sh)) : List Field → Nat → Option (List Sh)
  | [], _ => some []
  | f :: fs, off => if f.offset = off then
      match fl f.type with
      | some s => if P.cellsOf f.type = s.length then (flatFs P fl fs (off + s.length)).map fun r => s ++ r else none
      | none => none
    else none
def flat (P : Program) : Nat → TypeId → Option (List Sh)
  | 0, _ => none
  | d + 1, t => match P.underlying t with
    | some .bool => some [.bool]
    | some (.int k) => some [.int k]
    | some .string => some [.str]
    | some (.slice e) => match aggOf P e, flat P d e with
      | some g, some ls => if P.cellsOf e = ls.length ∧ 0 < ls.length ∧ wtL ls ≤ P.bytesOf e ∧ (g = true ∨ ls.length = 1) then some [.sl g ls] else none
      | _, _ => none
    | some (.struct fs) => match flatFs P (flat P d) fs.toList 0 with
      | some ls => if P.cellsOf t = ls.length then some ls else none
      | none => none
    | some (.array n e) => match flat P d e with
      | some s => if P.cellsOf e = s.length ∧ P.cellsOf t = n * s.length then some (List.replicate n s).flatten else none
      | none => none
    | _ => none

/-- What no one will write while an outside caller's call runs: what is there, so many steps deep. -/
def IsGl (b o : Nat) (cs : FzK) : Prop := o = 0 ∧ ∃ l, cs = .av l ∧ Gl.tab b = some l
theorem IsGl.of {P : Nat → Nat → FzK → Prop} (g : Nat) (cs : List AV) (h : Gl.tab g = some cs) : P g 0 (.av cs) ∨ IsGl g 0 (.av cs) := .inr ⟨rfl, cs, rfl, h⟩
def fzk (w : World) : Nat → Nat → Nat → FzK → Prop
  | 0, _, _, _ => False
  | k + 1, b, o, cs => b < w.heap.size ∧ ∃ c e fr, w.heap[b]? = some (.cells c e fr) ∧ cs.ok ⟨fun _ => none, fun b o cs => fzk w k b o cs ∨ IsGl b o cs, w.heap.size, IsGl.of⟩ c o
abbrev phk (w : World) (k : Nat) : Phi := ⟨fun _ => none, fun b o cs => fzk w k b o cs ∨ IsGl b o cs, w.heap.size, IsGl.of⟩
theorem fzk_succ (w : World) : ∀ (k b o : Nat) (cs : FzK), fzk w k b o cs → fzk w (k + 1) b o cs
  | 0, b, o, cs, h => h.elim
  | k + 1, b, o, cs, ⟨h1, c, e, fr, h2, h3⟩ => ⟨h1, c, e, fr, h2, FzK.ok.mono0 (φ := phk w k) (φ' := phk w (k + 1)) (fun _ _ h => h) (fun b o cs h => h.imp (fzk_succ w k b o cs) id) h3⟩
def fzAll (w : World) (b o : Nat) (cs : FzK) : Prop := ∃ k, fzk w k b o cs
abbrev phAll (w : World) : Phi := ⟨fun _ => none, fun b o cs => fzAll w b o cs ∨ IsGl b o cs, w.heap.size, IsGl.of⟩
theorem VR.toAll {w : World} {k : Nat} {x : AV} {v : Value} (h : VR (phk w k) x v) : VR (phAll w) x v := VR.mono0 (φ := phk w k) (φ' := phAll w) (fun _ _ h => h) (fun b o cs h => h.imp (fun h => ⟨k, h⟩) id) h
theorem fzAll_ok (w : World) (b o : Nat) (cs : FzK) (h : fzAll w b o cs) : b < w.heap.size ∧ ∃ c e fr, w.heap[b]? = some (.cells c e fr) ∧ cs.ok (phAll w) c o := by
  obtain ⟨k, h⟩ := h
  cases k with
  | zero => exact h.elim
  | succ k =>
    obtain ⟨h1, c, e, fr, h2, h3⟩ := h
    exact ⟨h1, c, e, fr, h2, FzK.ok.mono0 (φ := phk w k) (φ' := phAll w) (fun _ _ h => h) (fun b o cs h => h.imp (fun h => ⟨k, h⟩) id) h3⟩

theorem cellq {w : World} {a : Addr} {v : Value} (h : w.cell? a = some v) : a.spot = none ∧ ∃ c e fr, w.heap[a.block]? = some (.cells c e fr) ∧ c[a.off]? = some v := by
  unfold World.cell? at h
  split at h
  · rename_i c e fr hb
    split at h
    · cases h
    · rename_i hs
      exact ⟨by simpa using hs, c, e, fr, hb, h⟩
  · cases h

section
variable {H : Type} {enc : TypeId × Value → H} {P : Program} {w : World} {sp : Nat → Bool} {held : Bool}
def Light (P : Program) (t : TypeId) (d : DataW H) : Prop := ∀ n ∈ d.weights P t, n ≤ reachBytes

theorem read_cells : ∀ (n d : Nat) (t : TypeId) (ls : List Sh), flat P d t = some ls → ∀ (cs : List Value) (x : DataW H × List MemPlace), DataW.trod enc P w 0 sp held n t cs = some x → Light P t x.1 →
    ∃ xs, CellsAre ls xs ∧ VRL (phk w n) xs cs
  | 0, d, t, ls, hf, cs, x, h, hl => by simp [DataW.trod] at h
  | n + 1, 0, t, ls, hf, cs, x, h, hl => by simp [flat] at hf
  | n + 1, d + 1, t, ls, hf, cs, x, h, hl => by
    simp only [flat] at hf
    split at hf
    · rename_i hu
      cases hf
      obtain ⟨b, rfl, rfl⟩ := DataW.trod_bool hu h
      exact ⟨[.bool b], .cons (.bool b) .nil, VRL.cons (.bool b) (VRL.nil _)⟩
    · rename_i k hu
      cases hf
      obtain ⟨m, rfl, rfl, hw⟩ := DataW.trod_int hu h
      simp only [Lit.wf, Bool.and_eq_true, decide_eq_true_eq] at hw
      exact ⟨[.int k m], .cons (.int k m hw) .nil, VRL.cons (.int k m) (VRL.nil _)⟩
    · rename_i hu
      cases hf
      obtain ⟨s, rfl, rfl, hs⟩ := DataW.trod_string hu h
      have := hl s.data.toList.length (by rw [DataW.weights]; exact List.mem_singleton.2 rfl)
      have h2 := reachBytes_lt
      refine ⟨[.str s], .cons (.str s ?_) .nil, VRL.cons (.str s) (VRL.nil _)⟩
      have e : s.data.toList.length = s.size := by rw [Array.length_toList]; rfl
      omega
    · rename_i e hu
      split at hf
      · rename_i g lse hg hfe
        split at hf
        · rename_i hcond
          obtain ⟨hz, hz0, hby, hg1⟩ := hcond
          cases hf
          rcases DataW.trod_slice hu h with ⟨rfl, rfl⟩ | ⟨a, len, cap, elems, rest, m, hm, rfl, rfl, _, hlc, hcm, hlen, hel, _, _⟩
          · refine ⟨[.vsl true []], .cons ?_ .nil, VRL.cons .vslN (VRL.nil _)⟩
            exact CellIs.sl g lse true [] (fun _ => rfl) (by simp) (by simp) (by simp)
          · have hm : m = n := by omega
            subst hm
            -- every element
            have each : ∀ i, ∃ xs : List AV, i < len → CellsAre lse xs ∧ ∃ ci : List Value, w.cells? 0 (a.add (i * P.cellsOf e)) (P.cellsOf e) = some ci ∧ VRL (phk w m) xs ci := by
              intro i
              by_cases hi : i < len
              · have h1 := hel i hi
                have hi2 : i < elems.length := by omega
                rw [List.getElem?_eq_getElem hi2] at h1
                obtain ⟨ci, c1, c2⟩ := Option.bind_eq_some_iff.1 h1
                obtain ⟨xs, q1, q2⟩ := read_cells m d e lse hfe ci _ c2 (fun q hq => by
                  refine hl q ?_
                  simp only [DataW.weights, hu, List.mem_cons, List.mem_append]
                  refine .inr (.inl ?_)
                  have gen : ∀ (l : List (DataW H)) (y : DataW H), y ∈ l → ∀ q ∈ y.weights P e, q ∈ DataW.weightsAll P e l := by
                    intro l
                    induction l with
                    | nil => intro y hy; cases hy
                    | cons z l ih =>
                      intro y hy q hq
                      simp only [DataW.weightsAll, List.mem_append]
                      rcases List.mem_cons.1 hy with rfl | hy
                      · exact .inl hq
                      · exact .inr (ih y hy q hq)
                  exact gen _ _ (List.mem_map_of_mem (List.getElem_mem hi2)) q hq)
                exact ⟨xs, fun _ => ⟨q1, ci, c1, q2⟩⟩
              · exact ⟨[], fun h => absurd h hi⟩
            obtain ⟨f, hf⟩ := Classical.axiomOfChoice each
            let css := (List.range len).map f
            have hcss : css.length = len := by simp [css]
            have hmem : ∀ c ∈ css, ∃ i, i < len ∧ c = f i := by
              intro c hc
              obtain ⟨i, hi, rfl⟩ := List.mem_map.1 hc
              exact ⟨i, List.mem_range.1 hi, rfl⟩
            have hlb : css.length * wtL lse < 140737488355328 := by
              have h1 := hl (((elems.map (·.1)).length + (rest.map (·.1)).length) * P.bytesOf e) (by simp [DataW.weights, hu])
              have h2 := reachBytes_lt
              have h3 : len * wtL lse ≤ ((elems.map (·.1)).length + (rest.map (·.1)).length) * P.bytesOf e := by
                refine Nat.mul_le_mul ?_ hby
                simp; omega
              rw [hcss]
              omega
            let mk : List AV → AV := fun cs => if g then .agg cs else cs.headD .undef
            have hmk : ∀ c ∈ css, (mk c).cells = c := by
              intro c hc
              obtain ⟨i, hi, rfl⟩ := hmem c hc
              have hl1 := (hf i hi).1.1
              rcases hg1 with rfl | h1
              · rfl
              · cases g with
                | true => rfl
                | false =>
                  obtain ⟨y, hy⟩ := List.length_eq_one_iff.1 (hl1.trans h1)
                  have q := (hf i hi).1.2
                  rw [hy] at q ⊢
                  cases lse with
                  | nil => simp at h1
                  | cons s r =>
                    have := q 0 s y rfl rfl
                    show AV.cells y = [y]
                    cases this <;> rfl
            refine ⟨[.vsl false (css.map mk)], .cons ?_ .nil, VRL.cons ?_ (VRL.nil _)⟩
            · exact CellIs.sl g lse false css (fun h => by cases h) hlb (fun c hc => by obtain ⟨i, hi, rfl⟩ := hmem c hc; exact (hf i hi).1.1)
                (fun c hc i s y e1 e2 => by obtain ⟨j, hj, rfl⟩ := hmem c hc; exact (hf j hj).1.2 i s y e1 e2)
            · have hzl : ∀ y ∈ css.map mk, y.cells.length = lse.length := by
                intro y hy
                obtain ⟨c, hc, rfl⟩ := List.mem_map.1 hy
                rw [hmk c hc]
                obtain ⟨i, hi, rfl⟩ := hmem c hc
                exact (hf i hi).1.1
              have hlen2 : (css.map mk).length = len := by simp [hcss]
              have key := VR.vsl (φ := phk w (m + 1)) (css.map mk) lse.length cap a hzl (by omega) ?_
              · rw [hlen2] at key; exact key
              · intro hne
                have hpos : 0 < len := by
                  rcases Nat.eq_zero_or_pos len with h0 | h0
                  · exfalso; apply hne; apply List.eq_nil_of_length_eq_zero; omega
                  · exact h0
                have hfl : (css.map mk).flatMap AV.cells = css.flatten := by
                  rw [List.flatMap_map, List.flatMap_def]
                  congr 1
                  exact (List.map_congr_left hmk).trans (List.map_id _)
                -- a cell of the block
                have cellAt : ∀ i, i < len → ∀ (r : Nat) (y : AV), (f i)[r]? = some y → ∃ c e' fr, w.heap[a.block]? = some (.cells c e' fr) ∧ a.spot = none ∧ ∃ v, c[a.off + (i * lse.length + r)]? = some v ∧ VR (phk w m) y v := by
                  intro i hi r y hy
                  obtain ⟨⟨q1, _⟩, ci, c1, c2⟩ := hf i hi
                  obtain ⟨v, hv, hr⟩ := c2.get? hy
                  unfold World.cells? at c1
                  rw [if_pos (Nat.zero_le _)] at c1
                  have hlr : r < P.cellsOf e := by
                    rw [hz, ← q1]
                    exact (List.getElem?_eq_some_iff.1 hy).1
                  have h5 := mapM_some_get c1 r r (by rw [List.getElem?_range hlr])
                  rw [hv] at h5
                  obtain ⟨s1, c, e', fr, s2, s3⟩ := cellq h5
                  have eb : ((a.add (i * P.cellsOf e)).add r).block = a.block := by unfold Addr.add; split <;> split <;> rfl
                  have eo : ((a.add (i * P.cellsOf e)).add r).off = a.off + (i * P.cellsOf e + r) := by
                    unfold Addr.add
                    split <;> split <;> simp_all <;> omega
                  rw [eb] at s2
                  rw [eo, hz] at s3
                  refine ⟨c, e', fr, s2, ?_, v, s3, hr⟩
                  -- the first cell has no spot
                  obtain ⟨⟨q1', _⟩, ci0, c10, c20⟩ := hf 0 hpos
                  unfold World.cells? at c10
                  rw [if_pos (Nat.zero_le _)] at c10
                  have h6 := mapM_some_get c10 0 0 (by rw [List.getElem?_range (by omega)])
                  have hl0 := mapM_some_length c10
                  have : 0 < ci0.length := by rw [hl0, List.length_range]; omega
                  rw [List.getElem?_eq_getElem this] at h6
                  have h7 := (cellq h6).1
                  simpa [Addr.add] using h7
                have hget : ∀ (l : List Nat) (j : Nat) (y : AV), (∀ i ∈ l, (f i).length = lse.length) → ((l.map f).flatten)[j]? = some y → ∃ q i, l[q]? = some i ∧ (f i)[j - q * lse.length]? = some y ∧ q * lse.length ≤ j := by
                  intro l
                  induction l with
                  | nil => intro j y _ h; simp at h
                  | cons i l ih =>
                    intro j y hl h
                    rw [List.map_cons, List.flatten_cons] at h
                    have hi := hl i (List.mem_cons_self ..)
                    by_cases hj : j < lse.length
                    · rw [List.getElem?_append_left (by omega)] at h
                      exact ⟨0, i, rfl, by simpa using h, by omega⟩
                    · rw [List.getElem?_append_right (by omega), hi] at h
                      obtain ⟨q, i', h1, h2, h3⟩ := ih _ y (fun z hz => hl z (List.mem_cons_of_mem _ hz)) h
                      refine ⟨q + 1, i', by simpa using h1, ?_, by rw [Nat.succ_mul]; omega⟩
                      rw [← h2]; congr 1; rw [Nat.succ_mul]; omega
                have hl1 : ∀ i ∈ List.range len, (f i).length = lse.length := fun i hi => (hf i (List.mem_range.1 hi)).1.1
                have cellJ : ∀ (j : Nat) (y : AV), css.flatten[j]? = some y → ∃ c e' fr, w.heap[a.block]? = some (.cells c e' fr) ∧ a.spot = none ∧ ∃ v, c[a.off + j]? = some v ∧ VR (phk w m) y v := by
                  intro j y hy
                  obtain ⟨q, i, h1, h2, h3⟩ := hget _ j y hl1 hy
                  have hq : q < len := by
                    have := (List.getElem?_eq_some_iff.1 h1).1
                    simpa using this
                  have : i = q := by
                    rw [List.getElem?_range hq] at h1
                    exact (Option.some.inj h1).symm
                  subst this
                  obtain ⟨c, e', fr, s1, s2, v, s3, s4⟩ := cellAt i hq _ y h2
                  exact ⟨c, e', fr, s1, s2, v, by rw [← s3]; congr 1; omega, s4⟩
                -- the first cell
                have hne0 : 0 < (css.flatten).length := by
                  have : (f 0).length = lse.length := (hf 0 hpos).1.1
                  obtain ⟨len', rfl⟩ : ∃ l, len = l + 1 := ⟨len - 1, by omega⟩
                  simp only [css, List.range_succ_eq_map, List.map_cons, List.flatten_cons, List.length_append]
                  omega
                obtain ⟨c, e', fr, s1, s2, v, s3, s4⟩ := cellJ 0 _ (List.getElem?_eq_getElem hne0)
                have ha : a = ⟨a.block, a.off, none⟩ := by cases a; simp only at s2; subst s2; rfl
                refine ⟨a.block, a.off, ha, Phi.has_fz (φ := phk w (m + 1)) ?_⟩
                rw [hfl]
                refine .inl ⟨(Array.getElem?_eq_some_iff.1 s1).1, c, e', fr, s1, fun j y hy => ?_⟩
                obtain ⟨c', e'', fr', t1, t2, v', t3, t4⟩ := cellJ j y hy
                rw [s1] at t1
                cases t1
                exact ⟨v', t3, t4⟩
        · cases hf
      · cases hf
    · rename_i fs hu
      split at hf
      rotate_left
      · cases hf
      rename_i lsf hff
      split at hf
      rotate_left
      · cases hf
      rename_i hall
      cases hf
      obtain ⟨xs, m, hm, rfl, hcl, hxl, hfd⟩ := DataW.trod_struct hu h
      have hm : m = n := by omega
      subst hm
      have gen : ∀ (l : List Field) (q off : Nat) (ls : List Sh), (∀ i f, l[i]? = some f → fs[q + i]? = some f) → flatFs P (flat P d) l off = some ls →
          ∃ ys, CellsAre ls ys ∧ VRL (phk w m) ys ((cs.drop off).take ls.length) ∧ ys.length = ls.length ∧ (off ≤ cs.length → off + ls.length ≤ cs.length) := by
        intro l
        induction l with
        | nil =>
          intro q off ls _ hf
          simp only [flatFs, Option.some.injEq] at hf
          subst hf
          exact ⟨[], .nil, by simpa using VRL.nil _, rfl, fun h => by simpa using h⟩
        | cons f l ih =>
          intro q off ls hq hf
          simp only [flatFs] at hf
          split at hf
          · rename_i hoff
            split at hf
            · rename_i s hs
              split at hf
              · rename_i hsz
                obtain ⟨r, hr, rfl⟩ := Option.map_eq_some_iff.1 hf
                have hfq := hq 0 f rfl
                have h1 := hfd (q + 0) f hfq
                have hlt : q + 0 < xs.length := by rw [hxl]; exact (Array.getElem?_eq_some_iff.1 hfq).1
                rw [List.getElem?_eq_getElem hlt] at h1
                obtain ⟨y1, g1, g2⟩ := read_cells m d f.type s hs _ _ h1 (fun z hz => by
                  refine hl z ?_
                  simp only [DataW.weights, hu]
                  exact DataW.weights_mem_each (j := q + 0) (t := f.type) (d := xs[q + 0].1) (by
                    rw [List.getElem?_map]
                    have : fs.toList[q + 0]? = some f := by simpa using hfq
                    rw [this]; rfl) (by rw [List.getElem?_map, List.getElem?_eq_getElem hlt]; rfl) z hz)
                obtain ⟨y2, g3, g4, g5, g6⟩ := ih (q + 1) (off + s.length) r (fun i f' hi => by
                  have := hq (i + 1) f' (by simpa using hi)
                  rw [← this]; congr 1; omega) hr
                rw [hoff, hsz] at g2
                have hl2 : y1.length = s.length := g1.1
                have hl3 : ((cs.drop off).take s.length).length = s.length := by rw [← g2.1, hl2]
                refine ⟨y1 ++ y2, g1.append g3, ?_, by simp [hl2, g5], fun ho => ?_⟩
                · rw [List.length_append, List.take_add]
                  refine g2.append ?_
                  rw [List.drop_drop]
                  exact g4
                · rw [List.length_append]
                  have : off + s.length ≤ cs.length := by
                    rw [List.length_take, List.length_drop] at hl3
                    omega
                  have := g6 this
                  omega
              · cases hf
            · cases hf
          · cases hf
      obtain ⟨ys, g1, g2, g3, g4⟩ := gen fs.toList 0 0 ls (fun i f hi => by simpa using hi) hff
      refine ⟨ys, g1, ?_⟩
      have he : cs.length = ls.length := hcl.trans hall
      rw [List.drop_zero, ← he, List.take_length] at g2
      exact ⟨g2.1, fun i => VR.mono0 (φ := phk w m) (φ' := phk w (m + 1)) (fun _ _ h => h) (fun b o cs h => h.imp (fzk_succ w m b o cs) id) (g2.2 i)⟩
    · rename_i k e hu
      split at hf
      rotate_left
      · cases hf
      rename_i lse hfe
      split at hf
      rotate_left
      · cases hf
      rename_i hcond
      obtain ⟨hz, hall⟩ := hcond
      cases hf
      obtain ⟨xs, m, hm, rfl, hcl, hxl, hfd⟩ := DataW.trod_array hu h
      have hm : m = n := by omega
      subst hm
      have gen : ∀ q, q ≤ k → ∃ ys, CellsAre (List.replicate q lse).flatten ys ∧ VRL (phk w m) ys (cs.take (q * lse.length)) := by
        intro q
        induction q with
        | zero => intro _; exact ⟨[], .nil, by simpa using VRL.nil _⟩
        | succ q ih =>
          intro hq
          obtain ⟨ys, g1, g2⟩ := ih (by omega)
          have h1 := hfd q (by omega)
          have hlt : q < xs.length := by omega
          rw [List.getElem?_eq_getElem hlt] at h1
          obtain ⟨y1, g3, g4⟩ := read_cells m d e lse hfe _ _ h1 (fun z hz' => by
            refine hl z ?_
            simp only [DataW.weights, hu]
            have gen : ∀ (l : List (DataW H)) (y : DataW H), y ∈ l → ∀ q ∈ y.weights P e, q ∈ DataW.weightsAll P e l := by
              intro l
              induction l with
              | nil => intro y hy; cases hy
              | cons z l ih =>
                intro y hy q hq
                simp only [DataW.weightsAll, List.mem_append]
                rcases List.mem_cons.1 hy with rfl | hy
                · exact .inl hq
                · exact .inr (ih y hy q hq)
            exact gen _ _ (List.mem_map_of_mem (List.getElem_mem hlt)) z hz')
          rw [hz] at g4
          refine ⟨ys ++ y1, ?_, ?_⟩
          · rw [List.replicate_succ', List.flatten_append]
            simpa using g1.append g3
          · rw [Nat.succ_mul, List.take_add]
            exact g2.append g4
      obtain ⟨ys, g1, g2⟩ := gen k (Nat.le_refl _)
      refine ⟨ys, g1, ?_⟩
      have he : cs.length = k * lse.length := hcl.trans hall
      rw [← he, List.take_length] at g2
      exact ⟨g2.1, fun i => VR.mono0 (φ := phk w m) (φ' := phk w (m + 1)) (fun _ _ h => h) (fun b o cs h => h.imp (fzk_succ w m b o cs) id) (g2.2 i)⟩
    · cases hf
end
end Go.Oct
end
/- From what a law's function answers, at all arguments of the kinds, to what its row asks. -/
section
set_option linter.unusedVariables false
set_option linter.unusedSimpArgs false
set_option linter.unusedSectionVars false
namespace Go.Oct
variable [Gl]
open Go.RowKit Go.ChangeShapes Go.WideShapes Go.ChangeAt

/-- A value, of its cells. -/
def mkA (g : Bool) (cs : List AV) : AV := if g then .agg cs else cs.headD .undef
/-- Values of kinds. -/
def ArgsAre : List (Bool × List Sh) → List AV → Prop
  | [], [] => True
  | (g, ls) :: r, x :: xs => (∃ cs, CellsAre ls cs ∧ x = mkA g cs) ∧ ArgsAre r xs
  | _, _ => False
def tyOf (P : Program) (t : TypeId) : Option (Bool × List Sh) :=
  match aggOf P t, flat P 20 t with
  | some g, some ls => if g = true ∨ ls.length = 1 then some (g, ls) else none
  | _, _ => none
def tysOf (P : Program) : List TypeId → Option (List (Bool × List Sh))
  | [] => some []
  | t :: ts => match tyOf P t, tysOf P ts with
    | some x, some xs => some (x :: xs)
    | _, _ => none

section
variable {H : Type} {enc : TypeId × Value → H} {P : Program} {W : World}
theorem okWide_cells {t : TypeId} {v : Value} {g : Bool} (hg : aggOf P t = some g) {base : Nat} (h : Value.okWide P W .any base t v) : (g = true → ∃ cs, v = .agg cs) ∧ (g = false → v.cells = #[v]) := by
  unfold aggOf at hg
  cases hu : P.underlying t with
  | none => simp [hu] at hg
  | some d =>
    rw [hu] at hg
    cases g with
    | true =>
      refine ⟨fun _ => ?_, fun h => by cases h⟩
      cases d <;> simp at hg <;> (simp only [Value.okWide, hu] at h; obtain ⟨cs, h, _⟩ := h; exact ⟨cs, h⟩)
    | false =>
      refine ⟨(fun h => by cases h), fun _ => ?_⟩
      cases v with
      | agg cs =>
        exfalso
        cases d <;> simp at hg <;> simp [Value.okWide, hu, Cell.okWide, Cell.ok] at h
      | _ => rfl
theorem args_read : ∀ (ts : List TypeId) (args : List Value) (ds : List (DataW H)) (ps : List MemPlace) (shs : List (Bool × List Sh)), tysOf P ts = some shs → DataW.TrodAll enc P W 0 (fun _ => true) true ts args ds ps →
    (∀ (j : Nat) t v, ts[j]? = some t → args[j]? = some v → ∃ base, Value.okWide P W .any base t v) → (∀ n ∈ DataW.weightsEach P ts ds, n ≤ reachBytes) → ∃ avs, ArgsAre shs avs ∧ VRL (phAll W) avs args
  | [], args, ds, ps, shs, hs, h, ho, hw => by
    cases hs
    obtain ⟨rfl, rfl, rfl⟩ := trodAll_nil h
    exact ⟨[], trivial, VRL.nil _⟩
  | t :: ts, args, ds, ps, shs, hs, h, ho, hw => by
    simp only [tysOf] at hs
    split at hs
    · rename_i y ys hy hys
      cases hs
      obtain ⟨v, vs, d, ds', p, q, rfl, rfl, rfl, ⟨fuel, h1⟩, h2⟩ := trodAll_cons h
      obtain ⟨avs, a1, a2⟩ := args_read ts vs ds' q ys hys h2 (fun j t v e1 e2 => ho (j + 1) t v (by simpa using e1) (by simpa using e2)) (fun n hn => hw n (by simp only [DataW.weightsEach, List.mem_append]; exact .inr hn))
      simp only [tyOf] at hy
      split at hy
      · rename_i g ls hg hls
        split at hy
        · rename_i hc
          cases hy
          obtain ⟨xs, c1, c2⟩ := read_cells fuel 20 t ls hls _ _ h1 (fun n hn => hw n (by simp only [DataW.weightsEach, List.mem_append]; exact .inl hn))
          have c3 : VRL (phAll W) xs v.cells.toList := ⟨c2.1, fun i => (c2.2 i).toAll⟩
          obtain ⟨base, hok⟩ := ho 0 t v rfl rfl
          obtain ⟨k1, k2⟩ := okWide_cells hg hok
          refine ⟨mkA g xs :: avs, ⟨⟨xs, c1, rfl⟩, a1⟩, VRL.cons ?_ a2⟩
          cases g with
          | true =>
            obtain ⟨cs, rfl⟩ := k1 rfl
            have := c3.agg
            simpa [mkA, Value.cells] using this
          | false =>
            rw [k2 rfl] at c3
            have hl : xs.length = 1 := by have := c3.1; simpa using this
            obtain ⟨x, rfl⟩ := List.length_eq_one_iff.1 hl
            exact c3.head
        · cases hy
      · cases hy
    · cases hs
theorem args_len : ∀ (ts : List TypeId) (args : List Value) (ds : List (DataW H)) (ps : List MemPlace), DataW.TrodAll enc P W 0 (fun _ => true) true ts args ds ps → ds.length = ts.length
  | [], args, ds, ps, h => by
    obtain ⟨rfl, rfl, rfl⟩ := trodAll_nil h
    rfl
  | t :: ts, args, ds, ps, h => by
    obtain ⟨v, vs, d, ds', p, q, rfl, rfl, rfl, h1, h2⟩ := trodAll_cons h
    simp [args_len ts vs ds' q h2]
theorem args_again {W' : World} (hlo : laidOutB P = true) (hb : Below W.heap.size W W') {sp : Nat → Bool} : ∀ (ts : List TypeId) (args : List Value) (ds : List (DataW H)) (ps : List MemPlace), (∀ t ∈ ts, P.readableRec t = true ∧ t < P.types.size) →
    DataW.TrodAll enc P W 0 (fun _ => true) true ts args ds ps → (∀ x ∈ ps, x.block < W.heap.size) → (∀ x ∈ ps, sp x.block = true) → DataW.TrodAll enc P W' 0 sp true ts args ds ps
  | [], args, ds, ps, _, h, _, _ => by
    obtain ⟨rfl, rfl, rfl⟩ := trodAll_nil h
    exact rfl
  | t :: ts, args, ds, ps, hr, h, hlt, hs => by
    obtain ⟨v, vs, d, ds', p, q, rfl, rfl, rfl, h1, h2⟩ := trodAll_cons h
    obtain ⟨r1, r2⟩ := hr t (List.mem_cons_self ..)
    exact trodAll_cons_mk (WideElems.Trod_stays hlo r1 r2 h1 (fun x hx => hb.same (hlt x (List.mem_append_left _ hx))) (fun x hx => hs x (List.mem_append_left _ hx)))
      (args_again hlo hb ts vs ds' q (fun t ht => hr t (List.mem_cons_of_mem _ ht)) h2 (fun x hx => hlt x (List.mem_append_right _ hx)) (fun x hx => hs x (List.mem_append_right _ hx)))
end

section
variable {P : Program} {p : AProg}
theorem ans_run {O : Caller} {f : Nat} {avs : List AV} {v : AV} (h : ans p O f avs = some v) (hO : ∀ σ, O (.fn f) avs σ = none) : ∃ n, arun1 p (arun p O n) n (.fn f) avs ⟨0, 0, .leaf⟩ = some (v, ⟨0, 0, .leaf⟩) := by
  rcases Fn.of_ans h with h | ⟨af, n, u, s, h1, h2, h3, h3', h4, h5, rfl⟩
  · have := h ⟨0, 0, .leaf⟩
    rw [hO] at this; cases this
  · exact ⟨n, by simp only [arun1, h1, h2, if_true, apart, h4, h5]⟩

/-- The package-level variables hold what is said of them, in a world that is handed in. -/
def GlAt (W : World) : Prop := ∀ g cs, Gl.tab g = some cs → g < W.heap.size ∧ ∃ c e fr, W.heap[g]? = some (.cells c e fr) ∧ ∀ (j : Nat) (x : AV), cs[j]? = some x → ∃ v, c[j]? = some v ∧ VR (phAll W) x v
theorem gl_ok {W : World} (hG : GlAt W) (b o : Nat) (cs : FzK) (h : fzAll W b o cs ∨ IsGl b o cs) : b < W.heap.size ∧ ∃ c e fr, W.heap[b]? = some (.cells c e fr) ∧ cs.ok (phAll W) c o := by
  rcases h with h | ⟨rfl, l, rfl, h⟩
  · exact fzAll_ok W b o cs h
  · obtain ⟨h1, c, e, fr, h2, h3⟩ := hG b l h
    exact ⟨h1, c, e, fr, h2, fun j x hx => let ⟨v, v1, v2⟩ := h3 j x hx; ⟨v, by rw [Nat.zero_add]; exact v1, v2⟩⟩
theorem law_core (C : Checked) (hP : CompP C.prog p) (hfol : C.prog.follows .mixedOrders = true) {O : Caller} (hO : OracleOK C.prog p O) {f : Nat} {fn : Func} {s : ChangeSpec} {tb : TypeId} {shs : List (Bool × List Sh)}
    (hlo : laidOutB C.prog = true) (hvars : s.vars = []) (hpv : s.plain.varTypes C.prog = [])
    (hres : fn.resultTypes = #[tb]) (htb : C.prog.underlying tb = some .bool) (hts : tysOf C.prog fn.params.toList = some shs) (hrd : ∀ t ∈ fn.params.toList, C.prog.readableRec t = true ∧ t < C.prog.types.size)
    {H : Type} {enc : TypeId × Value → H} (hfnS : ∀ (ds : List (DataW H)), ds.length = fn.params.toList.length → s.fn H ds = { results := [.lit (.bool true)], args := ds })
    (hno : ∀ avs σ, O (.fn f) avs σ = none) (hans : ∀ avs, ArgsAre shs avs → ans p O f avs = some (.bool true))
    {W : World} {base : Nat} {args : Array Value} {ds gs : List (DataW H)} {before : List MemPlace} (hG : GlAt W)
    (hval : ∀ (j : Nat) t v, fn.params[j]? = some t → args[j]? = some v → Value.okWide C.prog W .any base t v)
    (hW : DataW.Whole enc C.prog fn.params.toList s.vars false W args.toList ds gs before)
    (hwt : (DataW.weightsEach C.prog (fn.params.toList ++ s.plain.varTypes C.prog) (ds ++ gs)).all (· ≤ reachBytes) = true) :
    Calls C.prog f args W fun e W' => ∃ v, e = .returned v ∧ s.post enc C.prog fn false true false false W args v W' := by
  have hW' := hW
  obtain ⟨p1, q, hA, hV, rfl, hfz, hnd⟩ := hW
  rw [hvars] at hV
  obtain ⟨rfl, rfl⟩ := trodVars_none hV
  rw [hpv, List.append_nil, List.append_nil] at hwt
  obtain ⟨avs, a1, a2⟩ := args_read fn.params.toList args.toList ds p1 shs hts hA (fun j t v e1 e2 => ⟨base, hval j t v (by simpa using e1) (by simpa using e2)⟩) (fun n hn => by simpa using List.all_eq_true.1 hwt n hn)
  obtain ⟨n, hn⟩ := ans_run (hans avs a1) (hno avs)
  have hcalls := run_yes hP hfol hO hn (w := W) (fz := (phAll W).fz) (gl := (phAll W).gl) (fun b o cs h => gl_ok hG b o cs h) (vs := args.toList) a2
  rw [Array.toArray_toList] at hcalls
  refine hcalls.mono fun e W' ⟨he, hb⟩ => ?_
  subst he
  have hlen := args_len _ _ _ _ hA
  have hlt := hW'.lt
  have hspec := hfnS (ds ++ []) (by simpa using hlen)
  refine ⟨_, rfl, post_below (pa := p1) (pv := []) hW' hb (fun b sp hd => ?_) (fun sp hsp => ?_) (fun sp hsp => ?_) rfl ?_⟩
  · rw [hspec, hres]
    exact trodAll_mk1 (shut_bool htb true)
  · rw [hspec, List.append_nil]
    exact args_again hlo hb _ _ _ _ hrd hA (fun x hx => hlt x (by simpa using hx)) (fun x hx => hsp x (by simpa using hx))
  · rw [hspec, hvars]; rfl
  · exact ok_one hres rfl (okWide_bool_mk htb true)
/-- The same where package-level variables hold what is listed. -/
theorem law_laid (C : Checked) (hP : CompP C.prog p) (hfol : C.prog.follows .mixedOrders = true) {O : Caller} (hO : OracleOK C.prog p O) {f : Nat} {fn : Func} {s : ChangeSpec} {tb : TypeId} {shs : List (Bool × List Sh)} {conds : List PathCond} {laid : List (String × DataW Unit)}
    (hown : ownKnob C.prog.godebug = none) (hlo : laidOutB C.prog = true) (hinit : C.prog.inits.idxOf? f = none) (hfn : C.prog.funcs[f]? = some fn) (hvars : s.vars = []) (hpv : s.plain.varTypes C.prog = [])
    (hres : fn.resultTypes = #[tb]) (htb : C.prog.underlying tb = some .bool) (hts : tysOf C.prog fn.params.toList = some shs) (hrd : ∀ t ∈ fn.params.toList, C.prog.readableRec t = true ∧ t < C.prog.types.size)
    (hfnS : ∀ (H : Type) (ds : List (DataW H)), ds.length = fn.params.toList.length → s.fn H ds = { results := [.lit (.bool true)], args := ds })
    (hno : ∀ avs σ, O (.fn f) avs σ = none) (hans : ∀ avs, ArgsAre shs avs → ans p O f avs = some (.bool true)) (hgl : ∀ W, laidMetH C.prog laid W → GlAt W)
    (os : Os) (started : os.Started) (H : Type) (enc : TypeId × Value → H)
    (witness : ∃ (w : World) (tape : Tape) (i : Input), w.os = os ∧ (w.forCall tape i).Shaped C.prog ∧ i.vars = [] ∧ Input.okWide C.prog (w.forCall tape i) .any w.heap.size f i ∧
      ((s.pre enc C.prog fn conds false (w.forCall tape i).memory i.args ∧ laidMetH C.prog laid (w.forCall tape i).memory) ∧ sizedMet enc C.prog fn (OpenSpec.ofChange s) false (w.forCall tape i).memory i.args) ∧ ({} : Assume).holds C.prog (lone (Frame.enter C.prog f i.args .normal) [] (w.forCall tape i))) :
    ReturnsInHanded {} C os f .any (fun w args => (s.pre enc C.prog fn conds false w args ∧ laidMetH C.prog laid w) ∧ sizedMet enc C.prog fn (OpenSpec.ofChange s) false w args) (s.post enc C.prog fn false true false false) := by
  refine returnsInHanded_of_change_and (X := fun w _ => laidMetH C.prog laid w) (fun _ _ _ hh h => h.of_heap hh) hown started hinit hfn witness ?_
  intro W base args ds gs before hval hW hcnd hwt hL _
  exact law_core C hP hfol hO hlo hvars hpv hres htb hts hrd (hfnS H) hno hans (hgl W hL) hval hW hwt
end
end Go.Oct
end
/- Slices that grow by append. -/
section
set_option linter.unusedVariables false
set_option linter.unusedSimpArgs false
namespace Go.Oct

/-- The objects below lo are left alone. -/
structure Keep (lo : Nat) (σ σ' : AH) : Prop where
  lim : σ'.lim = σ.lim
  next : σ.next ≤ σ'.next
  get : ∀ k, k < lo → σ'.get k = σ.get k
theorem Keep.refl (lo : Nat) (σ : AH) : Keep lo σ σ := ⟨rfl, Nat.le_refl _, fun _ _ => rfl⟩
theorem Keep.trans {lo : Nat} {a b c : AH} (h : Keep lo a b) (k : Keep lo b c) : Keep lo a c := ⟨k.lim.trans h.lim, Nat.le_trans h.next k.next, fun i hi => (k.get i hi).trans (h.get i hi)⟩
theorem Keep.push {lo : Nat} {σ : AH} (h : lo ≤ σ.next) (o : AObj) : Keep lo σ (σ.push o) := ⟨rfl, Nat.le_succ _, fun k hk => AH.get_push_old _ _ _ (by omega)⟩
theorem Keep.set {lo : Nat} {σ : AH} {i : Nat} (h : lo ≤ i) (o : AObj) : Keep lo σ (σ.set i o) := ⟨rfl, Nat.le_refl _, fun k hk => AH.get_set_other _ _ _ _ (by omega)⟩

/-- The object that a slice or a pointer leads to. -/
def obj : AV → List Nat
  | .slice (some (i, _)) _ _ => [i]
  | .ptr (some (i, _)) => [i]
  | _ => []
/-- Of the objects that were there only those of S may have changed. -/
structure Only (S : List Nat) (σ σ' : AH) : Prop where
  lim : σ'.lim = σ.lim
  next : σ.next ≤ σ'.next
  get : ∀ k, k < σ.next → k ∉ S → σ'.get k = σ.get k
theorem Only.refl (S : List Nat) (σ : AH) : Only S σ σ := ⟨rfl, Nat.le_refl _, fun _ _ _ => rfl⟩
theorem Only.trans {S : List Nat} {a b c : AH} (h : Only S a b) (k : Only S b c) : Only S a c := ⟨k.lim.trans h.lim, Nat.le_trans h.next k.next, fun i hi hs => (k.get i (Nat.lt_of_lt_of_le hi h.next) hs).trans (h.get i hi hs)⟩
theorem Only.push (S : List Nat) (σ : AH) (o : AObj) : Only S σ (σ.push o) := ⟨rfl, Nat.le_succ _, fun k hk _ => AH.get_push_old _ _ _ (by omega)⟩
theorem Only.set {S : List Nat} {σ : AH} {i : Nat} (h : i ∈ S) (o : AObj) : Only S σ (σ.set i o) := ⟨rfl, Nat.le_refl _, fun k hk hs => AH.get_set_other _ _ _ _ (fun e => hs (e ▸ h))⟩
theorem Only.mono {S T : List Nat} {σ σ' : AH} (h : Only S σ σ') (hs : ∀ i ∈ S, i ∈ T) : Only T σ σ' := ⟨h.lim, h.next, fun k hk ht => h.get k hk fun h2 => ht (hs k h2)⟩
theorem Only.kills (S : List Nat) (σ : AH) : Only S σ (σ.kills S) := ⟨(kills_next S σ).2, Nat.le_of_eq (kills_next S σ).1.symm, fun k _ hs => kills_get S σ k hs⟩
/-- What an append leaves: of the old objects only the slice's own may have changed; its object is the old one, or new. -/
structure Grew (lo : Nat) (v v' : AV) (σ σ' : AH) : Prop extends Keep lo σ σ' where
  only : Only (obj v) σ σ'
  fresh : ∀ i ∈ obj v', i ∈ obj v ∨ σ.next ≤ i

/-- What stands for elements of a kind: z cells each. -/
structure Enc {α : Type} (e : α → AV) (z : Nat) : Prop where
  len : ∀ x, (e x).cells.length = z
  one : ∀ x, (e x).cells.all AV.one = true
  elem : ∀ x, AV.elem (e x).cells = e x
  pos : 0 < z

section
variable {α : Type} {e : α → AV} {z lo : Nat} {σ σ' : AH} {v : AV} {xs ys : List α}
def rowOf (e : α → AV) (xs : List α) : List AV := xs.flatMap fun x => (e x).cells
theorem rowOf_length (he : Enc e z) : ∀ xs : List α, (rowOf e xs).length = xs.length * z
  | [] => by simp [rowOf]
  | x :: xs => by
    have := rowOf_length he xs
    simp only [rowOf, List.flatMap_cons, List.length_append, he.len, List.length_cons, Nat.succ_mul] at this ⊢
    omega
theorem rowOf_append (xs ys : List α) : rowOf e (xs ++ ys) = rowOf e xs ++ rowOf e ys := by simp [rowOf]
theorem rowOf_one (he : Enc e z) (xs : List α) : (rowOf e xs).all AV.one = true := by
  rw [List.all_eq_true]
  intro x hx
  obtain ⟨y, _, hy⟩ := List.mem_flatMap.1 hx
  exact List.all_eq_true.1 (he.one y) x hy
theorem chunks_rowOf (he : Enc e z) : ∀ xs : List α, chunks z xs.length (rowOf e xs) = xs.map e
  | [] => rfl
  | x :: xs => by
    simp only [rowOf, List.flatMap_cons, List.length_cons, chunks, List.map_cons]
    rw [List.take_left' (he.len x), List.drop_left' (he.len x), he.elem]
    exact congrArg _ (chunks_rowOf he xs)

/-- A slice that may be appended to: nothing yet, or an object of its own, from lo on. -/
def Buf (lo : Nat) (z : Nat) (e : α → AV) (σ : AH) (v : AV) (xs : List α) : Prop :=
  (v = .vsl true [] ∧ xs = []) ∨ ∃ i, v = .slice (some (i, 0)) xs.length (.op z) ∧ lo ≤ i ∧ σ.get i = some (.cells (rowOf e xs)) ∧ xs ≠ []
theorem Buf.nil : Buf lo z e σ (.vsl true []) [] := .inl ⟨rfl, rfl⟩
theorem Buf.keep (h : Buf lo z e σ v xs) (hk : ∀ i, lo ≤ i → i < σ.next → σ'.get i = σ.get i) : Buf lo z e σ' v xs := by
  rcases h with h | ⟨i, h1, h2, h3, h4⟩
  · exact .inl h
  · exact .inr ⟨i, h1, h2, by rw [hk i h2 (AH.get_lt h3)]; exact h3, h4⟩
theorem Buf.grown (h : Buf lo z e σ v xs) (o : AObj) : Buf lo z e (σ.push o) v xs := h.keep fun i _ h2 => AH.get_push_old _ _ _ (by omega)
@[simp] theorem Buf.len (h : Buf lo z e σ v xs) : alen v = some (.int .i64 xs.length) := by
  rcases h with ⟨rfl, rfl⟩ | ⟨i, rfl, _⟩ <;> rfl
theorem Buf.app (h : Buf lo z e σ v xs) (he : Enc e z) (hlim : σ.lim ≤ lo) (hlo : lo ≤ σ.next) {src : AV} (hl : lenOf src = some ys.length) (hs : srcOf σ z ys.length src = some (rowOf e ys)) {bytes : Nat} (hsz : (xs.length + ys.length) * bytes ≤ topBytes)
    {k : AV → AH → Prop} (hk : ∀ v' σ', Buf lo z e σ' v' (xs ++ ys) → Grew lo v v' σ σ' → k v' σ') : OptK2 (aappend z bytes v src σ) k := by
  have hone := rowOf_one he ys
  have hly := rowOf_length he ys
  have hlx := rowOf_length he xs
  rcases h with ⟨rfl, rfl⟩ | ⟨i, rfl, h2, h3, h4⟩
  · simp only [aappend, dstOf, hl]
    by_cases h0 : ys.length = 0
    · rw [if_pos h0, optK2_some]
      have : ys = [] := List.eq_nil_of_length_eq_zero h0
      subst this
      exact hk _ _ Buf.nil ⟨Keep.refl _ _, Only.refl _ _, fun i h => .inl h⟩
    · rw [if_neg h0]
      simp only [hs, agrow]
      rw [if_neg (by omega)]
      simp only [List.length_nil, Nat.zero_add] at hsz
      simp only [Nat.zero_add, hsz, hone, and_self, if_true, Nat.zero_mul, cellsAt, optK2_some, List.nil_append]
      exact hk _ _ (.inr ⟨σ.next, by simp, hlo, by simp [AH.get_push_new], by simpa using fun e => h0 (by simp [e])⟩) ⟨Keep.push hlo _, Only.push _ _ _, fun i h => .inr (by simp [obj] at h; omega)⟩
  · simp only [aappend, dstOf, hl]
    by_cases h0 : ys.length = 0
    · rw [if_pos h0, optK2_some]
      have : ys = [] := List.eq_nil_of_length_eq_zero h0
      subst this
      exact hk _ _ (.inr ⟨i, by simp, h2, by simpa using h3, by simpa using h4⟩) ⟨Keep.refl _ _, Only.refl _ _, fun i h => .inl h⟩
    · rw [if_neg h0]
      simp only [hs, agrow, if_true]
      have hown : σ.own i = some (rowOf e xs) := by simp [h3, Nat.le_trans hlim h2]
      rw [hown]
      have hnot : ¬ (0 + (xs.length + ys.length) * z ≤ (rowOf e xs).length) := by
        rw [hlx, Nat.add_mul, Nat.zero_add]
        have := Nat.mul_le_mul_right z (show 1 ≤ ys.length by omega)
        have := he.pos
        omega
      have hrow : σ.row i = some (rowOf e xs) := by simp [h3]
      simp only [hnot, if_false, hsz, hone, and_self, if_true, cellsAt, hrow]
      rw [if_pos (by rw [hlx]; omega)]
      simp only [optK2_some, List.drop_zero]
      have hin := AH.get_lt h3
      refine hk _ _ (.inr ⟨σ.next, by simp, hlo, ?_, by simp [h4]⟩) ⟨(Keep.push hlo _).trans (Keep.set h2 _), (Only.push _ _ _).trans (Only.set (List.mem_singleton.2 rfl) _), fun i h => .inr (by simp [obj] at h; omega)⟩
      have : (rowOf e xs).take (xs.length * z) = rowOf e xs := by rw [← hlx, List.take_length]
      rw [this, AH.get_set_other _ _ _ _ (by omega), AH.get_push_new, rowOf_append]
/-- One element more. -/
theorem Buf.push (h : Buf lo z e σ v xs) (he : Enc e z) (hlim : σ.lim ≤ lo) (hlo : lo ≤ σ.next) (y : α) {bytes : Nat} (hsz : (xs.length + 1) * bytes ≤ topBytes) {k : AV → AH → Prop} {cs : List AV} (hcs : cs = (e y).cells)
    (hk : ∀ v' σ', Buf lo z e σ' v' (xs ++ [y]) → Grew lo v v' σ σ' → k v' σ') : OptK2 (aappend z bytes v (.slice (some (σ.next, 0)) 1 (.ex 1)) (σ.push (.cells cs))) k := by
  subst hcs
  refine (h.grown _).app (ys := [y]) he hlim (by simp; omega) rfl ?_ hsz fun v' σ' h1 h2 => hk v' σ' h1 ⟨(Keep.push hlo _).trans h2.toKeep, (Only.push _ _ _).trans h2.only, fun i h => (h2.fresh i h).elim .inl fun h => .inr (Nat.le_of_succ_le h)⟩
  have : (e y).cells.length = z := he.len y
  simp only [srcOf, cellsAt, List.length_singleton, Nat.one_mul, row_def, get_push, if_true, rowOf, List.flatMap_cons, List.flatMap_nil, List.append_nil, Nat.zero_add, this, Nat.le_refl, List.drop_zero]
  rw [← this, List.take_length]
theorem Buf.fz (h : Buf lo z e σ v xs) (he : Enc e z) (k : Nat) (hcl : ∀ x ∈ xs, (e x).cells.map (fun c => (fzV (k + 1) σ.cel c).na) = (e x).cells) : fzV (k + 2) σ.cel v = vl e xs.isEmpty xs := by
  rcases h with ⟨rfl, rfl⟩ | ⟨i, rfl, _, h3, h4⟩
  · rfl
  · have hc : σ.cel i = some (rowOf e xs) := by simp [h3]
    have hlx := rowOf_length he xs
    have hm : (rowOf e xs).map (fun c => (fzV (k + 1) σ.cel c).na) = rowOf e xs := by
      unfold rowOf
      rw [List.map_flatMap, List.flatMap_def, List.flatMap_def]
      congr 1
      exact List.map_congr_left hcl
    show (match σ.cel i with
      | some cs => if 0 ≤ cs.length then
          match ACap.cellsOf xs.length (cs.length - 0) (.op z) with
          | some z => AV.vsl false (chunks z xs.length ((cs.drop 0).map fun x => (fzV (k + 1) σ.cel x).na))
          | none => .undef
        else .undef
      | none => .undef) = _
    rw [hc]
    simp only [Nat.zero_le, if_true, ACap.cellsOf, Nat.sub_zero, hlx, Nat.le_refl, List.drop_zero, hm, chunks_rowOf he]
    have : xs.isEmpty = false := by cases xs <;> simp at h4 ⊢
    rw [this]; rfl
end
section
variable {α : Type} {e : α → AV} {z lo : Nat} {σ σ' : AH} {v : AV} {xs ys : List α}
theorem Buf.obj_lt (h : Buf lo z e σ v xs) : ∀ i ∈ obj v, lo ≤ i ∧ i < σ.next := by
  rcases h with ⟨rfl, rfl⟩ | ⟨i, rfl, h2, h3, h4⟩
  · intro i h; cases h
  · intro j h
    obtain rfl := List.mem_singleton.1 h
    exact ⟨h2, AH.get_lt h3⟩
theorem Buf.stay {S : List Nat} (h : Buf lo z e σ v xs) (ho : Only S σ σ') (hd : ∀ i ∈ obj v, i ∉ S) : Buf lo z e σ' v xs := by
  rcases h with h | ⟨i, rfl, h2, h3, h4⟩
  · exact .inl h
  · exact .inr ⟨i, rfl, h2, by rw [ho.get i (AH.get_lt h3) (hd i (List.mem_singleton.2 rfl))]; exact h3, h4⟩
/-- What a value of data leads to: nothing. -/
def flatE (e : α → AV) : Prop := ∀ x, ∀ c ∈ (e x).cells, ∀ (k : Nat) (f : Nat → Option (List AV)), idsV (k + 1) f c = [] ∧ (fzV (k + 1) f c).na = c
theorem flatI : flatE (AV.int .i64) := fun x c hc k f => by
  obtain rfl := List.mem_singleton.1 hc
  exact ⟨rfl, rfl⟩
theorem Buf.ids (h : Buf lo z e σ v xs) (hf : flatE e) (k : Nat) : idsV (k + 2) σ.cel v = obj v := by
  rcases h with ⟨rfl, rfl⟩ | ⟨i, rfl, h2, h3, h4⟩
  · rfl
  · have hc : σ.cel i = some (rowOf e xs) := by simp [h3]
    show (match σ.cel i with
      | some cs => i :: cs.flatMap (idsV (k + 1) σ.cel)
      | none => []) = _
    rw [hc]
    show i :: (rowOf e xs).flatMap (idsV (k + 1) σ.cel) = [i]
    have : (rowOf e xs).flatMap (idsV (k + 1) σ.cel) = [] := by
      rw [List.flatMap_eq_nil_iff]
      intro c hc
      obtain ⟨x, _, hx⟩ := List.mem_flatMap.1 hc
      exact (hf x c hx k _).1
    rw [this]
/-- What a call's snapshot of a slice is. -/
theorem Buf.snap (h : Buf lo z e σ v xs) (he : Enc e z) (hf : flatE e) {S : List Nat} (hs : ∀ i ∈ obj v, i ∈ S) (k : Nat) : fzV (k + 2) (σ.celOf S) v = vl e xs.isEmpty xs := by
  rcases h with ⟨rfl, rfl⟩ | ⟨i, rfl, h2, h3, h4⟩
  · rfl
  · have hi : S.contains i = true := by simpa using hs i (List.mem_singleton.2 rfl)
    have hc : σ.celOf S i = some (rowOf e xs) := by unfold AH.celOf; rw [if_pos hi]; simp [h3]
    have hlx := rowOf_length he xs
    have hm : (rowOf e xs).map (fun c => (fzV (k + 1) (σ.celOf S) c).na) = rowOf e xs := by
      refine (List.map_congr_left (g := id) fun c hc => ?_).trans (List.map_id _)
      obtain ⟨x, _, hx⟩ := List.mem_flatMap.1 hc
      exact (hf x c hx k _).2
    show (match σ.celOf S i with
      | some cs => if 0 ≤ cs.length then
          match ACap.cellsOf xs.length (cs.length - 0) (.op z) with
          | some z => AV.vsl false (chunks z xs.length ((cs.drop 0).map fun x => (fzV (k + 1) (σ.celOf S) x).na))
          | none => .undef
        else .undef
      | none => .undef) = _
    rw [hc]
    simp only [Nat.zero_le, if_true, ACap.cellsOf, Nat.sub_zero, hlx, Nat.le_refl, List.drop_zero, hm, chunks_rowOf he]
    have : xs.isEmpty = false := by cases xs <;> simp at h4 ⊢
    rw [this]; rfl
end
/-- A call with arguments that may lead to objects. -/
theorem pc_open {p : AProg} {O : Caller} {b : Bool} {g : Nat} {args args' : List AV} {σ : AH} {k : Kn (AV → AH → Prop)} {r : AV} (S : List Nat) (hids : args.flatMap (idsV 8 σ.cel) = S) (hfz : args.map (fzV 8 (σ.celOf S)) = args') (hcl : b = true → args' = args)
    (hne : args ≠ []) (ho : ∀ a σ, a ≠ [] → O (.fn g) a σ = none) (hS : ∀ i ∈ S, σ.lim ≤ i) (hans : ans p O g args' = some r) (hk : ∀ σ', Only S σ σ' → k.k r σ') : @PcI p O b g args σ k := by
  cases b with
  | true =>
    rw [pcI_true, ← hcl rfl, hans, ok1_some]
    exact hk _ (Only.refl _ _)
  | false =>
    rw [pcI_false, hids, hfz, hans, ok1_some]
    refine ⟨hne, ho, ?_⟩
    show if isScal 8 r = true then k.k r σ else S.all (fun i => decide (σ.lim ≤ i)) = true ∧ k.k r (σ.kills S)
    split
    · exact hk _ (Only.refl _ _)
    · refine ⟨?_, hk _ (Only.kills _ _)⟩
      rw [List.all_eq_true]
      intro i hi
      exact decide_eq_true (hS i hi)
theorem Buf.nilOf {α : Type} {e : α → AV} {z lo : Nat} {σ : AH} {v : AV} {xs : List α} (h : Buf lo z e σ v xs) (hc : closed 8 v = true) : vl e xs.isEmpty xs = v := by
  rcases h with ⟨rfl, rfl⟩ | ⟨i, rfl, h2, h3, h4⟩
  · rfl
  · simp at hc
/-- A call with one slice. -/
theorem Buf.call {p : AProg} {O : Caller} {α : Type} {e : α → AV} {z lo : Nat} {σ : AH} {v : AV} {xs : List α} (h : Buf lo z e σ v xs) (he : Enc e z) (hf : flatE e) {g : Nat} {k : Kn (AV → AH → Prop)} {r : AV} (hlim : σ.lim ≤ lo) (ho : ∀ a σ, a ≠ [] → O (.fn g) a σ = none)
    (hans : ans p O g [vl e xs.isEmpty xs] = some r) (hk : ∀ σ', Only (obj v) σ σ' → k.k r σ') : @PcI p O (closed 8 v) g [v] σ k :=
  pc_open (obj v) (by rw [List.flatMap_cons, h.ids hf]; simp) (by simp [h.snap he hf (fun _ h => h)]) (fun hc => by rw [h.nilOf hc]) (by simp) ho (fun i hi => Nat.le_trans hlim (h.obj_lt i hi).1) hans hk
theorem Buf.fzI {lo : Nat} {σ : AH} {v : AV} {xs : List Int} (h : Buf lo 1 (AV.int .i64) σ v xs) (k : Nat) : fzV (k + 2) σ.cel v = vs xs.isEmpty xs :=
  h.fz ⟨fun _ => rfl, fun _ => rfl, fun _ => rfl, by decide⟩ k (fun _ _ => rfl)

/-! ### Slices that were made with a capacity -/
section
variable {α : Type} {e : α → AV} {z lo c : Nat} {σ σ' : AH} {v : AV} {xs ys : List α}
/-- A slice with room for c elements, an object of its own. -/
def BufC (lo : Nat) (z : Nat) (e : α → AV) (σ : AH) (v : AV) (c : Nat) (xs : List α) : Prop :=
  ∃ i rest, v = .slice (some (i, 0)) xs.length (.ex c) ∧ lo ≤ i ∧ σ.get i = some (.cells (rowOf e xs ++ rest)) ∧ xs.length ≤ c ∧ rest.length = (c - xs.length) * z
theorem BufC.keep (h : BufC lo z e σ v c xs) (hk : ∀ i, lo ≤ i → i < σ.next → σ'.get i = σ.get i) : BufC lo z e σ' v c xs := by
  obtain ⟨i, rest, h1, h2, h3, h4⟩ := h
  exact ⟨i, rest, h1, h2, by rw [hk i h2 (AH.get_lt h3)]; exact h3, h4⟩
theorem BufC.grown (h : BufC lo z e σ v c xs) (o : AObj) : BufC lo z e (σ.push o) v c xs := h.keep fun i _ h2 => AH.get_push_old _ _ _ (by omega)
theorem BufC.len (h : BufC lo z e σ v c xs) : alen v = some (.int .i64 xs.length) := by
  obtain ⟨i, rest, rfl, _⟩ := h
  rfl
theorem putCells_app : ∀ (cs as bs : List AV), cs.length ≤ bs.length → putCells (as ++ bs) as.length cs = as ++ cs ++ bs.drop cs.length
  | [], as, bs, _ => by simp [putCells]
  | x :: cs, as, [], h => by simp at h
  | x :: cs, as, b :: bs, h => by
    have h' : cs.length ≤ bs.length := by simpa using h
    have := putCells_app cs (as ++ [x]) bs h'
    simp only [putCells, List.set_append_right _ _ (Nat.le_refl as.length), Nat.sub_self, List.set_cons_zero]
    simp only [List.length_append, List.length_singleton, List.append_assoc, List.singleton_append, List.cons_append, List.nil_append] at this
    rw [this]
    simp
/-- One element more, where there is room. -/
theorem BufC.push (h : BufC lo z e σ v c xs) (he : Enc e z) (hlim : σ.lim ≤ lo) (hlo : lo ≤ σ.next) (y : α) (hc : xs.length < c) {bytes : Nat} {k : AV → AH → Prop} {cs : List AV} (hcs : cs = (e y).cells)
    (hk : ∀ v' σ', BufC lo z e σ' v' c (xs ++ [y]) → Keep lo σ σ' → k v' σ') : OptK2 (aappend z bytes v (.slice (some (σ.next, 0)) 1 (.ex 1)) (σ.push (.cells cs))) k := by
  subst hcs
  obtain ⟨i, rest, rfl, h2, h3, h4, h5⟩ := h
  have hz : (e y).cells.length = z := he.len y
  have hi : i < σ.next := AH.get_lt h3
  have hsrc : srcOf (σ.push (.cells (e y).cells)) z 1 (.slice (some (σ.next, 0)) 1 (.ex 1)) = some (e y).cells := by
    simp only [srcOf, cellsAt, Nat.one_mul, row_def, get_push, if_true, Nat.zero_add, hz, Nat.le_refl, List.drop_zero]
    rw [← hz, List.take_length]
  have hlx := rowOf_length he xs
  have hr : z ≤ rest.length := by
    rw [h5]
    exact Nat.le_trans (by omega) (Nat.mul_le_mul_right z (show 1 ≤ c - xs.length by omega))
  have hown : (σ.push (.cells (e y).cells)).own i = some (rowOf e xs ++ rest) := by
    simp only [own_def, get_push]
    rw [if_pos (show (σ.push (.cells (e y).cells)).lim ≤ i from Nat.le_trans hlim h2), if_neg (by omega), h3]
  simp only [aappend, dstOf, lenOf, hsrc, agrow]
  rw [if_neg (by omega), if_pos (by omega)]
  simp only [hown]
  rw [if_pos ⟨by rw [List.length_append, hlx, Nat.zero_add, Nat.succ_mul]; omega, he.one y⟩, optK2_some]
  refine hk _ _ ⟨i, rest.drop z, by simp, h2, ?_, by simp; omega, ?_⟩ ((Keep.push hlo _).trans (Keep.set h2 _))
  · rw [AH.get_set_same _ _ _ (show i < (σ.push (.cells (e y).cells)).next from Nat.lt_succ_of_lt hi)]
    have : putCells (rowOf e xs ++ rest) (0 + xs.length * z) (e y).cells = rowOf e (xs ++ [y]) ++ rest.drop z := by
      rw [Nat.zero_add, ← hlx, rowOf_append]
      rw [putCells_app _ _ _ (by omega), hz]
      simp [rowOf]
    rw [this]
  · simp only [List.length_drop, h5, List.length_append, List.length_singleton]
    rw [← Nat.sub_sub, Nat.sub_mul (c - xs.length) 1 z, Nat.one_mul]
theorem BufC.fz (h : BufC lo z e σ v c xs) (he : Enc e z) (k : Nat) (hcl : ∀ x ∈ xs, (e x).cells.map (fun c => (fzV (k + 1) σ.cel c).na) = (e x).cells) : fzV (k + 2) σ.cel v = vl e false xs := by
  obtain ⟨i, rest, rfl, _, h3, h4, h5⟩ := h
  have hc : σ.cel i = some (rowOf e xs ++ rest) := by simp [h3]
  have hlx := rowOf_length he xs
  have hm : (rowOf e xs).map (fun c => (fzV (k + 1) σ.cel c).na) = rowOf e xs := by
    unfold rowOf
    rw [List.map_flatMap, List.flatMap_def, List.flatMap_def]
    congr 1
    exact List.map_congr_left hcl
  show (match σ.cel i with
    | some cs => if 0 ≤ cs.length then
        match ACap.cellsOf xs.length (cs.length - 0) (.ex c) with
        | some z => AV.vsl false (chunks z xs.length ((cs.drop 0).map fun x => (fzV (k + 1) σ.cel x).na))
        | none => .undef
      else .undef
    | none => .undef) = _
  rw [hc]
  simp only [Nat.zero_le, if_true, Nat.sub_zero, List.drop_zero, List.map_append, hm, ACap.cellsOf]
  by_cases h0 : xs.length = 0
  · have : xs = [] := List.eq_nil_of_length_eq_zero h0
    subst this
    rfl
  · have hcz : (rowOf e xs ++ rest).length = c * z := by
      rw [List.length_append, hlx, h5, ← Nat.add_mul]
      congr 1
      omega
    rw [if_neg h0, hcz, Nat.mul_div_cancel_left z (by omega), if_pos ⟨Nat.mul_comm z c, h4⟩]
    simp only
    have hch : ∀ (ys : List α) (r : List AV), chunks z ys.length (rowOf e ys ++ r) = ys.map e := by
      intro ys
      induction ys with
      | nil => intro r; rfl
      | cons y ys ih =>
        intro r
        simp only [rowOf, List.flatMap_cons, List.length_cons, chunks, List.map_cons, List.append_assoc]
        rw [List.take_left' (he.len y), List.drop_left' (he.len y), he.elem]
        exact congrArg _ (ih r)
    rw [hch]
    rfl
end
end Go.Oct
end
/- Lists and spans: what is common to all chapters. -/
section
set_option linter.unusedVariables false
set_option linter.unusedSimpArgs false
namespace Go.Oct

theorem take_succ_nth {α : Type} [Inhabited α] {xs : List α} {j : Nat} (h : j < xs.length) : xs.take (j + 1) = xs.take j ++ [nth xs j] := by
  rw [nth_eq h, List.take_succ_eq_append_getElem h]
theorem take_all {α : Type} {xs : List α} {j : Nat} (h : xs.length ≤ j) : xs.take j = xs := List.take_of_length_le h
theorem drop_nth {α : Type} [Inhabited α] {xs : List α} {j : Nat} (h : j < xs.length) : xs.drop j = nth xs j :: xs.drop (j + 1) := by
  rw [nth_eq h, List.drop_eq_getElem_cons h]
theorem nth_append_left {α : Type} [Inhabited α] {xs ys : List α} {j : Nat} (h : j < xs.length) : nth (xs ++ ys) j = nth xs j := by
  rw [nth_eq h, nth_eq (by simp; omega), List.getElem_append_left h]
theorem nth_append_right {α : Type} [Inhabited α] {xs ys : List α} {j : Nat} (h : xs.length ≤ j) (h2 : j < xs.length + ys.length) : nth (xs ++ ys) j = nth ys (j - xs.length) := by
  rw [nth_eq (by simp; omega), nth_eq (by omega), List.getElem_append_right h]
theorem nth_map {α β : Type} [Inhabited α] [Inhabited β] (f : α → β) {xs : List α} {j : Nat} (h : j < xs.length) : nth (xs.map f) j = f (nth xs j) := by
  rw [nth_eq h, nth_eq (by simpa using h), List.getElem_map]
theorem nth_take {α : Type} [Inhabited α] {xs : List α} {j n : Nat} (h : j < n) (h2 : j < xs.length) : nth (xs.take n) j = nth xs j := by
  rw [nth_eq h2, nth_eq (by simp; omega), List.getElem_take]
theorem nth_drop {α : Type} [Inhabited α] {xs : List α} {j n : Nat} (h : n + j < xs.length) : nth (xs.drop n) j = nth xs (n + j) := by
  rw [nth_eq h, nth_eq (by simp; omega), List.getElem_drop]
@[simp] theorem nth_zero {α : Type} [Inhabited α] (x : α) (xs : List α) : nth (x :: xs) 0 = x := (rfl)
@[simp] theorem nth_succ {α : Type} [Inhabited α] (x : α) (xs : List α) (i : Nat) : nth (x :: xs) (i + 1) = nth xs i := (rfl)
theorem ext_nth {α : Type} [Inhabited α] {xs ys : List α} (h : xs.length = ys.length) (h2 : ∀ j, j < xs.length → nth xs j = nth ys j) : xs = ys := by
  apply List.ext_getElem h
  intro i h3 h4
  have := h2 i h3
  rwa [nth_eq h3, nth_eq h4] at this
theorem mem_nth {α : Type} [Inhabited α] {xs : List α} {x : α} : x ∈ xs ↔ ∃ j, j < xs.length ∧ nth xs j = x := by
  constructor
  · intro hx
    obtain ⟨i, hi, rfl⟩ := List.getElem_of_mem hx
    exact ⟨i, hi, nth_eq hi⟩
  · rintro ⟨j, hj, rfl⟩; exact nth_mem hj

/-- A span. -/
structure Span where
  lo : Int
  hi : Int
  deriving DecidableEq, Inhabited
theorem encI : Enc (AV.int .i64) 1 := ⟨fun _ => rfl, fun _ => rfl, fun _ => rfl, by decide⟩
end Go.Oct
end
/- What arguments of kinds are: lists of numbers, of spans, of rows. -/
section
set_option linter.unusedVariables false
set_option linter.unusedSimpArgs false
namespace Go.Oct

/-- A number of 64 bits. -/
def i64 (n : Int) : Prop := -9223372036854775808 ≤ n ∧ n ≤ 9223372036854775807
theorem CellIs.inv_int {x : AV} (h : CellIs (.int .i64) x) : ∃ n, x = .int .i64 n ∧ i64 n := by
  cases h with
  | int k n h => exact ⟨n, rfl, h⟩
/-- A slice of things. -/
structure Slice {α : Type} (e : α → AV) (good : α → Prop) (x : AV) (nl : Bool) (xs : List α) : Prop where
  eq : x = vl e nl xs
  nil : nl = true → xs = []
  len : xs.length < 140737488355328
  good : ∀ a ∈ xs, good a
theorem CellIs.inv_sl {α : Type} {e : α → AV} {good : α → Prop} {agg : Bool} {ls : List Sh} (he : ∀ cs, CellsAre ls cs → ∃ a, (if agg then AV.agg cs else cs.headD .undef) = e a ∧ good a) {x : AV} (h : CellIs (.sl agg ls) x) : ∃ nl xs, Slice e good x nl xs := by
  cases h with
  | sl _ _ nl css h0 h1 h2 h3 =>
    have gen : ∀ l : List (List AV), (∀ cs ∈ l, CellsAre ls cs) → ∃ xs : List α, l.map (fun cs => if agg then AV.agg cs else cs.headD .undef) = xs.map e ∧ xs.length = l.length ∧ ∀ a ∈ xs, good a := by
      intro l
      induction l with
      | nil => intro _; exact ⟨[], rfl, rfl, by simp⟩
      | cons c l ih =>
        intro h
        obtain ⟨a, ha, hg⟩ := he c (h c (List.mem_cons_self ..))
        obtain ⟨xs, h1, h2, h3⟩ := ih fun cs hc => h cs (List.mem_cons_of_mem _ hc)
        exact ⟨a :: xs, by rw [List.map_cons, List.map_cons, h1, ha], by simp [h2], fun b hb => by
          rcases List.mem_cons.1 hb with rfl | hb
          · exact hg
          · exact h3 b hb⟩
    obtain ⟨xs, g1, g2, g3⟩ := gen css fun cs hc => ⟨h2 cs hc, fun i s c e1 e2 => h3 cs hc i s c e1 e2⟩
    have h4 := Nat.le_mul_of_pos_right css.length (wtL_pos ls)
    refine ⟨nl, xs, by rw [g1]; rfl, fun hn => ?_, by omega, g3⟩
    have := h0 hn
    subst this
    simpa using g2
theorem CellIs.inv_ints {x : AV} (h : CellIs (.sl false [.int .i64]) x) : ∃ nl xs, Slice (AV.int .i64) i64 x nl xs := by
  refine h.inv_sl fun cs hc => ?_
  obtain ⟨c, rfl, h⟩ := hc.one
  obtain ⟨n, rfl, hn⟩ := h.inv_int
  exact ⟨n, rfl, hn⟩
theorem ArgsAre.nil {avs : List AV} (h : ArgsAre [] avs) : avs = [] := by
  cases avs with
  | nil => rfl
  | cons => exact h.elim
theorem ArgsAre.one {s : Sh} {r : List (Bool × List Sh)} {avs : List AV} (h : ArgsAre ((false, [s]) :: r) avs) : ∃ x xs, avs = x :: xs ∧ CellIs s x ∧ ArgsAre r xs := by
  cases avs with
  | nil => exact h.elim
  | cons x xs =>
    obtain ⟨⟨cs, h1, rfl⟩, h2⟩ := h
    obtain ⟨c, rfl, hc⟩ := h1.one
    exact ⟨c, xs, rfl, hc, h2⟩
theorem ArgsAre.agg {ls : List Sh} {r : List (Bool × List Sh)} {avs : List AV} (h : ArgsAre ((true, ls) :: r) avs) : ∃ cs xs, avs = .agg cs :: xs ∧ CellsAre ls cs ∧ ArgsAre r xs := by
  cases avs with
  | nil => exact h.elim
  | cons x xs =>
    obtain ⟨⟨cs, h1, rfl⟩, h2⟩ := h
    exact ⟨cs, xs, rfl, h1, h2⟩
end Go.Oct
end
