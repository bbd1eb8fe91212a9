/- The theory, part F. -/
import Derived.Test.YtddkghgfbhhcdaaGreatDoorOT3
import Derived.Test.YtddkghgfbhhcdaaGreatDoorOT2
/- The interpreter once more, in a form that the kernel evaluates with little labour, part 1: values, environments, operations that only compute. Recursors at first hand, small constants, what comes next as an argument, values worked out as they are laid down. Each part does what the part it stands for does. -/
section
set_option linter.unusedVariables false
set_option linter.unusedSimpArgs false
namespace Go.Oct

/-- What a run ends in. -/
inductive Ans where
  | ok
  | no

noncomputable def ob {α : Type} (o : Option α) (k : α → Ans) : Ans := @Option.rec α (fun _ => (α → Ans) → Ans) (fun _ => .no) (fun a k => k a) o k
@[simp] theorem ob_some {α : Type} (a : α) (k : α → Ans) : ob (some a) k = k a := rfl
@[simp] theorem ob_none {α : Type} (k : α → Ans) : ob none k = .no := rfl
noncomputable def ob2 (o : Option (AV × AH)) (k : AV → AH → Ans) : Ans := @Option.rec (AV × AH) (fun _ => (AV → AH → Ans) → Ans) (fun _ => .no) (fun p k => @Prod.rec AV AH (fun _ => (AV → AH → Ans) → Ans) (fun v s k => k v s) p k) o k
@[simp] theorem ob2_some (v : AV) (s : AH) (k : AV → AH → Ans) : ob2 (some (v, s)) k = k v s := rfl
@[simp] theorem ob2_none (k : AV → AH → Ans) : ob2 none k = .no := rfl
noncomputable def bi (b : Bool) (x y : Ans) : Ans := @Bool.rec (fun _ => Ans) y x b
@[simp] theorem bi_true (x y : Ans) : bi true x y = x := rfl
@[simp] theorem bi_false (x y : Ans) : bi false x y = y := rfl
/-! ### Numbers -/
theorem nbeq_eq (m n : Nat) : Nat.beq m n = decide (m = n) := by
  by_cases h : m = n
  · subst h; simp
  · have : Nat.beq m n = false := by
      cases h2 : Nat.beq m n
      · rfl
      · exact absurd (Nat.eq_of_beq_eq_true h2) h
    rw [this]; simp [h]
theorem nble_eq (m n : Nat) : Nat.ble m n = decide (m ≤ n) := by
  by_cases h : m ≤ n
  · rw [Nat.ble_eq_true_of_le h]; simp [h]
  · have : Nat.ble m n = false := by
      cases h2 : Nat.ble m n
      · rfl
      · exact absurd (Nat.le_of_ble_eq_true h2) h
    rw [this]; simp [h]

noncomputable def fN (n : Nat) (k : Nat → Ans) : Ans := @Nat.rec (fun _ => (Nat → Ans) → Ans) (fun k => k 0) (fun m _ k => k (Nat.succ m)) n k
@[simp] theorem fN_eq (n : Nat) (k : Nat → Ans) : fN n k = k n := by cases n <;> rfl
noncomputable def kPos (k : Int → Ans) (m : Nat) : Ans := k (Int.ofNat m)
noncomputable def kNeg (k : Int → Ans) (m : Nat) : Ans := k (Int.negSucc m)
noncomputable def fI (n : Int) (k : Int → Ans) : Ans := @Int.rec (fun _ => (Int → Ans) → Ans) (fun m k => fN m (kPos k)) (fun m k => fN m (kNeg k)) n k
@[simp] theorem fI_eq (n : Int) (k : Int → Ans) : fI n k = k n := by cases n <;> simp [fI, kPos, kNeg]
noncomputable def fSubNN (m n : Nat) (k : Int → Ans) : Ans := bi (Nat.ble n m) (fN (Nat.sub m n) (kPos k)) (fN (Nat.sub (Nat.sub n m) 1) (kNeg k))
theorem fSubNN_eq (m n : Nat) (k : Int → Ans) : fSubNN m n k = k (Int.subNatNat m n) := by
  unfold fSubNN
  cases h : Nat.ble n m
  · have h : ¬ n ≤ m := fun hc => by rw [Nat.ble_eq_true_of_le hc] at h; cases h
    simp only [bi_false, fN_eq, kNeg]
    congr 1
    rw [Int.subNatNat_eq_coe]
    show Int.negSucc (n - m - 1) = _
    omega
  · have h : n ≤ m := Nat.le_of_ble_eq_true h
    simp only [bi_true, fN_eq, kPos]
    congr 1
    rw [Int.subNatNat_eq_coe]
    show Int.ofNat (m - n) = _
    rw [Int.ofNat_eq_natCast]
    omega
noncomputable def fIadd (a b : Int) (k : Int → Ans) : Ans := @Int.rec (fun _ => Int → (Int → Ans) → Ans)
  (fun m b k => @Int.rec (fun _ => (Int → Ans) → Ans) (fun n k => fN (Nat.add m n) (kPos k)) (fun n k => fSubNN m (Nat.succ n) k) b k)
  (fun m b k => @Int.rec (fun _ => (Int → Ans) → Ans) (fun n k => fSubNN n (Nat.succ m) k) (fun n k => fN (Nat.succ (Nat.add m n)) (kNeg k)) b k) a b k
theorem fIadd_eq (a b : Int) (k : Int → Ans) : fIadd a b k = k (a + b) := by
  cases a <;> cases b <;> simp [fIadd, fSubNN_eq, kPos, kNeg] <;> congr 1
noncomputable def fIsub (a b : Int) (k : Int → Ans) : Ans := @Int.rec (fun _ => Int → (Int → Ans) → Ans)
  (fun m b k => @Int.rec (fun _ => (Int → Ans) → Ans) (fun n k => fSubNN m n k) (fun n k => fN (Nat.succ (Nat.add m n)) (kPos k)) b k)
  (fun m b k => @Int.rec (fun _ => (Int → Ans) → Ans) (fun n k => fN (Nat.add m n) (kNeg k)) (fun n k => fSubNN n m k) b k) a b k
theorem fIsub_eq (a b : Int) (k : Int → Ans) : fIsub a b k = k (a - b) := by
  cases a with
  | ofNat m => cases b with
    | ofNat n =>
      show fSubNN m n k = _
      rw [fSubNN_eq, Int.subNatNat_eq_coe]; rfl
    | negSucc n =>
      show fN (Nat.succ (Nat.add m n)) (kPos k) = _
      rw [fN_eq]; unfold kPos; congr 1
  | negSucc m => cases b with
    | ofNat n =>
      show fN (Nat.add m n) (kNeg k) = _
      rw [fN_eq]; unfold kNeg; congr 1
      show Int.negSucc (m + n) = Int.negSucc m - (n : Int)
      omega
    | negSucc n =>
      show fSubNN n m k = _
      rw [fSubNN_eq, Int.subNatNat_eq_coe]; congr 1
      omega
noncomputable def fImul (a b : Int) (k : Int → Ans) : Ans := @Int.rec (fun _ => Int → (Int → Ans) → Ans)
  (fun m b k => @Int.rec (fun _ => (Int → Ans) → Ans) (fun n k => fN (Nat.mul m n) (kPos k)) (fun n k => fI (Int.mul (Int.ofNat m) (Int.negSucc n)) k) b k)
  (fun m b k => fI (Int.mul (Int.negSucc m) b) k) a b k
theorem fImul_eq (a b : Int) (k : Int → Ans) : fImul a b k = k (a * b) := by
  cases a with
  | ofNat m => cases b with
    | ofNat n => show fN (Nat.mul m n) (kPos k) = _; rw [fN_eq]; rfl
    | negSucc n => exact fI_eq _ _
  | negSucc m => exact fI_eq _ _
noncomputable def fIz (b : Int) (z k : Ans) : Ans := @Int.rec (fun _ => Ans → Ans → Ans) (fun n z k => bi (Nat.beq n 0) z k) (fun _ z k => k) b z k
theorem fIz_eq (b : Int) (z k : Ans) : fIz b z k = if b ≠ 0 then k else z := by
  cases b with
  | ofNat n =>
    show bi (Nat.beq n 0) z k = _
    cases n with
    | zero => rfl
    | succ n => rw [if_pos (by intro h; cases h)]; rfl
  | negSucc n => rw [if_pos (by intro h; cases h)]; rfl
noncomputable def iLe (a b : Int) : Bool := @Int.rec (fun _ => Int → Bool) (fun m b => @Int.rec (fun _ => Bool) (fun n => Nat.ble m n) (fun _ => false) b) (fun m b => @Int.rec (fun _ => Bool) (fun _ => true) (fun n => Nat.ble n m) b) a b
theorem iLe_eq (a b : Int) : iLe a b = decide (a ≤ b) := by
  cases a with
  | ofNat m => cases b with
    | ofNat n =>
      show Nat.ble m n = _
      rw [nble_eq, Bool.eq_iff_iff, decide_eq_true_eq, decide_eq_true_eq, Int.ofNat_eq_natCast, Int.ofNat_eq_natCast]; omega
    | negSucc n => show false = _; symm; rw [decide_eq_false_iff_not, Int.ofNat_eq_natCast]; omega
  | negSucc m => cases b with
    | ofNat n => show true = _; symm; rw [decide_eq_true_eq, Int.ofNat_eq_natCast]; omega
    | negSucc n =>
      show Nat.ble n m = _
      rw [nble_eq, Bool.eq_iff_iff, decide_eq_true_eq, decide_eq_true_eq]; omega
noncomputable def iEq (a b : Int) : Bool := @Int.rec (fun _ => Int → Bool) (fun m b => @Int.rec (fun _ => Bool) (fun n => Nat.beq m n) (fun _ => false) b) (fun m b => @Int.rec (fun _ => Bool) (fun _ => false) (fun n => Nat.beq m n) b) a b
theorem bi_dec (c : Prop) [Decidable c] (x y : Ans) : bi (decide c) x y = if c then x else y := by
  by_cases h : c <;> simp [h]
theorem iEq_eq (a b : Int) : iEq a b = (a == b) := by
  cases a with
  | ofNat m => cases b with
    | ofNat n => show Nat.beq m n = _; rw [nbeq_eq, Bool.eq_iff_iff, decide_eq_true_eq, beq_iff_eq, Int.ofNat_eq_natCast, Int.ofNat_eq_natCast, Int.ofNat_inj]
    | negSucc n => rfl
  | negSucc m => cases b with
    | ofNat n => rfl
    | negSucc n => show Nat.beq m n = _; rw [nbeq_eq, Bool.eq_iff_iff]; simp

/-! ### Values -/
noncomputable def onInt (v : AV) (k : IntKind → Int → Ans) (n : Ans) : Ans := (@AV.rec (fun _ => (IntKind → Int → Ans) → Ans → Ans) (fun _ => Unit) (fun _ n => n) (fun q i => fun k _ => k q i) (fun _ => fun _ n => n) (fun _ => fun _ n => n) (fun _ => fun _ n => n) (fun _ _ _ => fun _ n => n) (fun _ => fun _ n => n) (fun _ _ _ _ _ => fun _ n => n) (fun _ n => n) (fun _ _ _ => fun _ n => n) (fun _ n => n) (fun _ _ => fun _ n => n) (fun _ _ => fun _ n => n) (fun _ _ _ => fun _ n => n) (fun _ _ _ => fun _ n => n) (fun _ _ _ => fun _ n => n) () (fun _ _ _ _ => ())) v k n
noncomputable def onBool (v : AV) (k : Bool → Ans) (n : Ans) : Ans := (@AV.rec (fun _ => (Bool → Ans) → Ans → Ans) (fun _ => Unit) (fun _ n => n) (fun _ _ => fun _ n => n) (fun b => fun k _ => k b) (fun _ => fun _ n => n) (fun _ => fun _ n => n) (fun _ _ _ => fun _ n => n) (fun _ => fun _ n => n) (fun _ _ _ _ _ => fun _ n => n) (fun _ n => n) (fun _ _ _ => fun _ n => n) (fun _ n => n) (fun _ _ => fun _ n => n) (fun _ _ => fun _ n => n) (fun _ _ _ => fun _ n => n) (fun _ _ _ => fun _ n => n) (fun _ _ _ => fun _ n => n) () (fun _ _ _ _ => ())) v k n
noncomputable def onAgg (v : AV) (k : List AV → Ans) (n : Ans) : Ans := (@AV.rec (fun _ => (List AV → Ans) → Ans → Ans) (fun _ => Unit) (fun _ n => n) (fun _ _ => fun _ n => n) (fun _ => fun _ n => n) (fun _ => fun _ n => n) (fun _ => fun _ n => n) (fun _ _ _ => fun _ n => n) (fun _ => fun _ n => n) (fun _ _ _ _ _ => fun _ n => n) (fun _ n => n) (fun _ _ _ => fun _ n => n) (fun _ n => n) (fun cs _ => fun k _ => k cs) (fun _ _ => fun _ n => n) (fun _ _ _ => fun _ n => n) (fun _ _ _ => fun _ n => n) (fun _ _ _ => fun _ n => n) () (fun _ _ _ _ => ())) v k n
noncomputable def onTup (v : AV) (k : List AV → Ans) (n : Ans) : Ans := (@AV.rec (fun _ => (List AV → Ans) → Ans → Ans) (fun _ => Unit) (fun _ n => n) (fun _ _ => fun _ n => n) (fun _ => fun _ n => n) (fun _ => fun _ n => n) (fun _ => fun _ n => n) (fun _ _ _ => fun _ n => n) (fun _ => fun _ n => n) (fun _ _ _ _ _ => fun _ n => n) (fun _ n => n) (fun _ _ _ => fun _ n => n) (fun _ n => n) (fun _ _ => fun _ n => n) (fun cs _ => fun k _ => k cs) (fun _ _ _ => fun _ n => n) (fun _ _ _ => fun _ n => n) (fun _ _ _ => fun _ n => n) () (fun _ _ _ _ => ())) v k n
noncomputable def onOA (a : Option (Nat × Nat)) (k : Nat → Nat → Ans) (n : Ans) : Ans := @Option.rec (Nat × Nat) (fun _ => (Nat → Nat → Ans) → Ans → Ans) (fun _ n => n) (fun p k _ => @Prod.rec Nat Nat (fun _ => (Nat → Nat → Ans) → Ans) (fun i o k => k i o) p k) a k n
noncomputable def onAddr (v : AV) (k : Nat → Nat → Ans) (kv : List AV → Nat → Ans) (n : Ans) : Ans := (@AV.rec (fun _ => (Nat → Nat → Ans) → (List AV → Nat → Ans) → Ans → Ans) (fun _ => Unit) (fun _ _ n => n) (fun _ _ => fun _ _ n => n) (fun _ => fun _ _ n => n) (fun _ => fun _ _ n => n) (fun a => fun k _ n => onOA a k n) (fun _ _ _ => fun _ _ n => n) (fun _ => fun _ _ n => n) (fun _ _ _ _ _ => fun _ _ n => n) (fun _ _ n => n) (fun _ _ _ => fun _ _ n => n) (fun _ _ n => n) (fun _ _ => fun _ _ n => n) (fun _ _ => fun _ _ n => n) (fun _ _ _ => fun _ _ n => n) (fun cs o _ => fun _ kv _ => kv cs o) (fun _ _ _ => fun _ _ n => n) () (fun _ _ _ _ => ())) v k kv n
noncomputable def onSl (v : AV) (k : Option (Nat × Nat) → Nat → ACap → Ans) (kv : Bool → List AV → Ans) (n : Ans) : Ans := (@AV.rec (fun _ => (Option (Nat × Nat) → Nat → ACap → Ans) → (Bool → List AV → Ans) → Ans → Ans) (fun _ => Unit) (fun _ _ n => n) (fun _ _ => fun _ _ n => n) (fun _ => fun _ _ n => n) (fun _ => fun _ _ n => n) (fun _ => fun _ _ n => n) (fun a l c => fun k _ _ => k a l c) (fun _ => fun _ _ n => n) (fun _ _ _ _ _ => fun _ _ n => n) (fun _ _ n => n) (fun _ _ _ => fun _ _ n => n) (fun _ _ n => n) (fun _ _ => fun _ _ n => n) (fun _ _ => fun _ _ n => n) (fun nl es _ => fun _ kv _ => kv nl es) (fun _ _ _ => fun _ _ n => n) (fun _ _ _ => fun _ _ n => n) () (fun _ _ _ _ => ())) v k kv n
noncomputable def onFunc (v : AV) (k : Go.Fn → List AV → List AV → Ans) (n : Ans) : Ans := (@AV.rec (fun _ => (Go.Fn → List AV → List AV → Ans) → Ans → Ans) (fun _ => Unit) (fun _ n => n) (fun _ _ => fun _ n => n) (fun _ => fun _ n => n) (fun _ => fun _ n => n) (fun _ => fun _ n => n) (fun _ _ _ => fun _ n => n) (fun _ => fun _ n => n) (fun f xs ys _ _ => fun k _ => k f xs ys) (fun _ n => n) (fun _ _ _ => fun _ n => n) (fun _ n => n) (fun _ _ => fun _ n => n) (fun _ _ => fun _ n => n) (fun _ _ _ => fun _ n => n) (fun _ _ _ => fun _ n => n) (fun _ _ _ => fun _ n => n) () (fun _ _ _ _ => ())) v k n
/-- What a value's cells are: several (agg), none that is known (undef), one. -/
noncomputable def onCells (v : AV) (ks : List AV → Ans) (k u : Ans) : Ans := (@AV.rec (fun _ => (List AV → Ans) → Ans → Ans → Ans) (fun _ => Unit) (fun _ _ u => u) (fun _ _ => fun _ k _ => k) (fun _ => fun _ k _ => k) (fun _ => fun _ k _ => k) (fun _ => fun _ k _ => k) (fun _ _ _ => fun _ k _ => k) (fun _ => fun _ k _ => k) (fun _ _ _ _ _ => fun _ k _ => k) (fun _ k _ => k) (fun _ _ _ => fun _ k _ => k) (fun _ k _ => k) (fun cs _ => fun ks _ _ => ks cs) (fun _ _ => fun _ k _ => k) (fun _ _ _ => fun _ k _ => k) (fun _ _ _ => fun _ k _ => k) (fun _ _ _ => fun _ k _ => k) () (fun _ _ _ _ => ())) v ks k u
noncomputable def isOne (v : AV) : Bool := (@AV.rec (fun _ => Bool) (fun _ => Unit) (false) (fun _ _ => true) (fun _ => true) (fun _ => true) (fun _ => true) (fun _ _ _ => true) (fun _ => true) (fun _ _ _ _ _ => true) (true) (fun _ _ _ => true) (true) (fun cs _ => false) (fun cs _ => false) (fun _ _ _ => true) (fun _ _ _ => true) (fun _ _ _ => true) () (fun _ _ _ _ => ())) v
@[simp] theorem isOne_eq (v : AV) : isOne v = v.one := by cases v <;> rfl
noncomputable def onI64 (q : IntKind) (y n : Ans) : Ans := @IntKind.rec (fun _ => Ans → Ans → Ans) (fun _ n => n) (fun _ n => n) (fun _ n => n) (fun y _ => y) (fun _ n => n) (fun _ n => n) (fun _ n => n) (fun _ n => n) q y n
theorem onInt_eq (v : AV) (k : IntKind → Int → Ans) (n : Ans) : onInt v k n = match v with | .int q i => k q i | _ => n := by cases v <;> rfl
/-! ### Values worked out -/
noncomputable def fcons {α : Type} (v : α) (k : List α → Ans) (vs : List α) : Ans := k (v :: vs)
noncomputable def fOA (a : Option (Nat × Nat)) (k : Option (Nat × Nat) → Ans) : Ans := onOA a (fun i o => fN i fun i => fN o fun o => k (some (i, o))) (k none)
theorem fOA_eq (a : Option (Nat × Nat)) (k : Option (Nat × Nat) → Ans) : fOA a k = k a := by
  cases a with
  | none => rfl
  | some p => cases p; simp [fOA, onOA]
noncomputable def fCap (c : ACap) (k : ACap → Ans) : Ans := @ACap.rec (fun _ => (ACap → Ans) → Ans) (fun c k => fN c fun c => k (.ex c)) (fun z k => fN z fun z => k (.op z)) c k
theorem fCap_eq (c : ACap) (k : ACap → Ans) : fCap c k = k c := by cases c <;> simp [fCap]
noncomputable def fBo (b : Bool) (k : Bool → Ans) : Ans := bi b (k true) (k false)
@[simp] theorem fBo_eq (b : Bool) (k : Bool → Ans) : fBo b k = k b := by cases b <;> rfl
/-- A value, all of it worked out. -/
noncomputable def fF (v : AV) (k : AV → Ans) : Ans := (@AV.rec (fun _ => (AV → Ans) → Ans) (fun _ => ((List AV → Ans) → Ans)) (fun k => k .undef) (fun q n => fun k => fI n (fun n => k (.int q n))) (fun b => fun k => fBo b (fun b => k (.bool b))) (fun s => fun k => k (.str s)) (fun a => fun k => fOA a (fun a => k (.ptr a))) (fun a n c => fun k => fOA a (fun a => fN n (fun n => fCap c (fun c => k (.slice a n c))))) (fun r => fun k => k (.map r)) (fun f xs ys I1 I2 => fun k => I1 (fun xs => I2 (fun ys => k (.func f xs ys)))) (fun k => k .nilFunc) (fun t v I1 => fun k => I1 (fun v => k (.iface t v))) (fun k => k .nilIface) (fun cs I1 => fun k => I1 (fun cs => k (.agg cs))) (fun cs I1 => fun k => I1 (fun cs => k (.tuple cs))) (fun nl es I1 => fun k => fBo nl (fun nl => I1 (fun es => k (.vsl nl es)))) (fun cs o I1 => fun k => I1 (fun cs => fN o (fun o => k (.vptr cs o)))) (fun n cs I1 => fun k => I1 (fun cs => fN n (fun n => k (.tsl n cs)))) (fun k => k []) (fun _ _ I1 I2 k => I1 (fun v => I2 (fcons v k)))) v k
noncomputable def fFL (vs : List AV) (k : List AV → Ans) : Ans := (@AV.rec_1 (fun _ => (AV → Ans) → Ans) (fun _ => ((List AV → Ans) → Ans)) (fun k => k .undef) (fun q n => fun k => fI n (fun n => k (.int q n))) (fun b => fun k => fBo b (fun b => k (.bool b))) (fun s => fun k => k (.str s)) (fun a => fun k => fOA a (fun a => k (.ptr a))) (fun a n c => fun k => fOA a (fun a => fN n (fun n => fCap c (fun c => k (.slice a n c))))) (fun r => fun k => k (.map r)) (fun f xs ys I1 I2 => fun k => I1 (fun xs => I2 (fun ys => k (.func f xs ys)))) (fun k => k .nilFunc) (fun t v I1 => fun k => I1 (fun v => k (.iface t v))) (fun k => k .nilIface) (fun cs I1 => fun k => I1 (fun cs => k (.agg cs))) (fun cs I1 => fun k => I1 (fun cs => k (.tuple cs))) (fun nl es I1 => fun k => fBo nl (fun nl => I1 (fun es => k (.vsl nl es)))) (fun cs o I1 => fun k => I1 (fun cs => fN o (fun o => k (.vptr cs o)))) (fun n cs I1 => fun k => I1 (fun cs => fN n (fun n => k (.tsl n cs)))) (fun k => k []) (fun _ _ I1 I2 k => I1 (fun v => I2 (fcons v k)))) vs k
theorem fF_eq (v : AV) : ∀ k, fF v k = k v := by
  refine AV.rec (motive_1 := fun v => ∀ k, fF v k = k v) (motive_2 := fun vs => ∀ k, fFL vs k = k vs) ?_ ?_ ?_ ?_ ?_ ?_ ?_ ?_ ?_ ?_ ?_ ?_ ?_ ?_ ?_ ?_ ?_ ?_ v
  · intro k; rfl
  · intro q n k; exact fI_eq n (fun n => k (.int q n))
  · intro b k; exact fBo_eq b (fun b => k (.bool b))
  · intro s k; rfl
  · intro a k; exact fOA_eq a (fun a => k (.ptr a))
  · intro a n c k
    refine (fOA_eq a (fun a => fN n (fun n => fCap c (fun c => k (.slice a n c))))).trans ?_
    rw [fN_eq, fCap_eq]
  · intro r k; rfl
  · intro f xs ys h1 h2 k
    refine (h1 (fun xs => fFL ys (fun ys => k (.func f xs ys)))).trans ?_
    exact h2 _
  · intro k; rfl
  · intro t v h k
    exact h (fun v => k (.iface t v))
  · intro k; rfl
  · intro cs h k
    exact h (fun cs => k (.agg cs))
  · intro cs h k
    exact h (fun cs => k (.tuple cs))
  · intro nl es h k
    refine (fBo_eq nl (fun nl => fFL es (fun es => k (.vsl nl es)))).trans ?_
    exact h _
  · intro cs o h k
    refine (h (fun cs => fN o (fun o => k (.vptr cs o)))).trans ?_
    rw [fN_eq]
  · intro n cs h k
    refine (h (fun cs => fN n (fun n => k (.tsl n cs)))).trans ?_
    rw [fN_eq]
  · intro k; rfl
  · intro v vs h1 h2 k
    refine (h1 (fun v => fFL vs (fcons v k))).trans ?_
    exact h2 _
theorem fFL_eq : ∀ (vs : List AV) (k : List AV → Ans), fFL vs k = k vs
  | [], k => rfl
  | v :: vs, k => (fF_eq v (fun v => fFL vs (fcons v k))).trans (fFL_eq vs _)
noncomputable def fFk (k : AV → Ans) (v : AV) : Ans := fF v k
@[simp] theorem fFk_eq (k : AV → Ans) : fFk k = k := funext fun v => fF_eq v k

/-! ### Lists -/
noncomputable def fnth (cs : List AV) (n : Nat) (k : AV → Ans) : Ans := @List.rec AV (fun _ => Nat → (AV → Ans) → Ans) (fun _ _ => .no)
  (fun c _ I n k => @Nat.rec (fun _ => AV → (Nat → (AV → Ans) → Ans) → (AV → Ans) → Ans) (fun c _ k => k c) (fun m _ _ I k => I m k) n c I k) cs n k
theorem fnth_eq : ∀ (cs : List AV) (n : Nat) (k : AV → Ans), fnth cs n k = ob cs[n]? k
  | [], n, k => rfl
  | c :: cs, 0, k => rfl
  | c :: cs, n + 1, k => by
    show fnth cs n k = _
    rw [fnth_eq cs n k]; rfl
/-- Sixteen cells on. -/
noncomputable def fd16 (cs : List AV) : List AV := @List.rec AV (fun _ => List AV) [] (fun _ cs _ => @List.rec AV (fun _ => List AV) [] (fun _ cs _ => @List.rec AV (fun _ => List AV) [] (fun _ cs _ => @List.rec AV (fun _ => List AV) [] (fun _ cs _ => @List.rec AV (fun _ => List AV) [] (fun _ cs _ => @List.rec AV (fun _ => List AV) [] (fun _ cs _ => @List.rec AV (fun _ => List AV) [] (fun _ cs _ => @List.rec AV (fun _ => List AV) [] (fun _ cs _ => @List.rec AV (fun _ => List AV) [] (fun _ cs _ => @List.rec AV (fun _ => List AV) [] (fun _ cs _ => @List.rec AV (fun _ => List AV) [] (fun _ cs _ => @List.rec AV (fun _ => List AV) [] (fun _ cs _ => @List.rec AV (fun _ => List AV) [] (fun _ cs _ => @List.rec AV (fun _ => List AV) [] (fun _ cs _ => @List.rec AV (fun _ => List AV) [] (fun _ cs _ => @List.rec AV (fun _ => List AV) [] (fun _ cs _ => cs) cs) cs) cs) cs) cs) cs) cs) cs) cs) cs) cs) cs) cs) cs) cs) cs
theorem fd16_eq (cs : List AV) : fd16 cs = cs.drop 16 := by
  rcases cs with _ | ⟨_, _ | ⟨_, _ | ⟨_, _ | ⟨_, _ | ⟨_, _ | ⟨_, _ | ⟨_, _ | ⟨_, _ | ⟨_, _ | ⟨_, _ | ⟨_, _ | ⟨_, _ | ⟨_, _ | ⟨_, _ | ⟨_, _ | ⟨_, _⟩⟩⟩⟩⟩⟩⟩⟩⟩⟩⟩⟩⟩⟩⟩⟩ <;> rfl
/-- Blocks of sixteen on, as a term: the kernel keeps what it has worked out. -/
noncomputable def fdropB (q : Nat) (cs : List AV) : List AV := @Nat.rec (fun _ => List AV) cs (fun _ I => fd16 I) q
theorem fdropB_eq : ∀ (q : Nat) (cs : List AV), fdropB q cs = cs.drop (16 * q)
  | 0, cs => rfl
  | q + 1, cs => by
    show fd16 (fdropB q cs) = _
    rw [fd16_eq, fdropB_eq q, List.drop_drop]
    congr 1
noncomputable def fnthB (cs : List AV) (n : Nat) (k : AV → Ans) : Ans := @Bool.rec (fun _ => Ans) (fnth cs n k) (fN (Nat.div n 16) (fun q => fN (Nat.mod n 16) (fun r => fnth (fdropB q cs) r k))) (Nat.ble 16 n)
theorem fnthB_eq (cs : List AV) (n : Nat) (k : AV → Ans) : fnthB cs n k = ob cs[n]? k := by
  unfold fnthB
  cases Nat.ble 16 n
  · exact fnth_eq cs n k
  · show fN (Nat.div n 16) (fun q => fN (Nat.mod n 16) (fun r => fnth (fdropB q cs) r k)) = _
    rw [fN_eq, fN_eq, fdropB_eq, fnth_eq, List.getElem?_drop]
    congr 2
    exact Nat.div_add_mod n 16
noncomputable def flen {α : Type} (cs : List α) : Nat := @List.rec α (fun _ => Nat) 0 (fun _ _ I => Nat.succ I) cs
@[simp] theorem flen_eq {α : Type} : ∀ cs : List α, flen cs = cs.length
  | [] => rfl
  | c :: cs => by show Nat.succ (flen cs) = _; rw [flen_eq cs]; rfl
noncomputable def fset (cs : List AV) (n : Nat) (x : AV) (k : List AV → Ans) : Ans := @List.rec AV (fun _ => Nat → AV → (List AV → Ans) → Ans) (fun _ _ k => k [])
  (fun c r I n x k => @Nat.rec (fun _ => AV → List AV → (Nat → AV → (List AV → Ans) → Ans) → AV → (List AV → Ans) → Ans) (fun _ r _ x k => k (x :: r)) (fun m _ c _ I x k => I m x (fcons c k)) n c r I x k) cs n x k
theorem fset_eq : ∀ (cs : List AV) (n : Nat) (x : AV) (k : List AV → Ans), fset cs n x k = k (cs.set n x)
  | [], n, x, k => rfl
  | c :: cs, 0, x, k => rfl
  | c :: cs, n + 1, x, k => by
    show fset cs n x (fcons c k) = _
    rw [fset_eq cs n x]; rfl
noncomputable def fputs (xs cs : List AV) (off : Nat) (k : List AV → Ans) : Ans := @List.rec AV (fun _ => List AV → Nat → (List AV → Ans) → Ans) (fun cs _ k => k cs)
  (fun x _ I cs off k => fset cs off x (fun cs => I cs (Nat.succ off) k)) xs cs off k
theorem fputs_eq : ∀ (xs cs : List AV) (off : Nat) (k : List AV → Ans), fputs xs cs off k = k (putCells cs off xs)
  | [], cs, off, k => rfl
  | x :: xs, cs, off, k => by
    show fset cs off x _ = _
    rw [fset_eq]
    show fputs xs _ _ k = _
    rw [fputs_eq xs]; rfl
noncomputable def fdrop (n : Nat) (cs : List AV) (k : List AV → Ans) : Ans := @Nat.rec (fun _ => List AV → (List AV → Ans) → Ans) (fun cs k => k cs) (fun _ I cs k => @List.rec AV (fun _ => (List AV → (List AV → Ans) → Ans) → (List AV → Ans) → Ans) (fun _ k => k []) (fun _ t _ I k => I t k) cs I k) n cs k
theorem fdrop_eq : ∀ (n : Nat) (cs : List AV) (k : List AV → Ans), fdrop n cs k = k (cs.drop n)
  | 0, cs, k => rfl
  | n + 1, [], k => rfl
  | n + 1, c :: cs, k => by
    show fdrop n cs k = _
    rw [fdrop_eq n]; rfl
noncomputable def ftake (n : Nat) (cs : List AV) (k : List AV → Ans) : Ans := @Nat.rec (fun _ => List AV → (List AV → Ans) → Ans) (fun cs k => k []) (fun _ I cs k => @List.rec AV (fun _ => (List AV → (List AV → Ans) → Ans) → (List AV → Ans) → Ans) (fun _ k => k []) (fun c t _ I k => I t (fcons c k)) cs I k) n cs k
theorem ftake_eq : ∀ (n : Nat) (cs : List AV) (k : List AV → Ans), ftake n cs k = k (cs.take n)
  | 0, cs, k => by rw [List.take_zero]; rfl
  | n + 1, [], k => rfl
  | n + 1, c :: cs, k => by
    show ftake n cs (fcons c k) = _
    rw [ftake_eq n]; rfl
noncomputable def fapp (xs : List AV) (l : List AV) (k : List AV → Ans) : Ans := @List.rec AV (fun _ => List AV → (List AV → Ans) → Ans) (fun l k => k l) (fun x _ I l k => I l (fcons x k)) xs l k
theorem fapp_eq : ∀ (xs l : List AV) (k : List AV → Ans), fapp xs l k = k (xs ++ l)
  | [], l, k => rfl
  | x :: xs, l, k => by
    show fapp xs l (fcons x k) = _
    rw [fapp_eq xs]; rfl
noncomputable def frep (n : Nat) (v : AV) (k : List AV → Ans) : Ans := @Nat.rec (fun _ => AV → (List AV → Ans) → Ans) (fun _ k => k []) (fun _ I v k => I v (fcons v k)) n v k
theorem frep_eq : ∀ (n : Nat) (v : AV) (k : List AV → Ans), frep n v k = k (List.replicate n v)
  | 0, v, k => rfl
  | n + 1, v, k => by
    show frep n v (fcons v k) = _
    rw [frep_eq n]; rfl
noncomputable def fall (p : AV → Bool) (cs : List AV) : Bool := @List.rec AV (fun _ => Bool) true (fun c _ I => @Bool.rec (fun _ => Bool) false I (p c)) cs
theorem fall_eq (p : AV → Bool) : ∀ cs, fall p cs = cs.all p
  | [] => rfl
  | c :: cs => by
    show @Bool.rec (fun _ => Bool) false (fall p cs) (p c) = _
    rw [fall_eq p cs, List.all_cons]
    cases p c <;> rfl
noncomputable def fpart (agg : Bool) (n : Nat) (cs : List AV) (off : Nat) (k : AV → Ans) : Ans := bi agg (fdrop off cs (fun cs => ftake n cs (fun cs => k (.agg cs)))) (fnth cs off k)
theorem fpart_eq (agg : Bool) (n : Nat) (cs : List AV) (off : Nat) (k : AV → Ans) : fpart agg n cs off k = ob (partV agg n cs off) k := by
  cases agg
  · exact fnth_eq cs off k
  · simp only [fpart, bi_true, fdrop_eq, ftake_eq]; rfl
noncomputable def flt (a b : Nat) (x : Ans) : Ans := bi (Nat.ble a b) x .no
theorem flt_eq (a b : Nat) (x : Ans) : flt a b x = if a ≤ b then x else .no := by
  unfold flt; rw [nble_eq, bi_dec]
noncomputable def feqn (a b : Nat) (x : Ans) : Ans := bi (Nat.beq a b) x .no
theorem feqn_eq (a b : Nat) (x : Ans) : feqn a b x = if a = b then x else .no := by
  unfold feqn; rw [nbeq_eq, bi_dec]
/-- A value's cells, put into others. -/
noncomputable def fput (cs : List AV) (off n : Nat) (v : AV) (k : List AV → Ans) : Ans :=
  onCells v (fun xs => feqn (flen xs) n (flt (Nat.add off n) (flen cs) (fputs xs cs off k))) (feqn 1 n (flt (Nat.add off n) (flen cs) (fset cs off v k))) .no
theorem fput_eq (cs : List AV) (off n : Nat) (v : AV) (k : List AV → Ans) : fput cs off n v k = if v.dfd = true ∧ v.cells.length = n ∧ off + n ≤ cs.length then k (putCells cs off v.cells) else .no := by
  unfold fput
  have one : ∀ v : AV, v.dfd = true → v.cells = [v] → feqn 1 n (flt (Nat.add off n) (flen cs) (fset cs off v k)) = if v.dfd = true ∧ v.cells.length = n ∧ off + n ≤ cs.length then k (putCells cs off v.cells) else .no := by
    intro v h h1
    rw [feqn_eq, flt_eq, flen_eq, fset_eq, h1]
    show (if 1 = n then if off + n ≤ cs.length then _ else _ else _) = _
    by_cases h2 : 1 = n <;> by_cases h3 : off + n ≤ cs.length <;> simp [h, h2, h3, putCells]
  cases v
  case agg xs =>
    show feqn (flen xs) n _ = _
    rw [feqn_eq, flt_eq, flen_eq, flen_eq, fputs_eq]
    show (if xs.length = n then if off + n ≤ cs.length then _ else _ else _) = _
    by_cases h2 : xs.length = n <;> by_cases h3 : off + n ≤ cs.length <;> simp [AV.dfd, AV.cells, h2, h3]
  case undef => simp [onCells, AV.dfd]
  all_goals exact one _ rfl rfl

/-! ### Environments -/
inductive FEnv where
  | nil
  | cons (t : Nat) (v : AV) (r : FEnv)
def FEnv.get : FEnv → Nat → AV
  | .nil, _ => .undef
  | .cons s u r, t => if s = t then u else r.get t
def FEnv.env : FEnv → Env
  | .nil => []
  | .cons t v r => (t, v) :: r.env
def FEnv.of : Env → FEnv
  | [] => .nil
  | (t, v) :: r => .cons t v (FEnv.of r)
theorem FEnv.get_of : ∀ (e : Env) (t : Nat), (FEnv.of e).get t = e.get t
  | [], t => rfl
  | (s, u) :: r, t => by simp only [FEnv.of, FEnv.get, Env.get, FEnv.get_of r]
theorem FEnv.env_of : ∀ e : Env, (FEnv.of e).env = e
  | [] => rfl
  | (s, u) :: r => by simp only [FEnv.of, FEnv.env, FEnv.env_of r]
theorem FEnv.get_env : ∀ (e : FEnv) (t : Nat), e.env.get t = e.get t
  | .nil, t => rfl
  | .cons s u r, t => by simp only [FEnv.env, FEnv.get, Env.get, FEnv.get_env r]
/-- Alike. -/
def FEq (e : FEnv) (env : Env) : Prop := ∀ t, e.get t = env.get t
theorem FEq.of (env : Env) : FEq (FEnv.of env) env := FEnv.get_of env
theorem FEq.ev {e : FEnv} {env : Env} (h : FEq e env) (x : Opd) : Opd.ev e.env x = Opd.ev env x := by
  cases x <;> simp [Opd.ev, FEnv.get_env, h _]
theorem FEq.evs {e : FEnv} {env : Env} (h : FEq e env) : Opd.ev e.env = Opd.ev env := funext h.ev
noncomputable def fget (e : FEnv) (t : Nat) (k : AV → Ans) : Ans := @FEnv.rec (fun _ => Nat → (AV → Ans) → Ans) (fun _ k => k .undef) (fun s u _ I t k => @Bool.rec (fun _ => Ans) (I t k) (k u) (Nat.beq s t)) e t k
theorem fget_get (e : FEnv) (t : Nat) (k : AV → Ans) : fget e t k = k (e.get t) := by
  induction e with
  | nil => rfl
  | cons s u r ih =>
    show @Bool.rec (fun _ => Ans) (fget r t k) (k u) (Nat.beq s t) = _
    rw [ih]
    simp only [FEnv.get]
    by_cases h : s = t
    · subst h; simp
    · have : Nat.beq s t = false := by rw [nbeq_eq]; simp [h]
      rw [this, if_neg h]
noncomputable def fev (e : FEnv) (x : Opd) (k : AV → Ans) : Ans := @Opd.rec (fun _ => FEnv → (AV → Ans) → Ans) (fun t e k => fget e t k) (fun v _ k => k v) (fun g _ k => k (.ptr (some (g, 0)))) x e k
theorem fev_eq {e : FEnv} {env : Env} (h : FEq e env) (x : Opd) (k : AV → Ans) : fev e x k = k (Opd.ev env x) := by
  cases x with
  | tmp t => show fget e t k = _; rw [fget_get, h t]; rfl
  | const v => rfl
  | glob g => rfl
noncomputable def fevs1 (I : FEnv → (List AV → Ans) → Ans) (e : FEnv) (k : List AV → Ans) (v : AV) : Ans := I e (fcons v k)
noncomputable def fevs (e : FEnv) (xs : List Opd) (k : List AV → Ans) : Ans := @List.rec Opd (fun _ => FEnv → (List AV → Ans) → Ans) (fun _ k => k []) (fun x _ I e k => fev e x (fevs1 I e k)) xs e k
theorem fevs_eq {e : FEnv} {env : Env} (h : FEq e env) : ∀ (xs : List Opd) (k : List AV → Ans), fevs e xs k = k (xs.map (Opd.ev env))
  | [], k => rfl
  | x :: xs, k => by
    show fev e x _ = _
    rw [fev_eq h]
    show fevs e xs _ = _
    rw [fevs_eq h xs]; rfl
noncomputable def fkeep2 (t : Nat) (r : FEnv) (k : FEnv → Ans) (v : AV) : Ans := k (.cons t v r)
noncomputable def fkeep1 (e : FEnv) (t : Nat) (k : FEnv → Ans) (r : FEnv) : Ans := fget e t (fkeep2 t r k)
noncomputable def fkeep (e : FEnv) (ts : List Nat) (k : FEnv → Ans) : Ans := @List.rec Nat (fun _ => FEnv → (FEnv → Ans) → Ans) (fun _ k => k .nil) (fun t _ I e k => I e (fkeep1 e t k)) ts e k
theorem fkeep_eq {e : FEnv} {env : Env} (h : FEq e env) : ∀ (ts : List Nat) (k : FEnv → Ans), fkeep e ts k = k (FEnv.of (env.keep ts))
  | [], k => rfl
  | t :: ts, k => by
    show fkeep e ts _ = _
    rw [fkeep_eq h ts]
    show fget e t _ = _
    rw [fget_get, h t]; rfl

/-! ### Operations that only compute -/
noncomputable def kI (k : AV → Ans) (n : Int) : Ans := k (.int .i64 n)
noncomputable def kB (k : AV → Ans) (b : Bool) : Ans := bi b (k (.bool true)) (k (.bool false))
theorem kB_eq (k : AV → Ans) (b : Bool) : kB k b = k (.bool b) := by cases b <;> rfl
/-- A number, brought into 64 bits. -/
noncomputable def fW (k : AV → Ans) (n : Int) : Ans := @Int.rec (fun _ => (AV → Ans) → Ans)
  (fun m k => bi (Nat.ble m 9223372036854775807) (k (.int .i64 (Int.ofNat m))) (fI (wr .i64 (Int.ofNat m)) (kI k)))
  (fun m k => bi (Nat.ble m 9223372036854775807) (k (.int .i64 (Int.negSucc m))) (fI (wr .i64 (Int.negSucc m)) (kI k))) n k
theorem fW_eq (k : AV → Ans) (n : Int) : fW k n = k (.int .i64 (wr .i64 n)) := by
  cases n with
  | ofNat m =>
    show bi (Nat.ble m 9223372036854775807) _ _ = _
    rw [nble_eq, bi_dec]
    split
    · rename_i h
      have : wr .i64 (Int.ofNat m) = Int.ofNat m := by
        unfold wr; simp only
        rw [if_pos]
        rw [Int.ofNat_eq_natCast]; omega
      rw [this]
    · rw [fI_eq]; rfl
  | negSucc m =>
    show bi (Nat.ble m 9223372036854775807) _ _ = _
    rw [nble_eq, bi_dec]
    split
    · rename_i h
      have : wr .i64 (Int.negSucc m) = Int.negSucc m := by
        unfold wr; simp only
        rw [if_pos]
        omega
      rw [this]
    · rw [fI_eq]; rfl
noncomputable def fBs (op : BinOp) (x y : AV) (k : AV → Ans) : Ans := ob (abin op x y) (fFk k)
theorem fBs_eq (op : BinOp) (x y : AV) (k : AV → Ans) : fBs op x y k = ob (abin op x y) k := by simp [fBs]
noncomputable def fBx (op : BinOp) (a b : Int) (k : AV → Ans) : Ans := fBs op (.int .i64 a) (.int .i64 b) k
noncomputable def fBop (op : BinOp) (a b : Int) (k : AV → Ans) : Ans := @BinOp.rec (fun _ => Int → Int → (AV → Ans) → Ans)
  (fun a b k => fIadd a b (fW k)) (fun a b k => fIsub a b (fW k)) (fun a b k => fImul a b (fW k))
  (fun a b k => fIz b .no (fI (Int.tdiv a b) (fW k))) (fun a b k => fIz b .no (fI (Int.tmod a b) (kI k)))
  (fBx .and) (fBx .or) (fBx .xor) (fBx .shl) (fBx .shr) (fBx .andNot)
  (fun a b k => kB k (iEq a b)) (fun a b k => bi (iEq a b) (k (.bool false)) (k (.bool true))) (fun a b k => bi (iLe b a) (k (.bool false)) (k (.bool true))) (fun a b k => kB k (iLe a b))
  (fun a b k => bi (iLe a b) (k (.bool false)) (k (.bool true))) (fun a b k => kB k (iLe b a)) op a b k
theorem kBn_eq (k : AV → Ans) (b : Bool) : bi b (k (.bool false)) (k (.bool true)) = k (.bool !b) := by cases b <;> rfl
theorem fBop_eq (op : BinOp) (a b : Int) (k : AV → Ans) : fBop op a b k = ob (abin op (.int .i64 a) (.int .i64 b)) k := by
  cases op
  case add => show fIadd a b _ = _; rw [fIadd_eq, fW_eq]; rfl
  case sub => show fIsub a b _ = _; rw [fIsub_eq, fW_eq]; rfl
  case mul => show fImul a b _ = _; rw [fImul_eq, fW_eq]; rfl
  case quo =>
    show fIz b _ _ = _
    rw [fIz_eq, fI_eq, fW_eq]
    by_cases h : b = 0
    · simp [h, abin]
    · simp [h, abin]
  case rem =>
    show fIz b _ _ = _
    rw [fIz_eq, fI_eq]
    by_cases h : b = 0
    · simp [h, abin]
    · simp [h, abin, kI]
  case eql => show kB k _ = _; rw [kB_eq, iEq_eq]; rfl
  case neq => show bi _ _ _ = _; rw [kBn_eq, iEq_eq]; rfl
  case lss => show bi _ _ _ = _; rw [kBn_eq, iLe_eq, ← decide_not]; simp [abin]
  case leq => show kB k _ = _; rw [kB_eq, iLe_eq]; rfl
  case gtr => show bi _ _ _ = _; rw [kBn_eq, iLe_eq, ← decide_not]; simp [abin]
  case geq => show kB k _ = _; rw [kB_eq, iLe_eq]; rfl
  case and => exact fBs_eq .and (.int .i64 a) (.int .i64 b) k
  case or => exact fBs_eq .or (.int .i64 a) (.int .i64 b) k
  case xor => exact fBs_eq .xor (.int .i64 a) (.int .i64 b) k
  case shl => exact fBs_eq .shl (.int .i64 a) (.int .i64 b) k
  case shr => exact fBs_eq .shr (.int .i64 a) (.int .i64 b) k
  case andNot => exact fBs_eq .andNot (.int .i64 a) (.int .i64 b) k
noncomputable def fB2 (op : BinOp) (x y : AV) (k : AV → Ans) (q : IntKind) (a : Int) (r : IntKind) (b : Int) : Ans := onI64 q (onI64 r (fBop op a b k) (fBs op x y k)) (fBs op x y k)
noncomputable def fB1 (op : BinOp) (x y : AV) (k : AV → Ans) (q : IntKind) (a : Int) : Ans := onInt y (fB2 op x y k q a) (fBs op x y k)
noncomputable def fB (op : BinOp) (x : AV) (k : AV → Ans) (y : AV) : Ans := onInt x (fB1 op x y k) (fBs op x y k)
theorem fB_eq (op : BinOp) (x y : AV) (k : AV → Ans) : fB op x k y = ob (abin op x y) k := by
  unfold fB fB1 fB2
  simp only [fBs_eq]
  rw [onInt_eq]
  split
  · rename_i q a
    rw [onInt_eq]
    split
    · rename_i r b
      cases q <;> cases r <;> first | rfl | exact fBop_eq op a b k
    · rfl
  · rfl
noncomputable def fBin (e : FEnv) (op : BinOp) (y : Opd) (k : AV → Ans) (x : AV) : Ans := fev e y (fB op x k)
noncomputable def fPick (e : FEnv) (a b : Opd) (k : AV → Ans) (c : AV) : Ans := onBool c (fun c => bi c (fev e a k) (fev e b k)) .no
/-- An index: below a length, times a size. -/
noncomputable def fIx (i : AV) (len : Nat) (k : Nat → Ans) : Ans := onInt i (fun _ i => @Int.rec (fun _ => Nat → (Nat → Ans) → Ans) (fun m len k => flt (Nat.succ m) len (k m)) (fun _ _ _ => .no) i len k) .no
theorem fIx_eq (i : AV) (len : Nat) (k : Nat → Ans) : fIx i len k = match i with | .int _ i => if 0 ≤ i ∧ i < (len : Int) then k i.toNat else .no | _ => .no := by
  unfold fIx
  rw [onInt_eq]
  split
  · rename_i q i
    cases i with
    | ofNat m =>
      show flt (Nat.succ m) len (k m) = _
      rw [flt_eq]
      by_cases h : Nat.succ m ≤ len
      · rw [if_pos h, if_pos ⟨Int.natCast_nonneg m, Int.ofNat_lt.2 h⟩]; rfl
      · rw [if_neg h, if_neg (fun hc => h (Int.ofNat_lt.1 hc.2))]
    | negSucc m =>
      rw [if_neg (fun hc => by have := hc.1; omega)]
  · rfl
noncomputable def fcells (v : AV) (k : List AV → Ans) : Ans := onCells v k (k [v]) (k [v])
theorem fcells_eq (v : AV) (k : List AV → Ans) : fcells v k = k v.cells := by cases v <;> rfl
noncomputable def fIdS (z : Nat) (k : AV → Ans) (x i : AV) : Ans := onSl x
  (fun a len _ => onOA a (fun id o => fIx i len (fun m => fN (Nat.add o (Nat.mul m z)) (fun o => k (.ptr (some (id, o)))))) .no)
  (fun _ es => onInt i (fun _ i => @Int.rec (fun _ => (Nat → Ans) → Ans) (fun m k => k m) (fun _ _ => .no) i (fun m => fnth es m (fun e => fcells e (fun cs => feqn (flen cs) z (k (.vptr cs 0)))))) .no) .no
theorem fIdS_eq (z : Nat) (k : AV → Ans) (x i : AV) {ρ : Opd → AV} {X I : Opd} (hx : ρ X = x) (hi : ρ I = i) : fIdS z k x i = ob (avop ρ (.indexAddrS z X I)) k := by
  simp only [avop, hx, hi]
  cases x
  case slice a len cap =>
    cases a with
    | none => simp [fIdS, onSl, onOA]
    | some p =>
      obtain ⟨id, o⟩ := p
      show fIx i len _ = _
      rw [fIx_eq]
      cases i
      case int q i =>
        simp only
        split <;> simp [*]
      all_goals rfl
  case vsl nl es =>
    cases i
    case int q i =>
      cases i with
      | ofNat m =>
        show fnth es m _ = _
        rw [fnth_eq]
        simp only [Int.ofNat_eq_natCast, Int.natCast_nonneg, if_true, Int.toNat_natCast]
        cases es[m]? with
        | none => rfl
        | some e =>
          simp only [ob_some, fcells_eq, feqn_eq, flen_eq]
          split <;> simp [*]
      | negSucc m => rfl
    all_goals rfl
  all_goals rfl
noncomputable def fIdA (len z : Nat) (k : AV → Ans) (x i : AV) : Ans := onAddr x
  (fun id o => fIx i len (fun m => fN (Nat.add o (Nat.mul m z)) (fun o => k (.ptr (some (id, o))))))
  (fun cs o => fIx i len (fun m => fN (Nat.add o (Nat.mul m z)) (fun o => k (.vptr cs o)))) .no
theorem fIdA_eq (len z : Nat) (k : AV → Ans) (x i : AV) {ρ : Opd → AV} {X I : Opd} (hx : ρ X = x) (hi : ρ I = i) : fIdA len z k x i = ob (avop ρ (.indexAddrA len z X I)) k := by
  simp only [avop, hx, hi]
  cases x
  case ptr a =>
    cases a with
    | none => rfl
    | some p =>
      obtain ⟨id, o⟩ := p
      show fIx i len _ = _
      rw [fIx_eq]
      cases i
      case int q i =>
        simp only
        split <;> simp [*]
      all_goals rfl
  case vptr cs o =>
    show fIx i len _ = _
    rw [fIx_eq]
    cases i
    case int q i =>
      simp only
      split <;> simp [*]
    all_goals rfl
  all_goals rfl
noncomputable def fMin (xs : List AV) (x : AV) (k : AV → Ans) : Ans := @List.rec AV (fun _ => AV → (AV → Ans) → Ans) (fun x k => k x)
  (fun y _ I x k => onInt x (fun q a => onInt y (fun _ b => bi (iLe a b) (I x k) (I (.int q b) k)) .no) .no) xs x k
theorem fMin_eq : ∀ (xs : List AV) (x : AV) (k : AV → Ans), fMin xs x k = ob (foldAV amin x xs) k
  | [], x, k => rfl
  | y :: ys, x, k => by
    show onInt x _ _ = _
    rw [onInt_eq]
    split
    · rename_i q a
      rw [onInt_eq]
      split
      · rename_i r b
        show bi (iLe a b) (fMin ys _ k) (fMin ys _ k) = _
        rw [fMin_eq ys, fMin_eq ys, iLe_eq, bi_dec]
        simp only [foldAV, amin]
        by_cases h : a ≤ b
        · rw [if_pos h, if_neg (by omega)]
        · rw [if_neg h, if_pos (by omega)]
      · rename_i hn
        simp only [foldAV]
        cases y <;> first | rfl | exact absurd rfl (hn _ _)
    · rename_i hn
      simp only [foldAV]
      cases x <;> first | rfl | exact absurd rfl (hn _ _)
noncomputable def fMax (xs : List AV) (x : AV) (k : AV → Ans) : Ans := @List.rec AV (fun _ => AV → (AV → Ans) → Ans) (fun x k => k x)
  (fun y _ I x k => onInt x (fun q a => onInt y (fun _ b => bi (iLe b a) (I x k) (I (.int q b) k)) .no) .no) xs x k
theorem fMax_eq : ∀ (xs : List AV) (x : AV) (k : AV → Ans), fMax xs x k = ob (foldAV amax x xs) k
  | [], x, k => rfl
  | y :: ys, x, k => by
    show onInt x _ _ = _
    rw [onInt_eq]
    split
    · rename_i q a
      rw [onInt_eq]
      split
      · rename_i r b
        show bi (iLe b a) (fMax ys _ k) (fMax ys _ k) = _
        rw [fMax_eq ys, fMax_eq ys, iLe_eq, bi_dec]
        simp only [foldAV, amax]
        by_cases h : b ≤ a
        · rw [if_pos h, if_neg (by omega)]
        · rw [if_neg h, if_pos (by omega)]
      · rename_i hn
        simp only [foldAV]
        cases y <;> first | rfl | exact absurd rfl (hn _ _)
    · rename_i hn
      simp only [foldAV]
      cases x <;> first | rfl | exact absurd rfl (hn _ _)
noncomputable def fLen (k : AV → Ans) (x : AV) : Ans := onSl x (fun _ n _ => k (.int .i64 (Int.ofNat n))) (fun _ es => fN (flen es) (fun n => k (.int .i64 (Int.ofNat n)))) .no
noncomputable def ffill (ps : List (Nat × Nat × Opd)) (e : FEnv) (cs : List AV) (k : List AV → Ans) : Ans := @List.rec (Nat × Nat × Opd) (fun _ => FEnv → List AV → (List AV → Ans) → Ans) (fun _ cs k => k cs)
  (fun p _ I e cs k => @Prod.rec Nat (Nat × Opd) (fun _ => Ans) (fun off q => @Prod.rec Nat Opd (fun _ => Ans) (fun n x => fev e x (fun v => fput cs off n v (fun cs => I e cs k))) q) p) ps e cs k
theorem ffill_eq {e : FEnv} {env : Env} (h : FEq e env) : ∀ (ps : List (Nat × Nat × Opd)) (cs : List AV) (k : List AV → Ans), ffill ps e cs k = ob (afill (Opd.ev env) cs ps) k
  | [], cs, k => rfl
  | (off, n, x) :: ps, cs, k => by
    show fev e x _ = _
    rw [fev_eq h, fput_eq]
    simp only [afill]
    split
    · exact ffill_eq h ps _ k
    · rfl
/-- The rest, as it stands. -/
noncomputable def fSlowV (e : FEnv) (o : VOp) (k : AV → Ans) : Ans := ob (avop (Opd.ev e.env) o) (fFk k)
theorem fSlowV_eq {e : FEnv} {env : Env} (h : FEq e env) (o : VOp) (k : AV → Ans) : fSlowV e o k = ob (avop (Opd.ev env) o) k := by
  simp [fSlowV, h.evs]
noncomputable def fNeg (e : FEnv) (op : UnOp) (x : Opd) (k : AV → Ans) (v : AV) : Ans := @UnOp.rec (fun _ => Ans)
  (onInt v (fun q n => onI64 q (fIsub 0 n (fW k)) (fSlowV e (.un .neg x) k)) .no) (fSlowV e (.un .xor x) k) (onBool v (fun b => bi b (k (.bool false)) (k (.bool true))) .no) .no op
/-- Cells, one by one. -/
noncomputable def onCons {α : Type} (l : List α) (k : α → List α → Ans) (n : Ans) : Ans := @List.rec α (fun _ => Ans) n (fun x xs _ => k x xs) l
noncomputable def fEqC (sh : List Leaf) (xs ys : List AV) (k : Bool → Ans) : Ans := @List.rec Leaf (fun _ => List AV → List AV → (Bool → Ans) → Ans)
  (fun xs ys k => onCons xs (fun _ _ => .no) (onCons ys (fun _ _ => .no) (k true)))
  (fun l _ I xs ys k => onCons xs (fun x xs => onCons ys (fun y ys => ob (eqCells [l] [x] [y]) (fun b => bi b (I xs ys k) (I xs ys (fun _ => k false)))) .no) .no) sh xs ys k
theorem eqCells_one (l : Leaf) (sh : List Leaf) (x y : AV) (xs ys : List AV) : eqCells (l :: sh) (x :: xs) (y :: ys) = (eqCells [l] [x] [y]).bind fun b => (eqCells sh xs ys).map fun r => b && r := by
  cases l <;> cases x <;> cases y <;> simp only [eqCells] <;> first | rfl | skip
  all_goals first
    | (split <;> simp)
    | simp
theorem fEqC_eq : ∀ (sh : List Leaf) (xs ys : List AV) (k : Bool → Ans), fEqC sh xs ys k = ob (eqCells sh xs ys) k
  | [], [], [], k => rfl
  | [], [], y :: ys, k => rfl
  | [], x :: xs, ys, k => by cases ys <;> rfl
  | l :: sh, [], ys, k => by cases l <;> rfl
  | l :: sh, x :: xs, [], k => by cases l <;> cases x <;> rfl
  | l :: sh, x :: xs, y :: ys, k => by
    show ob (eqCells [l] [x] [y]) (fun b => bi b (fEqC sh xs ys k) (fEqC sh xs ys (fun _ => k false))) = _
    rw [eqCells_one l sh x y xs ys]
    cases eqCells [l] [x] [y] with
    | none => rfl
    | some b =>
      simp only [ob_some, Option.bind_some]
      rw [fEqC_eq sh xs ys, fEqC_eq sh xs ys]
      cases eqCells sh xs ys with
      | none => cases b <;> rfl
      | some r => cases b <;> rfl
/-- That something is not nil. -/
noncomputable def fNilC (p : AProg) (e : FEnv) (x : Opd) (k : AV → Ans) : Ans := fev e x (fun v => onAddr v (fun i o => k (.ptr (some (i, o)))) (fun cs o => k (.vptr cs o)) (ob (avopM p (Opd.ev e.env) (.nilCheck x)) (fFk k)))
theorem fNilC_eq {p : AProg} {e : FEnv} {env : Env} (h : FEq e env) (x : Opd) (k : AV → Ans) : fNilC p e x k = ob (avopM p (Opd.ev env) (.nilCheck x)) k := by
  unfold fNilC
  rw [fev_eq h, fFk_eq, h.evs]
  have hx : ∀ v, Opd.ev env x = v → onAddr v (fun i o => k (.ptr (some (i, o)))) (fun cs o => k (.vptr cs o)) (ob (avopM p (Opd.ev env) (.nilCheck x)) k) = ob (avopM p (Opd.ev env) (.nilCheck x)) k := fun v hv => by
    cases v
    case ptr a =>
      cases a with
      | none => rfl
      | some q =>
        obtain ⟨i, o⟩ := q
        show k (.ptr (some (i, o))) = _
        simp [avopM, avop, hv]
    case vptr cs o =>
      show k (.vptr cs o) = _
      simp [avopM, avop, hv]
    all_goals rfl
  exact hx _ rfl
noncomputable def favop (p : AProg) (o : VOp) (e : FEnv) (k : AV → Ans) : Ans := @VOp.rec (fun _ => FEnv → (AV → Ans) → Ans)
  (fun x e k => fev e x k)
  (fun c a b e k => fev e c (fPick e a b k))
  (fun op x y e k => fev e x (fBin e op y k))
  (fun neg x y e k => fev e x (fun x => fev e y (fun y => onBool x (fun a => onBool y (fun b => kB k (if neg then !(a == b) else (a == b))) .no) .no)))
  (fun neg sh x y e k => fev e x (fun x => fev e y (fun y => onAgg x (fun xs => onAgg y (fun ys => fEqC sh xs ys (fun r => kB k (if neg then !r else r))) .no) .no)))
  (fun neg q x e k => fev e x (fun x => ob (isNil q x) (fun r => kB k (if neg then !r else r))))
  (fun op x e k => fev e x (fNeg e op x k))
  (fun q x e k => fev e x (fun v => onInt v (fun _ n => onI64 q (fW k n) (fI (wr q n) (fun n => k (.int q n)))) .no))
  (fun zero ps e k => fFL zero (fun zero => ffill ps e zero (fun cs => k (.agg cs))))
  (fun agg off n x e k => fev e x (fun v => onAgg v (fun cs => fpart agg n cs off k) .no))
  (fun agg len z x i e k => fev e x (fun v => fev e i (fun i => onAgg v (fun cs => fIx i len (fun m => fpart agg z cs (Nat.mul m z) k)) .no)))
  (fun x i e k => fSlowV e (.indexS x i) k)
  (fun off x e k => fev e x (fun v => onAddr v (fun i o => fN (Nat.add o off) (fun o => k (.ptr (some (i, o))))) (fun cs o => fN (Nat.add o off) (fun o => k (.vptr cs o))) .no))
  (fun z x i e k => fev e x (fun x => fev e i (fun i => fIdS z k x i)))
  (fun len z x i e k => fev e x (fun x => fev e i (fun i => fIdA len z k x i)))
  (fun z x lo hi mx e k => fSlowV e (.slS z x lo hi mx) k)
  (fun n z x lo hi mx e k => fSlowV e (.slA n z x lo hi mx) k)
  (fun x lo hi e k => fSlowV e (.slT x lo hi) k)
  (fun t x e k => fev e x (fun v => k (.iface t v)))
  (fun f xs ys e k => fevs e xs (fun xs => fevs e ys (fun ys => k (.func (.func f) xs ys))))
  (fun i x e k => fev e x (fun v => onTup v (fun vs => fnth vs i k) .no))
  (fun x e k => fev e x (fLen k))
  (fun x e k => fSlowV e (.lenT x) k)
  (fun n e k => k (.int .i64 (Int.ofNat n)))
  (fun x xs e k => fev e x (fun x => fevs e xs (fun xs => fMin xs x k)))
  (fun x xs e k => fev e x (fun x => fevs e xs (fun xs => fMax xs x k)))
  (fun x e k => fNilC p e x k)
  (fun nm x e k => fev e x (fun v => k (.func (.method nm) [v] [])))
  (fun x y e k => fSlowV e (.cmpS x y) k)
  (fun x y e k => fSlowV e (.cntS x y) k) o e k
theorem favop_eq {p : AProg} {e : FEnv} {env : Env} (h : FEq e env) (o : VOp) (k : AV → Ans) : favop p o e k = ob (avopM p (Opd.ev env) o) k := by
  by_cases hn : ∃ x, o = .nilCheck x
  · obtain ⟨x, rfl⟩ := hn
    exact fNilC_eq h x k
  rw [avopM_id fun x hx => hn ⟨x, hx⟩]
  cases o
  case mov x => exact fev_eq h x k
  case pick c a b =>
    show fev e c _ = _
    rw [fev_eq h]
    simp only [avop, fPick]
    generalize Opd.ev env c = u
    cases u
    case bool c => cases c <;> exact fev_eq h _ k
    all_goals rfl
  case bin op x y =>
    show fev e x _ = _
    rw [fev_eq h]
    show fev e y _ = _
    rw [fev_eq h, fB_eq]; rfl
  case eqB neg x y =>
    show fev e x _ = _
    rw [fev_eq h, fev_eq h]
    simp only [avop]
    generalize Opd.ev env x = u
    generalize Opd.ev env y = v
    cases u
    case bool a =>
      cases v
      case bool b => exact kB_eq k _
      all_goals rfl
    all_goals rfl
  case eqA neg sh x y =>
    show fev e x _ = _
    rw [fev_eq h, fev_eq h]
    simp only [avop]
    generalize Opd.ev env x = u
    generalize Opd.ev env y = v
    cases u
    case agg a =>
      cases v
      case agg b =>
        show fEqC sh a b _ = _
        rw [fEqC_eq]
        simp only
        cases eqCells sh a b with
        | none => rfl
        | some r => exact kB_eq k _
      all_goals rfl
    all_goals rfl
  case eqN neg q x =>
    show fev e x _ = _
    rw [fev_eq h]
    simp only [avop]
    cases isNil q (Opd.ev env x) <;> simp [kB_eq]
  case un op x =>
    show fev e x _ = _
    rw [fev_eq h]
    simp only [avop]
    cases op
    case neg =>
      have hs : fSlowV e (.un .neg x) k = ob (aun .neg (Opd.ev env x)) k := by rw [fSlowV_eq h]; rfl
      show onInt _ (fun q n => onI64 q (fIsub 0 n (fW k)) (fSlowV e (.un .neg x) k)) _ = _
      rw [hs]
      generalize Opd.ev env x = u
      cases u
      case int q n =>
        cases q
        case i64 => exact (fIsub_eq 0 n _).trans (fW_eq k _)
        all_goals rfl
      all_goals rfl
    case xor => exact fSlowV_eq h (.un .xor x) k
    case not =>
      show onBool _ _ _ = _
      generalize Opd.ev env x = u
      cases u
      case bool b => exact kBn_eq k b
      all_goals rfl
    case plus =>
      generalize Opd.ev env x = v
      cases v <;> rfl
  case conv q x =>
    show fev e x _ = _
    rw [fev_eq h]
    simp only [avop]
    generalize Opd.ev env x = u
    cases u
    case int r n =>
      show onI64 q (fW k n) (fI (wr q n) (fun n => k (.int q n))) = _
      rw [fI_eq, fW_eq]
      cases q <;> rfl
    all_goals rfl
  case build zero ps =>
    show fFL zero _ = _
    rw [fFL_eq, ffill_eq h]
    simp only [avop]
    cases afill (Opd.ev env) zero ps <;> rfl
  case fieldV agg off n x =>
    show fev e x _ = _
    rw [fev_eq h]
    simp only [avop]
    generalize Opd.ev env x = u
    cases u
    case agg cs => exact fpart_eq _ _ _ _ _
    all_goals rfl
  case indexA agg len z x i =>
    show fev e x _ = _
    rw [fev_eq h, fev_eq h]
    simp only [avop]
    generalize Opd.ev env x = u
    generalize Opd.ev env i = v
    cases u
    case agg cs =>
      show fIx v len _ = _
      rw [fIx_eq]
      cases v
      case int q n =>
        simp only
        split
        · exact fpart_eq _ _ _ _ _
        · rfl
      all_goals rfl
    all_goals rfl
  case indexS x i => exact fSlowV_eq h _ k
  case fieldAddr off x =>
    show fev e x _ = _
    rw [fev_eq h]
    simp only [avop]
    generalize Opd.ev env x = v
    cases v
    case ptr a =>
      cases a with
      | none => rfl
      | some p => obtain ⟨i, o⟩ := p; show fN _ _ = _; rw [fN_eq]; rfl
    case vptr cs o => show fN _ _ = _; rw [fN_eq]; rfl
    all_goals rfl
  case indexAddrS z x i =>
    show fev e x _ = _
    rw [fev_eq h, fev_eq h]
    exact fIdS_eq z k _ _ rfl rfl
  case indexAddrA len z x i =>
    show fev e x _ = _
    rw [fev_eq h, fev_eq h]
    exact fIdA_eq len z k _ _ rfl rfl
  case slS z x lo hi mx => exact fSlowV_eq h _ k
  case slA n z x lo hi mx => exact fSlowV_eq h _ k
  case slT x lo hi => exact fSlowV_eq h _ k
  case mkI t x =>
    show fev e x _ = _
    rw [fev_eq h]; rfl
  case mkF f xs ys =>
    show fevs e xs _ = _
    rw [fevs_eq h, fevs_eq h]; rfl
  case extract i x =>
    show fev e x _ = _
    rw [fev_eq h]
    simp only [avop]
    generalize Opd.ev env x = u
    cases u
    case tuple vs => exact fnth_eq _ _ _
    all_goals rfl
  case len x =>
    show fev e x _ = _
    rw [fev_eq h]
    simp only [avop]
    generalize Opd.ev env x = v
    cases v
    case vsl nl es => show fN _ _ = _; rw [fN_eq, flen_eq]; rfl
    all_goals rfl
  case lenT x => exact fSlowV_eq h _ k
  case lenC n => rfl
  case min x xs =>
    show fev e x _ = _
    rw [fev_eq h, fevs_eq h, fMin_eq]; rfl
  case max x xs =>
    show fev e x _ = _
    rw [fev_eq h, fevs_eq h, fMax_eq]; rfl
  case nilCheck x => exact absurd ⟨x, rfl⟩ hn
  case mkM nm x =>
    show fev e x _ = _
    rw [fev_eq h]; rfl
  case cmpS x y => exact fSlowV_eq h _ k
  case cntS x y => exact fSlowV_eq h _ k
end Go.Oct
end
/- The interpreter once more, in a form that the kernel evaluates with little labour, part 2: the heap, code, calls. -/
section
set_option linter.unusedVariables false
set_option linter.unusedSimpArgs false
namespace Go.Oct

/-! ### The heap -/
noncomputable def fTget {α : Type} (t : Tr α) (n : Nat) (k : α → Ans) : Ans := @Tr.rec α (fun _ => Nat → (α → Ans) → Ans) (fun _ _ => .no)
  (fun l v r L R n k => bi (Nat.beq n 0) (ob v k) (bi (Nat.beq (Nat.mod n 2) 1) (L (Nat.div n 2) k) (R (Nat.sub (Nat.div n 2) 1) k))) t n k
theorem fTget_eq {α : Type} (t : Tr α) (n : Nat) (k : α → Ans) : fTget t n k = ob (t.get n) k := by
  induction t generalizing n with
  | leaf => rfl
  | node l v r hl hr =>
    show bi (Nat.beq n 0) (ob v k) (bi (Nat.beq (n % 2) 1) (fTget l (n / 2) k) (fTget r (n / 2 - 1) k)) = _
    rw [hl, hr, nbeq_eq, nbeq_eq, bi_dec, bi_dec]
    simp only [Tr.get]
    split
    · rfl
    · split <;> rfl
noncomputable def fTset {α : Type} (f : Nat) (t : Tr α) (n : Nat) (x : α) (k : Tr α → Ans) : Ans := @Nat.rec (fun _ => Tr α → Nat → α → (Tr α → Ans) → Ans) (fun t _ _ k => k t)
  (fun _ I t n x k => @Tr.rec α (fun _ => (Tr α → Nat → α → (Tr α → Ans) → Ans) → Nat → α → (Tr α → Ans) → Ans)
     (fun I n x k => bi (Nat.beq n 0) (k (.node .leaf (some x) .leaf)) (bi (Nat.beq (Nat.mod n 2) 1) (I .leaf (Nat.div n 2) x (fun l => k (.node l none .leaf))) (I .leaf (Nat.sub (Nat.div n 2) 1) x (fun r => k (.node .leaf none r)))))
     (fun l v r _ _ I n x k => bi (Nat.beq n 0) (k (.node l (some x) r)) (bi (Nat.beq (Nat.mod n 2) 1) (I l (Nat.div n 2) x (fun l => k (.node l v r))) (I r (Nat.sub (Nat.div n 2) 1) x (fun r => k (.node l v r)))))
     t I n x k) f t n x k
theorem fTset_eq {α : Type} (f : Nat) (t : Tr α) (n : Nat) (x : α) (k : Tr α → Ans) : fTset f t n x k = k (Tr.setF f t n x) := by
  induction f generalizing t n k with
  | zero => rfl
  | succ f ih =>
    cases t with
    | leaf =>
      show bi (Nat.beq n 0) _ (bi (Nat.beq (n % 2) 1) (fTset f .leaf (n / 2) x (fun l => k (.node l none .leaf))) (fTset f .leaf (n / 2 - 1) x (fun r => k (.node .leaf none r)))) = _
      rw [ih, ih, nbeq_eq, nbeq_eq, bi_dec, bi_dec]
      simp only [Tr.setF]
      split
      · rfl
      · split <;> rfl
    | node l v r =>
      show bi (Nat.beq n 0) _ (bi (Nat.beq (n % 2) 1) (fTset f l (n / 2) x (fun l => k (.node l v r))) (fTset f r (n / 2 - 1) x (fun r => k (.node l v r)))) = _
      rw [ih, ih, nbeq_eq, nbeq_eq, bi_dec, bi_dec]
      simp only [Tr.setF]
      split
      · rfl
      · split <;> rfl
noncomputable def fgetH (σ : AH) (i : Nat) (k : AObj → Ans) : Ans := @AH.rec (fun _ => Nat → (AObj → Ans) → Ans) (fun next _ tab i k => flt (Nat.succ i) next (fTget tab i k)) σ i k
theorem fgetH_eq (σ : AH) (i : Nat) (k : AObj → Ans) : fgetH σ i k = ob (σ.get i) k := by
  show flt (Nat.succ i) σ.next (fTget σ.tab i k) = _
  rw [flt_eq, fTget_eq]
  unfold AH.get
  by_cases h : i < σ.next
  · rw [if_pos h, if_pos (by omega)]
  · rw [if_neg h, if_neg (by omega)]; rfl
noncomputable def onCel (o : AObj) (k : List AV → Ans) : Ans := @AObj.rec (fun _ => (List AV → Ans) → Ans) (fun cs k => k cs) (fun cs k => k cs) (fun _ _ _ => .no) (fun _ _ _ _ _ _ _ => .no) (fun _ => .no) (fun _ _ _ => .no) (fun _ => .no) o k
noncomputable def onOwn (o : AObj) (k : List AV → Ans) : Ans := @AObj.rec (fun _ => (List AV → Ans) → Ans) (fun cs k => k cs) (fun _ _ => .no) (fun _ _ _ => .no) (fun _ _ _ _ _ _ _ => .no) (fun _ => .no) (fun _ _ _ => .no) (fun _ => .no) o k
noncomputable def onDfr (o : AObj) (x : Ans) : Ans := @AObj.rec (fun _ => Ans → Ans) (fun _ _ => .no) (fun _ _ => .no) (fun _ _ _ => .no) (fun _ _ _ _ _ _ _ => .no) (fun x => x) (fun _ _ _ => .no) (fun _ => .no) o x
noncomputable def onLoop (o : AObj) (k : Nat → Nat → Env → LoopState → Option AEx → Nat → Ans) : Ans := @AObj.rec (fun _ => (Nat → Nat → Env → LoopState → Option AEx → Nat → Ans) → Ans) (fun _ _ => .no) (fun _ _ => .no) (fun _ _ _ => .no) (fun f i e s q d k => k f i e s q d) (fun _ => .no) (fun _ _ _ => .no) (fun _ => .no) o k
noncomputable def fcel (σ : AH) (i : Nat) (k : List AV → Ans) : Ans := fgetH σ i (fun o => onCel o k)
theorem fcel_eq (σ : AH) (i : Nat) (k : List AV → Ans) : fcel σ i k = ob (σ.row i) k := by
  unfold fcel AH.row
  rw [fgetH_eq]
  cases σ.get i with
  | none => rfl
  | some o => cases o <;> rfl
noncomputable def flim (σ : AH) (i : Nat) (x : Ans) : Ans := @AH.rec (fun _ => Nat → Ans → Ans) (fun _ lim _ i x => flt lim i x) σ i x
theorem flim_eq (σ : AH) (i : Nat) (x : Ans) : flim σ i x = if σ.lim ≤ i then x else .no := flt_eq _ _ _
noncomputable def fown (σ : AH) (i : Nat) (k : List AV → Ans) : Ans := flim σ i (fgetH σ i (fun o => onOwn o k))
theorem fown_eq (σ : AH) (i : Nat) (k : List AV → Ans) : fown σ i k = ob (σ.own i) k := by
  unfold fown AH.own
  rw [flim_eq, fgetH_eq]
  split
  · cases σ.get i with
    | none => rfl
    | some o => cases o <;> rfl
  · rfl
noncomputable def fsetH (σ : AH) (i : Nat) (o : AObj) (k : AH → Ans) : Ans := @AH.rec (fun _ => Nat → AObj → (AH → Ans) → Ans) (fun next lim tab i o k => fTset (Nat.succ i) tab i o (fun tab => k ⟨next, lim, tab⟩)) σ i o k
theorem fsetH_eq (σ : AH) (i : Nat) (o : AObj) (k : AH → Ans) : fsetH σ i o k = k (σ.set i o) := by
  show fTset (Nat.succ i) σ.tab i o _ = _
  rw [fTset_eq]; rfl
noncomputable def fpushH (σ : AH) (o : AObj) (k : Nat → AH → Ans) : Ans := @AH.rec (fun _ => AObj → (Nat → AH → Ans) → Ans) (fun next lim tab o k => fTset (Nat.succ next) tab next o (fun tab => fN (Nat.succ next) (fun n => k next ⟨n, lim, tab⟩))) σ o k
theorem fpushH_eq (σ : AH) (o : AObj) (k : Nat → AH → Ans) : fpushH σ o k = k σ.next (σ.push o) := by
  show fTset (Nat.succ σ.next) σ.tab σ.next o _ = _
  rw [fTset_eq, fN_eq]; rfl
noncomputable def fnext (σ : AH) (k : Nat → Ans) : Ans := @AH.rec (fun _ => (Nat → Ans) → Ans) (fun next _ _ k => k next) σ k
theorem fnext_eq (σ : AH) (k : Nat → Ans) : fnext σ k = k σ.next := rfl
noncomputable def funder (σ : AH) (m : Nat) (k : AH → Ans) : Ans := @AH.rec (fun _ => Nat → (AH → Ans) → Ans) (fun next _ tab m k => k ⟨next, m, tab⟩) σ m k
theorem funder_eq (σ : AH) (m : Nat) (k : AH → Ans) : funder σ m k = k { σ with lim := m } := rfl
noncomputable def flimK (σ : AH) (k : Nat → Ans) : Ans := @AH.rec (fun _ => (Nat → Ans) → Ans) (fun _ lim _ k => k lim) σ k
theorem flimK_eq (σ : AH) (k : Nat → Ans) : flimK σ k = k σ.lim := rfl

/-! A heap, all of it worked out. -/
noncomputable def fEs (es : List (AV × AV × Nat)) (k : List (AV × AV × Nat) → Ans) : Ans := @List.rec (AV × AV × Nat) (fun _ => (List (AV × AV × Nat) → Ans) → Ans) (fun k => k [])
  (fun p _ I k => @Prod.rec AV (AV × Nat) (fun _ => Ans) (fun x q => @Prod.rec AV Nat (fun _ => Ans) (fun v b => fF x (fun x => fF v (fun v => fN b (fun b => I (fun r => k ((x, v, b) :: r)))))) q) p) es k
theorem fEs_eq : ∀ (es : List (AV × AV × Nat)) (k : List (AV × AV × Nat) → Ans), fEs es k = k es
  | [], k => rfl
  | (x, v, b) :: es, k => by
    show fF x _ = _
    rw [fF_eq, fF_eq, fN_eq]
    exact fEs_eq es _
noncomputable def fObj (o : AObj) (k : AObj → Ans) : Ans := @AObj.rec (fun _ => (AObj → Ans) → Ans) (fun cs k => fFL cs (fun cs => k (.cells cs))) (fun cs k => fFL cs (fun cs => k (.ro cs))) (fun es c k => fEs es (fun es => fN c (fun c => k (.map es c)))) (fun f i e s q d k => k (.loop f i e s q d)) (fun k => k .dfr) (fun s p k => k (.siter s p)) (fun k => k .dead) o k
theorem fObj_eq (o : AObj) (k : AObj → Ans) : fObj o k = k o := by
  cases o
  case cells cs => exact fFL_eq cs _
  case ro cs => exact fFL_eq cs _
  case map es c =>
    show fEs es _ = _
    rw [fEs_eq, fN_eq]
  all_goals rfl
noncomputable def fOObj (v : Option AObj) (k : Option AObj → Ans) : Ans := @Option.rec AObj (fun _ => (Option AObj → Ans) → Ans) (fun k => k none) (fun o k => fObj o (fun o => k (some o))) v k
theorem fOObj_eq (v : Option AObj) (k : Option AObj → Ans) : fOObj v k = k v := by
  cases v with
  | none => rfl
  | some o => exact fObj_eq o _
noncomputable def fTr (t : Tr AObj) (k : Tr AObj → Ans) : Ans := @Tr.rec AObj (fun _ => (Tr AObj → Ans) → Ans) (fun k => k .leaf) (fun l v r L R k => L (fun l => R (fun r => fOObj v (fun v => k (.node l v r))))) t k
theorem fTr_eq (t : Tr AObj) (k : Tr AObj → Ans) : fTr t k = k t := by
  induction t generalizing k with
  | leaf => rfl
  | node l v r hl hr =>
    show fTr l (fun l => fTr r (fun r => fOObj v (fun v => k (.node l v r)))) = _
    rw [hl, hr, fOObj_eq]
noncomputable def fH (σ : AH) (k : AH → Ans) : Ans := @AH.rec (fun _ => (AH → Ans) → Ans) (fun next lim tab k => fN next (fun next => fN lim (fun lim => fTr tab (fun tab => k ⟨next, lim, tab⟩)))) σ k
theorem fH_eq (σ : AH) (k : AH → Ans) : fH σ k = k σ := by
  show fN σ.next _ = _
  rw [fN_eq, fN_eq, fTr_eq]
noncomputable def fF2 (k : AV → AH → Ans) (v : AV) (σ : AH) : Ans := fF v (fun v => fH σ (fun σ => k v σ))
theorem fF2_eq (k : AV → AH → Ans) : fF2 k = k := by
  funext v σ
  unfold fF2
  rw [fF_eq, fH_eq]

/-! ### Operations on the heap -/
noncomputable def fload (agg : Bool) (n : Nat) (cs : List AV) (o : Nat) (k : AV → Ans) : Ans := bi agg (flt (Nat.add o n) (flen cs) (fpart true n cs o k)) (bi (Nat.beq n 1) (fnthB cs o k) (flt (Nat.add o n) (flen cs) (fnthB cs o k)))
theorem fload_eq (agg : Bool) (n : Nat) (cs : List AV) (o : Nat) (k : AV → Ans) : fload agg n cs o k = ob (if o + n ≤ cs.length then partV agg n cs o else none) k := by
  unfold fload
  cases agg
  · rw [bi_false, nbeq_eq, bi_dec, flt_eq, fnthB_eq, flen_eq]
    split
    · rename_i h
      subst h
      split
      · rfl
      · rename_i h
        rw [List.getElem?_eq_none (by omega)]
    · show (if o + n ≤ cs.length then _ else _) = _
      split <;> rfl
  · rw [bi_true, flt_eq, fpart_eq, flen_eq]
    show (if o + n ≤ cs.length then _ else _) = _
    split <;> rfl
noncomputable def fstore (σ : AH) (i : Nat) (cs : List AV) (o n : Nat) (x : AV) (k : AV → AH → Ans) : Ans :=
  onCells x (fun xs => feqn (flen xs) n (flt (Nat.add o n) (flen cs) (bi (fall isOne xs) (fputs xs cs o (fun cs => fsetH σ i (.cells cs) (fun σ => k .undef σ))) .no)))
    (bi (isOne x) (feqn 1 n (flt (Nat.add o n) (flen cs) (fset cs o x (fun cs => fsetH σ i (.cells cs) (fun σ => k .undef σ))))) .no) .no
theorem isOne_fun : isOne = AV.one := funext isOne_eq
theorem fstore_eq (σ : AH) (i : Nat) (cs : List AV) (o n : Nat) (x : AV) (k : AV → AH → Ans) :
    fstore σ i cs o n x k = ob2 (if x.dfd = true ∧ x.cells.length = n ∧ o + n ≤ cs.length ∧ x.cells.all AV.one = true then some (.undef, σ.set i (.cells (putCells cs o x.cells))) else none) k := by
  have one : ∀ x : AV, fstore σ i cs o n x k = (bi (isOne x) (feqn 1 n (flt (Nat.add o n) (flen cs) (fset cs o x (fun cs => fsetH σ i (.cells cs) (fun σ => k .undef σ))))) .no) → x.dfd = true → x.cells = [x] →
      fstore σ i cs o n x k = ob2 (if x.dfd = true ∧ x.cells.length = n ∧ o + n ≤ cs.length ∧ x.cells.all AV.one = true then some (.undef, σ.set i (.cells (putCells cs o x.cells))) else none) k := by
    intro x h0 h h1
    rw [h0, isOne_eq, feqn_eq, flt_eq, flen_eq, fset_eq, fsetH_eq, h1]
    show bi x.one (if 1 = n then if o + n ≤ cs.length then _ else _ else _) _ = _
    by_cases h2 : 1 = n <;> by_cases h3 : o + n ≤ cs.length <;> cases h4 : x.one <;> simp [h, h2, h3, h4, putCells]
  cases x
  case agg xs =>
    show feqn (flen xs) n (flt (Nat.add o n) (flen cs) (bi (fall isOne xs) (fputs xs cs o (fun cs => fsetH σ i (.cells cs) (fun σ => k .undef σ))) .no)) = _
    rw [feqn_eq, flt_eq, flen_eq, flen_eq, fputs_eq, fsetH_eq, fall_eq, isOne_fun]
    show (if xs.length = n then if o + n ≤ cs.length then _ else _ else _) = _
    by_cases h2 : xs.length = n <;> by_cases h3 : o + n ≤ cs.length <;> cases h4 : xs.all AV.one <;> simp [AV.dfd, AV.cells, h2, h3, h4]
  case undef => simp [fstore, onCells, AV.dfd]
  all_goals exact one _ rfl rfl rfl
noncomputable def fSlowH (e : FEnv) (σ : AH) (o : HOp) (k : AV → AH → Ans) : Ans := ob2 (ahop (Opd.ev e.env) σ o) (fF2 k)
theorem fSlowH_eq {e : FEnv} {env : Env} (h : FEq e env) (σ : AH) (o : HOp) (k : AV → AH → Ans) : fSlowH e σ o k = ob2 (ahop (Opd.ev env) σ o) k := by
  unfold fSlowH; rw [fF2_eq, h.evs]
/-! Maps. -/
noncomputable def ffind (agg : Bool) (sh : List Leaf) (x : AV) (es : List (AV × AV × Nat)) (kf : AV → Ans) (kn : Ans) : Ans := @List.rec (AV × AV × Nat) (fun _ => Ans) kn
  (fun e _ I => @Prod.rec AV (AV × Nat) (fun _ => Ans) (fun y q => @Prod.rec AV Nat (fun _ => Ans) (fun v _ => ob (keyEq agg sh x y) (fun r => bi r (kf v) I)) q) e) es
theorem ffind_eq (agg : Bool) (sh : List Leaf) (x : AV) (kf : AV → Ans) (kn : Ans) : ∀ (es : List (AV × AV × Nat)) (i : Nat), ffind agg sh x es kf kn = ob (findE agg sh x es i) (fun r => match r with | some (_, v, _) => kf v | none => kn)
  | [], i => rfl
  | (y, v, b) :: es, i => by
    show ob (keyEq agg sh x y) (fun r => bi r (kf v) (ffind agg sh x es kf kn)) = _
    rw [ffind_eq agg sh x kf kn es (i + 1)]
    simp only [findE]
    rcases keyEq agg sh x y with _ | r
    · rfl
    · cases r <;> rfl
noncomputable def onMapO (o : AObj) (k : List (AV × AV × Nat) → Ans) : Ans := @AObj.rec (fun _ => (List (AV × AV × Nat) → Ans) → Ans) (fun _ _ => .no) (fun _ _ => .no) (fun es _ k => k es) (fun _ _ _ _ _ _ _ => .no) (fun _ => .no) (fun _ _ _ => .no) (fun _ => .no) o k
noncomputable def flookup (agg : Bool) (sh : List Leaf) (zero : AV) (ok : Bool) (σ : AH) (x : AV) (i : Nat) (k : AV → AH → Ans) : Ans :=
  fgetH σ i (fun o => onMapO o (fun es => ob (keyEq agg sh x x) (fun _ => ffind agg sh x es (fun v => bi ok (k (.tuple [v, .bool true]) σ) (k v σ)) (bi ok (k (.tuple [zero, .bool false]) σ) (k zero σ)))))
theorem flookup_eq (agg : Bool) (sh : List Leaf) (zero : AV) (ok : Bool) (σ : AH) (x : AV) (i : Nat) (k : AV → AH → Ans) : flookup agg sh zero ok σ x i k = ob2 (match σ.get i with
      | some (.map es _) => match keyEq agg sh x x, findE agg sh x es 0 with
        | some _, some (some (_, v, _)) => some (if ok then .tuple [v, .bool true] else v, σ)
        | some _, some none => some (if ok then .tuple [zero, .bool false] else zero, σ)
        | _, _ => none
      | _ => none) k := by
  unfold flookup
  rw [fgetH_eq]
  cases σ.get i with
  | none => rfl
  | some o =>
    cases o
    case map es c =>
      show ob (keyEq agg sh x x) (fun _ => ffind agg sh x es _ _) = _
      rw [ffind_eq agg sh x _ _ es 0]
      simp only
      rcases keyEq agg sh x x with _ | r
      · rfl
      · rcases findE agg sh x es 0 with _ | _ | ⟨j, v, b⟩
        · rfl
        · cases ok <;> rfl
        · cases ok <;> rfl
    all_goals rfl
/-- An operation that only reads the heap. -/
noncomputable def fSlowR (e : FEnv) (σ : AH) (o : HOp) (k : AV → AH → Ans) : Ans := ob2 (ahop (Opd.ev e.env) σ o) (fun v _ => fF v (fun v => k v σ))
theorem rd_lookup {ρ : Opd → AV} {σ σ' : AH} {v : AV} {g : Bool} {sh : List Leaf} {z : AV} {ok : Bool} {m x : Opd} (h : ahop ρ σ (.lookup g sh z ok m x) = some (v, σ')) : σ' = σ := by
  simp only [ahop] at h
  repeat' split at h
  all_goals first | (cases h; done) | (cases h; rfl)
theorem rd_lenM {ρ : Opd → AV} {σ σ' : AH} {v : AV} {m : Opd} (h : ahop ρ σ (.lenM m) = some (v, σ')) : σ' = σ := by
  simp only [ahop] at h
  repeat' split at h
  all_goals first | (cases h; done) | (cases h; rfl)
theorem rd_cap {ρ : Opd → AV} {σ σ' : AH} {v : AV} {m : Opd} (h : ahop ρ σ (.cap m) = some (v, σ')) : σ' = σ := by
  simp only [ahop] at h
  repeat' split at h
  all_goals first | (cases h; done) | (cases h; rfl)
theorem fSlowR_eq {e : FEnv} {env : Env} (h : FEq e env) (σ : AH) (o : HOp) (k : AV → AH → Ans) (hr : ∀ {v σ'}, ahop (Opd.ev env) σ o = some (v, σ') → σ' = σ) : fSlowR e σ o k = ob2 (ahop (Opd.ev env) σ o) k := by
  unfold fSlowR
  rw [h.evs]
  cases hq : ahop (Opd.ev env) σ o with
  | none => rfl
  | some r =>
    obtain ⟨v, σ'⟩ := r
    show fF v (fun v => k v σ) = k v σ'
    rw [fF_eq, hr hq]
noncomputable def onMp (v : AV) (k : Nat → Ans) (n : Ans) : Ans := (@AV.rec (fun _ => (Nat → Ans) → Ans → Ans) (fun _ => Unit) (fun _ n => n) (fun _ _ => fun _ n => n) (fun _ => fun _ n => n) (fun _ => fun _ n => n) (fun _ => fun _ n => n) (fun _ _ _ => fun _ n => n) (fun r => fun k n => @Option.rec Nat (fun _ => Ans) n (fun i => k i) r) (fun _ _ _ _ _ => fun _ n => n) (fun _ n => n) (fun _ _ _ => fun _ n => n) (fun _ n => n) (fun _ _ => fun _ n => n) (fun _ _ => fun _ n => n) (fun _ _ _ => fun _ n => n) (fun _ _ _ => fun _ n => n) (fun _ _ _ => fun _ n => n) () (fun _ _ _ _ => ())) v k n
theorem onMp_eq (v : AV) (k : Nat → Ans) (n : Ans) : onMp v k n = match v with | .map (some i) => k i | _ => n := by
  cases v
  case map r => cases r <;> rfl
  all_goals rfl
noncomputable def fz (zero : List AV) (n : Nat) (k : List AV → Ans) : Ans := @List.rec AV (fun _ => Ans) (fFL (zcells zero n) k) (fun v r _ => @List.rec AV (fun _ => Ans) (frep n v k) (fun _ _ _ => fFL (zcells zero n) k) r) zero
theorem fz_eq (zero : List AV) (n : Nat) (k : List AV → Ans) : fz zero n k = k (zcells zero n) := by
  cases zero with
  | nil => exact fFL_eq _ _
  | cons v r =>
    cases r with
    | nil => exact frep_eq n v k
    | cons u s => exact fFL_eq _ _
noncomputable def fmk (bytes : Nat) (zero : List AV) (σ : AH) (k : AV → AH → Ans) (l c : Int) : Ans := @Int.rec (fun _ => Int → Ans) (fun l c => @Int.rec (fun _ => Ans) (fun c => flt l c (flt (Nat.mul c bytes) topBytes (flt c topBytes (fz zero c (fun cs => fpushH σ (.cells cs) (fun n σ => k (.slice (some (n, 0)) l (.ex c)) σ)))))) (fun _ => .no) c) (fun _ _ => .no) l c
theorem fmk_eq (bytes : Nat) (zero : List AV) (σ : AH) (k : AV → AH → Ans) (l c : Int) : fmk bytes zero σ k l c = ob2 (if 0 ≤ l ∧ l ≤ c ∧ c * bytes ≤ topBytes ∧ c ≤ topBytes then
        some (.slice (some (σ.next, 0)) l.toNat (.ex c.toNat), σ.push (.cells (zcells zero c.toNat))) else none) k := by
  cases l with
  | negSucc l => rw [if_neg (fun h => absurd h.1 (by omega))]; rfl
  | ofNat l =>
    cases c with
    | negSucc c => rw [if_neg (fun h => absurd (Int.le_trans h.1 h.2.1) (by omega))]; rfl
    | ofNat c =>
      show flt l c (flt (Nat.mul c bytes) topBytes (flt c topBytes _)) = _
      rw [flt_eq, flt_eq, flt_eq, fz_eq, fpushH_eq]
      simp only [Int.ofNat_eq_natCast, Int.toNat_natCast]
      have e1 : ((c : Int) * (bytes : Int) ≤ (topBytes : Int)) ↔ Nat.mul c bytes ≤ topBytes := by show _ ↔ c * bytes ≤ topBytes; rw [← Int.natCast_mul]; exact Int.ofNat_le
      by_cases h1 : l ≤ c
      · by_cases h2 : Nat.mul c bytes ≤ topBytes
        · by_cases h3 : c ≤ topBytes
          · rw [if_pos h1, if_pos h2, if_pos h3, if_pos ⟨Int.natCast_nonneg l, Int.ofNat_le.2 h1, e1.2 h2, Int.ofNat_le.2 h3⟩]; rfl
          · rw [if_pos h1, if_pos h2, if_neg h3, if_neg (fun h => h3 (Int.ofNat_le.1 h.2.2.2))]; rfl
        · rw [if_pos h1, if_neg h2, if_neg (fun h => h2 (e1.1 h.2.2.1))]; rfl
      · rw [if_neg h1, if_neg (fun h => h1 (Int.ofNat_le.1 h.2.1))]; rfl
noncomputable def fcellsAt (σ : AH) (n : Nat) (a : Option (Nat × Nat)) (k : List AV → Ans) : Ans := onOA a (fun i o => fcel σ i (fun cs => flt (Nat.add o n) (flen cs) (fdrop o cs (fun cs => ftake n cs k)))) (feqn n 0 (k []))
theorem fcellsAt_eq (σ : AH) (n : Nat) (a : Option (Nat × Nat)) (k : List AV → Ans) : fcellsAt σ n a k = ob (cellsAt σ n a) k := by
  cases a with
  | none =>
    show feqn n 0 _ = _
    rw [feqn_eq]
    simp only [cellsAt]
    split <;> rfl
  | some p =>
    obtain ⟨i, o⟩ := p
    show fcel σ i _ = _
    rw [fcel_eq]
    simp only [cellsAt]
    cases σ.row i with
    | none => rfl
    | some cs =>
      simp only [ob_some]
      rw [flt_eq, fdrop_eq, ftake_eq, flen_eq]
      show (if o + n ≤ cs.length then _ else _) = _
      split <;> rfl
/-- Behind a slice, where there is no room: all copied. -/
noncomputable def fcopied (z bytes : Nat) (a : Option (Nat × Nat)) (len m : Nat) (new : List AV) (σ : AH) (k : AV → AH → Ans) : Ans :=
  flt (Nat.mul m bytes) topBytes (bi (fall isOne new) (fcellsAt σ (Nat.mul len z) a (fun old => fapp old new (fun cs => fpushH σ (.cells cs) (fun j σ => k (.slice (some (j, 0)) m (.op z)) σ)))) .no)
theorem fcopied_eq (z bytes : Nat) (a : Option (Nat × Nat)) (len m : Nat) (new : List AV) (σ : AH) (k : AV → AH → Ans) :
    fcopied z bytes a len m new σ k = ob2 (if m * bytes ≤ topBytes ∧ new.all AV.one then
        match cellsAt σ (len * z) a with
        | some old => some (.slice (some (σ.next, 0)) m (.op z), σ.push (.cells (old ++ new)))
        | none => none else none) k := by
  unfold fcopied
  rw [flt_eq, fall_eq, isOne_fun, fcellsAt_eq]
  show (if m * bytes ≤ topBytes then bi _ (ob (cellsAt σ (len * z) a) _) _ else _) = _
  by_cases h1 : m * bytes ≤ topBytes <;> cases h2 : new.all AV.one <;> simp only [h1, if_true, if_false, bi_true, bi_false, true_and, false_and, and_true, and_false, Bool.false_eq_true] <;> try rfl
  cases cellsAt σ (len * z) a with
  | none => rfl
  | some old => simp only [ob_some, fapp_eq, fpushH_eq, ob2_some]
noncomputable def fgrow (z bytes : Nat) (a : Option (Nat × Nat)) (len : Nat) (cap : ACap) (n : Nat) (new : List AV) (σ : AH) (k : AV → AH → Ans) : Ans :=
  fN (Nat.add len n) (fun m => @ACap.rec (fun _ => Ans)
    (fun c => bi (Nat.ble m c) (onOA a (fun i o => fown σ i (fun cs => flt (Nat.add o (Nat.mul m z)) (flen cs) (bi (fall isOne new) (fN (Nat.add o (Nat.mul len z)) (fun o => fputs new cs o (fun cs => fsetH σ i (.cells cs) (fun σ => k (.slice a m cap) σ)))) .no))) .no) (fcopied z bytes a len m new σ k))
    (fun z' => feqn z z' (onOA a (fun i o => fown σ i (fun cs => bi (Nat.ble (Nat.add o (Nat.mul m z)) (flen cs)) (bi (fall isOne new) (fN (Nat.add o (Nat.mul len z)) (fun o => fputs new cs o (fun cs => fsetH σ i (.cells cs) (fun σ => k (.slice a m cap) σ)))) .no) (fcopied z bytes a len m new σ (fun v σ => fsetH σ i .dead (fun σ => k v σ))))) .no)) cap)
theorem fgrow_eq (z bytes : Nat) (a : Option (Nat × Nat)) (len : Nat) (cap : ACap) (n : Nat) (new : List AV) (σ : AH) (k : AV → AH → Ans) : fgrow z bytes a len cap n new σ k = ob2 (agrow z bytes a len cap n new σ) k := by
  unfold fgrow agrow
  rw [fN_eq]
  cases cap with
  | ex c =>
    show bi (Nat.ble (len + n) c) _ _ = _
    rw [nble_eq, bi_dec, fcopied_eq]
    simp only
    by_cases h : len + n ≤ c
    · rw [if_pos h, if_pos h]
      cases a with
      | none => rfl
      | some p =>
        obtain ⟨i, o⟩ := p
        show fown σ i _ = _
        rw [fown_eq]
        simp only
        cases σ.own i with
        | none => rfl
        | some cs =>
          simp only [ob_some]
          rw [flt_eq, flen_eq, fall_eq, isOne_fun, fN_eq, fputs_eq, fsetH_eq]
          show (if o + (len + n) * z ≤ cs.length then _ else _) = _
          by_cases h1 : o + (len + n) * z ≤ cs.length <;> cases h2 : new.all AV.one <;> simp [h1] <;> rfl
    · rw [if_neg h, if_neg h]; rfl
  | op z' =>
    show feqn z z' _ = _
    rw [feqn_eq]
    simp only
    by_cases h : z = z'
    · rw [if_pos h, if_pos h]
      cases a with
      | none => rfl
      | some p =>
        obtain ⟨i, o⟩ := p
        show fown σ i _ = _
        rw [fown_eq]
        simp only
        cases σ.own i with
        | none => rfl
        | some cs =>
          simp only [ob_some]
          rw [nble_eq, bi_dec, flen_eq, fall_eq, isOne_fun, fN_eq, fputs_eq, fsetH_eq, fcopied_eq]
          show (if o + (len + n) * z ≤ cs.length then _ else _) = _
          by_cases h1 : o + (len + n) * z ≤ cs.length
          · rw [if_pos h1, if_pos h1]
            cases h2 : new.all AV.one <;> simp <;> rfl
          · rw [if_neg h1, if_neg h1]
            simp only [fsetH_eq]
            generalize (if (len + n) * bytes ≤ topBytes ∧ new.all AV.one = true then
              match cellsAt σ (len * z) (some (i, o)) with
              | some old => some (AV.slice (some (σ.next, 0)) (len + n) (.op z), σ.push (.cells (old ++ new)))
              | none => none
              else none : Option (AV × AH)) = q
            cases q with
            | none => rfl
            | some r => rfl
    · rw [if_neg h, if_neg h]; rfl
noncomputable def onTs (v : AV) (kt : Nat → Ans) (d : Ans) : Ans := (@AV.rec (fun _ => Ans) (fun _ => Unit) (d) (fun _ _ => d) (fun _ => d) (fun _ => d) (fun _ => d) (fun _ _ _ => d) (fun _ => d) (fun _ _ _ _ _ => d) (d) (fun _ _ _ => d) (d) (fun _ _ => d) (fun _ _ => d) (fun _ _ _ => d) (fun _ _ _ => d) (fun n cs _ => kt n) () (fun _ _ _ _ => ())) v
noncomputable def fApp2 (z bytes : Nat) (s : AV) (a : Option (Nat × Nat)) (len : Nat) (cap : ACap) (x : AV) (σ : AH) (k : AV → AH → Ans) : Ans := onSl x
  (fun b n _ => bi (Nat.beq n 0) (k s σ) (fcellsAt σ (Nat.mul n z) b (fun new => fgrow z bytes a len cap n new σ k)))
  (fun _ es => fN (flen es) (fun n => bi (Nat.beq n 0) (k s σ) (ob (srcOf σ z n x) (fun new => fFL new (fun new => fgrow z bytes a len cap n new σ k)))))
  (onTs x (fun n => bi (Nat.beq n 0) (k s σ) (ob (srcOf σ z n x) (fun new => fFL new (fun new => fgrow z bytes a len cap n new σ k)))) .no)
noncomputable def fApp (z bytes : Nat) (s x : AV) (σ : AH) (k : AV → AH → Ans) : Ans := onSl s (fun a len cap => fApp2 z bytes s a len cap x σ k) (fun nl _ => bi nl (fApp2 z bytes s none 0 (.ex 0) x σ k) .no) .no
theorem fApp_eq (z bytes : Nat) (s x : AV) (σ : AH) (k : AV → AH → Ans) : fApp z bytes s x σ k = ob2 (aappend z bytes s x σ) k := by
  have h2 : ∀ a len cap, dstOf s = some (a, len, cap) → fApp2 z bytes s a len cap x σ k = ob2 (aappend z bytes s x σ) k := by
    intro a len cap hd
    unfold fApp2 aappend
    rw [hd]
    cases x
    case slice b n c =>
      show bi (Nat.beq n 0) _ _ = _
      rw [nbeq_eq, bi_dec, fcellsAt_eq]
      simp only [lenOf]
      split
      · rfl
      · show ob (cellsAt σ (n * z) b) _ = _
        simp only [srcOf]
        cases cellsAt σ (n * z) b with
        | none => rfl
        | some new => exact fgrow_eq ..
    case vsl nl es =>
      show fN (flen es) _ = _
      rw [fN_eq, flen_eq, nbeq_eq, bi_dec]
      simp only [lenOf]
      split
      · rfl
      · cases srcOf σ z es.length (.vsl nl es) with
        | none => rfl
        | some new => simp only [ob_some]; rw [fFL_eq]; exact fgrow_eq ..
    case tsl n cs =>
      show bi (Nat.beq n 0) _ _ = _
      rw [nbeq_eq, bi_dec]
      simp only [lenOf]
      split
      · rfl
      · cases srcOf σ z n (.tsl n cs) with
        | none => rfl
        | some new => simp only [ob_some]; rw [fFL_eq]; exact fgrow_eq ..
    all_goals rfl
  cases s
  case slice a len cap => exact h2 a len cap rfl
  case vsl nl es =>
    cases nl
    · rfl
    · exact h2 none 0 (.ex 0) rfl
  all_goals rfl
noncomputable def fhop (o : HOp) (e : FEnv) (σ : AH) (k : AV → AH → Ans) : Ans := @HOp.rec (fun _ => FEnv → AH → (AV → AH → Ans) → Ans)
  (fun cs e σ k => fFL cs (fun cs => fpushH σ (.cells cs) (fun n σ => k (.ptr (some (n, 0))) σ)))
  (fun x e σ k => fev e x (fun v => onCells v (fun cs => fpushH σ (.cells cs) (fun n σ => k (.ptr (some (n, 0))) σ)) (fpushH σ (.cells [v]) (fun n σ => k (.ptr (some (n, 0))) σ)) .no))
  (fun _ len zero ps e σ k => ffill ps e zero (fun cs => fpushH σ (.cells cs) (fun n σ => k (.slice (some (n, 0)) len (.ex len)) σ)))
  (fun _ len zero ps e σ k => ffill ps e zero (fun cs => k (.tsl len cs) σ))
  (fun agg n a e σ k => fev e a (fun v => onAddr v (fun i o => fcel σ i (fun cs => fload agg n cs o (fun v => k v σ))) (fun cs o => fload agg n cs o (fun v => k v σ)) .no))
  (fun n a x e σ k => fev e a (fun v => fev e x (fun x => onAddr v (fun i o => fown σ i (fun cs => fstore σ i cs o n x k)) (fun _ _ => .no) .no)))
  (fun e σ k => fpushH σ (.map [] 0) (fun n σ => k (.map (some n)) σ))
  (fun bytes zero l c e σ k => fev e l (fun l => fev e c (fun c => onInt l (fun _ l => onInt c (fun _ c => fmk bytes zero σ k l c) .no) .no)))
  (fun z bytes s x e σ k => fev e s (fun s => fev e x (fun x => fApp z bytes s x σ k)))
  (fun bytes zero s n e σ k => fSlowH e σ (.appendZ bytes zero s n) k)
  (fun z d s e σ k => fSlowH e σ (.copy z d s) k)
  (fun agg sh zero ok m x e σ k => fev e m (fun u => fev e x (fun y => onMp u (fun i => flookup agg sh zero ok σ y i k) (fSlowR e σ (.lookup agg sh zero ok m x) k))))
  (fun agg sh m x v e σ k => fSlowH e σ (.mapUpd agg sh m x v) k)
  (fun agg sh zero m x e σ k => fSlowH e σ (.mapEntry agg sh zero m x) k)
  (fun m s v e σ k => fSlowH e σ (.entryStore m s v) k)
  (fun m e σ k => fSlowR e σ (.lenM m) k)
  (fun s e σ k => fSlowR e σ (.cap s) k)
  (fun x e σ k => fSlowH e σ (.s2b x) k) (fun _ _ _ _ => .no)
  (fun x e σ k => fSlowH e σ (.b2s x) k) o e σ k
theorem fhop_eq {e : FEnv} {env : Env} (h : FEq e env) (o : HOp) (σ : AH) (k : AV → AH → Ans) : fhop o e σ k = ob2 (ahop (Opd.ev env) σ o) k := by
  cases o
  case alloc cs =>
    show fFL cs _ = _
    rw [fFL_eq]
    exact fpushH_eq σ (.cells cs) (fun n σ => k (.ptr (some (n, 0))) σ)
  case box x =>
    show fev e x _ = _
    rw [fev_eq h]
    simp only [ahop]
    generalize Opd.ev env x = u
    cases u
    case undef => rfl
    all_goals
      show fpushH σ _ (fun n σ => k (.ptr (some (n, 0))) σ) = _
      rw [fpushH_eq]; rfl
  case bslice z len zero ps =>
    show ffill ps e zero _ = _
    rw [ffill_eq h]
    simp only [ahop]
    cases afill (Opd.ev env) zero ps with
    | none => rfl
    | some cs => exact fpushH_eq σ (.cells cs) (fun n σ => k (.slice (some (n, 0)) len (.ex len)) σ)
  case tslice z len zero ps =>
    show ffill ps e zero _ = _
    rw [ffill_eq h]
    simp only [ahop]
    cases afill (Opd.ev env) zero ps <;> rfl
  case load agg n a =>
    show fev e a _ = _
    rw [fev_eq h]
    simp only [ahop]
    generalize Opd.ev env a = u
    cases u
    case ptr q =>
      cases q with
      | none => rfl
      | some p =>
        obtain ⟨i, o⟩ := p
        show fcel σ i _ = _
        rw [fcel_eq]
        simp only
        cases σ.row i with
        | none => rfl
        | some cs =>
          simp only [ob_some]
          rw [fload_eq]
          split
          · cases partV agg n cs o <;> rfl
          · rfl
    case vptr cs o =>
      show fload agg n cs o _ = _
      rw [fload_eq]
      simp only
      split
      · cases partV agg n cs o <;> rfl
      · rfl
    all_goals rfl
  case store n a x =>
    show fev e a _ = _
    rw [fev_eq h, fev_eq h]
    simp only [ahop]
    generalize Opd.ev env a = u
    cases u
    case ptr q =>
      cases q with
      | none => rfl
      | some p =>
        obtain ⟨i, o⟩ := p
        show fown σ i _ = _
        rw [fown_eq]
        simp only
        cases σ.own i with
        | none => rfl
        | some cs => exact fstore_eq ..
    all_goals rfl
  case mkMap => exact fpushH_eq σ (.map [] 0) (fun n σ => k (.map (some n)) σ)
  case mkSlice bytes zero l c =>
    show fev e l _ = _
    rw [fev_eq h, fev_eq h]
    simp only [ahop]
    generalize Opd.ev env l = u
    generalize Opd.ev env c = v
    cases u
    case int q l =>
      cases v
      case int r c => exact fmk_eq ..
      all_goals rfl
    all_goals rfl
  case append z bytes s x =>
    show fev e s _ = _
    rw [fev_eq h, fev_eq h]
    exact fApp_eq ..
  case nextS x => rfl
  case lookup agg sh zero ok m x =>
    show fev e m _ = _
    rw [fev_eq h, fev_eq h, onMp_eq]
    split
    · rename_i i hm
      rw [flookup_eq]
      simp only [ahop, hm]
      rfl
    · exact fSlowR_eq h _ _ _ fun e => rd_lookup e
  case lenM m => exact fSlowR_eq h _ _ _ fun e => rd_lenM e
  case cap m => exact fSlowR_eq h _ _ _ fun e => rd_cap e
  all_goals exact fSlowH_eq h _ _ _

/-! ### Calls -/
abbrev FCaller := Tgt → List AV → AH → (AV → AH → Ans) → Ans
def FOK (C : Caller) (F : FCaller) : Prop := ∀ t args σ k, F t args σ k = ob2 (C t args σ) k
noncomputable def fapp3 (xs vs ys : List AV) (k : List AV → Ans) : Ans := fapp xs vs (fun l => @List.rec AV (fun _ => Ans) (k l) (fun _ _ _ => fapp l ys k) ys)
theorem fapp3_eq (xs vs ys : List AV) (k : List AV → Ans) : fapp3 xs vs ys k = k (xs ++ vs ++ ys) := by
  unfold fapp3
  rw [fapp_eq]
  cases ys with
  | nil => simp
  | cons y ys => exact fapp_eq ..
noncomputable def fTarget (v : AV) (kf : Nat → List AV → List AV → Ans) (ky : Nat → List AV → List AV → Ans) : Ans := onFunc v (fun f xs ys => @Go.Fn.rec (fun _ => Ans) (fun g => kf g xs ys) (fun _ => .no) (fun _ _ => .no) (fun _ _ _ _ => .no) (fun l => ky l xs ys) f) .no
theorem fTarget_eq (v : AV) (kf ky : Nat → List AV → List AV → Ans) : fTarget v kf ky = ob (target v) (fun r => match r with | (.fn g, xs, ys) => kf g xs ys | (.yield l, xs, ys) => ky l xs ys) := by
  cases v
  case func f xs ys => cases f <;> rfl
  all_goals rfl
noncomputable def onIface (v : AV) (k : Nat → AV → Ans) : Ans := (@AV.rec (fun _ => (Nat → AV → Ans) → Ans) (fun _ => Unit) (fun _ => .no) (fun _ _ => fun _ => .no) (fun _ => fun _ => .no) (fun _ => fun _ => .no) (fun _ => fun _ => .no) (fun _ _ _ => fun _ => .no) (fun _ => fun _ => .no) (fun _ _ _ _ _ => fun _ => .no) (fun _ => .no) (fun t v _ => fun k => k t v) (fun _ => .no) (fun _ _ => fun _ => .no) (fun _ _ => fun _ => .no) (fun _ _ _ => fun _ => .no) (fun _ _ _ => fun _ => .no) (fun _ _ _ => fun _ => .no) () (fun _ _ _ _ => ())) v k
noncomputable def fop (p : AProg) (F : FCaller) (o : AOp) (e : FEnv) (σ : AH) (k : AV → AH → Ans) : Ans := @AOp.rec (fun _ => FEnv → AH → (AV → AH → Ans) → Ans)
  (fun o e σ k => favop p o e (fun v => k v σ))
  (fun o e σ k => fhop o e σ k)
  (fun f args e σ k => fev e f (fun f => fTarget f (fun g xs ys => fevs e args (fun vs => fapp3 xs vs ys (fun as => F (.fn g) as σ k))) (fun l xs _ => fevs e args (fun vs => fapp xs vs (fun as => F (.yield l) as σ k)))))
  (fun name recv args e σ k => fev e recv (fun r => onIface r (fun t v => ob (p.meth t name) (fun f => fevs e args (fun vs => F (.fn f) (v :: vs) σ k)))))
  (fun _ _ _ => .no) o e σ k
theorem fop_eq {p : AProg} {C : Caller} {F : FCaller} (hF : FOK C F) {e : FEnv} {env : Env} (h : FEq e env) (o : AOp) (σ : AH) (k : AV → AH → Ans) : fop p F o e σ k = ob2 (aop p C (Opd.ev env) σ o) k := by
  cases o
  case v o =>
    show favop p o e _ = _
    rw [favop_eq h]
    simp only [aop]
    cases avopM p (Opd.ev env) o <;> rfl
  case h o => exact fhop_eq h o σ k
  case call f args =>
    show fev e f _ = _
    rw [fev_eq h, fTarget_eq]
    simp only [aop]
    cases target (Opd.ev env f) with
    | none => rfl
    | some r =>
      obtain ⟨t, xs, ys⟩ := r
      cases t with
      | fn g =>
        show fevs e args _ = _
        rw [fevs_eq h, fapp3_eq, hF]
      | yield l =>
        show fevs e args _ = _
        rw [fevs_eq h, fapp_eq, hF]
  case invoke name recv args =>
    show fev e recv _ = _
    rw [fev_eq h]
    simp only [aop]
    generalize Opd.ev env recv = u
    cases u
    case iface t v =>
      show ob (p.meth t name) _ = _
      simp only
      cases p.meth t name with
      | none => rfl
      | some f =>
        simp only [ob_some]
        rw [fevs_eq h, hF]
    all_goals rfl
  case fail => rfl

/-! ### Regions -/
noncomputable def fdst (d : Option Nat) (v : AV) (e : FEnv) (k : FEnv → Ans) : Ans := @Option.rec Nat (fun _ => Ans) (k e) (fun d => k (.cons d v e)) d
theorem FEq.put {e : FEnv} {env : Env} (h : FEq e env) (d : Nat) (v : AV) : FEq (.cons d v e) (env.set d v) := by
  intro t
  by_cases ht : d = t
  · subst ht; simp [FEnv.get, Env.get_set_same]
  · simp [FEnv.get, ht, Env.get_set_other, Ne.symm ht, h t]
noncomputable def fguard (w : Bool) (v : AV) (y n : Ans) : Ans := (@AV.rec (fun _ => Bool → Ans → Ans → Ans) (fun _ => Unit) (fun _ _ _ => .no) (fun _ _ => fun _ _ n => n) (fun b => fun w y n => bi w (bi b y n) (bi b n y)) (fun _ => fun _ _ n => n) (fun _ => fun _ _ n => n) (fun _ _ _ => fun _ _ n => n) (fun _ => fun _ _ n => n) (fun _ _ _ _ _ => fun _ _ n => n) (fun _ _ n => n) (fun _ _ _ => fun _ _ n => n) (fun _ _ n => n) (fun _ _ => fun _ _ n => n) (fun _ _ => fun _ _ n => n) (fun _ _ _ => fun _ _ n => n) (fun _ _ _ => fun _ _ n => n) (fun _ _ _ => fun _ _ n => n) () (fun _ _ _ _ => ())) v w y n
/-- Is an operation wanted? -/
noncomputable def fwant (g : Option (Nat × Bool)) (e : FEnv) (y n : Ans) : Ans := @Option.rec (Nat × Bool) (fun _ => Ans) y (fun p => @Prod.rec Nat Bool (fun _ => Ans) (fun t w => fget e t (fun v => fguard w v y n)) p) g
theorem fwant_eq {e : FEnv} {env : Env} (h : FEq e env) (g : Option (Nat × Bool)) (y n : Ans) : fwant g e y n = match wantedA env g with | some true => y | some false => n | none => .no := by
  cases g with
  | none => rfl
  | some p =>
    obtain ⟨t, w⟩ := p
    show fget e t _ = _
    rw [fget_get, h t]
    simp only [wantedA]
    generalize env.get t = u
    cases u
    case bool b => cases b <;> cases w <;> rfl
    all_goals rfl
noncomputable def fops (p : AProg) (F : FCaller) (os : List AOper) (e : FEnv) (σ : AH) (K : FEnv → AH → Ans) : Ans := @List.rec AOper (fun _ => FEnv → AH → (FEnv → AH → Ans) → Ans) (fun e σ K => K e σ)
  (fun o _ I e σ K => @AOper.rec (fun _ => Ans) (fun dst op g _ => fwant g e (fop p F op e σ (fun v σ => fdst dst v e (fun e => I e σ K))) (fdst dst (.tuple []) e (fun e => I e σ K))) o) os e σ K
/-- Two ways to go on that do the same. -/
def KOK (K : FEnv → AH → Ans) (K' : Env × AH → Ans) : Prop := ∀ e env σ, FEq e env → K e σ = K' (env, σ)
theorem fdst_eq {e : FEnv} {env : Env} (h : FEq e env) (d : Option Nat) (v : AV) {K : FEnv → Ans} {x : Ans} (hk : ∀ e', FEq e' (putDst env d v) → K e' = x) : fdst d v e K = x := by
  cases d with
  | none => exact hk _ h
  | some d => exact hk _ (h.put d v)
theorem fops_eq {p : AProg} {C : Caller} {F : FCaller} (hF : FOK C F) {K : FEnv → AH → Ans} {K' : Env × AH → Ans} (hK : KOK K K') : ∀ (os : List AOper) (e : FEnv) (env : Env) (σ : AH), FEq e env → fops p F os e σ K = ob (aops p C os env σ) K'
  | [], e, env, σ, h => hK _ _ _ h
  | ⟨dst, op, g, cl⟩ :: os, e, env, σ, h => by
    show fwant g e (fop p F op e σ (fun v σ => fdst dst v e (fun e => fops p F os e σ K))) (fdst dst (.tuple []) e (fun e => fops p F os e σ K)) = _
    rw [fwant_eq h, fop_eq hF h]
    simp only [aops]
    generalize wantedA env g = w
    rcases w with _ | w
    · rfl
    · cases w
      · exact fdst_eq h dst _ fun e' h' => fops_eq hF hK os e' _ σ h'
      · simp only
        generalize aop p C (Opd.ev env) σ op = q
        rcases q with _ | ⟨v, σ'⟩
        · rfl
        · exact fdst_eq h dst v fun e' h' => fops_eq hF hK os e' _ σ' h'

/-! Regions whose order is open. -/
def ob3 (o : Option (AV × AH × Seg)) (k : AV → AH → Seg → Ans) : Ans := match o with | some (v, σ, s) => k v σ s | none => .no
noncomputable def fAddrOf (e : FEnv) (o : AOp) (k : Nat → Ans) (n : Ans) : Ans := ob (some (addrOf (Opd.ev e.env) o)) (fun a => @Option.rec Nat (fun _ => Ans) n (fun i => fN i k) a)
theorem fAddrOf_eq {e : FEnv} {env : Env} (h : FEq e env) (o : AOp) (k : Nat → Ans) (n : Ans) : fAddrOf e o k n = match addrOf (Opd.ev env) o with | some i => k i | none => n := by
  unfold fAddrOf
  rw [h.evs, ob_some]
  cases addrOf (Opd.ev env) o with
  | none => rfl
  | some i => exact fN_eq i k
noncomputable def fOldApp (e : FEnv) (o : AOp) (s : Seg) (k : Nat → Ans) (n : Ans) : Ans := ob (some (oldApp (Opd.ev e.env) o s)) (fun a => @Option.rec Nat (fun _ => Ans) n (fun i => fN i k) a)
theorem fOldApp_eq {e : FEnv} {env : Env} (h : FEq e env) (o : AOp) (s : Seg) (k : Nat → Ans) (n : Ans) : fOldApp e o s k n = match oldApp (Opd.ev env) o s with | some i => k i | none => n := by
  unfold fOldApp
  rw [h.evs, ob_some]
  cases oldApp (Opd.ev env) o s with
  | none => rfl
  | some i => exact fN_eq i k
noncomputable def fOldSto (e : FEnv) (σ : AH) (o : AOp) (s : Seg) (k : Nat → Ans) (n : Ans) : Ans := ob (some (oldSto (Opd.ev e.env) σ o s)) (fun a => @Option.rec Nat (fun _ => Ans) n (fun i => fN i k) a)
theorem fOldSto_eq {e : FEnv} {env : Env} (h : FEq e env) (σ : AH) (o : AOp) (s : Seg) (k : Nat → Ans) (n : Ans) : fOldSto e σ o s k n = match oldSto (Opd.ev env) σ o s with | some i => k i | none => n := by
  unfold fOldSto
  rw [h.evs, ob_some]
  cases oldSto (Opd.ev env) σ o s with
  | none => rfl
  | some i => exact fN_eq i k
noncomputable def fmem (l : List Nat) (i : Nat) (y n : Ans) : Ans := @List.rec Nat (fun _ => Ans) n (fun j _ I => bi (Nat.beq i j) y I) l
theorem fmem_eq : ∀ (l : List Nat) (i : Nat) (y n : Ans), fmem l i y n = if l.contains i then y else n
  | [], i, y, n => rfl
  | j :: l, i, y, n => by
    show bi (Nat.beq i j) y (fmem l i y n) = _
    rw [fmem_eq l, nbeq_eq, bi_dec, List.contains_cons]
    by_cases h : i = j
    · simp [h]
    · rw [if_neg h]
      have : (i == j) = false := by simp [h]
      rw [this, Bool.false_or]
noncomputable def fTsl (o : HOp) (f : Nat → List AV → List (Nat × Nat × Opd) → Ans) (x : Ans) : Ans := @HOp.rec (fun _ => Ans) (fun _ => x) (fun _ => x) (fun _ _ _ _ => x) (fun _ len zero ps => f len zero ps) (fun _ _ _ => x) (fun _ _ _ => x) x (fun _ _ _ _ => x) (fun _ _ _ _ => x) (fun _ _ _ _ => x) (fun _ _ _ => x) (fun _ _ _ _ _ _ => x) (fun _ _ _ _ _ => x) (fun _ _ _ _ _ => x) (fun _ _ _ => x) (fun _ => x) (fun _ => x) (fun _ => x) (fun _ => x) (fun _ => x) o
noncomputable def fdstep (p : AProg) (F : FCaller) (o : AOper) (e : FEnv) (σ : AH) (s : Seg) (k : AV → AH → Seg → Ans) : Ans := @AOper.rec (fun _ => Ans) (fun dst op g cl => fwant g e
  (@AOp.rec (fun _ => Ans → Ans) (fun o _ => favop p o e (fun v => k v σ s)) (fun o x => fTsl o (fun len zero ps => ffill ps e zero (fun cs => k (.tsl len cs) σ s)) x) (fun _ _ x => x) (fun _ _ _ x => x) (fun x => x) op
    (@Cls.rec (fun _ => Ans)
      (fop p F op e σ (fun v σ => fnext σ (fun n => k v σ ⟨n, [], []⟩)))
      (fOldApp e op s (fun i => @Seg.rec (fun _ => Ans) (fun seg lds sts => fop p F op e σ (fun v σ => k v σ ⟨seg, lds, i :: sts⟩)) s)
        (@Seg.rec (fun _ => Ans) (fun seg lds sts => flimK σ (fun lim => flt lim seg (funder σ seg (fun σ => fop p F op e σ (fun v σ => funder σ lim (fun σ => k v σ s)))))) s))
      (fAddrOf e op (fun i => @Seg.rec (fun _ => Ans) (fun seg lds sts => flt (Nat.succ i) seg (fmem sts i .no (fop p F op e σ (fun v σ => k v σ ⟨seg, i :: lds, sts⟩)))) s)
        (ob (some (isVLoad (Opd.ev e.env) op)) (fun b => bi b (fop p F op e σ (fun v _ => k v σ s)) .no)))
      (fOldSto e σ op s (fun i => @Seg.rec (fun _ => Ans) (fun seg lds sts => fop p F op e σ (fun v σ => k v σ ⟨seg, lds, i :: sts⟩)) s)
        (@Seg.rec (fun _ => Ans) (fun seg lds sts => flimK σ (fun lim => flt lim seg (funder σ seg (fun σ => fop p F op e σ (fun v σ => funder σ lim (fun σ => k v σ s)))))) s))
      (flimK σ (fun lim => fnext σ (fun n => funder σ n (fun σ => fop p F op e σ (fun v σ => funder σ lim (fun σ => k v σ s))))))
      cl))
  (k (.tuple []) σ s)) o
theorem fdstep_eq {p : AProg} {C : Caller} {F : FCaller} (hF : FOK C F) {e : FEnv} {env : Env} (h : FEq e env) (o : AOper) (σ : AH) (s : Seg) (k : AV → AH → Seg → Ans) : fdstep p F o e σ s k = ob3 (dstep p C o env σ s) k := by
  obtain ⟨dst, op, g, cl⟩ := o
  obtain ⟨seg, lds, sts⟩ := s
  unfold fdstep
  simp only
  rw [fwant_eq h]
  simp only [dstep]
  generalize wantedA env g = w
  rcases w with _ | w
  · rfl
  cases w
  · rfl
  · simp only
    cases op
    case v o =>
      show favop p o e _ = _
      rw [favop_eq h]
      simp only [isV, if_true, aop]
      cases avopM p (Opd.ev env) o <;> rfl
    case h ho =>
      cases ho
      case tslice z len zero ps =>
        show ffill ps e zero _ = _
        rw [ffill_eq h]
        simp only [isV, if_true, aop, ahop]
        cases afill (Opd.ev env) zero ps <;> rfl
      all_goals
        simp only [isV, Bool.false_eq_true, if_false, fTsl]
        cases cl
        case full =>
          show fop p F _ e σ _ = _
          rw [fop_eq hF h]
          simp only [fnext_eq]
          generalize aop p C (Opd.ev env) σ _ = q
          rcases q with _ | ⟨v, σ'⟩ <;> rfl
        case semi =>
          show fOldApp e _ _ _ _ = _
          rw [fOldApp_eq h]
          split
          · rename_i i hi
            show fop p F _ e σ _ = _
            rw [fop_eq hF h]
            simp only [hi]
            generalize aop p C (Opd.ev env) σ _ = q
            rcases q with _ | ⟨v, σ'⟩ <;> rfl
          · rename_i hi
            show flimK σ _ = _
            simp only [flimK_eq, flt_eq, funder_eq, fop_eq hF h, hi]
            split
            · generalize aop p C (Opd.ev env) _ _ = q
              rcases q with _ | ⟨v, σ'⟩ <;> rfl
            · rfl
        case sload =>
          show fAddrOf e _ _ _ = _
          rw [fAddrOf_eq h, h.evs]
          simp only [ob_some]
          split
          · rename_i i hi
            show flt (Nat.succ i) seg _ = _
            rw [flt_eq, fmem_eq, fop_eq hF h]
            simp only [hi]
            by_cases h1 : i < seg
            · rw [if_pos (show Nat.succ i ≤ seg from h1)]
              cases h2 : sts.contains i
              · simp only [Bool.false_eq_true, if_false, h1, Bool.not_false, and_self, if_true]
                generalize aop p C (Opd.ev env) σ _ = q
                rcases q with _ | ⟨v, σ'⟩ <;> rfl
              · simp [h1, ob3]
            · rw [if_neg (show ¬ Nat.succ i ≤ seg from h1), if_neg (fun hc => h1 hc.1)]; rfl
          · rename_i hi
            simp only [hi]
            rw [fop_eq hF h]
            cases isVLoad (Opd.ev env) _
            · rfl
            · simp only [bi_true, if_true]
              generalize aop p C (Opd.ev env) σ _ = q
              rcases q with _ | ⟨v, σ'⟩ <;> rfl
        case st1 =>
          show fOldSto e _ _ _ _ _ = _
          rw [fOldSto_eq h]
          split
          · rename_i i hi
            show fop p F _ e σ _ = _
            rw [fop_eq hF h]
            simp only [hi]
            generalize aop p C (Opd.ev env) σ _ = q
            rcases q with _ | ⟨v, σ'⟩ <;> rfl
          · rename_i hi
            show flimK σ _ = _
            simp only [flimK_eq, flt_eq, funder_eq, fop_eq hF h, hi]
            split
            · generalize aop p C (Opd.ev env) _ _ = q
              rcases q with _ | ⟨v, σ'⟩ <;> rfl
            · rfl
        case froz =>
          show flimK σ _ = _
          simp only [flimK_eq, fnext_eq, funder_eq, fop_eq hF h]
          generalize aop p C (Opd.ev env) _ _ = q
          rcases q with _ | ⟨v, σ'⟩ <;> rfl
    all_goals
      simp only [isV, Bool.false_eq_true, if_false]
      cases cl
      case full =>
        show fop p F _ e σ _ = _
        rw [fop_eq hF h]
        simp only [fnext_eq]
        generalize aop p C (Opd.ev env) σ _ = q
        rcases q with _ | ⟨v, σ'⟩ <;> rfl
      case semi =>
        show fOldApp e _ _ _ _ = _
        rw [fOldApp_eq h]
        split
        · rename_i i hi
          show fop p F _ e σ _ = _
          rw [fop_eq hF h]
          simp only [hi]
          generalize aop p C (Opd.ev env) σ _ = q
          rcases q with _ | ⟨v, σ'⟩ <;> rfl
        · rename_i hi
          show flimK σ _ = _
          simp only [flimK_eq, flt_eq, funder_eq, fop_eq hF h, hi]
          split
          · generalize aop p C (Opd.ev env) _ _ = q
            rcases q with _ | ⟨v, σ'⟩ <;> rfl
          · rfl
      case sload =>
        show fAddrOf e _ _ _ = _
        rw [fAddrOf_eq h, h.evs]
        simp only [ob_some]
        split
        · rename_i i hi
          show flt (Nat.succ i) seg _ = _
          rw [flt_eq, fmem_eq, fop_eq hF h]
          simp only [hi]
          by_cases h1 : i < seg
          · rw [if_pos (show Nat.succ i ≤ seg from h1)]
            cases h2 : sts.contains i
            · simp only [Bool.false_eq_true, if_false, h1, Bool.not_false, and_self, if_true]
              generalize aop p C (Opd.ev env) σ _ = q
              rcases q with _ | ⟨v, σ'⟩ <;> rfl
            · simp [h1, ob3]
          · rw [if_neg (show ¬ Nat.succ i ≤ seg from h1), if_neg (fun hc => h1 hc.1)]; rfl
        · rename_i hi
          simp only [hi]
          rw [fop_eq hF h]
          cases isVLoad (Opd.ev env) _
          · rfl
          · simp only [bi_true, if_true]
            generalize aop p C (Opd.ev env) σ _ = q
            rcases q with _ | ⟨v, σ'⟩ <;> rfl
      case st1 =>
        show fOldSto e _ _ _ _ _ = _
        rw [fOldSto_eq h]
        split
        · rename_i i hi
          show fop p F _ e σ _ = _
          rw [fop_eq hF h]
          simp only [hi]
          generalize aop p C (Opd.ev env) σ _ = q
          rcases q with _ | ⟨v, σ'⟩ <;> rfl
        · rename_i hi
          show flimK σ _ = _
          simp only [flimK_eq, flt_eq, funder_eq, fop_eq hF h, hi]
          split
          · generalize aop p C (Opd.ev env) _ _ = q
            rcases q with _ | ⟨v, σ'⟩ <;> rfl
          · rfl
      case froz =>
        show flimK σ _ = _
        simp only [flimK_eq, fnext_eq, funder_eq, fop_eq hF h]
        generalize aop p C (Opd.ev env) _ _ = q
        rcases q with _ | ⟨v, σ'⟩ <;> rfl
noncomputable def fdraw (p : AProg) (F : FCaller) (os : List AOper) (e : FEnv) (σ : AH) (s : Seg) (K : FEnv → AH → Ans) : Ans := @List.rec AOper (fun _ => FEnv → AH → Seg → (FEnv → AH → Ans) → Ans) (fun e σ _ K => K e σ)
  (fun o _ I e σ s K => fdstep p F o e σ s (fun v σ s => @AOper.rec (fun _ => Ans) (fun dst _ _ _ => fdst dst v e (fun e => I e σ s K)) o)) os e σ s K
theorem fdraw_eq {p : AProg} {C : Caller} {F : FCaller} (hF : FOK C F) {K : FEnv → AH → Ans} {K' : Env × AH → Ans} (hK : KOK K K') : ∀ (os : List AOper) (e : FEnv) (env : Env) (σ : AH) (s : Seg), FEq e env → fdraw p F os e σ s K = ob (adraw p C os env σ s) K'
  | [], e, env, σ, s, h => hK _ _ _ h
  | o :: os, e, env, σ, s, h => by
    show fdstep p F o e σ s (fun v σ s => @AOper.rec (fun _ => Ans) (fun dst _ _ _ => fdst dst v e (fun e => fdraw p F os e σ s K)) o) = _
    rw [fdstep_eq hF h]
    simp only [adraw]
    cases dstep p C o env σ s with
    | none => rfl
    | some r =>
      obtain ⟨v, σ', s'⟩ := r
      obtain ⟨dst, op, g, cl⟩ := o
      exact fdst_eq h dst v fun e' h' => fdraw_eq hF hK os e' _ σ' s' h'
end Go.Oct
end
/- The interpreter once more, in a form that the kernel evaluates with little labour, part 3: code, functions, runs. -/
section
set_option linter.unusedVariables false
set_option linter.unusedSimpArgs false
namespace Go.Oct

/-! ### Code -/
abbrev KC := AEx → FEnv → List Nat → AH → Ans
noncomputable def fNorm (ex : AEx) (x y : Ans) : Ans := @AEx.rec (fun _ => Ans) x (fun _ => y) y ex
noncomputable def fEnvL (e : FEnv) (k : Env → Ans) : Ans := @FEnv.rec (fun _ => (Env → Ans) → Ans) (fun k => k []) (fun t v _ I k => I (fun r => k ((t, v) :: r))) e k
theorem fEnvL_eq (e : FEnv) (k : Env → Ans) : fEnvL e k = k e.env := by
  induction e generalizing k with
  | nil => rfl
  | cons t v r ih =>
    show fEnvL r _ = _
    rw [ih]; rfl
noncomputable def fEnvOf (env : Env) (k : FEnv → Ans) : Ans := @List.rec (Nat × AV) (fun _ => (FEnv → Ans) → Ans) (fun k => k .nil) (fun p _ I k => @Prod.rec Nat AV (fun _ => Ans) (fun t v => I (fun r => k (.cons t v r))) p) env k
theorem fEnvOf_eq : ∀ (env : Env) (k : FEnv → Ans), fEnvOf env k = k (FEnv.of env)
  | [], k => rfl
  | (t, v) :: env, k => by
    show fEnvOf env _ = _
    rw [fEnvOf_eq env]; rfl
noncomputable def fstart (rd : Option Nat) (m : List Nat) (σ : AH) (k : List Nat → Nat → AH → Ans) : Ans := @Option.rec Nat (fun _ => Ans) (fpushH σ .dfr (fun n σ => k (n :: m) n σ)) (fun l => fgetH σ l (fun o => onLoop o (fun _ _ _ _ _ d => k m d σ))) rd
noncomputable def fbusy (st : LoopState) (x : Ans) : Ans := @LoopState.rec (fun _ => Ans) x .no x x st
noncomputable def fpend (q : Option AEx) (k : AEx → Ans) : Ans := @Option.rec AEx (fun _ => Ans) (k .normal) (fun x => k x) q
theorem fpend_eq (q : Option AEx) (k : AEx → Ans) : fpend q k = k (q.getD .normal) := by cases q <;> rfl
noncomputable def frange2 (n : Nat) (e : FEnv) (m : List Nat) (σ : AH) (k : KC) : Ans := fgetH σ n (fun o => onLoop o (fun f i env st q d => fbusy st (flim σ n (fsetH σ n (.loop f i env .exhausted q d) (fun σ => fpend q (fun ex => k ex e m σ))))))
noncomputable def frange (F : FCaller) (f : Nat) (rd : Option Nat) (i : Nat) (g : Opd) (e : FEnv) (m : List Nat) (σ : AH) (k : KC) : Ans :=
  fev e g (fun v => fTarget v (fun g xs ys => fstart rd m σ (fun m d σ => fEnvL e (fun env => fpushH σ (.loop f i env .ready none d) (fun n σ => fapp3 xs [.func (.yield n) [] []] ys (fun as => F (.fn g) as σ (fun _ σ => frange2 n e m σ k)))))) (fun _ _ _ => .no))
noncomputable def floop (n : Nat) (B : FEnv → List Nat → AH → KC → Ans) (e : FEnv) (m : List Nat) (σ : AH) (k : KC) : Ans := @Nat.rec (fun _ => FEnv → List Nat → AH → KC → Ans) (fun _ _ _ _ => .no)
  (fun _ L e m σ k => B e m σ (fun ex e m σ => fNorm ex (L e m σ k) (k ex e m σ))) n e m σ k
noncomputable def fcode (p : AProg) (F : FCaller) (n f : Nat) (rd : Option Nat) (c : ACode) (e : FEnv) (m : List Nat) (σ : AH) (k : KC) : Ans := @ACode.rec (fun _ => FEnv → List Nat → AH → KC → Ans)
  (fun e m σ k => k .normal e m σ)
  (fun dr os ks e m σ k => bi dr (fnext σ (fun n => fdraw p F os e σ ⟨n, [], []⟩ (fun e σ => fkeep e ks (fun e => k .normal e m σ)))) (fops p F os e σ (fun e σ => fkeep e ks (fun e => k .normal e m σ))))
  (fun _ _ A B e m σ k => A e m σ (fun ex e m σ => fNorm ex (B e m σ k) (k ex e m σ)))
  (fun c _ _ A B e m σ k => fev e c (fun v => onBool v (fun b => bi b (A e m σ k) (B e m σ k)) .no))
  (fun id _ B e m σ k => B e m σ (fun ex e m σ => @AEx.rec (fun _ => Ans) (k .normal e m σ) (fun j => bi (Nat.beq j id) (k .normal e m σ) (k (.exit j) e m σ)) (k .ret e m σ) ex))
  (fun _ B e m σ k => floop n B e m σ k)
  (fun i g e m σ k => frange F f rd i g e m σ k)
  (fun id e m σ k => k (.exit id) e m σ)
  (fun _ B e m σ k => B e m σ k)
  (fun e m σ k => k .ret e m σ) c e m σ k
/-- What comes after code. -/
def kc (k : KC) (r : Out) : Ans := k r.1 (FEnv.of r.2.1.env) r.2.1.marks r.2.2
theorem frange_eq {p : AProg} {C : Caller} {F : FCaller} (hF : FOK C F) (n f : Nat) (rd : Option Nat) (i : Nat) (g : Opd) (fr : Fr) (σ : AH) (k : KC) :
    frange F f rd i g (FEnv.of fr.env) fr.marks σ k = ob (acode p C n f rd (.rangeFunc i g) fr σ) (kc k) := by
  unfold frange
  rw [fev_eq (FEq.of fr.env), fTarget_eq]
  simp only [acode]
  cases target (Opd.ev fr.env g) with
  | none => rfl
  | some r =>
    obtain ⟨t, xs, ys⟩ := r
    cases t with
    | yield l => rfl
    | fn g =>
      simp only [ob_some]
      have main : ∀ (m : List Nat) (d : Nat) (σ1 : AH), (fEnvL (FEnv.of fr.env) (fun env => fpushH σ1 (.loop f i env .ready none d) (fun n σ => fapp3 xs [.func (.yield n) [] []] ys (fun as => F (.fn g) as σ (fun _ σ => frange2 n (FEnv.of fr.env) m σ k))))) =
          ob (match C (.fn g) (xs ++ [.func (.yield σ1.next) [] []] ++ ys) (σ1.push (.loop f i fr.env .ready none d)) with
            | some (_, σ2) => match σ2.get σ1.next with
              | some (.loop f' i' env st pend d') =>
                match st with
                | .busy => none
                | _ => if σ2.lim ≤ σ1.next then some (pend.getD .normal, { fr with marks := m }, σ2.set σ1.next (.loop f' i' env .exhausted pend d')) else none
              | _ => none
            | none => none : Option Out) (kc k) := by
        intro m d σ1
        rw [fEnvL_eq, FEnv.env_of, fpushH_eq, fapp3_eq, hF]
        generalize C (.fn g) _ _ = q
        rcases q with _ | ⟨v, σ2⟩
        · rfl
        · simp only [ob2_some]
          unfold frange2
          rw [fgetH_eq]
          cases σ2.get σ1.next with
          | none => rfl
          | some o =>
            cases o
            case loop f' i' env st q d' =>
              show fbusy st (flim σ2 σ1.next (fsetH σ2 σ1.next (.loop f' i' env .exhausted q d') (fun σ => fpend q (fun ex => k ex (FEnv.of fr.env) m σ)))) = _
              rw [flim_eq, fsetH_eq, fpend_eq]
              cases st
              case busy => rfl
              all_goals
                show (if σ2.lim ≤ σ1.next then _ else _) = _
                simp only
                by_cases hl : σ2.lim ≤ σ1.next
                · rw [if_pos hl, if_pos hl]; rfl
                · rw [if_neg hl, if_neg hl]; rfl
            all_goals rfl
      cases rd with
      | none =>
        exact (fpushH_eq σ .dfr (fun n' σ' => fEnvL (FEnv.of fr.env) (fun env => fpushH σ' (.loop f i env .ready none n') (fun n σ => fapp3 xs [.func (.yield n) [] []] ys (fun as => F (.fn g) as σ (fun _ σ => frange2 n (FEnv.of fr.env) (n' :: fr.marks) σ k)))))).trans (main (σ.next :: fr.marks) σ.next (σ.push .dfr))
      | some l =>
        show fgetH σ l _ = _
        rw [fgetH_eq]
        simp only
        cases σ.get l with
        | none => rfl
        | some o =>
          cases o
          case loop f' i' env st q d' => exact main fr.marks d' σ
          all_goals rfl
theorem fcode_eq {p : AProg} {C : Caller} {F : FCaller} (hF : FOK C F) (n f : Nat) (rd : Option Nat) (c : ACode) : ∀ (fr : Fr) (σ : AH) (k : KC), fcode p F n f rd c (FEnv.of fr.env) fr.marks σ k = ob (acode p C n f rd c fr σ) (kc k) := by
  induction c with
  | skip => intro fr σ k; rfl
  | region dr os ks =>
    intro fr σ k
    have hK : KOK (fun e σ => fkeep e ks (fun e => k .normal e fr.marks σ)) (fun r => kc k (.normal, { fr with env := r.1.keep ks }, r.2)) := by
      intro e env σ h
      simp only [fkeep_eq h]; rfl
    cases dr
    · show fops p F os _ σ _ = _
      rw [fops_eq hF hK os _ fr.env σ (FEq.of _)]
      simp only [acode]
      cases aops p C os fr.env σ <;> rfl
    · show fdraw p F os _ σ ⟨σ.next, [], []⟩ _ = _
      rw [fdraw_eq hF hK os _ fr.env σ _ (FEq.of _)]
      simp only [acode]
      cases adraw p C os fr.env σ ⟨σ.next, [], []⟩ <;> rfl
  | seq a b ha hb =>
    intro fr σ k
    show fcode p F n f rd a _ _ σ (fun ex e m σ => fNorm ex (fcode p F n f rd b e m σ k) (k ex e m σ)) = _
    rw [ha]
    simp only [acode]
    cases acode p C n f rd a fr σ with
    | none => rfl
    | some r =>
      obtain ⟨ex, fr', σ'⟩ := r
      cases ex
      case normal => exact hb fr' σ' k
      all_goals rfl
  | cond c a b ha hb =>
    intro fr σ k
    show fev _ c (fun v => onBool v (fun b' => bi b' (fcode p F n f rd a _ _ σ k) (fcode p F n f rd b _ _ σ k)) .no) = _
    rw [fev_eq (FEq.of fr.env), ha, hb]
    simp only [acode]
    generalize Opd.ev fr.env c = u
    cases u
    case bool b => cases b <;> rfl
    all_goals rfl
  | block id b hb =>
    intro fr σ k
    show fcode p F n f rd b _ _ σ (fun ex e m σ => @AEx.rec (fun _ => Ans) (k .normal e m σ) (fun j => bi (Nat.beq j id) (k .normal e m σ) (k (.exit j) e m σ)) (k .ret e m σ) ex) = _
    rw [hb]
    simp only [acode]
    cases acode p C n f rd b fr σ with
    | none => rfl
    | some r =>
      obtain ⟨ex, fr', σ'⟩ := r
      cases ex
      case exit j =>
        show bi (Nat.beq j id) _ _ = _
        rw [nbeq_eq, bi_dec]
        simp only
        split <;> rfl
      all_goals rfl
  | loop b hb =>
    intro fr σ k
    have key : ∀ N fr σ k, floop N (fcode p F n f rd b) (FEnv.of fr.env) fr.marks σ k = ob (aloop (acode p C n f rd b) N fr σ) (kc k) := by
     intro N
     induction N with
     | zero => intro fr σ k; rfl
     | succ N ih =>
      intro fr σ k
      show fcode p F n f rd b _ _ σ (fun ex e m σ => fNorm ex (floop N (fcode p F n f rd b) e m σ k) (k ex e m σ)) = _
      rw [hb]
      simp only [aloop]
      cases acode p C n f rd b fr σ with
      | none => rfl
      | some r =>
        obtain ⟨ex, fr', σ'⟩ := r
        cases ex
        case normal => exact ih fr' σ' k
        all_goals rfl
    exact key n fr σ k
  | rangeFunc i g => intro fr σ k; exact frange_eq hF n f rd i g fr σ k
  | exit id => intro fr σ k; rfl
  | scope b hb => intro fr σ k; exact hb fr σ k
  | ret => intro fr σ k; rfl

/-! ### Functions -/
noncomputable def fargs (args : List AV) (n : Nat) (k : FEnv → Ans) : Ans := @List.rec AV (fun _ => Nat → (FEnv → Ans) → Ans) (fun _ k => k .nil) (fun v _ I n k => fN (Nat.succ n) (fun m => I m (fun r => k (.cons n v r)))) args n k
theorem fargs_eq : ∀ (args : List AV) (n : Nat) (k : FEnv → Ans), fargs args n k = k (FEnv.of (argEnv n args))
  | [], n, k => rfl
  | v :: vs, n, k => by
    show fN (Nat.succ n) (fun m => fargs vs m (fun r => k (.cons n v r))) = _
    rw [fN_eq, fargs_eq vs]; rfl
noncomputable def fmarks (ms : List Nat) (σ : AH) (k : AH → Ans) : Ans := @List.rec Nat (fun _ => AH → (AH → Ans) → Ans) (fun σ k => k σ) (fun d _ I σ k => fgetH σ d (fun o => onDfr o (flim σ d (fsetH σ d .dead (fun σ => I σ k))))) ms σ k
theorem fmarks_eq : ∀ (ms : List Nat) (σ : AH) (k : AH → Ans), fmarks ms σ k = ob (takeMarks σ ms) k
  | [], σ, k => rfl
  | d :: ms, σ, k => by
    show fgetH σ d (fun o => onDfr o (flim σ d (fsetH σ d .dead (fun σ => fmarks ms σ k)))) = _
    rw [fgetH_eq]
    simp only [takeMarks]
    cases σ.get d with
    | none => rfl
    | some o =>
      cases o
      case dfr =>
        show flim σ d _ = _
        rw [flim_eq, fsetH_eq]
        simp only
        split
        · exact fmarks_eq ms _ k
        · rfl
      all_goals rfl
noncomputable def fres1 (r : ARes) (e : FEnv) (σ : AH) (k : AV → Ans) : Ans := @ARes.rec (fun _ => Ans) (fun t => fget e t k) (fun agg a n => fget e a (fun v => onAddr v (fun i o => fcel σ i (fun cs => fload agg n cs o k)) (fun _ _ => .no) .no)) r
theorem fres1_eq (r : ARes) (env : Env) (σ : AH) (k : AV → Ans) : fres1 r (FEnv.of env) σ k = ob (aresult env σ r) k := by
  cases r with
  | tmp t =>
    show fget _ t k = _
    rw [fget_get, FEnv.get_of]; rfl
  | cell agg a n =>
    show fget _ a _ = _
    rw [fget_get, FEnv.get_of]
    simp only [aresult]
    generalize env.get a = u
    cases u
    case ptr q =>
      cases q with
      | none => rfl
      | some p =>
        obtain ⟨i, o⟩ := p
        show fcel σ i _ = _
        rw [fcel_eq]
        simp only
        cases σ.row i with
        | none => rfl
        | some cs => simp only [ob_some]; exact fload_eq ..
    all_goals rfl
noncomputable def fres (rs : List ARes) (e : FEnv) (σ : AH) (k : List AV → Ans) : Ans := @List.rec ARes (fun _ => (List AV → Ans) → Ans) (fun k => k []) (fun r _ I k => fres1 r e σ (fun v => I (fcons v k))) rs k
theorem fres_eq (env : Env) (σ : AH) : ∀ (rs : List ARes) (k : List AV → Ans), fres rs (FEnv.of env) σ k = ob (aresults env σ rs) k
  | [], k => rfl
  | r :: rs, k => by
    show fres1 r _ σ (fun v => fres rs _ σ (fcons v k)) = _
    rw [fres1_eq]
    simp only [aresults]
    cases aresult env σ r with
    | none => rfl
    | some v =>
      simp only [ob_some]
      rw [fres_eq env σ rs]
      cases aresults env σ rs <;> rfl
noncomputable def fone (vs : List AV) (k : AV → Ans) : Ans := @List.rec AV (fun _ => Ans) (k (.tuple vs)) (fun v r _ => @List.rec AV (fun _ => Ans) (k v) (fun _ _ _ => k (.tuple vs)) r) vs
theorem fone_eq (vs : List AV) (k : AV → Ans) : fone vs k = k (oneOf vs) := by
  cases vs with
  | nil => rfl
  | cons v r => cases r <;> rfl
noncomputable def fend (res : List ARes) (σ0 : AH) (k : AV → AH → Ans) (ex : AEx) (e : FEnv) (m : List Nat) (σ : AH) : Ans := @AEx.rec (fun _ => Ans)
  (fmarks m σ (fun σ => fres res e σ (fun vs => fone vs (fun v => k v σ)))) (fun _ => .no) (fmarks m σ (fun σ => fres res e σ (fun vs => fone vs (fun v => k v σ)))) ex
noncomputable def fbody (p : AProg) (F : FCaller) (n f : Nat) (af : AFunc) (args : List AV) (σ : AH) (k : AV → AH → Ans) : Ans := @AFunc.rec (fun _ => Ans) (fun np res body _ _ => feqn (flen args) np (fargs args 0 (fun e => fcode p F n f none body e [] σ (fend res σ k)))) af
theorem fbody_eq {p : AProg} {C : Caller} {F : FCaller} (hF : FOK C F) (n f : Nat) (af : AFunc) (args : List AV) (σ : AH) (k : AV → AH → Ans) : fbody p F n f af args σ k = ob2 (abody p C n f af args σ) k := by
  obtain ⟨np, res, body, loops, pure⟩ := af
  show feqn (flen args) np (fargs args 0 (fun e => fcode p F n f none body e [] σ (fend res σ k))) = _
  rw [feqn_eq, flen_eq, fargs_eq]
  unfold abody
  simp only
  split
  · have := fcode_eq hF n f none body ⟨argEnv 0 args, []⟩ σ (fend res σ k) (p := p)
    rw [show fcode p F n f none body (FEnv.of (argEnv 0 args)) [] σ (fend res σ k) = fcode p F n f none body (FEnv.of (Fr.env ⟨argEnv 0 args, []⟩)) (Fr.marks ⟨argEnv 0 args, []⟩) σ (fend res σ k) from rfl, this]
    cases acode p C n f none body ⟨argEnv 0 args, []⟩ σ with
    | none => rfl
    | some r =>
      obtain ⟨ex, fr, σ'⟩ := r
      have fin : fmarks fr.marks σ' (fun σ => fres res (FEnv.of fr.env) σ (fun vs => fone vs (fun v => k v σ))) = ob2 (match takeMarks σ' fr.marks with
          | some σ'' => match aresults fr.env σ'' res with
            | some vs => some (oneOf vs, σ'')
            | none => none
          | none => none) k := by
        rw [fmarks_eq]
        cases takeMarks σ' fr.marks with
        | none => rfl
        | some σ'' =>
          simp only [ob_some]
          rw [fres_eq]
          cases aresults fr.env σ'' res with
          | none => rfl
          | some vs => simp only [ob_some]; exact fone_eq ..
      cases ex
      case exit j => rfl
      all_goals exact fin
  · rfl

/-! ### Runs apart -/
noncomputable def fclosed (v : AV) : Bool := (@AV.rec (fun _ => Bool → Bool) (fun _ => Unit) (fun x => x) (fun q n => fun _ => true) (fun b => fun _ => true) (fun s => fun _ => true) (fun _ => fun x => x) (fun _ _ _ => fun x => x) (fun _ => fun x => x) (fun _ _ _ _ _ => fun x => x) (fun _ => true) (fun _ _ _ => fun x => x) (fun x => x) (fun _ _ => fun x => x) (fun _ _ => fun x => x) (fun nl es _ => fun _ => true) (fun cs o _ => fun _ => true) (fun _ _ _ => fun x => x) () (fun _ _ _ _ => ())) v (closed 8 v)
theorem fclosed_eq (v : AV) : fclosed v = closed 8 v := by cases v <;> rfl
/-- A value, frozen: n levels deep. -/
noncomputable def ffzL (f : AV → (AV → Ans) → Ans) (cs : List AV) (k : List AV → Ans) : Ans := @List.rec AV (fun _ => (List AV → Ans) → Ans) (fun k => k []) (fun c _ I k => f c (fun v => I (fcons v k))) cs k
theorem ffzL_eq {f : AV → (AV → Ans) → Ans} {g : AV → AV} (h : ∀ v k, f v k = k (g v)) : ∀ (cs : List AV) (k : List AV → Ans), ffzL f cs k = k (cs.map g)
  | [], k => rfl
  | c :: cs, k => by
    show f c (fun v => ffzL f cs (fcons v k)) = _
    rw [h, ffzL_eq h cs]; rfl
noncomputable def fna (v : AV) (k : AV → Ans) : Ans := (@AV.rec (fun _ => (AV → Ans) → Ans → Ans) (fun _ => Unit) (fun _ x => x) (fun _ _ => fun _ x => x) (fun _ => fun _ x => x) (fun _ => fun _ x => x) (fun _ => fun _ x => x) (fun _ _ _ => fun _ x => x) (fun _ => fun _ x => x) (fun _ _ _ _ _ => fun _ x => x) (fun _ x => x) (fun _ _ _ => fun _ x => x) (fun _ x => x) (fun cs _ => fun k _ => k .undef) (fun _ _ => fun _ x => x) (fun _ _ _ => fun _ x => x) (fun _ _ _ => fun _ x => x) (fun _ _ _ => fun _ x => x) () (fun _ _ _ _ => ())) v k (k v)
theorem fna_eq (v : AV) (k : AV → Ans) : fna v k = k v.na := by cases v <;> rfl
noncomputable def felem (cs : List AV) (k : AV → Ans) : Ans := @List.rec AV (fun _ => Ans) (k (.agg cs)) (fun v r _ => @List.rec AV (fun _ => Ans) (k v) (fun _ _ _ => k (.agg cs)) r) cs
theorem felem_eq (cs : List AV) (k : AV → Ans) : felem cs k = k (AV.elem cs) := by
  cases cs with
  | nil => rfl
  | cons v r => cases r <;> rfl
noncomputable def fchunks (z n : Nat) (cs : List AV) (k : List AV → Ans) : Ans := @Nat.rec (fun _ => List AV → (List AV → Ans) → Ans) (fun _ k => k []) (fun _ I cs k => ftake z cs (fun e => felem e (fun e => fdrop z cs (fun cs => I cs (fcons e k))))) n cs k
theorem fchunks_eq (z : Nat) : ∀ (n : Nat) (cs : List AV) (k : List AV → Ans), fchunks z n cs k = k (chunks z n cs)
  | 0, cs, k => rfl
  | n + 1, cs, k => by
    show ftake z cs (fun e => felem e (fun e => fdrop z cs (fun cs => fchunks z n cs (fcons e k)))) = _
    rw [ftake_eq, felem_eq, fdrop_eq, fchunks_eq z n]; rfl
noncomputable def fcellsOf (n m : Nat) (cap : ACap) (k : Nat → Ans) (u : Ans) : Ans := ob (some (cap.cellsOf n m)) (fun z => @Option.rec Nat (fun _ => Ans) u (fun z => fN z k) z)
theorem fcellsOf_eq (n m : Nat) (cap : ACap) (k : Nat → Ans) (u : Ans) : fcellsOf n m cap k u = match cap.cellsOf n m with | some z => k z | none => u := by
  unfold fcellsOf
  rw [ob_some]
  cases cap.cellsOf n m with
  | none => rfl
  | some z => exact fN_eq z k
/-- What is known of an object's cells: the test that says whether it counts; the heap. -/
noncomputable def ffz (n : Nat) (c : Nat → (List AV → Ans) → Ans → Ans) (v : AV) (k : AV → Ans) : Ans := @Nat.rec (fun _ => AV → (AV → Ans) → Ans) (fun _ k => k .undef)
  (fun _ I v k => (@AV.rec (fun _ => (AV → (AV → Ans) → Ans) → (AV → Ans) → Ans → Ans) (fun _ => Unit) (fun I k x => x) (fun _ _ => fun I k x => x) (fun _ => fun I k x => x) (fun _ => fun I k x => x) (fun a => fun I k x => onOA a (fun i o => c i (fun cs => ffzL (fun v k => I v (fun v => fna v k)) cs (fun cs => k (.vptr cs o))) (k .undef)) x) (fun a n cap => fun I k x => onOA a (fun i o => c i (fun cs => bi (Nat.ble o (flen cs)) (fcellsOf n (Nat.sub (flen cs) o) cap (fun z => fdrop o cs (fun cs => ftake (Nat.mul n z) cs (fun cs => ffzL (fun v k => I v (fun v => fna v k)) cs (fun cs => fchunks z n cs (fun es => k (.vsl false es)))))) (k .undef)) (k .undef)) (k .undef)) (k (.vsl true []))) (fun r => fun I k x => @Option.rec Nat (fun _ => Ans) x (fun _ => k .undef) r) (fun f xs ys _ _ => fun I k x => @Go.Fn.rec (fun _ => Ans) (fun f => ffzL I xs (fun xs => ffzL I ys (fun ys => k (.func (.func f) xs ys)))) (fun _ => k .undef) (fun _ _ => k .undef) (fun _ _ _ _ => k .undef) (fun _ => k .undef) f) (fun I k x => x) (fun t v _ => fun I k x => I v (fun v => k (.iface t v))) (fun I k x => x) (fun cs _ => fun I k x => ffzL I cs (fun cs => k (.agg cs))) (fun cs _ => fun I k x => ffzL I cs (fun cs => k (.tuple cs))) (fun _ _ _ => fun I k x => x) (fun _ _ _ => fun I k x => x) (fun n cs _ => fun I k x => k .undef) () (fun _ _ _ _ => ())) v I k (k v)) n v k
theorem chunks_take (z : Nat) : ∀ (n : Nat) (cs : List AV), chunks z n (cs.take (n * z)) = chunks z n cs
  | 0, cs => rfl
  | n + 1, cs => by
    simp only [chunks]
    rw [List.take_take, Nat.min_eq_left (by rw [Nat.succ_mul]; omega)]
    congr 1
    rw [List.drop_take, Nat.succ_mul, Nat.add_sub_cancel, chunks_take z n]
theorem ffz_eq {c : Nat → (List AV → Ans) → Ans → Ans} {c' : Nat → Option (List AV)} (hc : ∀ i k u, c i k u = match c' i with | some cs => k cs | none => u) : ∀ (n : Nat) (v : AV) (k : AV → Ans), ffz n c v k = k (fzV n c' v)
  | 0, v, k => rfl
  | n + 1, v, k => by
    have I := ffz_eq hc n
    have Ia : ∀ v k, (fun v k => ffz n c v (fun v => fna v k)) v k = k ((fun x => (fzV n c' x).na) v) := by
      intro v k
      simp only [I, fna_eq]
    cases v
    case ptr a =>
      cases a with
      | none => rfl
      | some p =>
        obtain ⟨i, o⟩ := p
        show c i (fun cs => ffzL (fun v k => ffz n c v (fun v => fna v k)) cs (fun cs => k (.vptr cs o))) (k .undef) = _
        rw [hc]
        simp only [fzV]
        cases c' i with
        | none => rfl
        | some cs => exact ffzL_eq Ia cs _
    case slice a m cap =>
      cases a with
      | none => rfl
      | some p =>
        obtain ⟨i, o⟩ := p
        show c i (fun cs => bi (Nat.ble o (flen cs)) (fcellsOf m (Nat.sub (flen cs) o) cap (fun z => fdrop o cs (fun cs => ftake (Nat.mul m z) cs (fun cs => ffzL (fun v k => ffz n c v (fun v => fna v k)) cs (fun cs => fchunks z m cs (fun es => k (.vsl false es)))))) (k .undef)) (k .undef)) (k .undef) = _
        rw [hc]
        simp only [fzV]
        cases c' i with
        | none => rfl
        | some cs =>
          simp only [nble_eq, bi_dec, fcellsOf_eq, flen_eq]
          show (if o ≤ cs.length then (match cap.cellsOf m (cs.length - o) with | some z => _ | none => _) else _) = _
          split
          · cases cap.cellsOf m (cs.length - o) with
            | none => rfl
            | some z =>
              simp only [fdrop_eq, ftake_eq]
              rw [ffzL_eq Ia, fchunks_eq, List.map_take]
              show k (.vsl false (chunks z m (List.take (m * z) _))) = _
              rw [chunks_take]
          · rfl
    case map r => cases r <;> rfl
    case func f xs ys =>
      cases f
      case func f =>
        show ffzL (ffz n c) xs (fun xs => ffzL (ffz n c) ys (fun ys => k (.func (.func f) xs ys))) = _
        rw [ffzL_eq I, ffzL_eq I]; rfl
      all_goals rfl
    case iface t v => exact I v _
    case agg cs => exact ffzL_eq I cs _
    case tuple cs => exact ffzL_eq I cs _
    all_goals rfl
noncomputable def fcelU (σ : AH) (i : Nat) (k : List AV → Ans) (u : Ans) : Ans := ob (some (σ.cel i)) (fun o => @Option.rec (List AV) (fun _ => Ans) u (fun cs => k cs) o)
theorem fcelU_eq (σ : AH) (i : Nat) (k : List AV → Ans) (u : Ans) : fcelU σ i k u = match σ.cel i with | some cs => k cs | none => u := by
  unfold fcelU
  rw [ob_some]
  cases σ.cel i <;> rfl
noncomputable def fcelS (σ : AH) (S : List Nat) (i : Nat) (k : List AV → Ans) (u : Ans) : Ans := fmem S i (fcelU σ i k u) u
theorem fcelS_eq (σ : AH) (S : List Nat) (i : Nat) (k : List AV → Ans) (u : Ans) : fcelS σ S i k u = match σ.celOf S i with | some cs => k cs | none => u := by
  unfold fcelS AH.celOf
  rw [fmem_eq, fcelU_eq]
  split <;> rfl
noncomputable def fNL (l : List Nat) (k : List Nat → Ans) : Ans := @List.rec Nat (fun _ => (List Nat → Ans) → Ans) (fun k => k []) (fun n _ I k => fN n (fun n => I (fcons n k))) l k
theorem fNL_eq : ∀ (l : List Nat) (k : List Nat → Ans), fNL l k = k l
  | [], k => rfl
  | n :: l, k => by
    show fN n (fun n => fNL l (fcons n k)) = _
    rw [fN_eq, fNL_eq l]; rfl
noncomputable def fleft (σ : AH) (i : Nat) (k : AObj → Ans) : Ans := fcelU σ i (fun cs => k (.ro cs)) (k .dead)
noncomputable def fkills (l : List Nat) (σ : AH) (k : AH → Ans) : Ans := @List.rec Nat (fun _ => AH → (AH → Ans) → Ans) (fun σ k => k σ) (fun i _ I σ k => fleft σ i (fun o => fsetH σ i o (fun σ => I σ k))) l σ k
theorem fkills_eq : ∀ (l : List Nat) (σ : AH) (k : AH → Ans), fkills l σ k = k (σ.kills l)
  | [], σ, k => rfl
  | i :: l, σ, k => by
    show fleft σ i (fun o => fsetH σ i o (fun σ => fkills l σ k)) = _
    unfold fleft
    rw [fcelU_eq]
    simp only [fsetH_eq, fkills_eq l, AH.kills, AH.left]
    cases σ.cel i <;> rfl
noncomputable def fapart (run : List AV → AH → (AV → AH → Ans) → Ans) (args : List AV) (σ : AH) (k : AV → AH → Ans) : Ans :=
  bi (fall fclosed args) (run args ⟨0, 0, .leaf⟩ (fun v σ' => ffz 8 (fcelU σ') v (fun v => k v σ)))
    (fNL (args.flatMap (idsV 8 σ.cel)) (fun S => ffzL (ffz 8 (fcelS σ S)) args (fun as => run as ⟨0, 0, .leaf⟩ (fun v σ' => ffz 8 (fcelU σ') v (fun v =>
      bi (isScal 8 v) (k v σ) (bi (S.all (fun i => decide (σ.lim ≤ i))) (fkills S σ (fun σ => k v σ)) .no))))))
theorem fapart_eq {run : List AV → AH → (AV → AH → Ans) → Ans} {run' : List AV → AH → Option (AV × AH)} (h : ∀ args σ k, run args σ k = ob2 (run' args σ) k) (args : List AV) (σ : AH) (k : AV → AH → Ans) :
    fapart run args σ k = ob2 (apart run' args σ) k := by
  unfold fapart apart
  rw [fall_eq, show fclosed = closed 8 from funext fclosed_eq, fNL_eq, ffzL_eq (ffz_eq (fcelS_eq σ _) 8), h, h]
  cases args.all (closed 8)
  · simp only [bi_false, Bool.false_eq_true, if_false]
    generalize run' _ _ = q
    rcases q with _ | ⟨v, σ'⟩
    · rfl
    · simp only [ob2_some]
      rw [ffz_eq (fcelU_eq σ') 8]
      cases isScal 8 (fzV 8 σ'.cel v)
      · simp only [bi_false, Bool.false_eq_true, if_false, fkills_eq]
        cases (args.flatMap (idsV 8 σ.cel)).all (fun i => decide (σ.lim ≤ i)) <;> rfl
      · rfl
  · simp only [bi_true, if_true]
    generalize run' _ _ = q
    rcases q with _ | ⟨v, σ'⟩
    · rfl
    · simp only [ob2_some]
      rw [ffz_eq (fcelU_eq σ') 8]

/-! ### Runs -/
noncomputable def fyield3 (l : Nat) (ex : AEx) (σ : AH) (k : AV → AH → Ans) : Ans := fgetH σ l (fun o => onLoop o (fun f i env _ _ d => fNorm ex (fsetH σ l (.loop f i env .ready none d) (fun σ => k (.bool true) σ)) (fsetH σ l (.loop f i env .done (some ex) d) (fun σ => k (.bool false) σ))))
noncomputable def fready (st : LoopState) (x : Ans) : Ans := @LoopState.rec (fun _ => Ans) x .no .no .no st
noncomputable def fyield (p : AProg) (F : FCaller) (n l : Nat) (args : List AV) (σ : AH) (k : AV → AH → Ans) : Ans :=
  fgetH σ l (fun o => onLoop o (fun f i env _ _ _ => fTget p.funcs f (fun af => ob af.loops[i]? (fun lp => feqn (flen args) (flen lp.params) (flim σ l
    (fEnvOf (env.puts lp.params args) (fun e => fcode p F n f (some l) lp.asg e [] σ (fun ex e m σ => @AEx.rec (fun _ => Ans)
      (fgetH σ l (fun o => onLoop o (fun f1 i1 env1 st q d => fready st (fsetH σ l (.loop f1 i1 env1 .busy q d) (fun σ => fcode p F n f (some l) lp.body e m σ (fun ex _ _ σ => fyield3 l ex σ k))))))
      (fun _ => .no) .no ex))))))))
noncomputable def farun1 (p : AProg) (F : FCaller) (n : Nat) (t : Tgt) (args : List AV) (σ : AH) (k : AV → AH → Ans) : Ans := @Tgt.rec (fun _ => Ans)
  (fun f => fTget p.funcs f (fun af => bi af.pure (fapart (fbody p F n f af) args σ k) (fbody p F n f af args σ k)))
  (fun l => fyield p F n l args σ k) t
theorem farun1_eq {p : AProg} {C : Caller} {F : FCaller} (hF : FOK C F) (n : Nat) : FOK (arun1 p C n) (farun1 p F n) := by
  intro t args σ k
  cases t with
  | fn f =>
    show fTget p.funcs f _ = _
    rw [fTget_eq]
    simp only [arun1]
    cases p.funcs.get f with
    | none => rfl
    | some af =>
      simp only [ob_some]
      cases af.pure
      · exact fbody_eq hF n f af args σ k
      · exact fapart_eq (run := fbody p F n f af) (run' := abody p C n f af) (fun args σ k => fbody_eq hF n f af args σ k) args σ k
  | yield l =>
    show fgetH σ l _ = _
    rw [fgetH_eq]
    simp only [arun1]
    cases σ.get l with
    | none => rfl
    | some o =>
      cases o
      case loop f i env st q d =>
        show fTget p.funcs f _ = _
        rw [fTget_eq]
        simp only
        cases p.funcs.get f with
        | none => rfl
        | some af =>
          simp only [ob_some]
          cases af.loops[i]? with
          | none => rfl
          | some lp =>
            simp only [ob_some]
            rw [feqn_eq, flim_eq, flen_eq, flen_eq, fEnvOf_eq]
            by_cases h1 : args.length = lp.params.length
            · by_cases h2 : σ.lim ≤ l
              · rw [if_pos h1, if_pos h2, if_pos ⟨h1, h2⟩]
                have := fcode_eq hF n f (some l) lp.asg ⟨env.puts lp.params args, []⟩ σ (fun ex e m σ => @AEx.rec (fun _ => Ans)
                  (fgetH σ l (fun o => onLoop o (fun f1 i1 env1 st q d => fready st (fsetH σ l (.loop f1 i1 env1 .busy q d) (fun σ => fcode p F n f (some l) lp.body e m σ (fun ex _ _ σ => fyield3 l ex σ k))))))
                  (fun _ => .no) .no ex) (p := p)
                refine Eq.trans this ?_
                cases acode p C n f (some l) lp.asg ⟨env.puts lp.params args, []⟩ σ with
                | none => rfl
                | some r =>
                  obtain ⟨ex, fr, σ1⟩ := r
                  cases ex
                  case normal =>
                    show fgetH σ1 l _ = _
                    rw [fgetH_eq]
                    simp only
                    cases σ1.get l with
                    | none => rfl
                    | some o =>
                      cases o
                      case loop f1 i1 env1 st q d =>
                        cases st
                        case ready =>
                          show fsetH σ1 l _ (fun σ => fcode p F n f (some l) lp.body (FEnv.of fr.env) fr.marks σ (fun ex _ _ σ => fyield3 l ex σ k)) = _
                          rw [fsetH_eq, fcode_eq hF]
                          simp only
                          cases acode p C n f (some l) lp.body fr (σ1.set l (.loop f1 i1 env1 .busy q d)) with
                          | none => rfl
                          | some r =>
                            obtain ⟨ex, fr2, σ2⟩ := r
                            show fgetH σ2 l _ = _
                            rw [fgetH_eq]
                            simp only
                            cases σ2.get l with
                            | none => rfl
                            | some o =>
                              cases o
                              case loop f2 i2 env2 st2 q2 d2 =>
                                show fNorm ex _ _ = _
                                rw [fsetH_eq, fsetH_eq]
                                cases ex <;> rfl
                              all_goals rfl
                        all_goals rfl
                      all_goals rfl
                  all_goals rfl
              · rw [if_pos h1, if_neg h2, if_neg (fun h => h2 h.2)]; rfl
            · rw [if_neg h1, if_neg (fun h => h1 h.1)]; rfl
      all_goals rfl
noncomputable def farun (p : AProg) (n : Nat) : FCaller := @Nat.rec (fun _ => FCaller) (fun _ _ _ _ => .no) (fun n I t args σ k => farun1 p I n t args σ k) n
theorem farun_eq (p : AProg) : ∀ n, FOK (arun p noO n) (farun p n)
  | 0 => fun t args σ k => rfl
  | n + 1 => fun t args σ k => farun1_eq (farun_eq p n) n t args σ k

/-! ### What a run shows -/
noncomputable def fyes (v : AV) : Ans := onBool v (fun b => bi b .ok .no) .no
/-- A function without arguments that answers yes, run by the kernel. -/
theorem run_fast {p : AProg} {N f : Nat} (h : farun1 p (farun p N) N (.fn f) [] ⟨0, 0, .leaf⟩ (fun v _ => fyes v) = .ok) : ∃ s, arun1 p (arun p noO N) N (.fn f) [] ⟨0, 0, .leaf⟩ = some (.bool true, s) := by
  rw [farun1_eq (farun_eq p N)] at h
  cases hr : arun1 p (arun p noO N) N (.fn f) [] ⟨0, 0, .leaf⟩ with
  | none => rw [hr] at h; cases h
  | some r =>
    obtain ⟨v, s⟩ := r
    rw [hr] at h
    refine ⟨s, ?_⟩
    cases v
    case bool b =>
      cases b
      · cases h
      · rfl
    all_goals cases h
end Go.Oct
end
/- The fast runs once more, where some functions without arguments are known to answer yes. -/
section
set_option linter.unusedVariables false
set_option linter.unusedSimpArgs false
namespace Go.Oct
end Go.Oct
end
