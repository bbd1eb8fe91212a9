/- The theorem of the nut. -/
import Derived.Test.YtcbiofokeadddaaOScrewLaps
set_option maxRecDepth 100000
set_option linter.unusedVariables false
set_option linter.unusedSimpArgs false
namespace Go.Oct.Screw
open Go.Oct
@[simp] theorem Wider_t (lo hi n : Int) : ans prog O 92 [.agg [.int .i64 lo, .int .i64 hi], .int .i64 n, .bool true] = some (.agg [.int .i64 n, .int .i64 n]) := by
  refine fn_of' pl get92 (oo (by decide)) rfl rfl ?_
  simp +contextual (disch := omega) []
@[simp] theorem Wider_f (lo hi n : Int) : ans prog O 92 [.agg [.int .i64 lo, .int .i64 hi], .int .i64 n, .bool false] = some (.agg [.int .i64 (min lo n), .int .i64 (max hi n)]) := by
  refine fn_of' pl get92 (oo (by decide)) rfl rfl ?_
  simp +contextual (disch := omega) []
theorem spread_ok (nl : Bool) (xs : List Int) (hx : xs.length < 2 ^ 62) : ans prog O 48 [vs nl xs] = some (.int .i64 (if xs.length = 0 then 0 else w64 (mx xs - mn xs))) := by
  refine fn_of' pl get48 (oo (by decide)) rfl rfl ?_
  simp +contextual (disch := omega) []
  refine lp_loop pl (fun k fr σ => ∃ j lo hi, j + k = xs.length ∧ fr = ⟨[(0, vs nl xs), (3, .ptr (some (0, 0))), (4, .int .i64 j)], []⟩ ∧ σ.lim = 0 ∧ σ.next = 1 ∧ σ.get 0 = some (.cells [.int .i64 lo, .int .i64 hi]) ∧ (j = 0 → lo = 0 ∧ hi = 0) ∧ (j ≠ 0 → lo = mnT xs j ∧ hi = mxT xs j))
    ⟨xs.length, 0, 0, 0, by omega, rfl, rfl, rfl, by simp, by simp, by simp⟩ ?_
  rintro k _ σ ⟨j, lo, hi, hj, rfl, hl, hn, hg, h0, h1⟩
  simp +contextual (disch := omega) [Und, hl, hn, hg]
  refine ⟨fun hjl => ?_, fun hjl => ?_⟩
  · by_cases hj0 : j = 0
    · subst hj0
      simp +contextual (disch := omega) [hl, hn, hg]
      exact ⟨k - 1, by omega, 1, by omega, by omega, _, _, ⟨rfl, rfl⟩, by omega, fun _ => ⟨(mnT_one hjl).symm, (mxT_one hjl).symm⟩⟩
    · obtain ⟨rfl, rfl⟩ := h1 hj0
      simp +contextual (disch := omega) [hl, hn, hg, hj0]
      exact ⟨k - 1, by omega, j + 1, by omega, by omega, _, _, ⟨rfl, rfl⟩, by omega, fun _ => ⟨(mnT_succ hjl).symm, (mxT_succ hjl).symm⟩⟩
  · by_cases hj0 : j = 0
    · obtain ⟨rfl, rfl⟩ := h0 hj0
      have : xs = [] := List.eq_nil_of_length_eq_zero (by omega)
      simp [this]
    · obtain ⟨rfl, rfl⟩ := h1 hj0
      have : xs ≠ [] := fun e => by rw [e] at hj; simp at hj; omega
      rw [if_neg this, show j = xs.length by omega]
/-! ### The law of sums, without the program -/
def isum (xs : List Int) : Int := xs.foldl (· + ·) 0
theorem foldl_add (xs : List Int) : ∀ a, xs.foldl (· + ·) a = a + isum xs := by
  induction xs with
  | nil => intro a; simp [isum]
  | cons x xs ih => intro a; simp only [List.foldl_cons, isum]; rw [ih, ih (0 + x)]; omega
theorem isum_cons (x : Int) (xs : List Int) : isum (x :: xs) = x + isum xs := by simp only [isum, List.foldl_cons]; rw [foldl_add]; simp [isum]
theorem isum_append (xs ys : List Int) : isum (xs ++ ys) = isum xs + isum ys := by simp only [isum, List.foldl_append]; rw [foldl_add]; simp [isum]
@[simp] theorem isum_nil : isum [] = 0 := rfl
theorem isum_le {lo hi : Int} : ∀ {xs : List Int}, (∀ x ∈ xs, lo ≤ x ∧ x ≤ hi) → (xs.length : Int) * lo ≤ isum xs ∧ isum xs ≤ (xs.length : Int) * hi
  | [], _ => by simp
  | x :: xs, h => by
    have h1 := h x (List.mem_cons_self ..)
    have h2 := isum_le fun y hy => h y (List.mem_cons_of_mem _ hy)
    rw [isum_cons, List.length_cons]
    have e1 : ((xs.length + 1 : Nat) : Int) * lo = (xs.length : Int) * lo + lo := by rw [Int.natCast_add, Int.add_mul]; simp
    have e2 : ((xs.length + 1 : Nat) : Int) * hi = (xs.length : Int) * hi + hi := by rw [Int.natCast_add, Int.add_mul]; simp
    omega
theorem gsum_isum : ∀ (ys xs : List Int) (a : Int), xs.length + ys.length ≤ 1000 → (∀ x ∈ ys, -1000000 ≤ x ∧ x ≤ 1000000) → -1000000 * xs.length ≤ a ∧ a ≤ 1000000 * xs.length → ys.foldl (fun a b => w64 (a + b)) a = a + isum ys
  | [], xs, a, _, _, _ => by simp
  | y :: ys, xs, a, hl, h, ha => by
    have h1 := h y (List.mem_cons_self ..)
    simp only [List.foldl_cons, List.length_cons] at hl ⊢
    rw [w64_id _ (by omega) (by omega), gsum_isum ys (y :: xs) (a + y) (by simp; omega) (fun x hx => h x (List.mem_cons_of_mem _ hx)) (by simp; omega), isum_cons]
    omega
/-- Sums of places do not leave 64 bits. -/
theorem gsum_eq {xs : List Int} (hl : xs.length ≤ 1000) (h : ∀ x ∈ xs, -1000000 ≤ x ∧ x ≤ 1000000) : gsum xs = isum xs := by
  have := gsum_isum xs [] 0 (by simpa using hl) h (by simp)
  unfold gsum
  rw [this]; omega
/-- A window. -/
def win (xs : List Int) (n i : Nat) : List Int := (xs.drop i).take n
theorem win_len {xs : List Int} {n i : Nat} (h : i + n ≤ xs.length) : (win xs n i).length = n := by simp [win]; omega
theorem win_mem {xs : List Int} {n i : Nat} {x : Int} (h : x ∈ win xs n i) : ∃ j, j < xs.length ∧ nth xs j = x := mem_nth.1 (List.mem_of_mem_drop (List.mem_of_mem_take h))
theorem win_diff {xs : List Int} {n i : Nat} (hn : 0 < n) (h : i + 1 + n ≤ xs.length) : isum (win xs n (i + 1)) - isum (win xs n i) = nth xs (i + n) - nth xs i := by
  obtain ⟨m, rfl⟩ : ∃ m, n = m + 1 := ⟨n - 1, by omega⟩
  have e1 : win xs (m + 1) i = nth xs i :: (xs.drop (i + 1)).take m := by
    unfold win
    rw [drop_nth (by omega), List.take_succ_cons]
  have e2 : win xs (m + 1) (i + 1) = (xs.drop (i + 1)).take m ++ [nth xs (i + (m + 1))] := by
    unfold win
    rw [take_succ_nth (by simp; omega), nth_drop (by omega)]
    congr 3
    omega
  rw [e1, e2, isum_append, isum_cons, isum_cons]
  simp
  omega
theorem nth_lap {xs : List Int} {n i : Nat} (h : i + n ≤ xs.length) : nth (lap xs n) i = gsum (win xs n i) := by
  unfold lap win
  rw [nth_map _ (by simp; omega), nth_eq (by simp; omega), List.getElem_range]
theorem mx_le {xs : List Int} {hi : Int} (h : ∀ j, j < xs.length → nth xs j ≤ hi) (h0 : 0 < xs.length) : mx xs ≤ hi := by
  have : ∀ j, j ≤ xs.length → mxT xs j ≤ hi := by
    intro j
    induction j with
    | zero => intro _; simpa [mxT] using h 0 h0
    | succ j ih => intro hj; rw [mxT_succ (by omega)]; have := ih (by omega); have := h j (by omega); omega
  exact this _ (Nat.le_refl _)
theorem le_mn {xs : List Int} {lo : Int} (h : ∀ j, j < xs.length → lo ≤ nth xs j) (h0 : 0 < xs.length) : lo ≤ mn xs := by
  have : ∀ j, j ≤ xs.length → lo ≤ mnT xs j := by
    intro j
    induction j with
    | zero => intro _; simpa [mnT] using h 0 h0
    | succ j ih => intro hj; rw [mnT_succ (by omega)]; have := ih (by omega); have := h j (by omega); omega
  exact this _ (Nat.le_refl _)
theorem le_mx {xs : List Int} {j : Nat} (h : j < xs.length) : nth xs j ≤ mx xs ∧ mn xs ≤ nth xs j := by
  have : ∀ m, j < m → m ≤ xs.length → nth xs j ≤ mxT xs m ∧ mnT xs m ≤ nth xs j := by
    intro m
    induction m with
    | zero => intro h; omega
    | succ m ih =>
      intro h1 h2
      rw [mxT_succ (by omega), mnT_succ (by omega)]
      by_cases e : j = m
      · subst e; omega
      · have := ih (by omega) (by omega); omega
  exact this _ h (Nat.le_refl _)
theorem okLap.mem {l : List Int} {n : Int} (h : okLap l n) {x : Int} (hx : ∃ j, j < l.length ∧ nth l j = x) : -1000000 ≤ x ∧ x ≤ 1000000 := by
  obtain ⟨j, hj, rfl⟩ := hx
  exact h.2.2 j hj
theorem lap_nth {l : List Int} {n : Int} (h : okLap l n) {i : Nat} (hi : i + n.toNat ≤ l.length) : nth (lap l n.toNat) i = isum (win l n.toNat i) := by
  rw [nth_lap hi]
  refine gsum_eq ?_ fun x hx => h.mem (win_mem hx)
  rw [win_len hi]
  have := h.1; have := h.2.1; omega
theorem lap_in {l : List Int} {n : Int} (h : okLap l n) {i : Nat} (hi : i + n.toNat ≤ l.length) : n * mn l ≤ nth (lap l n.toNat) i ∧ nth (lap l n.toNat) i ≤ n * mx l := by
  rw [lap_nth h hi]
  have := isum_le (lo := mn l) (hi := mx l) (xs := win l n.toNat i) fun x hx => by
    obtain ⟨j, hj, rfl⟩ := win_mem hx
    have := le_mx hj; omega
  rw [win_len hi] at this
  have e : ((n.toNat : Nat) : Int) = n := by have := h.2.1; omega
  rwa [e] at this
theorem lap_diff {l : List Int} {n : Int} (h : okLap l n) {i : Nat} (hi : i + 1 + n.toNat ≤ l.length) : nth (lap l n.toNat) (i + 1) - nth (lap l n.toNat) i = nth l (i + n.toNat) - nth l i := by
  rw [lap_nth h hi, lap_nth h (by omega), win_diff (by have := h.2.1; omega) hi]
/-- The spread of what is left, and that of the errors. -/
theorem lap_spread {l : List Int} {n : Int} (h : okLap l n) : mx (lap l n.toNat) - mn (lap l n.toNat) ≤ n * (mx l - mn l) ∧ -64000000 ≤ mn (lap l n.toNat) ∧ mx (lap l n.toNat) ≤ 64000000 ∧ mn (lap l n.toNat) ≤ mx (lap l n.toNat) ∧ 0 ≤ n * (mx l - mn l) ∧ n * (mx l - mn l) ≤ 128000000 ∧ -1000000 ≤ mn l ∧ mx l ≤ 1000000 := by
  obtain ⟨h1, h2, h3⟩ := id h
  have hlen := lap_length l n.toNat
  have hpos : 0 < (lap l n.toNat).length := by omega
  have a1 : mx (lap l n.toNat) ≤ n * mx l := mx_le (fun j hj => (lap_in h (by omega)).2) hpos
  have a2 : n * mn l ≤ mn (lap l n.toNat) := le_mn (fun j hj => (lap_in h (by omega)).1) hpos
  have b1 : mx l ≤ 1000000 := mx_le (fun j hj => (h3 j hj).2) (by omega)
  have b2 : -1000000 ≤ mn l := le_mn (fun j hj => (h3 j hj).1) (by omega)
  have b3 := le_mx (xs := l) (j := 0) (by omega)
  have b4 := le_mx (xs := lap l n.toNat) hpos
  have c1 : n * mx l ≤ n * 1000000 := Int.mul_le_mul_of_nonneg_left b1 (by omega)
  have c2 : n * (-1000000) ≤ n * mn l := Int.mul_le_mul_of_nonneg_left b2 (by omega)
  have c3 : n * mn l ≤ n * mx l := Int.mul_le_mul_of_nonneg_left (by omega) (by omega)
  have e : n * (mx l - mn l) = n * mx l - n * mn l := Int.mul_sub ..
  rw [e]
  generalize n * mx l = P at *
  generalize n * mn l = Q at *
  omega
/-- Errors of a period. -/
def per (xs : List Int) (p m : Nat) : List Int := (List.range m).map fun i => nth xs (i % p)
theorem per_succ (xs : List Int) (p m : Nat) : per xs p (m + 1) = per xs p m ++ [nth xs (m % p)] := by
  unfold per
  rw [List.range_succ, List.map_append]; rfl
theorem per_length (xs : List Int) (p m : Nat) : (per xs p m).length = m := by simp [per]
theorem per_nth {xs : List Int} {p m i : Nat} (h : i < m) : nth (per xs p m) i = nth xs (i % p) := by
  unfold per
  rw [nth_map (fun i => nth xs (i % p)) (by simpa using h), nth_eq (xs := List.range m) (by simpa using h), List.getElem_range]
theorem per_ok {l : List Int} {n : Int} (h : okLap l n) {p : Nat} (hp : 0 < p) (hp2 : p ≤ l.length) : okLap (per l p l.length) n := by
  obtain ⟨h1, h2, h3⟩ := h
  refine ⟨by rw [per_length]; exact h1, by rw [per_length]; exact h2, fun j hj => ?_⟩
  rw [per_length] at hj
  rw [per_nth hj]
  exact h3 _ (by have := Nat.mod_lt j hp; omega)
/-- A period that divides the nut is gone. -/
theorem per_gone {l : List Int} {n : Int} (h : okLap l n) {p : Nat} (hp : 0 < p) (hd : n.toNat % p = 0) : mx (lap (per l p l.length) n.toNat) - mn (lap (per l p l.length) n.toNat) = 0 ∧ (lap (per l p l.length) n.toNat).length = (lap l n.toNat).length := by
  obtain ⟨h1, h2, h3⟩ := id h
  have hpn : p ≤ n.toNat := Nat.le_of_dvd (by omega) (Nat.dvd_of_mod_eq_zero hd)
  have hok := per_ok h hp (by omega)
  have hlen : (lap (per l p l.length) n.toNat).length = (lap l n.toNat).length := by rw [lap_length, lap_length, per_length]
  have hl2 := lap_length l n.toNat
  have same : ∀ i, i < (lap l n.toNat).length → nth (lap (per l p l.length) n.toNat) i = nth (lap (per l p l.length) n.toNat) 0 := by
    intro i
    induction i with
    | zero => intro _; rfl
    | succ i ih =>
      intro hi
      have hd2 := lap_diff hok (i := i) (by rw [per_length]; omega)
      rw [per_nth (by omega), per_nth (by omega)] at hd2
      have : (i + n.toNat) % p = i % p := by rw [Nat.add_mod, hd, Nat.add_zero, Nat.mod_mod]
      rw [this] at hd2
      have := ih (by omega)
      omega
  have hpos : 0 < (lap (per l p l.length) n.toNat).length := by omega
  have a1 := mx_le (xs := lap (per l p l.length) n.toNat) (hi := nth (lap (per l p l.length) n.toNat) 0) (fun j hj => by rw [same j (by omega)]; exact Int.le_refl _) hpos
  have a2 := le_mn (xs := lap (per l p l.length) n.toNat) (lo := nth (lap (per l p l.length) n.toNat) 0) (fun j hj => by rw [same j (by omega)]; exact Int.le_refl _) hpos
  have a3 := le_mx hpos
  exact ⟨by omega, hlen⟩
theorem ScrewNut_ok (nl : Bool) (l : List Int) (n m : Int) (hs : Slice (AV.int .i64) i64 (vs nl l) nl l) (_ : i64 n) (_ : i64 m) : ans prog O 11 [vs nl l, .int .i64 n, .int .i64 m] = some (.bool true) := by
  have hx := hs.len
  refine fn_of' pl get11 (oo (by decide)) rfl rfl ?_
  by_cases h : okLap l n
  · have hres : lapRes false l n = .tuple [vs false (lap l n.toNat), .int .i64 0] := by unfold lapRes; rw [if_pos h]
    obtain ⟨h1, h2, h3⟩ := id h
    have hlen := lap_length l n.toNat
    have hlen' : ((lap l n.toNat).length : Int) = l.length - n + 1 := by omega
    have hlp : 0 < (lap l n.toNat).length := by omega
    have hlp2 : (lap l n.toNat).length < 2 ^ 62 := by omega
    have hne : ¬ (lap l n.toNat) = [] := fun e => by rw [e] at hlp; simp at hlp
    have hne2 : ¬ l = [] := fun e => by rw [e] at h1; simp at h1
    have sp1 := spread_ok false (lap l n.toNat) hlp2
    rw [if_neg (by omega)] at sp1
    have sp2 := spread_ok nl l (by omega)
    rw [if_neg (by omega)] at sp2
    obtain ⟨k1, k2, k3, k4, k5, k6, k7, k8⟩ := lap_spread h
    have kmn := le_mx (xs := l) (j := 0) (by omega)
    have w1 := w64_id (mx (lap l n.toNat) - mn (lap l n.toNat)) (by omega) (by omega)
    have w2 := w64_id (mx l - mn l) (by omega) (by omega)
    have w3 := w64_id (n * (mx l - mn l)) (by omega) (by omega)
    rw [w1] at sp1
    rw [w2] at sp2
    have k1' : ¬ n * (mx l - mn l) < mx (lap l n.toNat) - mn (lap l n.toNat) := by omega
    have h0 : nth (lap l n.toNat) 0 = gsum (l.take n.toNat) := by rw [nth_lap (by omega)]; rfl
    have htk : (l.take n.toNat).length < 2 ^ 62 := by simp; omega
    clear k1 k2 k3 k4 k5 k6 k7 k8 kmn w1 w2 h3 hlen
    simp +contextual (disch := omega) [Lap_ok, hres, sp1, sp2, w3, k1', h0, hlen', hlp, htk]
    refine ⟨fun hbad => by omega, fun _ => ⟨by omega, by omega, ?_⟩⟩
    have en : ((n.toNat : Nat) : Int) = n := by omega
    refine lp_loop pl (fun k fr σ => ∃ j : Nat, j + k = (lap l n.toNat).length ∧ 1 ≤ j ∧ fr = ⟨[(0, vs nl l), (1, .int .i64 n), (2, .int .i64 m), (7, vs false (lap l n.toNat)), (9, .int .i64 j)], []⟩ ∧ σ = ⟨0, 0, .leaf⟩) ⟨(lap l n.toNat).length - 1, 1, by omega, by omega, rfl, rfl⟩ ?_
    rintro k _ _ ⟨j, hj, hj1, rfl, rfl⟩
    have hdiff : j < (lap l n.toNat).length → nth (lap l n.toNat) j - nth (lap l n.toNat) (j - 1) = nth l (j + n.toNat - 1) - nth l (j - 1) := by
      intro hjl
      have := lap_diff h (i := j - 1) (by omega)
      rw [show j - 1 + 1 = j by omega, show j - 1 + n.toNat = j + n.toNat - 1 by omega] at this
      exact this
    have t1 : ((j : Int) - 1).toNat = j - 1 := by omega
    have t2 : ((j : Int) + n - 1).toNat = j + n.toNat - 1 := by omega
    simp +contextual (disch := omega) [Und, t1, t2]
    refine ⟨fun hjl => ⟨by omega, by omega, by omega, by rw [hdiff hjl], fun _ => ⟨k - 1, by omega, j + 1, by omega, by omega, by omega⟩⟩, fun hjl => ?_⟩
    have e1 := Int.emod_nonneg m (show n ≠ 0 by omega)
    have e2 := Int.emod_lt_of_pos m (show 0 < n by omega)
    rw [w64_id (1 + m % n) (by omega) (by omega)]
    refine lp_loop pl (fun k fr σ => ∃ p : Nat, p = k ∧ 1 ≤ p ∧ (p : Int) ≤ n ∧ fr = ⟨[(0, vs nl l), (1, .int .i64 n), (7, vs false (lap l n.toNat)), (10, .int .i64 p)], []⟩ ∧ σ = ⟨0, 0, .leaf⟩) ⟨(1 + m % n).toNat, _, rfl, by omega, by omega, by
      have : (((1 + m % n).toNat : Nat) : Int) = 1 + m % n := by omega
      rw [this], rfl⟩ ?_
    rintro k _ _ ⟨p, rfl, hp1, hp2, rfl, rfl⟩
    have ht : n.tmod p = n % p := Int.tmod_eq_emod_of_nonneg (by omega)
    have hz : ((n.toNat % p : Nat) : Int) = n % p := by rw [Int.natCast_emod, en]
    have hpz : p ≠ 0 := by omega
    simp +contextual (disch := omega) [Und, ht, hpz]
    refine ⟨fun hnz => ⟨p - 1, by omega, ?_, by omega, by omega⟩, fun hzz => ?_⟩
    · by_cases hp : p = 1
      · subst hp; simp at hnz
      · omega
    have hd : n.toNat % p = 0 := by omega
    refine lp_loop pl (fun k fr σ => ∃ j v, j + k = l.length ∧ fr = ⟨[(0, vs nl l), (1, .int .i64 n), (7, vs false (lap l n.toNat)), (10, .int .i64 p), (11, v), (12, .int .i64 j)], []⟩ ∧ σ.lim = 0 ∧ Buf 0 1 (AV.int .i64) σ v (per l p j)) ⟨l.length, 0, .vsl true [], by omega, rfl, rfl, Buf.nil⟩ ?_
    rintro k _ σ ⟨j, v, hj, rfl, hσ, hb⟩
    have hjt : (j : Int).tmod p = ((j % p : Nat) : Int) := rfl
    have hjp := Nat.mod_lt j (show 0 < p by omega)
    simp +contextual (disch := omega) [Und, hjt, hpz, -Int.natCast_emod]
    refine ⟨fun hjl => ⟨by omega, ?_⟩, fun hjl => ?_⟩
    · refine hb.push encI (by omega) (by omega) (nth l (j % p)) (by rw [per_length]; simp only [topBytes]; omega) rfl fun v' σ' hb' hk => ?_
      have := hk.lim
      simp +contextual (disch := omega) []
      refine ⟨k - 1, by omega, j + 1, by omega, v', ⟨rfl, by omega⟩, by omega, ?_⟩
      rw [per_succ]; exact hb'
    have hjl' : j = l.length := by omega
    subst hjl'
    have hok := per_ok h (p := p) (by omega) (by omega)
    obtain ⟨g1, g2⟩ := per_gone h (p := p) (by omega) hd
    have hres2 : lapRes false (per l p l.length) n = .tuple [vs false (lap (per l p l.length) n.toNat), .int .i64 0] := by unfold lapRes; rw [if_pos hok]
    have hcall := Lap_ok (per l p l.length).isEmpty (per l p l.length) (by rw [per_length]; omega) n
    rw [hres2] at hcall
    have sp3 := spread_ok false (lap (per l p l.length) n.toNat) (by omega)
    rw [if_neg (by omega), g1] at sp3
    refine hb.callN encI flatI (by omega) (oo (args := []) (by decide)).1 hcall fun σ' hσ' => ?_
    have g2' : ((lap (per l p l.length) n.toNat).length : Int) = (lap l n.toNat).length := by omega
    simp +contextual (disch := omega) [sp3, g2', g2]
  · have hres : lapRes false l n = .tuple [.vsl true [], .int .i64 25] := by unfold lapRes; rw [if_neg h]
    simp +contextual (disch := omega) [Lap_ok, hres]
end Go.Oct.Screw
