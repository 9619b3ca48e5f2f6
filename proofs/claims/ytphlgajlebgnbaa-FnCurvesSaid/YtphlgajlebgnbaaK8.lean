/- This text was put together by a session out of texts that its own programs and the print tool wrote. -/
import Derived.Test.YtphlgajlebgnbaaK1
import Derived.Test.YtphlgajlebgnbaaK2
import Derived.Test.YtphlgajlebgnbaaK5
import Derived.Test.YtphlgajlebgnbaaK7
import Derived.Test.YtphlgajlebgnbaaK6
import Derived.Test.YtphlgajlebgnbaaK4
import Derived.Test.YtphlgajlebgnbaaK3
set_option linter.unusedVariables false
set_option linter.unusedSimpArgs false
/-! The plain side of powers modulo p and of how often each value is met. -/
namespace Go.Proofs.Ytphlgajlebgnbaa.Q
open Go.RowKit Go.Proofs.Ytphlgajlebgnbaa.P Go.Proofs.YtphlgajlebgnbaaW.PrintWords Go.Proofs.YtphlgajlebgnbaaW.PrintLast
set_option linter.unusedVariables false
theorem pow_emod (a m : Int) (n : Nat) : (a % m) ^ n % m = a ^ n % m := by
  induction n with
  | zero => simp
  | succ n ih => rw [Int.pow_succ, Int.pow_succ, Int.mul_emod, ih, Int.emod_emod, ← Int.mul_emod]
theorem mul_pow_emod (c a m : Int) (n : Nat) : c * (a % m) ^ n % m = c * a ^ n % m := by
  rw [Int.mul_emod, pow_emod, ← Int.mul_emod]
theorem mod_mul (a b m : Int) : a % m * b % m = a * b % m := by rw [Int.mul_emod, Int.emod_emod, ← Int.mul_emod]
theorem sq_pow (b : Int) (n : Nat) : (b * b) ^ n = b ^ (2 * n) := by
  induction n with
  | zero => simp
  | succ n ih => rw [Int.pow_succ, ih, show 2 * (n + 1) = 2 * n + 1 + 1 by omega, Int.pow_succ, Int.pow_succ, Int.mul_assoc]
theorem small_mul {a b m : Int} (h0 : 0 ≤ a) (h1 : a < m) (h2 : 0 ≤ b) (h3 : b < m) (hm : m ≤ 100000) : 0 ≤ a * b ∧ a * b ≤ 10000000000 := by
  refine ⟨Int.mul_nonneg h0 h2, ?_⟩
  have : a * b ≤ 100000 * 100000 := Int.mul_le_mul (by omega) (by omega) h2 (by omega)
  omega
theorem power_loop (m : Int) (hm : 1 ≤ m) (hm2 : m ≤ 100000) : ∀ (e : Nat) (k : Nat) (b acc : Int), e ≤ 1000 → e < k → 0 ≤ b → b < m → 0 ≤ acc → acc < m →
    impl_power.l0 k b e m acc = some (acc * b ^ e % m) := by
  intro e
  induction e using Nat.strongRecOn with
  | _ e ih =>
    intro k b acc he hk b0 b1 a0 a1
    obtain ⟨k, rfl⟩ : ∃ j, k = j + 1 := ⟨k - 1, by omega⟩
    simp only [impl_power.l0]
    obtain ⟨s0, s1⟩ := small_mul b0 b1 b0 b1 hm2
    obtain ⟨t0, t1⟩ := small_mul a0 a1 b0 b1 hm2
    have hz : ¬ m = 0 := by omega
    by_cases hp : (e : Int) > 0
    · rw [if_pos hp]
      have hd : wrap64 (Int.tdiv (e : Int) 2) = ((e / 2 : Nat) : Int) := by
        rw [Int.tdiv_eq_ediv_of_nonneg (by omega), w64 (by omega) (by omega)]; omega
      have hq : Int.tmod (wrap64 (b * b)) m = b * b % m := by rw [w64 (by omega) (by omega), Int.tmod_eq_emod_of_nonneg s0]
      have ha : Int.tmod (wrap64 (acc * b)) m = acc * b % m := by rw [w64 (by omega) (by omega), Int.tmod_eq_emod_of_nonneg t0]
      have h2 : Int.tmod (e : Int) 2 = (e : Int) % 2 := Int.tmod_eq_emod_of_nonneg (by omega)
      rw [hd, hq, ha, h2]
      by_cases ho : (e : Int) % 2 = 1
      · rw [if_pos ho, if_neg hz, ih (e / 2) (by omega) k _ _ (by omega) (by omega) (Int.emod_nonneg _ hz) (Int.emod_lt_of_pos _ (by omega)) (Int.emod_nonneg _ hz) (Int.emod_lt_of_pos _ (by omega))]
        congr 1
        rw [mul_pow_emod, mod_mul, sq_pow, Int.mul_assoc]
        congr 2
        rw [show e = 2 * (e / 2) + 1 by omega, Int.pow_succ, Int.mul_comm]
        congr 2
        omega
      · rw [if_neg ho, if_neg hz, ih (e / 2) (by omega) k _ _ (by omega) (by omega) (Int.emod_nonneg _ hz) (Int.emod_lt_of_pos _ (by omega)) a0 a1]
        congr 1
        rw [mul_pow_emod, sq_pow]
        congr 3
        omega
    · rw [if_neg hp]
      obtain rfl : e = 0 := by omega
      simp
      exact (Int.emod_eq_of_lt a0 a1).symm
theorem power_val (k : Nat) (x : Int) (e : Nat) (m : Int) (hx : 0 ≤ x) (hx2 : x < m) (hm : 1 ≤ m) (hm2 : m ≤ 100000) (he : e ≤ 1000) (hk : 1000 < k) : impl_power.f k x e m = some (x ^ e % m) := by
  unfold impl_power.f impl_around.f
  have hz : ¬ m = 0 := by omega
  rw [if_neg hz, if_neg hz]
  simp only [Option.bind_some]
  rw [Int.tmod_eq_emod_of_nonneg hx, Int.emod_eq_of_lt hx hx2, w64 (by omega) (by omega), Int.tmod_eq_emod_of_nonneg (by omega), Int.add_emod_right, Int.emod_eq_of_lt hx hx2]
  rw [power_loop m hm hm2 e k x _ he (by omega) hx hx2 (Int.emod_nonneg _ hz) (Int.emod_lt_of_pos _ (by omega)), mod_mul, Int.one_mul]
theorem l08Power_loop (p x : Int) (hp : 1 ≤ p) (hp2 : p ≤ 100000) (hx : 0 ≤ x) (hx2 : x < p) : ∀ (e : Nat) (k : Nat) (acc : Int), e ≤ 1000 → e < k → 0 ≤ acc → acc < p →
    spec_l08Power.l0 k p x e acc = some (acc * x ^ e % p) := by
  intro e
  induction e with
  | zero =>
    intro k acc he hk a0 a1
    obtain ⟨k, rfl⟩ : ∃ j, k = j + 1 := ⟨k - 1, by omega⟩
    simp only [spec_l08Power.l0]
    rw [if_neg (by omega)]
    simp
    exact (Int.emod_eq_of_lt a0 a1).symm
  | succ e ih =>
    intro k acc he hk a0 a1
    obtain ⟨k, rfl⟩ : ∃ j, k = j + 1 := ⟨k - 1, by omega⟩
    simp only [spec_l08Power.l0]
    obtain ⟨t0, t1⟩ := small_mul a0 a1 hx hx2 hp2
    have hz : ¬ p = 0 := by omega
    rw [if_pos (by omega), if_neg hz, w64 (n := acc * x) (by omega) (by omega), Int.tmod_eq_emod_of_nonneg t0, show wrap64 (((e + 1 : Nat) : Int) - 1) = (e : Int) by rw [w64 (by omega) (by omega)]; omega,
      ih k _ (by omega) (by omega) (Int.emod_nonneg _ hz) (Int.emod_lt_of_pos _ (by omega)), mod_mul, Int.pow_succ, Int.mul_assoc, Int.mul_comm x]
theorem l08Power_val (k : Nat) (p x : Int) (e : Nat) (hp : 2 ≤ p) (hp2 : p ≤ 100000) (hx : 0 ≤ x) (hx2 : x < p) (he : e ≤ 1000) (hk : 1000 < k) : spec_l08Power.f k p x e = some (x ^ e % p) := by
  unfold spec_l08Power.f
  rw [l08Power_loop p x (by omega) hp2 hx hx2 e k 1 he (by omega) (by omega) (by omega), Int.one_mul]
/-- The powers of 0, .., p - 1. -/
def powL (p e : Nat) : List Int := tab p fun x => (x : Int) ^ e % (p : Int)
theorem powL_length (p e : Nat) : (powL p e).length = p := tab_length _ _
theorem powL_mem (p e : Nat) (hp : 0 < p) : ∀ x ∈ powL p e, 0 ≤ x ∧ x < p := by
  intro x hx
  simp only [powL, tab, List.mem_map] at hx
  obtain ⟨i, _, rfl⟩ := hx
  exact ⟨Int.emod_nonneg _ (by omega), Int.emod_lt_of_pos _ (by omega)⟩
theorem powersOf_loop (p e : Nat) (hp : 1 ≤ p) (hp2 : p ≤ 1000) (he : e ≤ 1000) : ∀ (d i : Nat) (k : Nat), i + d = p → d + 1001 < k →
    impl_powersOf.l0 k p e ((powL p e).take i) p i = some (powL p e) := by
  intro d
  induction d with
  | zero =>
    intro i k hi hk
    obtain ⟨k, rfl⟩ : ∃ j, k = j + 1 := ⟨k - 1, by omega⟩
    simp only [impl_powersOf.l0]
    rw [if_neg (by omega), List.take_of_length_le (by rw [powL_length]; omega)]
  | succ d ih =>
    intro i k hi hk
    obtain ⟨k, rfl⟩ : ∃ j, k = j + 1 := ⟨k - 1, by omega⟩
    simp only [impl_powersOf.l0]
    rw [if_pos (by omega), power_val k i e p (by omega) (by omega) (by omega) (by omega) he (by omega)]
    simp only [Option.bind_some]
    rw [if_pos (by rw [List.length_take, powL_length]; omega), w64 (by omega) (by omega)]
    have h := ih (i + 1) k (by omega) (by omega)
    rw [List.take_succ_eq_append_getElem (by rw [powL_length]; omega)] at h
    simpa [powL, tab] using h
theorem powersOf_val (k p e : Nat) (hp : 1 ≤ p) (hp2 : p ≤ 1000) (he : e ≤ 1000) (hk : 3000 < k) : impl_powersOf.f k p e = some (powL p e) := by
  have h := powersOf_loop p e hp hp2 he p 0 k (by omega) (by omega)
  simpa [impl_powersOf.f] using h
/-- How often a x^e is each residue, of x from 'from' on. -/
def vals (p : Nat) (a : Int) (e fr : Nat) : Nat → Int := fun c => rd (vcount p a ((powL p e).drop fr)) c
theorem vals_tab (p : Nat) (a : Int) (e fr : Nat) : vcount p a ((powL p e).drop fr) = tab p (vals p a e fr) := by
  have h := tab_of (vcount p a ((powL p e).drop fr))
  rw [vcount_length] at h
  exact h
theorem vals_count (p : Nat) (a : Int) (e fr c : Nat) (hc : c < p) : vals p a e fr c = (((powL p e).drop fr).countP fun x => a * x % (p : Int) == (c : Int) : Nat) := by
  unfold vals
  rw [vcount_rd p a _ _ (by omega) (by omega)]
theorem vals_bd (p : Nat) (a : Int) (e fr c : Nat) (hc : c < p) : 0 ≤ vals p a e fr c ∧ vals p a e fr c ≤ p := by
  rw [vals_count p a e fr c hc]
  have := List.countP_le_length (p := fun x => a * x % (p : Int) == (c : Int)) (l := (powL p e).drop fr)
  rw [List.length_drop, powL_length] at this
  omega
theorem valueCounts_val (k p e fr : Nat) (a : Int) (hp : 1 ≤ p) (hp2 : p ≤ 1000) (ha : 0 ≤ a) (ha2 : a ≤ 1000) (he : e ≤ 1000) (hf : fr ≤ p) (hk : 3000 < k) : impl_valueCounts.f k p a e fr = some (tab p (vals p a e fr)) := by
  unfold impl_valueCounts.f
  rw [powersOf_val k p e hp hp2 he hk]
  simp only [Option.bind_some]
  rw [if_pos ⟨by omega, by omega, ha, ha2, by omega, by rw [powL_length]; omega, by rw [powL_length]; omega, fun x hx => by have := powL_mem p e (by omega) x hx; omega⟩]
  rw [← vals_tab]
  simp
theorem l08Values_loop (p e : Nat) (a : Int) (hp : 2 ≤ p) (hp2 : p ≤ 1000) (ha : 0 ≤ a) (ha2 : a < p) (he : e ≤ 1000) : ∀ (d i : Nat) (k : Nat), i + d = p → d + 1001 < k →
    spec_l08Values.l0 k p a e (vcount p a ((powL p e).take i)) i = some (vcount p a (powL p e)) := by
  intro d
  induction d with
  | zero =>
    intro i k hi hk
    obtain ⟨k, rfl⟩ : ∃ j, k = j + 1 := ⟨k - 1, by omega⟩
    simp only [spec_l08Values.l0]
    rw [if_neg (by omega), List.take_of_length_le (by rw [powL_length]; omega)]
  | succ d ih =>
    intro i k hi hk
    obtain ⟨k, rfl⟩ : ∃ j, k = j + 1 := ⟨k - 1, by omega⟩
    simp only [spec_l08Values.l0]
    have hz : ¬ (p : Int) = 0 := by omega
    rw [if_pos (by omega), l08Power_val k p i e (by omega) (by omega) (by omega) (by omega) he (by omega)]
    simp only [Option.bind_some]
    obtain ⟨x, hx⟩ : ∃ x, x = (i : Int) ^ e % (p : Int) := ⟨_, rfl⟩
    have hb0 : 0 ≤ x := by rw [hx]; exact Int.emod_nonneg _ hz
    have hb1 : x < p := by rw [hx]; exact Int.emod_lt_of_pos _ (by omega)
    have hT : (powL p e).take (i + 1) = (powL p e).take i ++ [x] := by
      rw [List.take_succ_eq_append_getElem (by rw [powL_length]; omega), hx]
      simp [powL, tab]
    rw [← hx]
    obtain ⟨t0, t1⟩ := small_mul ha ha2 hb0 hb1 (by omega)
    rw [if_neg hz, w64 (n := a * x) (by omega) (by omega), Int.tmod_eq_emod_of_nonneg t0, if_pos (Int.emod_nonneg _ hz), if_pos (by rw [vcount_length]; exact Int.emod_lt_of_pos _ (by omega))]
    have hq := vcount_rd p a ((powL p e).take i) (a * x % (p : Int)) (Int.emod_nonneg _ hz) (Int.emod_lt_of_pos _ (by omega))
    have hl := List.countP_le_length (p := fun y => a * y % (p : Int) == a * x % (p : Int)) (l := (powL p e).take i)
    rw [List.length_take, powL_length] at hl
    rw [w64 (n := rd _ _ + 1) (by omega) (by omega), vcount_snoc p a _ x (by omega), ← hT, w64 (n := (i : Int) + 1) (by omega) (by omega)]
    exact ih (i + 1) k (by omega) (by omega)
theorem l08Values_val (k p e : Nat) (a : Int) (hp : 2 ≤ p) (hp2 : p ≤ 1000) (ha : 0 ≤ a) (ha2 : a < p) (he : e ≤ 1000) (hk : 3000 < k) : spec_l08Values.f k p a e = some (tab p (vals p a e 0)) := by
  have h := l08Values_loop p e a hp hp2 ha ha2 he p 0 k (by omega) (by omega)
  rw [List.take_zero, vcount_nil] at h
  unfold spec_l08Values.f
  rw [if_pos (by omega), if_pos (by omega), ← vals_tab, List.drop_zero, Int.toNat_natCast]
  exact h
theorem powL_cons (p e : Nat) (hp : 2 ≤ p) (he : 1 ≤ e) : powL p e = 0 :: (powL p e).drop 1 := by
  have h : 0 < (powL p e).length := by rw [powL_length]; omega
  have h2 := List.getElem_cons_drop h
  rw [← List.drop_zero (l := powL p e), ← h2]
  simp only [Nat.zero_add]
  congr 1
  · simp [powL, tab]
    obtain ⟨e, rfl⟩ : ∃ j, e = j + 1 := ⟨e - 1, by omega⟩
    simp [Int.pow_succ]
/-- Less that of 0. -/
theorem vals_full (p : Nat) (a : Int) (e c : Nat) (hp : 2 ≤ p) (he : 1 ≤ e) (hc : c < p) : vals p a e 0 c - (if c = 0 then 1 else 0) = vals p a e 1 c := by
  rw [vals_count _ _ _ _ _ hc, vals_count _ _ _ _ _ hc, List.drop_zero]
  have h := powL_cons p e hp he
  obtain ⟨t, ht⟩ : ∃ t, t = (powL p e).drop 1 := ⟨_, rfl⟩
  rw [← ht] at h ⊢
  rw [h, List.countP_cons]
  by_cases h0 : c = 0
  · subst h0; simp
  · rw [if_neg h0, if_neg (by simp; omega)]; omega
/-- All values together: as many as there are numbers. -/
theorem countP_total (p : Nat) (hp : 0 < p) (f : Int → Int) : ∀ l : List Int, sumTo p (fun c => ((l.countP fun x => f x % (p : Int) == (c : Int) : Nat) : Int)) = l.length := by
  intro l
  induction l with
  | nil => simp [sumTo_zero]
  | cons x l ih =>
    have e : sumTo p (fun c => (((x :: l).countP fun x => f x % (p : Int) == (c : Int) : Nat) : Int)) = sumTo p (fun c => ((l.countP fun x => f x % (p : Int) == (c : Int) : Nat) : Int) + if c = (f x % (p : Int)).toNat then 1 else 0) := by
      refine sumTo_congr fun c hc => ?_
      rw [List.countP_cons]
      have h0 : 0 ≤ f x % (p : Int) := Int.emod_nonneg _ (by omega)
      by_cases h : f x % (p : Int) = (c : Int)
      · rw [if_pos (by simpa using h), if_pos (by omega)]; omega
      · rw [if_neg (by simpa using h), if_neg (by omega)]; omega
    rw [e, sumTo_add, ih, sumTo_one (f x % (p : Int)).toNat (fun i _ hne => by rw [if_neg hne])]
    have h0 : 0 ≤ f x % (p : Int) := Int.emod_nonneg _ (by omega)
    have h1 : f x % (p : Int) < p := Int.emod_lt_of_pos _ (by omega)
    rw [if_pos (by omega), if_pos rfl]
    simp
theorem vals_total (p : Nat) (a : Int) (e : Nat) (hp : 0 < p) : sumTo p (vals p a e 0) = p := by
  have h := countP_total p hp (fun x => a * x) (powL p e)
  rw [powL_length] at h
  rw [← h]
  exact sumTo_congr fun c hc => by rw [vals_count _ _ _ _ _ hc, List.drop_zero]
end Go.Proofs.Ytphlgajlebgnbaa.Q
/-! The plain side of diagonal equations: which there are, and that both counts are the same sums. -/
namespace Go.Proofs.Ytphlgajlebgnbaa.Q
open Go.RowKit Go.Proofs.Ytphlgajlebgnbaa.P Go.Proofs.YtphlgajlebgnbaaW.PrintWords Go.Proofs.YtphlgajlebgnbaaW.PrintLast
set_option linter.unusedVariables false
def isPr (p : Int) : Bool := primes.any fun q => p == q
theorem isPr_bd {p : Int} (h : isPr p = true) : 3 ≤ p ∧ p ≤ 61 := by
  simp [isPr, primes] at h
  omega
theorem isPrime_val (p : Int) (h0 : 2 ≤ p) (h1 : p ≤ 67) (k : Nat) (hk : 100 < k) : impl_isPrime.f k p = some (isPr p) := by
  have h : ∀ i : Nat, i < 66 → impl_isPrime.f 20 ((i : Int) + 2) = some (isPr ((i : Int) + 2)) := by decide +kernel
  have h2 := h (p - 2).toNat (by omega)
  rw [show (((p - 2).toNat : Nat) : Int) + 2 = p by omega] at h2
  exact at_rounds (impl_isPrime.mono p) (by omega) h2
theorem l06Prime_val (p : Int) (h0 : 2 ≤ p) (h1 : p ≤ 67) (k : Nat) (hk : 100 < k) : spec_l06Prime.f k p = some (isPr p) := by
  have h : ∀ i : Nat, i < 66 → spec_l06Prime.f 20 ((i : Int) + 2) = some (isPr ((i : Int) + 2)) := by decide +kernel
  have h2 := h (p - 2).toNat (by omega)
  rw [show (((p - 2).toNat : Nat) : Int) + 2 = p by omega] at h2
  exact at_rounds (spec_l06Prime.mono p) (by omega) h2
theorem within_val (a b c : Int) : impl_within.f a b c = some (decide (b ≤ a ∧ a ≤ c)) := by
  unfold impl_within.f
  by_cases h : b ≤ a
  · rw [if_pos h]; simp [h]
  · rw [if_neg h]; simp [h]
theorem in_val (a b c : Int) : spec_l01In.f a b c = some (decide (b ≤ a ∧ a ≤ c)) := by
  unfold spec_l01In.f
  by_cases h : a ≥ b
  · rw [if_pos h]; simp; omega
  · rw [if_neg h]; simp; omega
def okF (p a : Int) : Bool := decide (1 ≤ a ∧ a ≤ p - 1)
def okE (e : Int) : Bool := decide (1 ≤ e ∧ e ≤ 60)
theorem isExponent_val (e : Int) : impl_isExponent.f e = some (okE e) := by
  unfold impl_isExponent.f
  rw [within_val]
  rfl
def validEq (p : Int) (fs es : List Int) (b : Int) : Bool :=
  isPr p && es.all okE && decide (1 ≤ fs.length ∧ fs.length ≤ 4) && decide (fs.length = es.length) && decide (0 ≤ b ∧ b ≤ p - 1) && fs.all (okF p)
theorem rd_drop (l : List Int) (i : Nat) (h : i < l.length) : l.drop i = rd l (i : Int) :: l.drop (i + 1) := by
  rw [← List.getElem_cons_drop h]
  simp [rd, h]
theorem isEquation_loop (p : Int) (fs es : List Int) (hp0 : 0 ≤ p) (hp : p ≤ 1000000) (hl : fs.length = es.length) (hl2 : fs.length ≤ 1000000) : ∀ (d i k : Nat), i + d = fs.length → d < k →
    impl_isEquation.l0 k p es fs (fs.length : Int) i = some ((fs.drop i).all (okF p) && (es.drop i).all okE) := by
  intro d
  induction d with
  | zero =>
    intro i k hi hk
    obtain ⟨k, rfl⟩ : ∃ j, k = j + 1 := ⟨k - 1, by omega⟩
    simp only [impl_isEquation.l0]
    rw [if_neg (by omega), List.drop_of_length_le (by omega), List.drop_of_length_le (by omega)]
    rfl
  | succ d ih =>
    intro i k hi hk
    obtain ⟨k, rfl⟩ : ∃ j, k = j + 1 := ⟨k - 1, by omega⟩
    simp only [impl_isEquation.l0]
    rw [if_pos (by omega), if_pos (by omega), if_pos (by omega), w64 (n := p - 1) (by omega) (by omega), within_val]
    simp only [Option.bind_some]
    rw [rd_drop fs i (by omega), rd_drop es i (by omega)]
    simp only [List.all_cons]
    by_cases h1 : decide (1 ≤ rd fs (i : Int) ∧ rd fs (i : Int) ≤ p - 1) = true
    · rw [if_pos h1, if_pos (by omega), isExponent_val]
      simp only [Option.bind_some]
      have h1' : okF p (rd fs (i : Int)) = true := h1
      rw [h1']
      by_cases h2 : okE (rd es (i : Int)) = true
      · rw [if_pos h2, h2, w64 (n := (i : Int) + 1) (by omega) (by omega)]
        have := ih (i + 1) k (by omega) (by omega)
        rw [show (((i + 1 : Nat)) : Int) = (i : Int) + 1 by omega] at this
        rw [this]
        simp
      · rw [if_neg h2]
        simp only [Bool.not_eq_true] at h2
        rw [h2]
        simp
    · rw [if_neg h1]
      have h1' : okF p (rd fs (i : Int)) = false := by simpa [okF] using h1
      rw [h1']
      simp
theorem isEquation_val (k : Nat) (p : Int) (fs es : List Int) (b : Int) (h0 : 2 ≤ p) (h1 : p ≤ 67) (hb0 : -1000000 ≤ b) (hb1 : b ≤ 1000000) (hl : fs.length ≤ 1000) (hl2 : es.length ≤ 1000) (hk : 2000 < k) :
    impl_isEquation.f k p fs es b = some (validEq p fs es b) := by
  unfold impl_isEquation.f validEq
  obtain ⟨k, rfl⟩ : ∃ j, k = j + 1 := ⟨k - 1, by omega⟩
  rw [isPrime_val p h0 h1 (k + 1) (by omega)]
  simp only [Option.bind_some, within_val, impl_isEquation.j0]
  rw [w64 (n := p - 1) (by omega) (by omega)]
  by_cases c1 : isPr p = true
  · rw [if_pos c1, c1]
    by_cases c2 : decide ((1 : Int) ≤ (fs.length : Int) ∧ (fs.length : Int) ≤ 4) = true
    · rw [if_pos c2]
      have c2' : decide (1 ≤ fs.length ∧ fs.length ≤ 4) = true := by simp at c2 ⊢; omega
      rw [c2']
      by_cases c3 : (es.length : Int) = (fs.length : Int)
      · rw [if_pos c3]
        have c3' : decide (fs.length = es.length) = true := by simp; omega
        rw [c3']
        by_cases c4 : decide (0 ≤ b ∧ b ≤ p - 1) = true
        · have hL : impl_isEquation.l0 k p es fs (fs.length : Int) 0 = some (fs.all (okF p) && es.all okE) := by
            simpa using isEquation_loop p fs es (by omega) (by omega) (by omega) (by omega) fs.length 0 k (by omega) (by omega)
          rw [c4, if_neg (by simp), hL]
          simp [Bool.and_comm]
        · have c4' : decide (0 ≤ b ∧ b ≤ p - 1) = false := by simpa using c4
          rw [c4', if_pos (by simp)]
          simp
      · rw [if_neg c3, if_pos trivial]
        have c3' : decide (fs.length = es.length) = false := by simp; omega
        rw [c3']
        simp
    · rw [if_neg c2, if_pos trivial]
      have c2' : decide (1 ≤ fs.length ∧ fs.length ≤ 4) = false := by simp at c2 ⊢; omega
      rw [c2']
      simp
  · rw [if_neg c1, if_pos trivial]
    simp only [Bool.not_eq_true] at c1
    rw [c1]
    simp
theorem l08Code_loop (es : List Int) (hl2 : es.length ≤ 1000000) : ∀ (d i k : Nat), i + d = es.length → d < k →
    spec_l08Code.l0 k es i = some (if (es.drop i).all okE then 0 else 2) := by
  intro d
  induction d with
  | zero =>
    intro i k hi hk
    obtain ⟨k, rfl⟩ : ∃ j, k = j + 1 := ⟨k - 1, by omega⟩
    simp only [spec_l08Code.l0]
    rw [if_neg (by omega), List.drop_of_length_le (by omega)]
    rfl
  | succ d ih =>
    intro i k hi hk
    obtain ⟨k, rfl⟩ : ∃ j, k = j + 1 := ⟨k - 1, by omega⟩
    simp only [spec_l08Code.l0]
    rw [if_pos (by omega), if_pos (by omega), in_val, rd_drop es i (by omega)]
    simp only [Option.bind_some]
    rw [show decide (1 ≤ rd es (i : Int) ∧ rd es (i : Int) ≤ 60) = okE (rd es (i : Int)) from rfl, List.all_cons]
    cases h2 : okE (rd es (i : Int))
    · simp
    · have := ih (i + 1) k (by omega) (by omega)
      rw [show (((i + 1 : Nat)) : Int) = (i : Int) + 1 by omega] at this
      rw [if_pos rfl, w64 (n := (i : Int) + 1) (by omega) (by omega), this]
      simp
theorem l08Code_val (k : Nat) (p : Int) (es : List Int) (h0 : 2 ≤ p) (h1 : p ≤ 67) (hl2 : es.length ≤ 1000) (hk : 2000 < k) : spec_l08Code.f k p es = some (if isPr p && es.all okE then 0 else 2) := by
  unfold spec_l08Code.f
  rw [l06Prime_val p h0 h1 k (by omega)]
  simp only [Option.bind_some]
  by_cases c1 : isPr p = true
  · rw [if_pos c1, c1]
    have h := l08Code_loop es (by omega) es.length 0 k (by omega) (by omega)
    simpa using h
  · rw [if_neg c1]
    simp only [Bool.not_eq_true] at c1
    rw [c1]
    simp
/-! The sums behind both counts. -/
def delta0 : Nat → Int := fun c => if c = 0 then 1 else 0
/-- One part more. -/
def stage (p fr : Nat) (f : Nat → Int) (ae : Int × Int) : Nat → Int := conv p f (vals p ae.1 ae.2.toNat fr)
def stages (p fr : Nat) (l : List (Int × Int)) (f : Nat → Int) : Nat → Int := l.foldl (stage p fr) f
/-- All entries lie between 0 and a bound. -/
def Bd (p : Nat) (B : Int) (f : Nat → Int) : Prop := ∀ c, c < p → 0 ≤ f c ∧ f c ≤ B
theorem conv_bd {p : Nat} {B : Int} {f g : Nat → Int} (hp : 0 < p) (hp2 : p ≤ 61) (hB : 0 ≤ B) (hf : Bd p B f) (hg : ∀ c, c < p → 0 ≤ g c ∧ g c ≤ 61) : Bd p (3721 * B) (conv p f g) := by
  intro c hc
  have h : ∀ v, v < p → 0 ≤ g v * f (back p c v) ∧ g v * f (back p c v) ≤ 61 * B := fun v hv => by
    obtain ⟨a1, a2⟩ := hg v hv
    obtain ⟨b1, b2⟩ := hf _ (back_lt (c := c) (v := v) hp)
    exact ⟨Int.mul_nonneg a1 b1, Int.mul_le_mul a2 b2 b1 (by omega)⟩
  refine ⟨sumTo_nonneg fun v hv => (h v hv).1, Int.le_trans (sumTo_le (g := fun _ => 61 * B) fun v hv => (h v hv).2) ?_⟩
  rw [sumTo_const]
  have : (p : Int) * (61 * B) ≤ 61 * (61 * B) := Int.mul_le_mul_of_nonneg_right (by omega) (by omega)
  omega
/-- The inner loop: many's numbers, times n, added v places on. -/
theorem sol_l2 (p : Nat) (hp : 2 ≤ p) (hp2 : p ≤ 61) (f g G : Nat → Int) (v : Nat) (hv : v < p) (n : Int) (hf : Bd p 1000000000000 f) (hn0 : 0 ≤ n) (hn1 : n ≤ 61) (hG : ∀ c, c < p → 0 ≤ G c ∧ G c ≤ 10000000000000000)
    (x0 : List Int) (b fr : Int) (x23 : List Int) (x24 x25 : Int) (x39 : List Int) (x40 : Int) (r : Int)
    (hnext : Ev (fun k => impl_solutions.l1 k p x0 b fr (tab p f) (tab p fun c => G c + sumTo p fun s => if (s + v) % p = c then n * f s else 0) x23 x24 x25 x39 x40 ((v : Int) + 1)) r) :
    ∀ (d i : Nat), i + d = p → Ev (fun k => impl_solutions.l2 k p x0 b fr (tab p f) (tab p fun c => G c + sumTo i fun s => if (s + v) % p = c then n * f s else 0) v n x23 x24 x25 x39 x40 v (tab p f) p i) r := by
  intro d
  induction d with
  | zero =>
    intro i hi
    obtain rfl : i = p := by omega
    refine Ev.step (fun k => ?_) hnext
    simp only [impl_solutions.l2]
    rw [if_neg (by omega), w64 (n := (v : Int) + 1) (by omega) (by omega)]
  | succ d ih =>
    intro i hi
    refine Ev.step (fun k => ?_) (ih (i + 1) (by omega))
    simp only [impl_solutions.l2]
    have hz : ¬ (p : Int) = 0 := by omega
    have hj0 : 0 ≤ ((i : Int) + v) % (p : Int) := Int.emod_nonneg _ hz
    have hj1 : ((i : Int) + v) % (p : Int) < p := Int.emod_lt_of_pos _ (by omega)
    have hj : (((i : Int) + v) % (p : Int)).toNat = (i + v) % p := by
      rw [show (i : Int) + (v : Int) = ((i + v : Nat) : Int) by omega, ← Int.natCast_emod, Int.toNat_natCast]
    have hjl : (i + v) % p < p := Nat.mod_lt _ (by omega)
    obtain ⟨f0, f1⟩ := hf i (by omega)
    have hm0 : 0 ≤ n * f i := Int.mul_nonneg hn0 f0
    have hm1 : n * f i ≤ 61 * 1000000000000 := Int.mul_le_mul hn1 f1 f0 (by omega)
    have hfree : sumTo i (fun s => if (s + v) % p = (i + v) % p then n * f s else 0) = 0 := by
      rw [conv_inner hjl hv (by omega) (fun s => n * f s), if_neg]
      rw [← (back_iff hjl hv (show i < p by omega)).mp rfl]
      omega
    obtain ⟨g0, g1⟩ := hG _ hjl
    rw [if_pos (by omega), if_pos (by omega), if_pos (by rw [tab_length]; omega), if_neg hz, w64 (n := (i : Int) + v) (by omega) (by omega), Int.tmod_eq_emod_of_nonneg (by omega),
      if_pos hj0, if_pos (by rw [tab_length]; exact hj1), tab_rdI p _ _ hj0 hj1, hj, hfree, tab_rd p f i (by omega), w64 (n := n * f i) (by omega) (by omega), w64 (n := _ + n * f i) (by omega) (by omega), w64 (n := (i : Int) + 1) (by omega) (by omega), tab_set]
    rw [show ((i : Int) + 1) = ((i + 1 : Nat) : Int) by omega]
    congr 1
    refine tab_congr fun c hc => ?_
    simp only [sumTo]
    by_cases hcj : c = (i + v) % p
    · rw [if_pos hcj, if_pos hcj.symm, hcj, hfree]
      omega
    · rw [if_neg hcj, if_neg (fun e => hcj e.symm)]
      omega
theorem sol_l1 (p : Nat) (hp : 2 ≤ p) (hp2 : p ≤ 61) (f g : Nat → Int) (hf : Bd p 1000000000000 f) (hg : ∀ c, c < p → 0 ≤ g c ∧ g c ≤ 61)
    (es : List Int) (b fr : Int) (fs : List Int) (n i : Int) (r : Int)
    (hnext : Ev (fun k => impl_solutions.l0 k p es b fr (tab p (conv p f g)) fs n (wrap64 (i + 1))) r) :
    ∀ (d v : Nat), v + d = p → Ev (fun k => impl_solutions.l1 k p es b fr (tab p f) (tab p fun c => sumTo v fun u => g u * f (back p c u)) fs n i (tab p g) p v) r := by
  intro d
  induction d with
  | zero =>
    intro v hv
    obtain rfl : v = p := by omega
    refine Ev.step (fun k => ?_) hnext
    simp only [impl_solutions.l1]
    rw [if_neg (by omega)]
    rfl
  | succ d ih =>
    intro v hv
    have hpart : ∀ c, c < p → 0 ≤ (sumTo v fun u => g u * f (back p c u)) ∧ (sumTo v fun u => g u * f (back p c u)) ≤ 10000000000000000 := by
      intro c hc
      have h : ∀ u, u < p → 0 ≤ g u * f (back p c u) ∧ g u * f (back p c u) ≤ 61 * 1000000000000 := fun u hu => by
        obtain ⟨a1, a2⟩ := hg u hu
        obtain ⟨b1, b2⟩ := hf _ (back_lt (c := c) (v := u) (by omega))
        exact ⟨Int.mul_nonneg a1 b1, Int.mul_le_mul a2 b2 b1 (by omega)⟩
      refine ⟨sumTo_nonneg fun u hu => (h u (by omega)).1, Int.le_trans (sumTo_le (g := fun _ => 61 * 1000000000000) fun u hu => (h u (by omega)).2) ?_⟩
      rw [sumTo_const]
      omega
    have hn := ih (v + 1) (by omega)
    obtain ⟨g0, g1⟩ := hg v (by omega)
    have he : (tab p fun c => sumTo (v + 1) fun u => g u * f (back p c u)) = tab p fun c => (sumTo v fun u => g u * f (back p c u)) + sumTo p fun s => if (s + v) % p = c then g v * f s else 0 := by
      refine tab_congr fun c hc => ?_
      simp only [sumTo]
      rw [conv_inner hc (by omega) (Nat.le_refl _) (fun s => g v * f s), if_pos (back_lt (by omega))]
    rw [he, show (((v + 1 : Nat)) : Int) = (v : Int) + 1 by omega] at hn
    have h2 := sol_l2 p hp hp2 f g (fun c => sumTo v fun u => g u * f (back p c u)) v (by omega) (g v) hf g0 g1 hpart es b fr fs n i (tab p g) p r hn p 0 (by omega)
    refine Ev.step (fun k => ?_) h2
    simp only [impl_solutions.l1]
    rw [if_pos (by omega), if_pos (by omega), if_pos (by rw [tab_length]; omega), tab_rd p g v (by omega), tab_length]
    congr 1
    refine tab_congr fun c hc => ?_
    simp only [sumTo]
    omega
theorem sol_l0 (p : Nat) (hp : 2 ≤ p) (hp2 : p ≤ 61) (es fs : List Int) (b : Nat) (hb : b < p) (fr : Nat) (hfr : fr ≤ 1) (hl : fs.length = es.length) (hl4 : fs.length ≤ 4) (hfs : fs.all (okF p) = true) (hes : es.all okE = true) :
    ∀ (d i : Nat) (B : Int) (f : Nat → Int), i + d = fs.length → 0 ≤ B → B * 3721 ^ d ≤ 1000000000000 * 3721 → Bd p B f →
      Ev (fun k => impl_solutions.l0 k p es b fr (tab p f) fs (fs.length : Int) i) (stages p fr ((fs.drop i).zip (es.drop i)) f b) := by
  intro d
  induction d with
  | zero =>
    intro i B f hi hB0 hB hf
    rw [List.drop_of_length_le (by omega)]
    refine Ev.step (fun k => ?_) (Ev.now _)
    simp only [impl_solutions.l0]
    rw [if_neg (by omega), if_pos (by omega), if_pos (by rw [tab_length]; omega), tab_rd p f b hb]
    rfl
  | succ d ih =>
    intro i B f hi hB0 hB hf
    have h1 : 1 ≤ (3721 : Int) ^ d := by
      have : 0 < (3721 : Int) ^ d := Int.pow_pos (by omega)
      omega
    have hBs : B ≤ 1000000000000 := by
      rw [Int.pow_succ, ← Int.mul_assoc] at hB
      have h2 : B * 1 ≤ B * 3721 ^ d := Int.mul_le_mul_of_nonneg_left h1 hB0
      omega
    have hfB : Bd p 1000000000000 f := fun c hc => ⟨(hf c hc).1, Int.le_trans (hf c hc).2 hBs⟩
    rw [rd_drop fs i (by omega), rd_drop es i (by omega)] at *
    obtain ⟨a, ha⟩ : ∃ a, a = rd fs (i : Int) := ⟨_, rfl⟩
    obtain ⟨e, he⟩ : ∃ e, e = rd es (i : Int) := ⟨_, rfl⟩
    have hae : a ∈ fs := by rw [ha, show rd fs (i : Int) = fs[i] by simp [rd, show i < fs.length by omega]]; exact List.getElem_mem _
    have hee : e ∈ es := by rw [he, show rd es (i : Int) = es[i] by simp [rd, show i < es.length by omega]]; exact List.getElem_mem _
    have hao := List.all_eq_true.mp hfs a hae
    have heo := List.all_eq_true.mp hes e hee
    simp only [okF, okE, decide_eq_true_eq] at hao heo
    rw [← ha, ← he]
    obtain ⟨en, rfl⟩ := Int.eq_ofNat_of_zero_le (show 0 ≤ e by omega)
    have hv : ∀ c, c < p → 0 ≤ vals p a en fr c ∧ vals p a en fr c ≤ 61 := fun c hc => by
      have := vals_bd p a en fr c hc
      omega
    have hnext := ih (i + 1) (3721 * B) (conv p f (vals p a en fr)) (by omega) (by omega) (by rw [Int.pow_succ] at hB; rw [Int.mul_comm 3721 B, Int.mul_assoc, Int.mul_comm 3721]; exact hB) (conv_bd (by omega) hp2 hB0 hf hv)
    have e1 : stages p fr ((a, (en : Int)) :: (fs.drop (i + 1)).zip (es.drop (i + 1))) f b = stages p fr ((fs.drop (i + 1)).zip (es.drop (i + 1))) (conv p f (vals p a en fr)) b := rfl
    rw [List.zip_cons_cons, e1]
    have hl1 := sol_l1 p hp hp2 f (vals p a en fr) hfB hv es b fr fs (fs.length : Int) i _ (by
      rw [w64 (n := (i : Int) + 1) (by omega) (by omega), show (i : Int) + 1 = ((i + 1 : Nat) : Int) by omega]
      exact hnext) p 0 (by omega)
    have hvc : Ev (fun k => impl_valueCounts.f k p a en fr) (tab p (vals p a en fr)) := ⟨3001, fun k hk => valueCounts_val k p en fr a (by omega) (by omega) (by omega) (by omega) (by omega) (by omega) (by omega)⟩
    refine Ev.step (fun k => ?_) (Ev.bind hvc (f := fun k t => impl_solutions.l1 k p es b fr (tab p f) (List.replicate p 0) fs (fs.length : Int) i t (t.length : Int) 0) ?_)
    · simp only [impl_solutions.l0]
      rw [if_pos (by omega), if_pos (by omega), if_pos (by omega), if_pos (by omega), if_pos (by omega), if_pos (by omega), ← ha, ← he, Int.toNat_natCast]
    · simp only [tab_length]
      rw [tab_zero]
      exact hl1
theorem solutions_val (p : Nat) (hp : 2 ≤ p) (hp2 : p ≤ 61) (es fs : List Int) (b : Nat) (hb : b < p) (fr : Nat) (hfr : fr ≤ 1) (hl : fs.length = es.length) (hl4 : fs.length ≤ 4) (hfs : fs.all (okF p) = true) (hes : es.all okE = true) :
    Ev (fun k => impl_solutions.f k p fs es b fr) (stages p fr (fs.zip es) delta0 b) := by
  have h := sol_l0 p hp hp2 es fs b hb fr hfr hl hl4 hfs hes fs.length 0 1 delta0 (by omega) (by omega) (by
    have : (3721 : Int) ^ fs.length ≤ 3721 ^ 4 := by
      rcases (show fs.length = 0 ∨ fs.length = 1 ∨ fs.length = 2 ∨ fs.length = 3 ∨ fs.length = 4 by omega) with h | h | h | h | h <;> rw [h] <;> decide
    omega) (fun c hc => by unfold delta0; split <;> omega)
  simp only [List.drop_zero] at h
  refine Ev.congr (fun k => ?_) h
  unfold impl_solutions.f
  rw [if_pos (by omega), if_pos (by omega)]
  simp only [Option.bind_some]
  rw [if_pos (by rw [List.length_replicate]; omega), Int.toNat_natCast, tab_zero]
  have : ((0 : Int)).toNat = 0 := rfl
  rw [this, tab_set]
  rfl
/-! The reference's count. -/
theorem cnt_l2 (p : Nat) (hp : 2 ≤ p) (hp2 : p ≤ 61) (f g G : Nat → Int) (v : Nat) (hv : v < p) (hf : Bd p 1000000000000 f) (hg : ∀ c, c < p → 0 ≤ g c ∧ g c ≤ 61) (hG : ∀ c, c < p → 0 ≤ G c ∧ G c ≤ 10000000000000000)
    (fs es : List Int) (b : Int) (full : Bool) (i0 : Int) (r : Int)
    (hnext : Ev (fun k => spec_l08Count.l1 k p fs es b full (tab p f) i0 (tab p g) (tab p fun c => G c + sumTo p fun s => if (s + v) % p = c then f v * g s else 0) ((v : Int) + 1)) r) :
    ∀ (d i : Nat), i + d = p → Ev (fun k => spec_l08Count.l2 k p fs es b full (tab p f) i0 (tab p g) (tab p fun c => G c + sumTo i fun s => if (s + v) % p = c then f v * g s else 0) v i) r := by
  intro d
  induction d with
  | zero =>
    intro i hi
    obtain rfl : i = p := by omega
    refine Ev.step (fun k => ?_) hnext
    simp only [spec_l08Count.l2]
    rw [if_neg (by omega), w64 (n := (v : Int) + 1) (by omega) (by omega)]
  | succ d ih =>
    intro i hi
    refine Ev.step (fun k => ?_) (ih (i + 1) (by omega))
    simp only [spec_l08Count.l2]
    have hz : ¬ (p : Int) = 0 := by omega
    have hj0 : 0 ≤ ((v : Int) + i) % (p : Int) := Int.emod_nonneg _ hz
    have hj1 : ((v : Int) + i) % (p : Int) < p := Int.emod_lt_of_pos _ (by omega)
    have hj : (((v : Int) + i) % (p : Int)).toNat = (i + v) % p := by
      rw [show (v : Int) + (i : Int) = ((i + v : Nat) : Int) by omega, ← Int.natCast_emod, Int.toNat_natCast]
    have hjl : (i + v) % p < p := Nat.mod_lt _ (by omega)
    obtain ⟨f0, f1⟩ := hf v (by omega)
    obtain ⟨n0, n1⟩ := hg i (by omega)
    have hm0 : 0 ≤ f v * g i := Int.mul_nonneg f0 n0
    have hm1 : f v * g i ≤ 1000000000000 * 61 := Int.mul_le_mul f1 n1 n0 (by omega)
    have hfree : sumTo i (fun s => if (s + v) % p = (i + v) % p then f v * g s else 0) = 0 := by
      rw [conv_inner hjl hv (by omega) (fun s => f v * g s), if_neg]
      rw [← (back_iff hjl hv (show i < p by omega)).mp rfl]
      omega
    obtain ⟨g0, g1⟩ := hG _ hjl
    rw [if_pos (by omega), if_neg hz, w64 (n := (v : Int) + i) (by omega) (by omega), Int.tmod_eq_emod_of_nonneg (by omega),
      if_pos hj0, if_pos (by rw [tab_length]; exact hj1), if_pos (by omega), if_pos (by rw [tab_length]; omega), if_pos (by omega), if_pos (by rw [tab_length]; omega),
      tab_rdI p _ _ hj0 hj1, hj, hfree, tab_rd p f v hv, tab_rd p g i (by omega), w64 (n := f v * g i) (by omega) (by omega), w64 (n := _ + f v * g i) (by omega) (by omega), w64 (n := (i : Int) + 1) (by omega) (by omega), tab_set]
    rw [show ((i : Int) + 1) = ((i + 1 : Nat) : Int) by omega]
    congr 1
    refine tab_congr fun c hc => ?_
    simp only [sumTo]
    by_cases hcj : c = (i + v) % p
    · rw [if_pos hcj, if_pos hcj.symm, hcj, hfree]
      omega
    · rw [if_neg hcj, if_neg (fun e => hcj e.symm)]
      omega
theorem cnt_l1 (p : Nat) (hp : 2 ≤ p) (hp2 : p ≤ 61) (f g : Nat → Int) (hf : Bd p 1000000000000 f) (hg : ∀ c, c < p → 0 ≤ g c ∧ g c ≤ 61)
    (fs es : List Int) (b : Int) (full : Bool) (i : Int) (r : Int)
    (hnext : Ev (fun k => spec_l08Count.l0 k p fs es b full (tab p (conv p f g)) (wrap64 (i + 1))) r) :
    ∀ (d v : Nat), v + d = p → Ev (fun k => spec_l08Count.l1 k p fs es b full (tab p f) i (tab p g) (tab p fun c => sumTo v fun u => f u * g (back p c u)) v) r := by
  intro d
  induction d with
  | zero =>
    intro v hv
    obtain rfl : v = p := by omega
    refine Ev.step (fun k => ?_) hnext
    simp only [spec_l08Count.l1]
    rw [if_neg (by omega)]
    congr 1
    exact tab_congr fun c hc => conv_comm hc g f
  | succ d ih =>
    intro v hv
    have hpart : ∀ c, c < p → 0 ≤ (sumTo v fun u => f u * g (back p c u)) ∧ (sumTo v fun u => f u * g (back p c u)) ≤ 10000000000000000 := by
      intro c hc
      have h : ∀ u, u < p → 0 ≤ f u * g (back p c u) ∧ f u * g (back p c u) ≤ 1000000000000 * 61 := fun u hu => by
        obtain ⟨b1, b2⟩ := hf u hu
        obtain ⟨a1, a2⟩ := hg _ (back_lt (c := c) (v := u) (by omega))
        exact ⟨Int.mul_nonneg b1 a1, Int.mul_le_mul b2 a2 a1 (by omega)⟩
      refine ⟨sumTo_nonneg fun u hu => (h u (by omega)).1, Int.le_trans (sumTo_le (g := fun _ => 1000000000000 * 61) fun u hu => (h u (by omega)).2) ?_⟩
      rw [sumTo_const]
      omega
    have hn := ih (v + 1) (by omega)
    have he : (tab p fun c => sumTo (v + 1) fun u => f u * g (back p c u)) = tab p fun c => (sumTo v fun u => f u * g (back p c u)) + sumTo p fun s => if (s + v) % p = c then f v * g s else 0 := by
      refine tab_congr fun c hc => ?_
      simp only [sumTo]
      rw [conv_inner hc (by omega) (Nat.le_refl _) (fun s => f v * g s), if_pos (back_lt (by omega))]
    rw [he, show (((v + 1 : Nat)) : Int) = (v : Int) + 1 by omega] at hn
    have h2 := cnt_l2 p hp hp2 f g (fun c => sumTo v fun u => f u * g (back p c u)) v (by omega) hf hg hpart fs es b full i r hn p 0 (by omega)
    refine Ev.step (fun k => ?_) h2
    simp only [spec_l08Count.l1]
    rw [if_pos (by omega)]
    congr 1
    refine tab_congr fun c hc => ?_
    simp only [sumTo]
    omega
theorem cnt_l0 (p : Nat) (hp : 2 ≤ p) (hp2 : p ≤ 61) (es fs : List Int) (b : Nat) (hb : b < p) (full : Bool) (hl : fs.length = es.length) (hl4 : fs.length ≤ 4) (hfs : fs.all (okF p) = true) (hes : es.all okE = true) :
    ∀ (d i : Nat) (B : Int) (f : Nat → Int), i + d = fs.length → 0 ≤ B → B * 3721 ^ d ≤ 1000000000000 * 3721 → Bd p B f →
      Ev (fun k => spec_l08Count.l0 k p fs es b full (tab p f) i) (stages p (if full then 1 else 0) ((fs.drop i).zip (es.drop i)) f b) := by
  intro d
  induction d with
  | zero =>
    intro i B f hi hB0 hB hf
    rw [List.drop_of_length_le (by omega)]
    refine Ev.step (fun k => ?_) (Ev.now _)
    simp only [spec_l08Count.l0]
    rw [if_neg (by omega), if_pos (by omega), if_pos (by rw [tab_length]; omega), tab_rd p f b hb]
    rfl
  | succ d ih =>
    intro i B f hi hB0 hB hf
    have h1 : 1 ≤ (3721 : Int) ^ d := by
      have : 0 < (3721 : Int) ^ d := Int.pow_pos (by omega)
      omega
    have hBs : B ≤ 1000000000000 := by
      rw [Int.pow_succ, ← Int.mul_assoc] at hB
      have h2 : B * 1 ≤ B * 3721 ^ d := Int.mul_le_mul_of_nonneg_left h1 hB0
      omega
    have hfB : Bd p 1000000000000 f := fun c hc => ⟨(hf c hc).1, Int.le_trans (hf c hc).2 hBs⟩
    rw [rd_drop fs i (by omega), rd_drop es i (by omega)] at *
    obtain ⟨a, ha⟩ : ∃ a, a = rd fs (i : Int) := ⟨_, rfl⟩
    obtain ⟨e, he⟩ : ∃ e, e = rd es (i : Int) := ⟨_, rfl⟩
    have hae : a ∈ fs := by rw [ha, show rd fs (i : Int) = fs[i] by simp [rd, show i < fs.length by omega]]; exact List.getElem_mem _
    have hee : e ∈ es := by rw [he, show rd es (i : Int) = es[i] by simp [rd, show i < es.length by omega]]; exact List.getElem_mem _
    have hao := List.all_eq_true.mp hfs a hae
    have heo := List.all_eq_true.mp hes e hee
    simp only [okF, okE, decide_eq_true_eq] at hao heo
    rw [← ha, ← he]
    obtain ⟨en, rfl⟩ := Int.eq_ofNat_of_zero_le (show 0 ≤ e by omega)
    have hv : ∀ c, c < p → 0 ≤ vals p a en (if full then 1 else 0) c ∧ vals p a en (if full then 1 else 0) c ≤ 61 := fun c hc => by
      have := vals_bd p a en (if full then 1 else 0) c hc
      omega
    have hnext := ih (i + 1) (3721 * B) (conv p f (vals p a en (if full then 1 else 0))) (by omega) (by omega) (by rw [Int.pow_succ] at hB; rw [Int.mul_comm 3721 B, Int.mul_assoc, Int.mul_comm 3721]; exact hB) (conv_bd (by omega) hp2 hB0 hf hv)
    have e1 : stages p (if full then 1 else 0) ((a, (en : Int)) :: (fs.drop (i + 1)).zip (es.drop (i + 1))) f b = stages p (if full then 1 else 0) ((fs.drop (i + 1)).zip (es.drop (i + 1))) (conv p f (vals p a en (if full then 1 else 0))) b := rfl
    rw [List.zip_cons_cons, e1]
    have hl1 := cnt_l1 p hp hp2 f (vals p a en (if full then 1 else 0)) hfB hv fs es b full i _ (by
      rw [w64 (n := (i : Int) + 1) (by omega) (by omega), show (i : Int) + 1 = ((i + 1 : Nat) : Int) by omega]
      exact hnext) p 0 (by omega)
    have hj1 : Ev (fun k => spec_l08Count.j1 k p fs es b full (tab p f) i (tab p (vals p a en (if full then 1 else 0))) (List.replicate p 0)) (stages p (if full then 1 else 0) ((fs.drop (i + 1)).zip (es.drop (i + 1))) (conv p f (vals p a en (if full then 1 else 0))) b) := by
      refine Ev.step (fun k => ?_) hl1
      simp only [spec_l08Count.j1]
      rw [tab_zero]
      rfl
    have hvc : Ev (fun k => spec_l08Values.f k p a en) (tab p (vals p a en 0)) := ⟨3001, fun k hk => l08Values_val k p en a (by omega) (by omega) (by omega) (by omega) (by omega) (by omega)⟩
    refine Ev.step (fun k => ?_) (Ev.bind hvc (f := fun k t => if full = true then (if 0 < (t.length : Int) then spec_l08Count.j1 k p fs es b full (tab p f) i (t.set 0 (wrap64 (rd t 0 - 1))) (List.replicate p 0) else none) else spec_l08Count.j1 k p fs es b full (tab p f) i t (List.replicate p 0)) ?_)
    · simp only [spec_l08Count.l0]
      have c1 : (0 : Int) ≤ (p : Int) := by omega
      have c2 : p ≤ 35184372088832 := by omega
      rw [if_pos (by omega), if_pos (by omega), if_pos (by omega), ← ha, ← he]
      simp only [c1, c2, if_true, Option.bind_some, Int.toNat_natCast]
      rfl
    · cases full with
      | false => simpa using hj1
      | true =>
        have e2 : (tab p (vals p a en 0)).set 0 (wrap64 (rd (tab p (vals p a en 0)) 0 - 1)) = tab p (vals p a en 1) := by
          have hb0 := vals_bd p a en 0 0 (by omega)
          have hr : rd (tab p (vals p a en 0)) 0 = vals p a en 0 0 := tab_rd p _ 0 (by omega)
          rw [hr, w64 (by omega) (by omega), tab_set]
          refine tab_congr fun c hc => ?_
          have := vals_full p a en c hp (by omega) hc
          by_cases h0 : c = 0
          · subst h0; rw [if_pos rfl]; simpa using this
          · rw [if_neg h0]; rw [if_neg h0] at this; omega
        simp only [if_true]
        rw [e2]
        refine Ev.congr (fun k => ?_) hj1
        rw [if_pos (by rw [tab_length]; omega)]
        rfl
theorem l08Count_val (p : Nat) (hp : 2 ≤ p) (hp2 : p ≤ 61) (es fs : List Int) (b : Nat) (hb : b < p) (full : Bool) (hl : fs.length = es.length) (hl4 : fs.length ≤ 4) (hfs : fs.all (okF p) = true) (hes : es.all okE = true) :
    Ev (fun k => spec_l08Count.f k p fs es b full) (stages p (if full then 1 else 0) (fs.zip es) delta0 b) := by
  have h := cnt_l0 p hp hp2 es fs b hb full hl hl4 hfs hes fs.length 0 1 delta0 (by omega) (by omega) (by
    have : (3721 : Int) ^ fs.length ≤ 3721 ^ 4 := by
      rcases (show fs.length = 0 ∨ fs.length = 1 ∨ fs.length = 2 ∨ fs.length = 3 ∨ fs.length = 4 by omega) with h | h | h | h | h <;> rw [h] <;> decide
    omega) (fun c hc => by unfold delta0; split <;> omega)
  simp only [List.drop_zero] at h
  refine Ev.congr (fun k => ?_) h
  unfold spec_l08Count.f
  rw [if_pos (by omega), if_pos (by omega)]
  simp only [Option.bind_some]
  rw [if_pos (by rw [List.length_replicate]; omega), Int.toNat_natCast, tab_zero]
  have : ((0 : Int)).toNat = 0 := rfl
  rw [this, tab_set]
  rfl
end Go.Proofs.Ytphlgajlebgnbaa.Q
/-! Quadrics are counted by their rule: quadratic characters modulo the small primes. -/
namespace Go.Proofs.Ytphlgajlebgnbaa.Q
open Go.RowKit Go.Proofs.Ytphlgajlebgnbaa.P Go.Proofs.YtphlgajlebgnbaaW.PrintWords Go.Proofs.YtphlgajlebgnbaaW.PrintLast
set_option linter.unusedVariables false
/-- 1, -1 or 0 for squares, other numbers, and 0. -/
def chi (p : Nat) (x : Int) : Int := if x % (p : Int) = 0 then 0 else if (x % (p : Int)) ^ ((p - 1) / 2) % (p : Int) = 1 then 1 else -1
theorem chi_mod (p : Nat) (x : Int) : chi p (x % (p : Int)) = chi p x := by unfold chi; rw [Int.emod_emod]
theorem chi_bd (p : Nat) (x : Int) : -1 ≤ chi p x ∧ chi p x ≤ 1 := by
  unfold chi
  split
  · omega
  · split <;> omega
def natPrimes : List Nat := [3, 5, 7, 11, 13, 17, 19, 23, 29, 31, 37, 41, 43, 47, 53, 59, 61]
def chiT (p : Nat) : List Int := (List.range p).map fun (x : Nat) => chi p x
def sumL (l : List Int) : Int := l.foldl (· + ·) 0
theorem isPr_nat {p : Int} (h : isPr p = true) : p.toNat ∈ natPrimes ∧ ((p.toNat : Nat) : Int) = p := by
  simp [isPr, primes] at h
  rcases h with h | h | h | h | h | h | h | h | h | h | h | h | h | h | h | h | h <;> subst h <;> decide
/-- Multiplicative, at the residues. -/
def chkM (p : Nat) : Bool := (List.range p).all fun x => (List.range p).all fun y => chi p ((x * y : Nat) : Int) == chi p x * chi p y
def chkV (p : Nat) : Bool := (List.range p).all fun y => vals p 1 2 0 y == 1 + chi p y
def chkS (p : Nat) : Bool := sumTo p (fun v => chi p v) == 0
def chkJ (p : Nat) : Bool := let t := chiT p; (List.range p).all fun c => sumTo p (fun v => t.getD v 0 * t.getD (back p c v) 0) == chi p (-1) * ((p : Int) * delta0 c - 1)
def chkI (p : Nat) : Bool := (List.range p).all fun a => a == 0 || (a * (a ^ (p - 2) % p)) % p == 1
def chkE (p : Nat) : Bool := chi p (-1) * chi p (-1) == 1
theorem all_chk : natPrimes.all (fun p => chkM p && chkV p && chkS p && chkJ p && chkI p && chkE p) = true := by decide +kernel
structure Chk (p : Nat) : Prop where
  M : ∀ x y : Nat, x < p → y < p → chi p ((x * y : Nat) : Int) = chi p x * chi p y
  V : ∀ y : Nat, y < p → vals p 1 2 0 y = 1 + chi p y
  S : sumTo p (fun v => chi p v) = 0
  J : ∀ c, c < p → sumTo p (fun v => chi p v * chi p (back p c v : Nat)) = chi p (-1) * ((p : Int) * delta0 c - 1)
  I : ∀ a, 1 ≤ a → a < p → (a * (a ^ (p - 2) % p)) % p = 1
  E : chi p (-1) * chi p (-1) = 1
  lo : 3 ≤ p
  hi : p ≤ 61
theorem chk_of {p : Nat} (h : p ∈ natPrimes) : Chk p := by
  have h1 := List.all_eq_true.mp all_chk p h
  simp only [Bool.and_eq_true] at h1
  obtain ⟨⟨⟨⟨⟨hM, hV⟩, hS⟩, hJ⟩, hI⟩, hE⟩ := h1
  have hb : 3 ≤ p ∧ p ≤ 61 := by simp [natPrimes] at h; omega
  refine ⟨fun x y hx hy => ?_, fun y hy => ?_, ?_, fun c hc => ?_, fun a ha ha2 => ?_, ?_, hb.1, hb.2⟩
  · have := List.all_eq_true.mp (List.all_eq_true.mp hM x (List.mem_range.mpr hx)) y (List.mem_range.mpr hy)
    simpa using this
  · have := List.all_eq_true.mp hV y (List.mem_range.mpr hy)
    simpa using this
  · simpa [chkS] using hS
  · have := List.all_eq_true.mp hJ c (List.mem_range.mpr hc)
    rw [beq_iff_eq] at this
    rw [← this]
    refine sumTo_congr fun v hv => ?_
    have e : ∀ i, i < p → (chiT p).getD i 0 = chi p i := fun i hi => by simp [chiT, hi]
    rw [e v hv, e _ (back_lt (by omega))]
  · have := List.all_eq_true.mp hI a (List.mem_range.mpr ha2)
    simp only [Bool.or_eq_true, beq_iff_eq] at this
    omega
  · simpa [chkE] using hE
theorem mul_mod' (a b m : Int) : a * (b % m) % m = a * b % m := by rw [Int.mul_emod, Int.emod_emod, ← Int.mul_emod]
theorem chi_mul {p : Nat} (h : Chk p) (x y : Int) : chi p (x * y) = chi p x * chi p y := by
  have hp := h.lo
  have hx0 : 0 ≤ x % (p : Int) := Int.emod_nonneg _ (by omega)
  have hx1 : x % (p : Int) < p := Int.emod_lt_of_pos _ (by omega)
  have hy0 : 0 ≤ y % (p : Int) := Int.emod_nonneg _ (by omega)
  have hy1 : y % (p : Int) < p := Int.emod_lt_of_pos _ (by omega)
  have := h.M (x % (p : Int)).toNat (y % (p : Int)).toNat (by omega) (by omega)
  rw [Int.natCast_mul, Int.toNat_of_nonneg hx0, Int.toNat_of_nonneg hy0, chi_mod, chi_mod] at this
  rw [← this, ← chi_mod p (x * y), Int.mul_emod, chi_mod]
/-- How often a x x is c. -/
theorem vals_chi {p : Nat} (h : Chk p) (a : Int) (ha : 1 ≤ a) (ha2 : a ≤ (p : Int) - 1) (c : Nat) (hc : c < p) : vals p a 2 0 c = 1 + chi p a * chi p c := by
  have hp := h.lo
  obtain ⟨an, rfl⟩ := Int.eq_ofNat_of_zero_le (show 0 ≤ a by omega)
  have hI := h.I an (by omega) (by omega)
  obtain ⟨b, hb⟩ : ∃ b, b = an ^ (p - 2) % p := ⟨_, rfl⟩
  rw [← hb] at hI
  have hI2 : ((an : Int) * (b : Int)) % (p : Int) = 1 := by rw [← Int.natCast_mul, ← Int.natCast_emod, hI]; rfl
  have hcy : ((b * c % p : Nat) : Int) = (b : Int) * (c : Int) % (p : Int) := by rw [Int.natCast_emod, Int.natCast_mul]
  have hy : b * c % p < p := Nat.mod_lt _ (by omega)
  have e1 : vals p an 2 0 c = vals p 1 2 0 (b * c % p) := by
    rw [vals_count _ _ _ _ _ hc, vals_count _ _ _ _ _ hy, List.drop_zero]
    congr 1
    refine List.countP_congr fun x hx => ?_
    obtain ⟨x0, x1⟩ := powL_mem p 2 (by omega) x hx
    simp only [beq_iff_eq, Int.one_mul]
    rw [Int.emod_eq_of_lt x0 x1, hcy]
    constructor
    · intro hh
      have : x % (p : Int) = (b : Int) * ((an : Int) * x % (p : Int)) % (p : Int) := by
        rw [mul_mod']
        rw [← Int.mul_assoc, Int.mul_comm (b : Int), ← mod_mul, hI2, Int.one_mul]
      rw [Int.emod_eq_of_lt x0 x1] at this
      rw [this, hh]
    · intro hh
      rw [hh, mul_mod', ← Int.mul_assoc, ← mod_mul, hI2, Int.one_mul]
      exact Int.emod_eq_of_lt (by omega) (by omega)
  rw [e1, h.V _ hy, hcy, chi_mod, chi_mul h]
  have : chi p b = chi p an := by
    have h1 : chi p ((an : Int) * (b : Int)) = 1 := by
      rw [← chi_mod, hI2]
      have := h.M 1 1 (by omega) (by omega)
      unfold chi
      rw [Int.emod_eq_of_lt (by omega) (by omega), if_neg (by omega), Int.one_pow, Int.emod_eq_of_lt (by omega) (by omega), if_pos rfl]
    rw [chi_mul h] at h1
    have b1 := chi_bd p an
    have b2 := chi_bd p b
    rcases (show chi p an = -1 ∨ chi p an = 0 ∨ chi p an = 1 by omega) with e | e | e <;> rw [e] at h1 ⊢ <;> omega
  rw [this]
end Go.Proofs.Ytphlgajlebgnbaa.Q
/-! The rule of quadrics gives the sums. -/
namespace Go.Proofs.Ytphlgajlebgnbaa.Q
open Go.RowKit Go.Proofs.Ytphlgajlebgnbaa.P Go.Proofs.YtphlgajlebgnbaaW.PrintWords Go.Proofs.YtphlgajlebgnbaaW.PrintLast
set_option linter.unusedVariables false
theorem back_zero {p c v : Nat} (hc : c < p) (hv : v < p) : back p c v = 0 ↔ v = c := by
  have h := back_iff (s := 0) hc hv (by omega)
  rw [Nat.zero_add, Nat.mod_eq_of_lt hv] at h
  constructor
  · intro e; exact h.mpr e.symm
  · intro e; exact (h.mp e).symm
/-- One square more, onto a sum of a constant, a character and a place. -/
theorem conv_abd {p : Nat} (h : Chk p) (A B D al : Int) (c : Nat) (hc : c < p) :
    conv p (fun c => A + B * chi p c + D * delta0 c) (fun c => 1 + al * chi p c) c =
      (A * p - al * B * chi p (-1) + D) + (D * al) * chi p c + (al * B * chi p (-1) * p) * delta0 c := by
  have hp := h.lo
  have e1 : conv p (fun c => A + B * chi p c + D * delta0 c) (fun c => 1 + al * chi p c) c =
      sumTo p (fun v => A) + B * sumTo p (fun v => chi p (back p c v : Nat)) + (al * A) * sumTo p (fun v => chi p v) + (al * B) * sumTo p (fun v => chi p v * chi p (back p c v : Nat)) + D * sumTo p (fun v => (1 + al * chi p v) * delta0 (back p c v)) := by
    rw [← sumTo_mul, ← sumTo_mul, ← sumTo_mul, ← sumTo_mul, ← sumTo_add, ← sumTo_add, ← sumTo_add, ← sumTo_add]
    refine sumTo_congr fun v hv => ?_
    grind
  have e2 : sumTo p (fun v => chi p (back p c v : Nat)) = 0 := by
    have h1 := conv_comm hc (fun v => chi p v) (fun _ => 1)
    unfold conv at h1
    simp only [Int.one_mul, Int.mul_one] at h1
    rw [h1, h.S]
  have e3 : sumTo p (fun v => (1 + al * chi p v) * delta0 (back p c v)) = 1 + al * chi p c := by
    rw [sumTo_one c (fun v hv hne => by unfold delta0; rw [if_neg (fun e => hne ((back_zero hc hv).mp e))]; omega), if_pos hc]
    unfold delta0
    rw [if_pos ((back_zero hc hc).mpr rfl), Int.mul_one]
  rw [e1, sumTo_const, e2, h.S, h.J c hc, e3]
  grind
/-- One square more. -/
theorem stage_abd {p : Nat} (h : Chk p) (A B D : Int) (f : Nat → Int) (hf : ∀ c, c < p → f c = A + B * chi p c + D * delta0 c) (a : Int) (ha : okF p a = true) (c : Nat) (hc : c < p) :
    stage p 0 f (a, 2) c = (A * p - chi p a * B * chi p (-1) + D) + (D * chi p a) * chi p c + (chi p a * B * chi p (-1) * p) * delta0 c := by
  simp only [okF, decide_eq_true_eq] at ha
  rw [← conv_abd h A B D (chi p a) c hc]
  exact conv_congr hf (fun i hi => vals_chi h a ha.1 ha.2 i hi) c
theorem chi_zero_one {p : Nat} (h : Chk p) : chi p 1 = 1 := by
  have hp := h.lo
  unfold chi
  rw [Int.emod_eq_of_lt (by omega) (by omega), if_neg (by omega), Int.one_pow, Int.emod_eq_of_lt (by omega) (by omega), if_pos rfl]
theorem delta_cast (b : Nat) : delta0 b = if (b : Int) = 0 then 1 else 0 := by
  unfold delta0
  by_cases h : b = 0
  · subst h; rfl
  · rw [if_neg h, if_neg (by omega)]
end Go.Proofs.Ytphlgajlebgnbaa.Q
/-! Curves of powers: points by counts of values, and their bound, by a finite look at all primes and exponents. -/
namespace Go.Proofs.Ytphlgajlebgnbaa.Q
open Go.RowKit Go.Proofs.Ytphlgajlebgnbaa.P Go.Proofs.YtphlgajlebgnbaaW.PrintWords Go.Proofs.YtphlgajlebgnbaaW.PrintLast
theorem countP_tab (n : Nat) (F : Nat → Int) (q : Int → Bool) : (((tab n F).countP q : Nat) : Int) = sumTo n (fun i => if q (F i) = true then 1 else 0) := by
  unfold tab
  induction n with
  | zero => rfl
  | succ n ih =>
    rw [List.range_succ, List.map_append, List.countP_append, Int.natCast_add, ih]
    simp only [sumTo, List.map_cons, List.map_nil, List.countP_singleton]
    by_cases h : q (F n) = true <;> simp [h]
/-- The power of a number. -/
def pw (p e y : Nat) : Nat := y ^ e % p
theorem pw_lt (p e y : Nat) (hp : 0 < p) : pw p e y < p := Nat.mod_lt _ hp
theorem pw_cast (p e y : Nat) : ((pw p e y : Nat) : Int) = (y : Int) ^ e % (p : Int) := by
  unfold pw
  rw [Int.natCast_emod, Int.natCast_pow]
theorem vals_sum (p e c : Nat) (hp : 0 < p) (hc : c < p) : vals p 1 e 0 c = sumTo p (fun y => if pw p e y = c then 1 else 0) := by
  rw [vals_count p 1 e 0 c hc, List.drop_zero]
  unfold powL
  rw [countP_tab]
  refine sumTo_congr fun y hy => ?_
  have h := pw_cast p e y
  have h2 := pw_lt p e y hp
  rw [← h, Int.one_mul, Int.emod_eq_of_lt (by omega) (by omega)]
  by_cases z : pw p e y = c
  · simp [z]
  · rw [if_neg z, if_neg (by simp; omega)]
theorem sum_pw (p e : Nat) (hp : 0 < p) (G : Nat → Int) : sumTo p (fun y => G (pw p e y)) = sumTo p (fun c => vals p 1 e 0 c * G c) := by
  have h1 : sumTo p (fun c => vals p 1 e 0 c * G c) = sumTo p (fun c => sumTo p (fun y => if pw p e y = c then G c else 0)) := by
    refine sumTo_congr fun c hc => ?_
    rw [vals_sum p e c hp hc, ← sumTo_mul']
    refine sumTo_congr fun y hy => ?_
    by_cases z : pw p e y = c <;> simp [z]
  rw [h1, sumTo_comm]
  refine sumTo_congr fun y hy => ?_
  rw [sumTo_one (pw p e y) (fun i hi hne => by rw [if_neg (fun z => hne z.symm)]), if_pos (pw_lt p e y hp), if_pos rfl]
/-! A table of counts as one number. -/
def base : Nat := 4096
def enc (g : Nat → Nat) : Nat → Nat
  | 0 => 0
  | n + 1 => enc g n + g n * base ^ n
theorem enc_lt (g : Nat → Nat) (hg : ∀ c, g c < base) : ∀ n, enc g n < base ^ n
  | 0 => by simp [enc]
  | n + 1 => by
    have h := enc_lt g hg n
    have h2 : (g n + 1) * base ^ n ≤ base * base ^ n := Nat.mul_le_mul_right _ (hg n)
    rw [Nat.add_mul, Nat.one_mul] at h2
    rw [Nat.pow_succ, Nat.mul_comm (base ^ n)]
    simp only [enc]
    omega
theorem enc_dig (g : Nat → Nat) (hg : ∀ c, g c < base) (c : Nat) : ∀ n, c < n → enc g n / base ^ c % base = g c
  | 0, h => by omega
  | n + 1, h => by
    have hb : 0 < base ^ c := Nat.pow_pos (by decide)
    simp only [enc]
    by_cases e : c = n
    · subst e
      rw [Nat.add_mul_div_right _ _ hb, Nat.div_eq_of_lt (enc_lt g hg c), Nat.zero_add, Nat.mod_eq_of_lt (hg c)]
    · obtain ⟨d, rfl⟩ : ∃ d, n = c + 1 + d := ⟨n - c - 1, by omega⟩
      have e2 : g (c + 1 + d) * base ^ (c + 1 + d) = (g (c + 1 + d) * base ^ d * base) * base ^ c := by
        rw [Nat.pow_add, Nat.pow_succ]
        grind
      rw [e2, Nat.add_mul_div_right _ _ hb, Nat.add_mul_mod_self_right]
      exact enc_dig g hg c (c + 1 + d) (by omega)
theorem enc_congr {g h : Nat → Nat} : ∀ n, (∀ c, c < n → g c = h c) → enc g n = enc h n
  | 0, _ => rfl
  | n + 1, e => by simp only [enc]; rw [enc_congr n (fun c hc => e c (by omega)), e n (by omega)]
theorem enc_bump (g : Nat → Nat) (a : Nat) : ∀ n, a < n → enc (fun c => g c + if c = a then 1 else 0) n = enc g n + base ^ a
  | 0, h => by omega
  | n + 1, h => by
    simp only [enc]
    by_cases e : n = a
    · subst e
      rw [if_pos rfl, enc_congr n (h := g) (fun c hc => by rw [if_neg (by omega), Nat.add_zero]), Nat.add_mul, Nat.one_mul, Nat.add_assoc]
    · rw [if_neg e, enc_bump g a n (by omega), Nat.add_zero]
      omega
def cntTo (p e : Nat) : Nat → Nat → Nat
  | 0, _ => 0
  | n + 1, c => cntTo p e n c + if c = pw p e n then 1 else 0
theorem cntTo_le (p e c : Nat) : ∀ n, cntTo p e n c ≤ n
  | 0 => Nat.le_refl _
  | n + 1 => by have := cntTo_le p e c n; simp only [cntTo]; split <;> omega
theorem cntTo_vals (p e c : Nat) (hp : 0 < p) (hc : c < p) : vals p 1 e 0 c = cntTo p e p c := by
  rw [vals_sum p e c hp hc]
  have h : ∀ n, sumTo n (fun y => if pw p e y = c then (1 : Int) else 0) = (cntTo p e n c : Nat) := by
    intro n
    induction n with
    | zero => rfl
    | succ n ih =>
      simp only [sumTo, cntTo]
      rw [ih]
      by_cases z : pw p e n = c
      · rw [if_pos z, if_pos z.symm]; rfl
      · rw [if_neg z, if_neg (fun w => z w.symm)]; rfl
  exact h p
/-- All counts in one number. -/
def packed (p e : Nat) : Nat → Nat
  | 0 => 0
  | n + 1 => packed p e n + base ^ (n ^ e % p)
theorem packed_enc (p e : Nat) (hp : 0 < p) : ∀ n, packed p e n = enc (cntTo p e n) p
  | 0 => by
    have h : ∀ n, enc (cntTo p e 0) n = 0 := by
      intro n
      induction n with
      | zero => rfl
      | succ n ih => simp only [enc, cntTo] at *; omega
    rw [h]; rfl
  | n + 1 => by
    have h := enc_bump (cntTo p e n) (pw p e n) p (pw_lt p e n hp)
    simp only [packed]
    rw [packed_enc p e hp n]
    exact h.symm
def dig (E c : Nat) : Nat := E / base ^ c % base
theorem dig_vals (p e c : Nat) (hp : 0 < p) (hp2 : p ≤ 61) (hc : c < p) : ((dig (packed p e p) c : Nat) : Int) = vals p 1 e 0 c := by
  rw [cntTo_vals p e c hp hc, packed_enc p e hp p]
  unfold dig
  rw [enc_dig _ (fun d => Nat.lt_of_le_of_lt (cntTo_le p e d p) (by unfold base; omega)) c p hc]
/-! The look. -/
def natSum : Nat → (Nat → Nat) → Nat
  | 0, _ => 0
  | n + 1, f => natSum n f + f n
theorem natSum_cast (n : Nat) (f : Nat → Nat) : ((natSum n f : Nat) : Int) = sumTo n (fun i => ((f i : Nat) : Int)) := by
  induction n with
  | zero => rfl
  | succ n ih => simp only [natSum, sumTo]; rw [Int.natCast_add, ih]
def ptsA (p E : Nat) : Nat := natSum p (fun c => dig E c * dig E ((c + 1) % p)) + dig E 1
def ptsB (p E : Nat) : Nat := natSum p (fun c => dig E c * dig E ((1 + p - c) % p)) + dig E (p - 1)
def chkC (p m : Nat) : Bool :=
  let E := packed p m p
  let a := ptsA p E
  a == ptsB p E && decide ((p + 1 + a) * (p + 1 + a) ≤ 4 * ((m - 1) * (m - 2) / 2) * ((m - 1) * (m - 2) / 2) * p + 4 * (p + 1) * a)
set_option maxRecDepth 100000 in
theorem all_curves : natPrimes.all (fun p => (List.range 60).all fun m => (m + 1) % p == 0 || chkC p (m + 1)) = true := by decide +kernel
/-! What the look tells. -/
/-- Points as the program counts them. -/
def ptsI (p m : Nat) : Int := sumTo p fun y => sumTo p (fun z => if (1 + pw p m y) % p = pw p m z then 1 else 0) + if pw p m y = 1 then 1 else 0
/-- Points as the reference counts them. -/
def ptsS (p m : Nat) : Int := stages p 0 [(1, (m : Int)), (1, (m : Int))] delta0 1 + sumTo p fun x => if (pw p m x + 1) % p = 0 then 1 else 0
theorem ptsI_val (p m : Nat) (hp : 2 ≤ p) (hp2 : p ≤ 61) : ptsI p m = (ptsA p (packed p m p) : Nat) := by
  have h1 : ptsI p m = sumTo p (fun c => vals p 1 m 0 c * (vals p 1 m 0 ((c + 1) % p) + if c = 1 then 1 else 0)) := by
    unfold ptsI
    rw [← sum_pw p m (by omega) (fun c => vals p 1 m 0 ((c + 1) % p) + if c = 1 then 1 else 0)]
    refine sumTo_congr fun y hy => ?_
    congr 1
    rw [vals_sum p m _ (by omega) (Nat.mod_lt _ (by omega))]
    refine sumTo_congr fun z hz => ?_
    rw [Nat.add_comm 1]
    by_cases e : pw p m z = (pw p m y + 1) % p
    · rw [if_pos e, if_pos e.symm]
    · rw [if_neg e, if_neg (fun w => e w.symm)]
  rw [h1]
  unfold ptsA
  rw [Int.natCast_add, natSum_cast, dig_vals p m 1 (by omega) hp2 (by omega)]
  have h2 : sumTo p (fun c => vals p 1 m 0 c * (vals p 1 m 0 ((c + 1) % p) + if c = 1 then 1 else 0)) =
      sumTo p (fun c => vals p 1 m 0 c * vals p 1 m 0 ((c + 1) % p)) + sumTo p (fun c => if c = 1 then vals p 1 m 0 1 else 0) := by
    rw [← sumTo_add]
    refine sumTo_congr fun c hc => ?_
    by_cases e : c = 1
    · subst e; rw [if_pos rfl, if_pos rfl, Int.mul_add, Int.mul_one]
    · rw [if_neg e, if_neg e, Int.add_zero, Int.add_zero]
  have h3 : sumTo p (fun c => if c = 1 then vals p 1 m 0 1 else 0) = vals p 1 m 0 1 := by
    rw [sumTo_one 1 (fun i hi hne => by rw [if_neg hne]), if_pos (by omega), if_pos rfl]
  rw [h2, h3]
  congr 1
  refine sumTo_congr fun c hc => ?_
  rw [Int.natCast_mul, dig_vals p m c (by omega) hp2 hc, dig_vals p m _ (by omega) hp2 (Nat.mod_lt _ (by omega))]
theorem stage_delta (p : Nat) (x : Int × Int) (c : Nat) (hc : c < p) : stage p 0 delta0 x c = vals p x.1 x.2.toNat 0 c := by
  unfold stage conv
  rw [sumTo_one c (fun i hi hne => by
    have : back p c i ≠ 0 := fun z => hne ((back_zero hc hi).1 z)
    simp [delta0, this]), if_pos hc, (back_zero hc hc).2 rfl]
  simp [delta0]
theorem ptsS_val (p m : Nat) (hp : 2 ≤ p) (hp2 : p ≤ 61) : ptsS p m = (ptsB p (packed p m p) : Nat) := by
  unfold ptsS ptsB
  rw [Int.natCast_add, natSum_cast, dig_vals p m (p - 1) (by omega) hp2 (by omega)]
  congr 1
  · show stage p 0 (stage p 0 delta0 (1, (m : Int))) (1, (m : Int)) 1 = _
    have e : stage p 0 (stage p 0 delta0 (1, (m : Int))) (1, (m : Int)) 1 = sumTo p (fun v => vals p 1 m 0 v * stage p 0 delta0 (1, (m : Int)) (back p 1 v)) := rfl
    rw [e]
    refine sumTo_congr fun c hc => ?_
    rw [stage_delta p _ _ (back_lt (by omega)), Int.natCast_mul, dig_vals p m c (by omega) hp2 hc, dig_vals p m _ (by omega) hp2 (Nat.mod_lt _ (by omega))]
    rfl
  · rw [vals_sum p m (p - 1) (by omega) (by omega)]
    refine sumTo_congr fun x hx => ?_
    have h := pw_lt p m x (by omega)
    by_cases e : pw p m x = p - 1
    · rw [if_pos e, if_pos (by rw [e, Nat.sub_add_cancel (by omega), Nat.mod_self])]
    · rw [if_neg e, if_neg (by rw [Nat.mod_eq_of_lt (by omega)]; omega)]
theorem curve_chk {p m : Nat} (hp : p ∈ natPrimes) (h1 : 1 ≤ m) (h2 : m ≤ 60) (h : m % p ≠ 0) : chkC p m = true := by
  have h3 := List.all_eq_true.1 all_curves p hp
  have h4 := List.all_eq_true.1 h3 (m - 1) (by simp; omega)
  rw [Nat.sub_add_cancel h1] at h4
  simpa [h] using h4
theorem curve_same {p m : Nat} (hp : p ∈ natPrimes) (h1 : 1 ≤ m) (h2 : m ≤ 60) (h : m % p ≠ 0) : ptsI p m = ptsS p m := by
  have hb : 3 ≤ p ∧ p ≤ 61 := by simp [natPrimes] at hp; omega
  have hc := curve_chk hp h1 h2 h
  rw [ptsI_val p m (by omega) hb.2, ptsS_val p m (by omega) hb.2]
  simp only [chkC, Bool.and_eq_true, beq_iff_eq] at hc
  rw [hc.1]
theorem curve_bound {p m : Nat} (hp : p ∈ natPrimes) (h1 : 1 ≤ m) (h2 : m ≤ 60) (h : m % p ≠ 0) (g : Int) (hg : g = (((m - 1) * (m - 2) / 2 : Nat) : Int)) :
    ((p : Int) + 1 - ptsI p m) * ((p : Int) + 1 - ptsI p m) ≤ 4 * g * g * p := by
  have hb : 3 ≤ p ∧ p ≤ 61 := by simp [natPrimes] at hp; omega
  have hc := curve_chk hp h1 h2 h
  rw [ptsI_val p m (by omega) hb.2, hg]
  simp only [chkC, Bool.and_eq_true, decide_eq_true_eq] at hc
  obtain ⟨a, ha⟩ : ∃ a, a = ptsA p (packed p m p) := ⟨_, rfl⟩
  obtain ⟨q, hq⟩ : ∃ q, q = (m - 1) * (m - 2) / 2 := ⟨_, rfl⟩
  rw [← ha] at hc ⊢
  have hc2 := hc.2
  rw [← hq] at hc2 ⊢
  have h5 : (((p + 1 + a) * (p + 1 + a) : Nat) : Int) ≤ ((4 * q * q * p + 4 * (p + 1) * a : Nat) : Int) := by exact_mod_cast hc2
  simp only [Int.natCast_add, Int.natCast_mul] at h5
  have e1 : ((p : Int) + 1 - a) * ((p : Int) + 1 - a) = ((p : Int) + 1 + a) * ((p : Int) + 1 + a) - 4 * ((p : Int) + 1) * a := by grind
  rw [e1]
  have e2 : ((1 : Nat) : Int) = 1 := rfl
  have e4 : ((4 : Nat) : Int) = 4 := rfl
  rw [e2, e4] at h5
  omega
end Go.Proofs.Ytphlgajlebgnbaa.Q
/-! The different powers, and counted values, are the reference's. -/
namespace Go.Proofs.Ytphlgajlebgnbaa.Q
open Go.RowKit Go.Proofs.Ytphlgajlebgnbaa.P Go.Proofs.YtphlgajlebgnbaaW.PrintWords Go.Proofs.YtphlgajlebgnbaaW.PrintLast
set_option linter.unusedVariables false
/-- Two strictly ascending lists with the same members are one. -/
theorem asc_ext : ∀ (l m : List Int), l.Pairwise (· < ·) → m.Pairwise (· < ·) → (∀ x, x ∈ l ↔ x ∈ m) → l = m
  | [], [], _, _, _ => rfl
  | [], b :: m, _, _, h => absurd ((h b).mpr List.mem_cons_self) (by simp)
  | a :: l, [], _, _, h => absurd ((h a).mp List.mem_cons_self) (by simp)
  | a :: l, b :: m, hl, hm, h => by
    rw [List.pairwise_cons] at hl hm
    have hab : a = b := by
      rcases List.mem_cons.mp ((h a).mp List.mem_cons_self) with e | e
      · exact e
      · rcases List.mem_cons.mp ((h b).mpr List.mem_cons_self) with e2 | e2
        · exact e2.symm
        · have h1 := hm.1 a e; have h2 := hl.1 b e2; omega
    subst hab
    congr 1
    refine asc_ext l m hl.2 hm.2 fun x => ?_
    constructor
    · intro hx
      rcases List.mem_cons.mp ((h x).mp (List.mem_cons_of_mem _ hx)) with e | e
      · have := hl.1 x hx; omega
      · exact e
    · intro hx
      rcases List.mem_cons.mp ((h x).mpr (List.mem_cons_of_mem _ hx)) with e | e
      · have := hm.1 x hx; omega
      · exact e
/-- A sorted list, each number once: strictly ascending, the same members. -/
theorem compact_asc (d : Array Int) (hs : ∀ i j, i ≤ j → j < d.size → d[i]! ≤ d[j]!) : (Go.Lib.compactUpTo d d.size).Pairwise (· < ·) := by
  unfold Go.Lib.compactUpTo
  rw [List.pairwise_map]
  have h : ((List.range d.size).filter (Go.Lib.keeps d)).Pairwise (· < ·) := List.Pairwise.filter _ List.pairwise_lt_range
  refine List.Pairwise.imp_of_mem (fun {i j} hi hj hij => ?_) h
  rw [List.mem_filter, List.mem_range] at hi hj
  have hk := hj.2
  simp only [Go.Lib.keeps, decide_eq_true_eq] at hk
  have h1 := hs i (j - 1) (by omega) (by omega)
  have h2 := hs (j - 1) j (by omega) hj.1
  have h3 : d[j]! ≠ d[j - 1]! := by
    rcases hk with h | h
    · omega
    · exact h
  omega
theorem compact_mem (d : Array Int) (x : Int) : x ∈ Go.Lib.compactUpTo d d.size ↔ x ∈ d := by
  unfold Go.Lib.compactUpTo
  rw [List.mem_map]
  constructor
  · rintro ⟨i, hi, rfl⟩
    rw [List.mem_filter, List.mem_range] at hi
    rw [getElem!_pos d i hi.1]
    exact Array.getElem_mem hi.1
  · intro hx
    obtain ⟨j, hj, hjx⟩ := Array.getElem_of_mem hx
    -- the least place that holds x
    have : ∀ j, j < d.size → d[j]! = x → ∃ i, i < d.size ∧ d[i]! = x ∧ Go.Lib.keeps d i = true := by
      intro j
      induction j with
      | zero => intro hj hjx; exact ⟨0, hj, hjx, by simp [Go.Lib.keeps]⟩
      | succ j ih =>
        intro hj hjx
        by_cases hk : d[j]! = x
        · exact ih (by omega) hk
        · exact ⟨j + 1, hj, hjx, by simp only [Go.Lib.keeps, decide_eq_true_eq]; right; rw [hjx]; exact fun e => hk e.symm⟩
    obtain ⟨i, hi, hix, hk⟩ := this j hj (by rw [getElem!_pos d j hj]; exact hjx)
    exact ⟨i, by rw [List.mem_filter, List.mem_range]; exact ⟨hi, hk⟩, hix⟩
theorem sortedOnce_asc (l : List Int) : (sortedOnce l).Pairwise (· < ·) := by
  unfold sortedOnce
  refine compact_asc _ fun i j hij hj => ?_
  have hp : (l.mergeSort fun x y => decide (x ≤ y)).Pairwise (fun x y => decide (x ≤ y) = true) := List.pairwise_mergeSort (fun a b c h1 h2 => by simp at *; omega) (fun a b => by simp; omega) l
  have hj' : j < (l.mergeSort fun x y => decide (x ≤ y)).length := by simpa using hj
  rw [getElem!_pos _ i (by omega), getElem!_pos _ j hj]
  rcases Nat.lt_or_ge i j with h | h
  · have := List.pairwise_iff_getElem.mp hp i j (by omega) hj' h
    simpa using this
  · obtain rfl : i = j := by omega
    exact Int.le_refl _
theorem sortedOnce_mem (l : List Int) (x : Int) : x ∈ sortedOnce l ↔ x ∈ l := by
  unfold sortedOnce
  rw [compact_mem]
  simp [List.mem_mergeSort]
/-- All the residues that are powers, ascending. -/
def resid (p e : Nat) : List Int := ((List.range p).filter fun c => decide (0 < vals p 1 e 0 c)).map fun (c : Nat) => (c : Int)
theorem resid_asc (p e : Nat) : (resid p e).Pairwise (· < ·) := by
  unfold resid
  rw [List.pairwise_map]
  refine List.Pairwise.imp (fun h => by omega) (List.Pairwise.filter _ List.pairwise_lt_range)
theorem resid_mem (p e : Nat) (hp : 0 < p) (x : Int) : x ∈ resid p e ↔ x ∈ powL p e := by
  unfold resid
  rw [List.mem_map]
  constructor
  · rintro ⟨c, hc, rfl⟩
    rw [List.mem_filter, List.mem_range] at hc
    have h := hc.2
    rw [vals_count _ _ _ _ _ hc.1, List.drop_zero] at h
    simp only [decide_eq_true_eq] at h
    have h2 : 0 < (powL p e).countP fun x => 1 * x % (p : Int) == (c : Int) := by omega
    rw [List.countP_pos_iff] at h2
    obtain ⟨y, hy, hyc⟩ := h2
    obtain ⟨y0, y1⟩ := powL_mem p e hp y hy
    simp only [beq_iff_eq, Int.one_mul] at hyc
    rw [Int.emod_eq_of_lt y0 y1] at hyc
    rw [← hyc]
    exact hy
  · intro hx
    obtain ⟨x0, x1⟩ := powL_mem p e hp x hx
    refine ⟨x.toNat, ?_, by omega⟩
    rw [List.mem_filter, List.mem_range]
    refine ⟨by omega, ?_⟩
    rw [vals_count _ _ _ _ _ (by omega), List.drop_zero]
    have h2 : 0 < (powL p e).countP fun y => 1 * y % (p : Int) == ((x.toNat : Nat) : Int) := by
      rw [List.countP_pos_iff]
      refine ⟨x, hx, ?_⟩
      simp only [beq_iff_eq, Int.one_mul]
      rw [Int.emod_eq_of_lt x0 x1]
      omega
    simp only [decide_eq_true_eq]
    omega
theorem sortedOnce_resid (p e : Nat) (hp : 0 < p) : sortedOnce (powL p e) = resid p e :=
  asc_ext _ _ (sortedOnce_asc _) (resid_asc _ _) fun x => by rw [sortedOnce_mem, resid_mem p e hp]
end Go.Proofs.Ytphlgajlebgnbaa.Q
/-! The plain side of the chapter's functions: both sides answer the same. -/
namespace Go.Proofs.Ytphlgajlebgnbaa.Q
open Go.RowKit Go.Proofs.Ytphlgajlebgnbaa.P Go.Proofs.YtphlgajlebgnbaaW.PrintWords Go.Proofs.YtphlgajlebgnbaaW.PrintLast
structure Arg (p : Int) (fs es : List Int) (b : Int) : Prop where
  p0 : 2 ≤ p
  p1 : p ≤ 67
  f1 : fs.length ≤ 5
  e1 : es.length ≤ 5
  b0 : 0 ≤ b
  b1 : b ≤ 1000
def due (fr : Nat) (p : Int) (fs es : List Int) (b : Int) : Int × Int :=
  if validEq p fs es b then (stages p.toNat fr (fs.zip es) delta0 b.toNat, 0) else (0, 2)
structure Val (p : Int) (fs es : List Int) (b : Int) : Prop where
  pr : isPr p = true
  ex : es.all okE = true
  l0 : 1 ≤ fs.length
  l1 : fs.length ≤ 4
  le : fs.length = es.length
  b0 : 0 ≤ b
  b1 : b ≤ p - 1
  fa : fs.all (okF p) = true
theorem val_of {p : Int} {fs es : List Int} {b : Int} (h : validEq p fs es b = true) : Val p fs es b := by
  simp only [validEq, Bool.and_eq_true, decide_eq_true_eq] at h
  obtain ⟨⟨⟨⟨⟨a, b⟩, c⟩, d⟩, e⟩, f⟩ := h
  exact ⟨a, b, c.1, c.2, d, e.1, e.2, f⟩
theorem Val.valid {p : Int} {fs es : List Int} {b : Int} (h : Val p fs es b) : validEq p fs es b = true := by
  simp only [validEq, Bool.and_eq_true, decide_eq_true_eq]
  exact ⟨⟨⟨⟨⟨h.pr, h.ex⟩, h.l0, h.l1⟩, h.le⟩, h.b0, h.b1⟩, h.fa⟩
theorem isEq_ev {p : Int} {fs es : List Int} {b : Int} (A : Arg p fs es b) : Ev (fun k => impl_isEquation.f k p fs es b) (validEq p fs es b) :=
  ⟨2001, fun k hk => isEquation_val k p fs es b A.p0 A.p1 (by have := A.b0; omega) (by have := A.b1; omega) (by have := A.f1; omega) (by have := A.e1; omega) (by omega)⟩
theorem sol_ev {p : Int} {fs es : List Int} {b : Int} (V : Val p fs es b) (fr : Nat) (hfr : fr ≤ 1) : Ev (fun k => impl_solutions.f k p fs es b fr) (stages p.toNat fr (fs.zip es) delta0 b.toNat) := by
  have hp := isPr_bd V.pr
  have b0 := V.b0
  have b1 := V.b1
  have e := solutions_val p.toNat (by omega) (by omega) es fs b.toNat (by omega) fr hfr V.le V.l1 (by rw [show ((p.toNat : Nat) : Int) = p by omega]; exact V.fa) V.ex
  rw [show ((p.toNat : Nat) : Int) = p by omega, show ((b.toNat : Nat) : Int) = b by omega] at e
  exact e
theorem cnt_ev {p : Int} {fs es : List Int} {b : Int} (V : Val p fs es b) (full : Bool) : Ev (fun k => spec_l08Count.f k p fs es b full) (stages p.toNat (if full then 1 else 0) (fs.zip es) delta0 b.toNat) := by
  have hp := isPr_bd V.pr
  have b0 := V.b0
  have b1 := V.b1
  have e := l08Count_val p.toNat (by omega) (by omega) es fs b.toNat (by omega) full V.le V.l1 (by rw [show ((p.toNat : Nat) : Int) = p by omega]; exact V.fa) V.ex
  rw [show ((p.toNat : Nat) : Int) = p by omega, show ((b.toNat : Nat) : Int) = b by omega] at e
  exact e
theorem iSol {p : Int} {fs es : List Int} {b : Int} (A : Arg p fs es b) : Ev (fun k => impl_CountSolutions.f k p fs es b) (due 0 p fs es b) := by
  unfold due impl_CountSolutions.f
  refine Ev.bind (isEq_ev A) ?_
  by_cases v : validEq p fs es b = true
  · simp only [if_pos v]
    exact Ev.bind (sol_ev (val_of v) 0 (by omega)) (Ev.now _)
  · simp only [if_neg v]
    exact Ev.now _
/-! Quadrics. -/
theorem quad_arg {p : Int} {fs es : List Int} {b : Int} (A : Arg p fs es b) : Arg p fs (List.replicate fs.length 2) b :=
  ⟨A.p0, A.p1, A.f1, by simpa using A.f1, A.b0, A.b1⟩
/-! Values. -/
def dueVals (p a e : Int) : List Int × Int := if isPr p && okF p a && okE e then (tab p.toNat (vals p.toNat a e.toNat 0), 0) else ([], 2)
/-! Powers. -/
def duePow (p e : Int) : List Int × Int := if isPr p && okE e then (resid p.toNat e.toNat, 0) else ([], 2)
theorem iPow {p e : Int} (h0 : 2 ≤ p) (h1 : p ≤ 67) : Ev (fun k => impl_PowersOf.f k p e) (duePow p e) := by
  unfold duePow impl_PowersOf.f
  refine Ev.bind ⟨101, fun k hk => isPrime_val p h0 h1 k (by omega)⟩ ?_
  cases c1 : isPr p
  · exact Ev.now _
  have hp := isPr_bd c1
  simp only [isExponent_val, Option.bind_some, if_true, Bool.true_and]
  by_cases c3 : okE e = true
  · simp only [c3, if_true]
    have he : 1 ≤ e ∧ e ≤ 60 := by simpa [okE] using c3
    refine Ev.bind (a := resid p.toNat e.toNat) ⟨3001, fun k hk => ?_⟩ (Ev.now _)
    have hv := powersOf_val k p.toNat e.toNat (by omega) (by omega) (by omega) (by omega)
    rw [show ((p.toNat : Nat) : Int) = p by omega, show ((e.toNat : Nat) : Int) = e by omega] at hv
    unfold impl_differentPowers.f
    dsimp only
    rw [hv]
    simp only [Option.bind_some]
    rw [if_pos (by rw [powL_length]; omega), sortedOnce_resid _ _ (by omega)]
  · simp only [c3]
    exact Ev.now _
def residTo (p e i : Nat) : List Int := ((List.range i).filter fun c => decide (0 < vals p 1 e 0 c)).map fun (c : Nat) => (c : Int)
theorem residTo_len (p e i : Nat) : (residTo p e i).length ≤ i := by
  unfold residTo
  rw [List.length_map]
  exact Nat.le_trans (List.length_filter_le _ _) (by simp)
theorem residTo_succ (p e i : Nat) : residTo p e (i + 1) = if 0 < vals p 1 e 0 i then residTo p e i ++ [(i : Int)] else residTo p e i := by
  unfold residTo
  rw [List.range_succ, List.filter_append, List.map_append]
  by_cases h : 0 < vals p 1 e 0 i <;> simp [h]
/-! Lists that are alike, and sums. -/
/-! Of the results. -/
theorem unit_zero {p : Nat} (hp : 3 ≤ p) {a b y : Int} (hb : a * b % (p : Int) = 1) (h : a * y % (p : Int) = 0) : y % (p : Int) = 0 := by
  have e : y * (a * b) % (p : Int) = y % (p : Int) := by rw [Int.mul_emod, hb, Int.mul_one, Int.emod_emod]
  rw [← e, show y * (a * b) = (a * y) * b by grind, Int.mul_emod, h, Int.zero_mul, Int.zero_emod]
theorem unit_of {p : Nat} (h : Chk p) (x : Int) (h0 : 1 ≤ x) (h1 : x < p) : ∃ b : Int, x * b % (p : Int) = 1 := by
  have hI := h.I x.toNat (by omega) (by omega)
  refine ⟨((x.toNat ^ (p - 2) % p : Nat) : Int), ?_⟩
  have : ((x.toNat * (x.toNat ^ (p - 2) % p) % p : Nat) : Int) = 1 := by rw [hI]; rfl
  rw [Int.natCast_emod, Int.natCast_mul] at this
  rw [show ((x.toNat : Nat) : Int) = x by omega] at this
  exact this
theorem pow_ne {p : Nat} (h : Chk p) (x : Int) (h0 : 1 ≤ x) (h1 : x < p) : ∀ e : Nat, x ^ e % (p : Int) ≠ 0 := by
  obtain ⟨b, hb⟩ := unit_of h x h0 h1
  have hp := h.lo
  intro e
  induction e with
  | zero => rw [Int.pow_zero, Int.emod_eq_of_lt (by omega) (by omega)]; omega
  | succ e ih =>
    intro z
    rw [Int.pow_succ, Int.mul_comm] at z
    exact ih (unit_zero hp hb z)
theorem vals_zero {p : Nat} (h : Chk p) (a : Int) (ha : 1 ≤ a) (ha2 : a < p) (e : Nat) (he : 1 ≤ e) : vals p a e 0 0 = 1 := by
  have hp := h.lo
  have h1 := vals_full p a e 0 (by omega) he (by omega)
  rw [if_pos rfl] at h1
  have h2 := vals_count p a e 1 0 (by omega)
  obtain ⟨b, hb⟩ := unit_of h a ha ha2
  have h3 : ((powL p e).drop 1).countP (fun x => a * x % (p : Int) == ((0 : Nat) : Int)) = 0 := by
    rw [List.countP_eq_zero]
    intro x hx
    rw [List.mem_iff_getElem] at hx
    obtain ⟨i, hi, rfl⟩ := hx
    rw [List.length_drop, powL_length] at hi
    have e1 : ((powL p e).drop 1)[i]'(by rw [List.length_drop, powL_length]; exact hi) = ((i + 1 : Nat) : Int) ^ e % (p : Int) := by
      simp [powL, tab]
    rw [e1]
    simp only [beq_iff_eq]
    intro z
    have := unit_zero hp hb z
    rw [Int.emod_emod] at this
    exact pow_ne h _ (by omega) (by omega) e this
  omega
theorem asc_two : ∀ l : List Int, l.Pairwise (· < ·) → (∀ x ∈ l, 0 ≤ x) → 0 ∈ l → 1 ∈ l → ∃ t, l = 0 :: 1 :: t := by
  intro l hs h0 m0 m1
  match l with
  | [] => simp at m0
  | x :: t =>
    rw [List.pairwise_cons] at hs
    have hx : x = 0 := by
      rcases List.mem_cons.1 m0 with h | h
      · omega
      · have := hs.1 0 h; have := h0 x (by simp); omega
    subst hx
    have m1' : 1 ∈ t := by
      rcases List.mem_cons.1 m1 with h | h
      · omega
      · exact h
    match t with
    | [] => simp at m1'
    | y :: s =>
      have hy : y = 1 := by
        have y0 := hs.1 y (by simp)
        rcases List.mem_cons.1 m1' with h | h
        · omega
        · have := (List.pairwise_cons.1 hs.2).1 1 h; omega
      subst hy
      exact ⟨s, rfl⟩
theorem resid_two (p e : Nat) (hp : 3 ≤ p) (he : 1 ≤ e) : ∃ t, resid p e = 0 :: 1 :: t := by
  refine asc_two _ (resid_asc p e) (fun x hx => ?_) ?_ ?_
  · rw [resid_mem p e (by omega)] at hx
    exact (powL_mem p e (by omega) x hx).1
  · rw [resid_mem p e (by omega)]
    rw [powL_cons p e (by omega) he]
    simp
  · rw [resid_mem p e (by omega)]
    unfold powL tab
    rw [List.mem_map]
    refine ⟨1, by simp; omega, ?_⟩
    rw [show ((1 : Nat) : Int) = 1 by rfl, Int.one_pow, Int.emod_eq_of_lt (by omega) (by omega)]
theorem resid_len (p e : Nat) : (resid p e).length ≤ p := residTo_len p e p
theorem stages_bd (p : Nat) (hp : 0 < p) : ∀ (l : List (Int × Int)) (f g : Nat → Int), (∀ x ∈ l, 1 ≤ x.2.toNat) → 2 ≤ p → (∀ c, c < p → 0 ≤ f c ∧ f c ≤ g c) → ∀ c, c < p → 0 ≤ stages p 1 l f c ∧ stages p 1 l f c ≤ stages p 0 l g c := by
  intro l
  induction l with
  | nil => intro f g _ _ h c hc; exact h c hc
  | cons x l ih =>
    intro f g hx hp2 h c hc
    refine ih _ _ (fun y hy => hx y (by simp [hy])) hp2 (fun d hd => ?_) c hc
    unfold stage
    refine conv_le h (fun i hi => ?_) d hp
    have h1 := vals_full p x.1 x.2.toNat i hp2 (hx x (by simp)) hi
    have h2 := vals_bd p x.1 x.2.toNat 1 i hi
    refine ⟨h2.1, ?_⟩
    split at h1 <;> omega
theorem stages_nonneg (p : Nat) (hp : 0 < p) : ∀ (l : List (Int × Int)) (f : Nat → Int), (∀ c, c < p → 0 ≤ f c) → ∀ c, c < p → 0 ≤ stages p 0 l f c := by
  intro l
  induction l with
  | nil => intro f h c hc; exact h c hc
  | cons x l ih =>
    intro f h c hc
    refine ih _ (fun d hd => ?_) c hc
    unfold stage
    exact (conv_le (f := f) (f' := f) (g := vals p x.1 x.2.toNat 0) (g' := vals p x.1 x.2.toNat 0) (fun i hi => ⟨h i hi, Int.le_refl _⟩) (fun i hi => ⟨(vals_bd p x.1 x.2.toNat 0 i hi).1, Int.le_refl _⟩) d hp).1
theorem stages_total (p : Nat) (hp : 0 < p) : ∀ (l : List (Int × Int)) (f : Nat → Int), sumTo p (stages p 0 l f) = sumTo p f * (p : Int) ^ l.length := by
  intro l
  induction l with
  | nil => intro f; simp [stages]
  | cons x l ih =>
    intro f
    have h := ih (stage p 0 f x)
    rw [show stages p 0 (x :: l) f = stages p 0 l (stage p 0 f x) from rfl, h]
    unfold stage
    rw [conv_total, vals_total p _ _ hp, List.length_cons, Int.pow_succ]
    grind
theorem delta_total (p : Nat) (hp : 0 < p) : sumTo p delta0 = 1 := by
  rw [sumTo_one 0 (fun i hi h0 => by simp [delta0, h0]), if_pos hp]
  rfl
theorem delta_nonneg (c : Nat) : 0 ≤ delta0 c := by unfold delta0; split <;> omega
end Go.Proofs.Ytphlgajlebgnbaa.Q
/-! Points of curves of powers: both sides answer the same. -/
namespace Go.Proofs.Ytphlgajlebgnbaa.Q
open Go.RowKit Go.Proofs.Ytphlgajlebgnbaa.P Go.Proofs.YtphlgajlebgnbaaW.PrintWords Go.Proofs.YtphlgajlebgnbaaW.PrintLast
set_option linter.unusedVariables false
set_option linter.unusedSimpArgs false
def validC (p m : Int) : Bool := isPr p && (okE m && decide (m % p ≠ 0))
structure Cur (p m : Int) : Prop where
  pr : isPr p = true
  e0 : 1 ≤ m
  e1 : m ≤ 60
  ne : m % p ≠ 0
theorem cur_of {p m : Int} (h : validC p m = true) : Cur p m := by
  simp only [validC, Bool.and_eq_true, okE, decide_eq_true_eq] at h
  exact ⟨h.1, h.2.1.1, h.2.1.2, h.2.2⟩
theorem tmod_zero (m p : Int) (hp : 1 ≤ p) : Int.tmod m p = 0 ↔ m % p = 0 := by
  rw [← Int.dvd_iff_tmod_eq_zero, Int.dvd_iff_emod_eq_zero]
theorem isCurve_ev {p m : Int} (h0 : 2 ≤ p) (h1 : p ≤ 67) : Ev (fun k => impl_isCurve.f k p m) (validC p m) := by
  unfold impl_isCurve.f validC
  refine Ev.bind ⟨101, fun k hk => isPrime_val p h0 h1 k (by omega)⟩ ?_
  cases c1 : isPr p
  · exact Ev.now _
  · simp only [isExponent_val, Option.bind_some, if_true, Bool.true_and]
    cases c2 : okE m
    · exact Ev.now _
    · simp only [if_true, Bool.true_and, if_neg (show ¬ p = 0 by omega)]
      by_cases c3 : m % p = 0
      · have : Int.tmod m p = 0 := (tmod_zero m p (by omega)).2 c3
        rw [this, c3]
        exact Ev.now _
      · have : ¬ Int.tmod m p = 0 := fun z => c3 ((tmod_zero m p (by omega)).1 z)
        rw [bne_iff_ne.mpr this, decide_eq_true c3]
        exact Ev.now _
theorem l08Curve_ev {p m : Int} (h0 : 2 ≤ p) (h1 : p ≤ 67) : Ev (fun k => spec_l08Curve.f k p m) (if validC p m = true then 0 else 2) := by
  unfold spec_l08Curve.f validC
  refine Ev.bind ⟨2001, fun k hk => l08Code_val k p [m] h0 h1 (by simp) (by omega)⟩ ?_
  simp only [List.all_cons, List.all_nil, Bool.and_true]
  cases c1 : isPr p
  · exact Ev.now _
  · cases c2 : okE m
    · exact Ev.now _
    · simp only [Bool.and_self, if_true, Bool.true_and, if_neg (show ¬ p = 0 by omega)]
      by_cases c3 : m % p = 0
      · have : Int.tmod m p = 0 := (tmod_zero m p (by omega)).2 c3
        simp only [this, c3, if_true]
        exact Ev.now _
      · have : ¬ Int.tmod m p = 0 := fun z => c3 ((tmod_zero m p (by omega)).1 z)
        simp only [if_neg this, decide_eq_true c3, if_true]
        exact Ev.now _
def ctZ (p m y z : Nat) : Int := if (1 + pw p m y) % p = pw p m z then 1 else 0
def ct1 (p m y : Nat) : Int := if pw p m y = 1 then 1 else 0
theorem ctZ_bd (p m y i : Nat) : 0 ≤ sumTo i (ctZ p m y) ∧ sumTo i (ctZ p m y) ≤ i := by
  refine ⟨sumTo_nonneg fun j _ => by unfold ctZ; split <;> omega, ?_⟩
  have h := sumTo_le (n := i) (f := ctZ p m y) (g := fun _ => 1) (fun j _ => by unfold ctZ; split <;> omega)
  rw [sumTo_const] at h
  omega
theorem ct1_bd (p m y : Nat) : 0 ≤ ct1 p m y ∧ ct1 p m y ≤ 1 := by unfold ct1; split <;> omega
theorem rd_pw (p m y : Nat) (hy : y < p) : rd (powL p m) (y : Int) = (pw p m y : Nat) := by
  unfold powL
  rw [tab_rd p _ y hy, pw_cast]
theorem cp_l1 (p m : Nat) (hp : 2 ≤ p) (hp2 : p ≤ 61) (y : Nat) (hy : y < p) (B : Int) (hB0 : 0 ≤ B) (hB : B ≤ 100000) (r : Int)
    (hn : Ev (fun k => impl_curvePoints.l0 k p (powL p m) (B + sumTo p (ctZ p m y) + ct1 p m y) p ((y : Int) + 1)) r) :
    ∀ (d z : Nat), z + d = p → Ev (fun k => impl_curvePoints.l1 k p (powL p m) (B + sumTo z (ctZ p m y)) y p y p z) r := by
  intro d
  have hyl := pw_lt p m y (by omega)
  have hc1 := ct1_bd p m y
  induction d with
  | zero =>
    intro z hz
    obtain rfl : z = p := by omega
    have hb := ctZ_bd z m y z
    refine Ev.step (fun k => ?_) hn
    simp only [impl_curvePoints.l1]
    rw [if_neg (by omega), if_pos (by omega), if_pos (by rw [powL_length]; omega), rd_pw z m y hy, w64 (n := (y : Int) + 1) (by omega) (by omega)]
    by_cases e : pw z m y = 1
    · rw [if_pos (by omega), w64 (n := B + sumTo z (ctZ z m y) + 1) (by omega) (by omega)]
      unfold ct1
      rw [if_pos e]
    · rw [if_neg (by omega)]
      unfold ct1
      rw [if_neg e, Int.add_zero]
  | succ d ih =>
    intro z hz
    have hb := ctZ_bd p m y z
    have h := ih (z + 1) (by omega)
    refine Ev.step (fun k => ?_) h
    have hmod : Int.tmod (wrap64 (1 + ((pw p m y : Nat) : Int))) p = (((1 + pw p m y) % p : Nat) : Int) := by
      rw [w64 (by omega) (by omega), Int.tmod_eq_emod_of_nonneg (by omega), Int.natCast_emod, Int.natCast_add]
      rfl
    simp only [impl_curvePoints.l1]
    rw [if_pos (by omega), if_pos (by omega), if_pos (by rw [powL_length]; omega), if_neg (by omega), if_pos (by omega), if_pos (by rw [powL_length]; omega), rd_pw p m y hy, rd_pw p m z (by omega), hmod, w64 (n := (z : Int) + 1) (by omega) (by omega)]
    simp only [sumTo]
    rw [show (((z + 1 : Nat)) : Int) = (z : Int) + 1 by omega]
    by_cases e : (1 + pw p m y) % p = pw p m z
    · rw [if_pos (by omega), w64 (n := B + sumTo z (ctZ p m y) + 1) (by omega) (by omega)]
      rw [show ctZ p m y z = 1 by unfold ctZ; rw [if_pos e], Int.add_assoc]
    · rw [if_neg (by omega)]
      rw [show ctZ p m y z = 0 by unfold ctZ; rw [if_neg e], Int.add_zero]
def ctY (p m y : Nat) : Int := sumTo p (ctZ p m y) + ct1 p m y
theorem ptsI_eq (p m : Nat) : ptsI p m = sumTo p (ctY p m) := rfl
theorem ctY_bd (p m i : Nat) (hp : p ≤ 61) : 0 ≤ sumTo i (ctY p m) ∧ sumTo i (ctY p m) ≤ i * 62 := by
  have h1 : ∀ y, 0 ≤ ctY p m y ∧ ctY p m y ≤ 62 := fun y => by
    have := ctZ_bd p m y p
    have := ct1_bd p m y
    unfold ctY
    omega
  refine ⟨sumTo_nonneg fun j _ => (h1 j).1, ?_⟩
  have h := sumTo_le (n := i) (f := ctY p m) (g := fun _ => 62) (fun j _ => (h1 j).2)
  rw [sumTo_const] at h
  exact h
theorem cp_l0 (p m : Nat) (hp : 2 ≤ p) (hp2 : p ≤ 61) : ∀ (d y : Nat), y + d = p → Ev (fun k => impl_curvePoints.l0 k p (powL p m) (sumTo y (ctY p m)) p y) (ptsI p m) := by
  intro d
  induction d with
  | zero =>
    intro y hy
    obtain rfl : y = p := by omega
    refine Ev.step (fun k => ?_) (Ev.now _)
    simp only [impl_curvePoints.l0]
    rw [if_neg (by omega), ptsI_eq]
  | succ d ih =>
    intro y hy
    have h := ih (y + 1) (by omega)
    have hb := ctY_bd p m y hp2
    simp only [sumTo, ctY] at h
    rw [show (((y + 1 : Nat)) : Int) = (y : Int) + 1 by omega, ← Int.add_assoc] at h
    have h1 := cp_l1 p m hp hp2 y (by omega) (sumTo y (ctY p m)) hb.1 (by omega) _ h p 0 (by omega)
    simp only [sumTo, Int.add_zero] at h1
    refine Ev.step (fun k => ?_) h1
    simp only [impl_curvePoints.l0]
    rw [if_pos (by omega)]
    rfl
theorem ptsI_bd (p m : Nat) (hp : p ≤ 61) : 0 ≤ ptsI p m ∧ ptsI p m ≤ 3782 := by
  have h := ctY_bd p m p hp
  rw [ptsI_eq]
  omega
theorem curvePoints_ev (p m : Nat) (hp : 2 ≤ p) (hp2 : p ≤ 61) (hm : m ≤ 60) : Ev (fun k => impl_curvePoints.f k p m) (ptsI p m) := by
  unfold impl_curvePoints.f
  exact Ev.bind ⟨3001, fun k hk => powersOf_val k p m (by omega) (by omega) (by omega) (by omega)⟩ (cp_l0 p m hp hp2 p 0 (by omega))
def sct (p m x : Nat) : Int := if (pw p m x + 1) % p = 0 then 1 else 0
theorem sct_bd (p m i : Nat) : 0 ≤ sumTo i (sct p m) ∧ sumTo i (sct p m) ≤ i := by
  refine ⟨sumTo_nonneg fun j _ => by unfold sct; split <;> omega, ?_⟩
  have h := sumTo_le (n := i) (f := sct p m) (g := fun _ => 1) (fun j _ => by unfold sct; split <;> omega)
  rw [sumTo_const] at h
  omega
theorem sp_l0 (p m : Nat) (hp : 2 ≤ p) (hp2 : p ≤ 61) (hm : m ≤ 60) (B : Int) (hB0 : 0 ≤ B) (hB : B ≤ 100000) : ∀ (d i : Nat), i + d = p →
    Ev (fun k => spec_l08Points.l0 k p m (B + sumTo i (sct p m)) i) (B + sumTo p (sct p m)) := by
  intro d
  induction d with
  | zero =>
    intro i hi
    obtain rfl : i = p := by omega
    refine Ev.step (fun k => ?_) (Ev.now _)
    simp only [spec_l08Points.l0]
    rw [if_neg (by omega)]
  | succ d ih =>
    intro i hi
    have h := ih (i + 1) (by omega)
    have hb := sct_bd p m i
    have hl := pw_lt p m i (by omega)
    simp only [sumTo] at h
    rw [show (((i + 1 : Nat)) : Int) = (i : Int) + 1 by omega] at h
    refine Ev.step (g := fun k => spec_l08Points.l0 k p m (B + sumTo i (sct p m)) i) (fun k => by simp only [spec_l08Points.l0]; rfl) ?_
    simp only [if_pos (show (i : Int) < p by omega)]
    refine Ev.bind (a := ((pw p m i : Nat) : Int)) ⟨1001, fun k hk => by show spec_l08Power.f k p i m = _; rw [l08Power_val k p i m (by omega) (by omega) (by omega) (by omega) (by omega) (by omega), pw_cast]⟩ ?_
    have hmod : Int.tmod (wrap64 (((pw p m i : Nat) : Int) + 1)) p = (((pw p m i + 1) % p : Nat) : Int) := by
      rw [w64 (by omega) (by omega), Int.tmod_eq_emod_of_nonneg (by omega), Int.natCast_emod, Int.natCast_add]
      rfl
    simp only [if_neg (show ¬ (p : Int) = 0 by omega), hmod]
    rw [w64 (n := (i : Int) + 1) (by omega) (by omega)]
    by_cases e : (pw p m i + 1) % p = 0
    · rw [e]
      simp only [show ((0 : Nat) : Int) = 0 from rfl, if_true]
      rw [w64 (n := B + sumTo i (sct p m) + 1) (by omega) (by omega)]
      rw [show sct p m i = 1 by unfold sct; rw [if_pos e], ← Int.add_assoc] at h
      exact h
    · simp only [if_neg (show ¬ (((pw p m i + 1) % p : Nat) : Int) = 0 by omega)]
      rw [show sct p m i = 0 by unfold sct; rw [if_neg e], Int.add_zero] at h
      exact h
theorem val_one (p m : Nat) (hp : isPr p = true) (h1 : 1 ≤ m) (h2 : m ≤ 60) : Val p [1, 1] [(m : Int), (m : Int)] 1 := by
  have hb := isPr_bd hp
  refine ⟨hp, ?_, by simp, by simp, rfl, by omega, by omega, ?_⟩
  · simp [okE]; omega
  · simp [okF]; omega
theorem stages_two_bd (p m : Nat) (hp : 2 ≤ p) (hp2 : p ≤ 61) : 0 ≤ stages p 0 [(1, (m : Int)), (1, (m : Int))] delta0 1 ∧ stages p 0 [(1, (m : Int)), (1, (m : Int))] delta0 1 ≤ 3721 := by
  have h0 : ∀ c, c < p → 0 ≤ stages p 0 [(1, (m : Int)), (1, (m : Int))] delta0 c := stages_nonneg p (by omega) _ _ (fun c _ => delta_nonneg c)
  have h1 := stages_total p (by omega) [(1, (m : Int)), (1, (m : Int))] delta0
  rw [delta_total _ (by omega), Int.one_mul] at h1
  have h2 := sumTo_ge (n := p) (f := stages p 0 [(1, (m : Int)), (1, (m : Int))] delta0) (fun j hj => h0 j hj) 1 (by omega)
  rw [h1] at h2
  refine ⟨h0 1 (by omega), Int.le_trans h2 ?_⟩
  show (p : Int) ^ 2 ≤ 3721
  have : (p : Int) ^ 2 = (p : Int) * p := by rw [Int.pow_succ, Int.pow_succ, Int.pow_zero, Int.one_mul]
  rw [this]
  have h3 : (p : Int) * p ≤ 61 * 61 := Int.mul_le_mul (by omega) (by omega) (by omega) (by omega)
  omega
theorem l08Points_ev (p m : Nat) (hp : isPr p = true) (h1 : 1 ≤ m) (h2 : m ≤ 60) : Ev (fun k => spec_l08Points.f k p m) (ptsS p m) := by
  have hb := isPr_bd hp
  have hs := stages_two_bd p m (by omega) (by omega)
  unfold spec_l08Points.f
  refine Ev.bind (cnt_ev (val_one p m hp h1 h2) false) ?_
  have h := sp_l0 p m (by omega) (by omega) h2 (stages p 0 [(1, (m : Int)), (1, (m : Int))] delta0 1) hs.1 (by omega) p 0 (by omega)
  simp only [sumTo, Int.add_zero] at h
  exact h
/-! The answers. -/
def duePts (p m : Int) : Int × Int := if validC p m = true then (ptsI p.toNat m.toNat, 0) else (0, 2)
def dueDef (p m : Int) : Int × Int := if validC p m = true then (p + 1 - ptsI p.toNat m.toNat, 0) else (0, 2)
def gen (m : Int) : Int := (((m.toNat - 1) * (m.toNat - 2) / 2 : Nat) : Int)
def dueGen (m : Int) : Int × Int := if okE m = true then (gen m, 0) else (0, 2)
theorem iPts {p m : Int} (h0 : 2 ≤ p) (h1 : p ≤ 67) : Ev (fun k => impl_CurvePoints.f k p m) (duePts p m) := by
  unfold impl_CurvePoints.f duePts
  refine Ev.bind (isCurve_ev h0 h1) ?_
  by_cases v : validC p m = true
  · have V := cur_of v
    have hp := isPr_bd V.pr
    have e0 := V.e0
    have e1 := V.e1
    simp only [if_pos v]
    have h := curvePoints_ev p.toNat m.toNat (by omega) (by omega) (by omega)
    rw [show ((p.toNat : Nat) : Int) = p by omega, show ((m.toNat : Nat) : Int) = m by omega] at h
    exact Ev.bind h (Ev.now _)
  · simp only [if_neg v]
    exact Ev.now _
theorem points_same {p m : Int} (V : Cur p m) : ptsS p.toNat m.toNat = ptsI p.toNat m.toNat := by
  obtain ⟨hn, hc⟩ := isPr_nat V.pr
  have e0 := V.e0
  have e1 := V.e1
  refine (curve_same hn (by omega) (by omega) ?_).symm
  intro z
  apply V.ne
  have : ((m.toNat % p.toNat : Nat) : Int) = 0 := by rw [z]; rfl
  rw [Int.natCast_emod, hc, show ((m.toNat : Nat) : Int) = m by omega] at this
  exact this
theorem sPts {p m : Int} (h0 : 2 ≤ p) (h1 : p ≤ 67) : Ev (fun k => spec_CurvePoints.f k p m) (duePts p m) := by
  unfold spec_CurvePoints.f duePts
  refine Ev.bind (l08Curve_ev h0 h1) ?_
  by_cases v : validC p m = true
  · have V := cur_of v
    have hp := isPr_bd V.pr
    have e0 := V.e0
    have e1 := V.e1
    simp only [if_pos v, if_true]
    have h := l08Points_ev p.toNat m.toNat (by rw [show ((p.toNat : Nat) : Int) = p by omega]; exact V.pr) (by omega) (by omega)
    rw [show ((p.toNat : Nat) : Int) = p by omega, show ((m.toNat : Nat) : Int) = m by omega, points_same V] at h
    exact Ev.bind h (Ev.now _)
  · simp only [if_neg v]
    exact Ev.now _
theorem iDef {p m : Int} (h0 : 2 ≤ p) (h1 : p ≤ 67) : Ev (fun k => impl_CurveDefect.f k p m) (dueDef p m) := by
  unfold impl_CurveDefect.f dueDef
  refine Ev.bind (isCurve_ev h0 h1) ?_
  by_cases v : validC p m = true
  · have V := cur_of v
    have hp := isPr_bd V.pr
    have e0 := V.e0
    have e1 := V.e1
    have hb := ptsI_bd p.toNat m.toNat (by omega)
    simp only [if_pos v]
    have h := curvePoints_ev p.toNat m.toNat (by omega) (by omega) (by omega)
    rw [show ((p.toNat : Nat) : Int) = p by omega, show ((m.toNat : Nat) : Int) = m by omega] at h
    refine Ev.bind h ?_
    rw [w64 (n := p + 1) (by omega) (by omega), w64 (n := p + 1 - _) (by omega) (by omega)]
    exact Ev.now _
  · simp only [if_neg v]
    exact Ev.now _
theorem sDef {p m : Int} (h0 : 2 ≤ p) (h1 : p ≤ 67) : Ev (fun k => spec_CurveDefect.f k p m) (dueDef p m) := by
  unfold spec_CurveDefect.f dueDef
  refine Ev.bind (l08Curve_ev h0 h1) ?_
  by_cases v : validC p m = true
  · have V := cur_of v
    have hp := isPr_bd V.pr
    have e0 := V.e0
    have e1 := V.e1
    have hb := ptsI_bd p.toNat m.toNat (by omega)
    simp only [if_pos v, if_true]
    have h := l08Points_ev p.toNat m.toNat (by rw [show ((p.toNat : Nat) : Int) = p by omega]; exact V.pr) (by omega) (by omega)
    rw [show ((p.toNat : Nat) : Int) = p by omega, show ((m.toNat : Nat) : Int) = m by omega, points_same V] at h
    refine Ev.bind h ?_
    rw [w64 (n := p + 1) (by omega) (by omega), w64 (n := p + 1 - _) (by omega) (by omega)]
    exact Ev.now _
  · simp only [if_neg v]
    exact Ev.now _
theorem gen_val (m : Int) (h0 : 1 ≤ m) (h1 : m ≤ 60) : wrap64 (Int.tdiv (wrap64 ((wrap64 (m - 1)) * (wrap64 (m - 2)))) 2) = gen m := by
  have h : ∀ i : Nat, i < 60 → wrap64 (Int.tdiv (wrap64 ((wrap64 (((i + 1 : Nat) : Int) - 1)) * (wrap64 (((i + 1 : Nat) : Int) - 2)))) 2) = gen ((i + 1 : Nat) : Int) := by decide +kernel
  have h2 := h (m.toNat - 1) (by omega)
  rw [show (((m.toNat - 1 + 1 : Nat)) : Int) = m by omega] at h2
  exact h2
theorem iGen (m : Int) : impl_GenusOfCurve.f m = some (dueGen m) := by
  unfold impl_GenusOfCurve.f dueGen
  rw [isExponent_val]
  simp only [Option.bind_some]
  by_cases v : okE m = true
  · have : 1 ≤ m ∧ m ≤ 60 := by simpa [okE] using v
    rw [if_pos v, if_pos v, gen_val m this.1 this.2]
  · rw [if_neg v, if_neg v]
theorem sGen (m : Int) : spec_GenusOfCurve.f m = some (dueGen m) := by
  unfold spec_GenusOfCurve.f dueGen
  rw [in_val]
  simp only [Option.bind_some]
  by_cases v : okE m = true
  · have : 1 ≤ m ∧ m ≤ 60 := by simpa [okE] using v
    rw [if_pos (by simpa using this), if_pos v, gen_val m this.1 this.2]
  · have : ¬ (1 ≤ m ∧ m ≤ 60) := by simpa [okE] using v
    rw [if_neg (by simpa using this), if_neg v]
end Go.Proofs.Ytphlgajlebgnbaa.Q
/-! Points above a polynomial: both sides answer the same. -/
namespace Go.Proofs.Ytphlgajlebgnbaa.Q
open Go.RowKit Go.Proofs.Ytphlgajlebgnbaa.P Go.Proofs.YtphlgajlebgnbaaW.PrintWords Go.Proofs.YtphlgajlebgnbaaW.PrintLast
set_option linter.unusedVariables false
set_option linter.unusedSimpArgs false
/-- The value of a polynomial modulo p. -/
def hor (p x : Nat) (l : List Int) : Int := l.foldr (fun c acc => (acc * x + c) % (p : Int)) 0
theorem hor_cons (p x : Nat) (c : Int) (l : List Int) : hor p x (c :: l) = (hor p x l * x + c) % (p : Int) := rfl
theorem hor_bd (p x : Nat) (hp : 1 ≤ p) (l : List Int) : 0 ≤ hor p x l ∧ hor p x l < p := by
  cases l with
  | nil => simp only [hor, List.foldr_nil]; omega
  | cons c l =>
    rw [hor_cons]
    exact ⟨Int.emod_nonneg _ (by omega), Int.emod_lt_of_pos _ (by omega)⟩
theorem around_val (a m : Int) (h0 : 0 ≤ a) (hm : 1 ≤ m) (hm2 : m ≤ 1000000) : impl_around.f a m = some (a % m) := by
  unfold impl_around.f
  have h1 := Int.emod_nonneg a (show m ≠ 0 by omega)
  have h2 := Int.emod_lt_of_pos a (show 0 < m by omega)
  rw [if_neg (by omega), Int.tmod_eq_emod_of_nonneg h0, w64 (by omega) (by omega), Int.tmod_eq_emod_of_nonneg (by omega), Int.add_emod_right, Int.emod_emod]
theorem inAll_iff (p x : Int) : inAll p x = true ↔ 0 ≤ x ∧ x ≤ p - 1 := by simp [inAll]
theorem all_rd {p : Int} {l : List Int} (h : l.all (inAll p) = true) (i : Nat) (hi : i < l.length) : 0 ≤ rd l (i : Int) ∧ rd l (i : Int) ≤ p - 1 := by
  have e : rd l (i : Int) = l[i] := by simp [rd, hi]
  rw [e]
  exact (inAll_iff _ _).1 (List.all_eq_true.1 h _ (List.getElem_mem hi))
theorem small_two {a b m : Int} (h0 : 0 ≤ a) (h1 : a < m) (h2 : 0 ≤ b) (h3 : b < m) (hm : m ≤ 1000) : 0 ≤ a * b ∧ a * b ≤ 1000000 :=
  ⟨Int.mul_nonneg h0 h2, Int.le_trans (Int.mul_le_mul (show a ≤ 1000 by omega) (show b ≤ 1000 by omega) h2 (by omega)) (by omega)⟩
theorem valueAt_loop (p x : Nat) (hp : 2 ≤ p) (hp2 : p ≤ 61) (hx : x < p) (l : List Int) (hl : l.length ≤ 1000) (ha : l.all (inAll p) = true) : ∀ (j : Nat) (k : Nat), j ≤ l.length → j < k →
    impl_valueAt.l0 k l x p (hor p x (l.drop j)) ((j : Int) - 1) = some (hor p x l) := by
  intro j
  induction j with
  | zero =>
    intro k hj hk
    obtain ⟨k, rfl⟩ : ∃ m, k = m + 1 := ⟨k - 1, by omega⟩
    simp only [impl_valueAt.l0]
    rw [if_neg (by omega), List.drop_zero]
  | succ j ih =>
    intro k hj hk
    obtain ⟨k, rfl⟩ : ∃ m, k = m + 1 := ⟨k - 1, by omega⟩
    obtain ⟨h0, h1⟩ := hor_bd p x (by omega) (l.drop (j + 1))
    obtain ⟨c0, c1⟩ := all_rd ha j (by omega)
    obtain ⟨m0, m1⟩ := small_two (b := (x : Int)) h0 h1 (by omega) (by omega) (by omega)
    simp only [impl_valueAt.l0]
    have e1 : ((j + 1 : Nat) : Int) - 1 = (j : Int) := by omega
    rw [e1, if_pos (by omega), if_pos (by omega), if_pos (by omega), if_neg (by omega), Int.tmod_eq_emod_of_nonneg c0, Int.emod_eq_of_lt c0 (by omega), w64 (n := _ * (x : Int)) (by omega) (by omega), w64 (n := _ * (x : Int) + _) (by omega) (by omega), around_val _ _ (by omega) (by omega) (by omega)]
    simp only [Option.bind_some]
    rw [w64 (n := (j : Int) - 1) (by omega) (by omega)]
    have h2 := ih k (by omega) (by omega)
    rw [rd_drop l j (by omega), hor_cons] at h2
    exact h2
theorem valueAt_val (p x : Nat) (hp : 2 ≤ p) (hp2 : p ≤ 61) (hx : x < p) (l : List Int) (hl : l.length ≤ 1000) (ha : l.all (inAll p) = true) (k : Nat) (hk : 1001 < k) :
    impl_valueAt.f k l x p = some (hor p x l) := by
  unfold impl_valueAt.f
  rw [w64 (by omega) (by omega)]
  have h := valueAt_loop p x hp hp2 hx l hl ha l.length k (Nat.le_refl _) (by omega)
  rw [List.drop_length] at h
  exact h
def abT (p e : Nat) (l : List Int) (x : Nat) : Int := vals p 1 e 0 (hor p x l).toNat
theorem abT_bd (p e : Nat) (hp : 1 ≤ p) (l : List Int) (x : Nat) : 0 ≤ abT p e l x ∧ abT p e l x ≤ p := by
  have h := hor_bd p x hp l
  exact vals_bd p 1 e 0 _ (by omega)
theorem abS_bd (p e : Nat) (hp : 1 ≤ p) (l : List Int) (n : Nat) : 0 ≤ sumTo n (abT p e l) ∧ sumTo n (abT p e l) ≤ n * p := by
  refine ⟨sumTo_nonneg fun j _ => (abT_bd p e hp l j).1, ?_⟩
  have h := sumTo_le (n := n) (f := abT p e l) (g := fun _ => (p : Int)) (fun j _ => (abT_bd p e hp l j).2)
  rw [sumTo_const] at h
  exact h
theorem aboveTo_val (p e : Nat) (hp : 2 ≤ p) (hp2 : p ≤ 61) (l : List Int) (hl : l.length ≤ 1000) (ha : l.all (inAll p) = true) (k : Nat) (hk : 1001 < k) : ∀ n, n ≤ p →
    aboveTo k (tab p (vals p 1 e 0)) l p n = some (sumTo n (abT p e l))
  | 0, _ => rfl
  | n + 1, hn => by
    have h0 := aboveTo_val p e hp hp2 l hl ha k hk n (by omega)
    have hb := abS_bd p e (by omega) l n
    have hn2 : (n : Int) * p ≤ 61 * 61 := Int.mul_le_mul (by omega) (by omega) (by omega) (by omega)
    have ht := abT_bd p e (by omega) l n
    have hh := hor_bd p n (by omega) l
    simp only [aboveTo]
    rw [h0]
    simp only [Option.bind_some]
    rw [valueAt_val p n hp hp2 (by omega) l hl ha k hk]
    simp only [Option.bind_some]
    have hr : rd (tab p (vals p 1 e 0)) (hor p n l) = abT p e l n := tab_rdI p _ _ hh.1 hh.2
    rw [hr, tab_length, if_pos ⟨hh.1, hh.2, hb.1, by omega, ht.1, by omega⟩]
    rfl
def okL (p : Int) (l : List Int) : Bool := decide (1 ≤ l.length ∧ l.length ≤ 8) && l.all (inAll p)
def dueAb (p e : Int) (l : List Int) : Int × Int := if (isPr p && (okE e && okL p l)) = true then (sumTo p.toNat (abT p.toNat e.toNat l), 0) else (0, 2)
theorem iAb {p e : Int} {l : List Int} (h0 : 2 ≤ p) (h1 : p ≤ 67) (hl : l.length ≤ 1000) : Ev (fun k => impl_PointsAbove.f k p e l) (dueAb p e l) := by
  unfold impl_PointsAbove.f dueAb
  refine Ev.bind ⟨101, fun k hk => isPrime_val p h0 h1 k (by omega)⟩ ?_
  cases c1 : isPr p
  · exact Ev.now _
  have hp := isPr_bd c1
  simp only [if_true, Bool.true_and]
  by_cases c2 : okE e = true
  · have he : 1 ≤ e ∧ e ≤ 60 := by simpa [okE] using c2
    by_cases c3 : 1 ≤ l.length ∧ l.length ≤ 8
    · simp only [if_pos (show 1 ≤ e ∧ e ≤ 60 ∧ 1 ≤ l.length ∧ l.length ≤ 8 from ⟨he.1, he.2, c3.1, c3.2⟩), if_pos (show 2 ≤ p ∧ p ≤ 1000 by omega), c2, okL, decide_eq_true c3, Bool.true_and]
      by_cases c4 : l.all (inAll p) = true
      · simp only [if_pos c4]
        obtain ⟨q, rfl⟩ := Int.eq_ofNat_of_zero_le (show 0 ≤ p by omega)
        obtain ⟨m, rfl⟩ := Int.eq_ofNat_of_zero_le (show 0 ≤ e by omega)
        have hv : Ev (fun k => impl_valueCounts.f k q 1 m 0) (tab q (vals q 1 m 0)) := ⟨3001, fun k hk => valueCounts_val k q m 0 1 (by omega) (by omega) (by omega) (by omega) (by omega) (by omega) (by omega)⟩
        refine Ev.bind hv ?_
        refine Ev.bind (a := sumTo q (abT q m l)) ⟨1002, fun k hk => ?_⟩ (Ev.now _)
        exact aboveTo_val q m (by omega) (by omega) l hl c4 k (by omega) q (Nat.le_refl _)
      · simp only [if_neg c4]
        exact Ev.now _
    · simp only [if_neg (show ¬ (1 ≤ e ∧ e ≤ 60 ∧ 1 ≤ l.length ∧ l.length ≤ 8) by omega), if_pos (show l.length ≤ 1000000 by omega), okL, decide_eq_false c3, Bool.false_and, Bool.and_false]
      exact Ev.now _
  · have he : ¬ (1 ≤ e ∧ e ≤ 60) := by simpa [okE] using c2
    simp only [if_neg (show ¬ (1 ≤ e ∧ e ≤ 60 ∧ 1 ≤ l.length ∧ l.length ≤ 8) by omega), if_pos (show l.length ≤ 1000000 by omega), c2, Bool.false_and]
    exact Ev.now _
/-! The reference. -/
theorem sa_l2 (p x : Nat) (hp : 2 ≤ p) (hp2 : p ≤ 61) (hx : x < p) (e : Nat) (l : List Int) (hl : l.length ≤ 1000) (ha : l.all (inAll p) = true) (s : Int) (hs0 : 0 ≤ s) (hs1 : s ≤ 100000) (r : Int × Int)
    (hn : Ev (fun k => spec_PointsAbove.l1 k p l (tab p (vals p 1 e 0)) (s + abT p e l x) ((x : Int) + 1)) r) : ∀ j, j ≤ l.length →
    Ev (fun k => spec_PointsAbove.l2 k p l (tab p (vals p 1 e 0)) s x (hor p x (l.drop j)) ((j : Int) - 1)) r := by
  intro j
  induction j with
  | zero =>
    intro hj
    have ht := abT_bd p e (by omega) l x
    have hh := hor_bd p x (by omega) l
    have hr : rd (tab p (vals p 1 e 0)) (hor p x l) = abT p e l x := tab_rdI p _ _ hh.1 hh.2
    refine Ev.step (fun k => ?_) hn
    simp only [spec_PointsAbove.l2]
    rw [if_neg (by omega), List.drop_zero, if_pos hh.1, if_pos (by rw [tab_length]; exact hh.2), hr, w64 (n := s + _) (by omega) (by omega), w64 (n := (x : Int) + 1) (by omega) (by omega)]
  | succ j ih =>
    intro hj
    obtain ⟨h0, h1⟩ := hor_bd p x (by omega) (l.drop (j + 1))
    obtain ⟨c0, c1⟩ := all_rd ha j (by omega)
    obtain ⟨m0, m1⟩ := small_two (b := (x : Int)) h0 h1 (by omega) (by omega) (by omega)
    have h2 := ih (by omega)
    rw [rd_drop l j (by omega), hor_cons] at h2
    refine Ev.step (fun k => ?_) h2
    simp only [spec_PointsAbove.l2]
    have e1 : ((j + 1 : Nat) : Int) - 1 = (j : Int) := by omega
    rw [e1, if_pos (by omega), if_pos (by omega), if_pos (by omega), if_neg (by omega), w64 (n := _ * (x : Int)) (by omega) (by omega), w64 (n := _ * (x : Int) + _) (by omega) (by omega), Int.tmod_eq_emod_of_nonneg (by omega), w64 (n := (j : Int) - 1) (by omega) (by omega)]
theorem sa_l1 (p : Nat) (hp : 2 ≤ p) (hp2 : p ≤ 61) (e : Nat) (l : List Int) (hl : l.length ≤ 1000) (ha : l.all (inAll p) = true) : ∀ (d x : Nat), x + d = p →
    Ev (fun k => spec_PointsAbove.l1 k p l (tab p (vals p 1 e 0)) (sumTo x (abT p e l)) x) (sumTo p (abT p e l), 0) := by
  intro d
  induction d with
  | zero =>
    intro x hx
    obtain rfl : x = p := by omega
    refine Ev.step (fun k => ?_) (Ev.now _)
    simp only [spec_PointsAbove.l1]
    rw [if_neg (by omega)]
  | succ d ih =>
    intro x hx
    have h := ih (x + 1) (by omega)
    have hb := abS_bd p e (by omega) l x
    have hn2 : (x : Int) * p ≤ 61 * 61 := Int.mul_le_mul (by omega) (by omega) (by omega) (by omega)
    simp only [sumTo] at h
    rw [show (((x + 1 : Nat)) : Int) = (x : Int) + 1 by omega] at h
    have h2 := sa_l2 p x hp hp2 (by omega) e l hl ha _ hb.1 (by omega) _ h l.length (Nat.le_refl _)
    rw [List.drop_length] at h2
    refine Ev.step (fun k => ?_) h2
    simp only [spec_PointsAbove.l1]
    rw [if_pos (by omega), w64 (by omega) (by omega)]
    rfl
theorem sa_bad (p e : Int) (l : List Int) (i : Int) : Ev (fun k => spec_PointsAbove.l0 k p e l 2 i) (0, 2) := by
  by_cases h : i < (l.length : Int)
  · refine Ev.step (g := fun k => spec_PointsAbove.l0 k p e l 2 i) (f := fun k => spec_PointsAbove.j3 k p e l 2 i false) (fun k => ?_) ?_
    · simp only [spec_PointsAbove.l0]
      rw [if_pos h]
      rfl
    · refine Ev.step (fun k => ?_) (Ev.now _)
      simp only [spec_PointsAbove.j3]
      rw [if_neg (by simp), if_neg (by omega)]
  · refine Ev.step (g := fun k => spec_PointsAbove.l0 k p e l 2 i) (f := fun k => spec_PointsAbove.j3 k p e l 2 i false) (fun k => ?_) ?_
    · simp only [spec_PointsAbove.l0]
      rw [if_neg h]
    · refine Ev.step (fun k => ?_) (Ev.now _)
      simp only [spec_PointsAbove.j3]
      rw [if_neg (by simp), if_neg (by omega)]
theorem sa_l0 (p e : Nat) (hp : 2 ≤ p) (hp2 : p ≤ 61) (he : e ≤ 60) (l : List Int) (hl : l.length ≤ 1000) : ∀ (d i : Nat), i + d = l.length → (l.take i).all (inAll p) = true →
    Ev (fun k => spec_PointsAbove.l0 k p e l 0 i) (if l.all (inAll p) = true then (sumTo p (abT p e l), 0) else (0, 2)) := by
  intro d
  induction d with
  | zero =>
    intro i hi ha
    obtain rfl : i = l.length := by omega
    rw [List.take_length] at ha
    rw [if_pos ha]
    refine Ev.step (g := fun k => spec_PointsAbove.l0 k p e l 0 l.length) (f := fun k => spec_PointsAbove.j3 k p e l 0 l.length false) (fun k => ?_) ?_
    · simp only [spec_PointsAbove.l0]
      rw [if_neg (by omega)]
    · refine Ev.step (g := fun k => spec_PointsAbove.j3 k p e l 0 l.length false) (f := fun k => (spec_l08Values.f k p 1 e).bind fun t => spec_PointsAbove.l1 k p l t 0 0) (fun k => ?_) ?_
      · simp only [spec_PointsAbove.j3]
        rw [if_neg (by simp), if_pos trivial]
      · refine Ev.bind (a := tab p (vals p 1 e 0)) ⟨3001, fun k hk => l08Values_val k p e 1 (by omega) (by omega) (by omega) (by omega) (by omega) (by omega)⟩ ?_
        exact sa_l1 p hp hp2 e l hl ha p 0 (by omega)
  | succ d ih =>
    intro i hi ha
    refine Ev.step (g := fun k => spec_PointsAbove.l0 k p e l 0 i) (f := fun k => spec_PointsAbove.j3 k p e l 0 i true) (fun k => ?_) ?_
    · simp only [spec_PointsAbove.l0]
      rw [if_pos (by omega)]
      rfl
    · have hin : spec_l01In.f (rd l (i : Int)) 0 (wrap64 ((p : Int) - 1)) = some (inAll p (rd l (i : Int))) := by
        rw [w64 (by omega) (by omega), in_val]
        congr 1
        unfold inAll
        by_cases h1 : 0 ≤ rd l (i : Int) <;> simp [h1]
      have htk : l.take (i + 1) = l.take i ++ [rd l (i : Int)] := by
        rw [List.take_succ_eq_append_getElem (by omega)]
        simp [rd, show i < l.length by omega]
      by_cases c : inAll p (rd l (i : Int)) = true
      · have h := ih (i + 1) (by omega) (by rw [htk, List.all_append, ha]; simp [c])
        rw [show (((i + 1 : Nat)) : Int) = (i : Int) + 1 by omega] at h
        refine Ev.step (fun k => ?_) h
        simp only [spec_PointsAbove.j3]
        rw [if_pos trivial, if_pos (by omega), if_pos (by omega), hin]
        simp only [Option.bind_some, c, if_true]
        rw [w64 (by omega) (by omega)]
      · have hn : ¬ l.all (inAll p) = true := by
          intro h
          apply c
          have e : rd l (i : Int) = l[i]'(by omega) := by simp [rd, show i < l.length by omega]
          rw [e]
          exact List.all_eq_true.1 h _ (List.getElem_mem _)
        rw [if_neg hn]
        refine Ev.step (fun k => ?_) (sa_bad p e l ((i : Int) + 1))
        simp only [spec_PointsAbove.j3]
        rw [if_pos trivial, if_pos (by omega), if_pos (by omega), hin]
        simp only [Option.bind_some, c]
        rw [w64 (by omega) (by omega)]
        rfl
theorem sa_j0 (p e : Int) (l : List Int) (x : Int) (b : Bool) (r : Int × Int) (h : Ev (fun k => spec_PointsAbove.l0 k p e l (if b = true then 2 else x) 0) r) : Ev (fun k => spec_PointsAbove.j0 k p e l x b) r := by
  refine Ev.step (g := fun k => spec_PointsAbove.j0 k p e l x b) (f := fun k => spec_PointsAbove.j1 k p e l (if b = true then 2 else x)) (fun k => ?_) ?_
  · simp only [spec_PointsAbove.j0]
    cases b <;> rfl
  · exact Ev.step (fun k => by simp only [spec_PointsAbove.j1]) h
theorem sAb {p e : Int} {l : List Int} (h0 : 2 ≤ p) (h1 : p ≤ 67) (hl : l.length ≤ 1000) : Ev (fun k => spec_PointsAbove.f k p e l) (dueAb p e l) := by
  unfold spec_PointsAbove.f dueAb
  refine Ev.bind ⟨2001, fun k hk => l08Code_val k p [e] h0 h1 (by simp) (by omega)⟩ ?_
  simp only [List.all_cons, List.all_nil, Bool.and_true]
  by_cases c : (isPr p && okE e) = true
  · have c' := c
    simp only [Bool.and_eq_true] at c'
    have hp := isPr_bd c'.1
    have he : 1 ≤ e ∧ e ≤ 60 := by simpa [okE] using c'.2
    simp only [if_pos c, if_true, c'.1, c'.2, Bool.true_and, okL]
    obtain ⟨q, rfl⟩ := Int.eq_ofNat_of_zero_le (show 0 ≤ p by omega)
    obtain ⟨m, rfl⟩ := Int.eq_ofNat_of_zero_le (show 0 ≤ e by omega)
    by_cases c3 : 1 ≤ l.length ∧ l.length ≤ 8
    · simp only [if_neg (show ¬ (l.length : Int) < 1 by omega), decide_eq_false (show ¬ (l.length : Int) > 8 by omega), decide_eq_true c3, Bool.true_and]
      exact sa_j0 _ _ _ _ _ _ (sa_l0 q m (by omega) (by omega) (by omega) l hl l.length 0 (by omega) (by simp))
    · simp only [decide_eq_false c3, Bool.false_and]
      by_cases c4 : (l.length : Int) < 1
      · simp only [if_pos c4]
        exact sa_j0 _ _ _ _ _ _ (sa_bad _ _ _ _)
      · simp only [if_neg c4, decide_eq_true (show (l.length : Int) > 8 by omega)]
        exact sa_j0 _ _ _ _ _ _ (sa_bad _ _ _ _)
  · have hn : ¬ (isPr p && (okE e && okL p l)) = true := by
      intro h
      apply c
      simp only [Bool.and_eq_true] at h ⊢
      exact ⟨h.1, h.2.1⟩
    simp only [if_neg c, if_neg hn, if_neg (show ¬ (2 : Int) = 0 by omega)]
    exact sa_j0 _ _ _ _ _ _ (sa_bad _ _ _ _)
theorem dueAb_bd {p e : Int} {l : List Int} (h0 : 2 ≤ p) (h1 : p ≤ 67) (h : (dueAb p e l).2 = 0) : 0 ≤ (dueAb p e l).1 ∧ (dueAb p e l).1 ≤ p * p := by
  unfold dueAb at h ⊢
  by_cases c : (isPr p && (okE e && okL p l)) = true
  · rw [if_pos c]
    have hb := abS_bd p.toNat e.toNat (by omega) l p.toNat
    rw [show ((p.toNat : Nat) : Int) = p by omega] at hb
    exact hb
  · rw [if_neg c] at h
    cases h
/-! The draw. -/
theorem drab_loop {c : List Int} (hc : Code c) (p : Int) (h0 : 2 ≤ p) (h1 : p ≤ 67) : ∀ (n : Nat) (f : List Int) (a h : Int), Src c a h → n + f.length ≤ 8 → 1 ≤ n + f.length →
    ∃ e l, Ev (fun k => spec_DrawPointsAbove.l0 k p f n c a h) (p, e, l) ∧ l.length ≤ 8 := by
  intro n
  induction n with
  | zero =>
    intro f a h s hn hn1
    obtain ⟨v, a1, h1', e1, s1, v0, v1, _⟩ := next_src hc s 24 (by omega)
    obtain ⟨u, a2, h2, e2, s2, _⟩ := pick_src hc s1 [1, 2, 2, 3, 4, 0] (by simp) (by simp)
    by_cases c1 : v = 0
    · refine ⟨u, [], Ev.step (fun k => ?_) (Ev.now _), by simp⟩
      simp only [spec_DrawPointsAbove.l0]
      rw [if_neg (by omega), e1]
      simp only [Option.bind_some, if_pos c1]
      rw [e2]
      rfl
    · by_cases c2 : v = 1
      · refine ⟨u, f.set (0 : Int).toNat p, Ev.step (fun k => ?_) (Ev.now _), by rw [List.length_set]; omega⟩
        simp only [spec_DrawPointsAbove.l0]
        rw [if_neg (by omega), e1]
        simp only [Option.bind_some, if_neg c1, if_pos c2, if_pos (show 0 < (f.length : Int) by omega)]
        rw [e2]
        rfl
      · refine ⟨u, f, Ev.step (fun k => ?_) (Ev.now _), by omega⟩
        simp only [spec_DrawPointsAbove.l0]
        rw [if_neg (by omega), e1]
        simp only [Option.bind_some, if_neg c1, if_neg c2]
        rw [e2]
        rfl
  | succ n ih =>
    intro f a h s hn hn1
    obtain ⟨v, a1, h1', e1, s1, v0, v1, _⟩ := next_src hc s p (by omega)
    obtain ⟨e, l, hE, hl⟩ := ih (f ++ [v]) a1 h1' s1 (by rw [List.length_append]; simp; omega) (by rw [List.length_append]; simp; omega)
    refine ⟨e, l, Ev.step (fun k => ?_) hE, hl⟩
    simp only [spec_DrawPointsAbove.l0]
    rw [if_pos (by omega), e1]
    simp only [Option.bind_some]
    rw [if_pos (by omega), w64 (by omega) (by omega), show (((n + 1 : Nat)) : Int) - 1 = (n : Int) by omega]
theorem drawn_above {c : List Int} (hc : Code c) : ∃ p e l, Ev (fun k => spec_DrawPointsAbove.f k c) (p, e, l) ∧ 2 ≤ p ∧ p ≤ 67 ∧ l.length ≤ 8 := by
  obtain ⟨h0, e0, s0⟩ := from_src hc
  obtain ⟨p, a1, h1, e1, s1, p0, p1⟩ := prime_src hc s0
  obtain ⟨v, a2, h2, e2, s2, v0, v1, _⟩ := next_src hc s1 5 (by omega)
  obtain ⟨u, a3, h3, e3, s3, u0, u1, _⟩ := next_src hc s2 24 (by omega)
  have hv := v1 (by omega)
  have hu := u1 (by omega)
  have ht : Int.tdiv u 23 = u / 23 := Int.tdiv_eq_ediv_of_nonneg u0
  have hq : 0 ≤ u / 23 ∧ u / 23 ≤ 1 := by omega
  obtain ⟨e, l, hE, hl⟩ := drab_loop hc p p0 p1 (1 + v + u / 23 * 3).toNat [] a3 h3 s3 (by simp; omega) (by simp; omega)
  refine ⟨p, e, l, ?_, p0, p1, hl⟩
  refine Ev.congr (fun k => ?_) hE
  unfold spec_DrawPointsAbove.f
  rw [e0]
  simp only [Option.bind_some]
  rw [e1]
  simp only [Option.bind_some]
  rw [e2]
  simp only [Option.bind_some]
  rw [e3]
  simp only [Option.bind_some]
  rw [ht, w64 (n := 1 + v) (by omega) (by omega), w64 (n := u / 23) (by omega) (by omega), w64 (n := u / 23 * 3) (by omega) (by omega), w64 (by omega) (by omega), show (((1 + v + u / 23 * 3).toNat : Nat) : Int) = 1 + v + u / 23 * 3 by omega]
end Go.Proofs.Ytphlgajlebgnbaa.Q
/-! Sums of so many powers: which residues they reach. -/
namespace Go.Proofs.Ytphlgajlebgnbaa.Q
open Go.RowKit Go.Proofs.Ytphlgajlebgnbaa.P Go.Proofs.YtphlgajlebgnbaaW.PrintWords Go.Proofs.YtphlgajlebgnbaaW.PrintLast
def inR (p e y : Nat) : Bool := decide (0 < vals p 1 e 0 y)
def reach (p e : Nat) : Nat → Nat → Bool
  | 0, c => c == 0
  | s + 1, c => (List.range p).any fun x => reach p e s x && (List.range p).any fun y => inR p e y && (x + y) % p == c
theorem reach_succ (p e s c : Nat) : reach p e (s + 1) c = true ↔ ∃ x, x < p ∧ reach p e s x = true ∧ ∃ y, y < p ∧ inR p e y = true ∧ (x + y) % p = c := by
  simp only [reach, List.any_eq_true, List.mem_range, Bool.and_eq_true, beq_iff_eq]
theorem inR_mem (p e y : Nat) (hp : 0 < p) (hy : y < p) : inR p e y = true ↔ (y : Int) ∈ resid p e := by
  unfold inR resid
  simp only [List.mem_map, List.mem_filter, List.mem_range, decide_eq_true_eq]
  constructor
  · intro h
    exact ⟨y, ⟨hy, h⟩, rfl⟩
  · rintro ⟨c, ⟨_, h⟩, e⟩
    obtain rfl : c = y := by omega
    exact h
theorem inR_zero (p e : Nat) (hp : 3 ≤ p) (he : 1 ≤ e) : inR p e 0 = true := by
  obtain ⟨t, ht⟩ := resid_two p e hp he
  rw [inR_mem p e 0 (by omega) (by omega), ht]
  simp
theorem inR_one (p e : Nat) (hp : 3 ≤ p) (he : 1 ≤ e) : inR p e 1 = true := by
  obtain ⟨t, ht⟩ := resid_two p e hp he
  rw [inR_mem p e 1 (by omega) (by omega), ht]
  simp
theorem reach_mono (p e s c : Nat) (hp : 3 ≤ p) (he : 1 ≤ e) (hc : c < p) (h : reach p e s c = true) : reach p e (s + 1) c = true := by
  rw [reach_succ]
  exact ⟨c, hc, h, 0, by omega, inR_zero p e hp he, by rw [Nat.add_zero, Nat.mod_eq_of_lt hc]⟩
theorem reach_low (p e : Nat) (hp : 3 ≤ p) (he : 1 ≤ e) : ∀ s c, c ≤ s → c < p → reach p e s c = true
  | 0, c, h, _ => by obtain rfl : c = 0 := by omega
                     rfl
  | s + 1, c, h, hc => by
    by_cases e1 : c ≤ s
    · exact reach_mono p e s c hp he hc (reach_low p e hp he s c e1 hc)
    · rw [reach_succ]
      exact ⟨c - 1, by omega, reach_low p e hp he s (c - 1) (by omega) (by omega), 1, by omega, inR_one p e hp he, by rw [Nat.mod_eq_of_lt (by omega)]; omega⟩
def allR (p e s : Nat) : Bool := (List.range p).all fun c => reach p e s c
theorem allR_iff (p e s : Nat) : allR p e s = true ↔ ∀ c, c < p → reach p e s c = true := by
  simp only [allR, List.all_eq_true, List.mem_range]
theorem allR_top (p e s : Nat) (hp : 3 ≤ p) (he : 1 ≤ e) (hs : p - 1 ≤ s) : allR p e s = true := by
  rw [allR_iff]
  exact fun c hc => reach_low p e hp he s c (by omega) hc
/-- The least number of powers, from s on, whose sums reach all; it looks at d numbers. -/
def leastS (p e : Nat) : Nat → Nat → Nat
  | 0, s => s
  | d + 1, s => if allR p e s then s else leastS p e d (s + 1)
theorem leastS_all (p e : Nat) (hp : 3 ≤ p) (he : 1 ≤ e) : ∀ d s, s + d = p - 1 → allR p e (leastS p e d s) = true
  | 0, s, h => allR_top p e s hp he (by omega)
  | d + 1, s, h => by
    simp only [leastS]
    split
    · assumption
    · exact leastS_all p e hp he d (s + 1) (by omega)
theorem leastS_ge (p e : Nat) : ∀ d s, s ≤ leastS p e d s
  | 0, s => Nat.le_refl _
  | d + 1, s => by
    simp only [leastS]
    split
    · omega
    · have := leastS_ge p e d (s + 1); omega
theorem stages_rep (p : Nat) (x : Int × Int) (f : Nat → Int) (s : Nat) : stages p 0 (List.replicate (s + 1) x) f = stage p 0 (stages p 0 (List.replicate s x) f) x := by
  unfold stages
  rw [List.replicate_succ', List.foldl_append]
  rfl
theorem reach_pos (p e : Nat) (hp : 3 ≤ p) : ∀ s c, c < p → reach p e s c = true → 1 ≤ stages p 0 (List.replicate s (1, (e : Int))) delta0 c
  | 0, c, hc, h => by
    simp only [reach, beq_iff_eq] at h
    subst h
    simp [stages, delta0]
  | s + 1, c, hc, h => by
    rw [reach_succ] at h
    obtain ⟨x, hx, h1, y, hy, h2, h3⟩ := h
    have hx1 := reach_pos p e hp s x hx h1
    rw [stages_rep]
    have hb : x = back p c y := (back_iff hc hy hx).1 h3
    have hy1 : 0 < vals p 1 e 0 y := by simpa [inR] using h2
    have hnn : ∀ i, i < p → 0 ≤ vals p 1 e 0 i * stages p 0 (List.replicate s (1, (e : Int))) delta0 (back p c i) := fun i hi =>
      Int.mul_nonneg (vals_bd p 1 e 0 i hi).1 (stages_nonneg p (by omega) _ _ (fun c _ => delta_nonneg c) _ (back_lt (by omega)))
    have hge := sumTo_ge (n := p) (f := fun i => vals p 1 e 0 i * stages p 0 (List.replicate s (1, (e : Int))) delta0 (back p c i)) hnn y hy
    simp only [← hb] at hge
    have h4 : (1 : Int) * 1 ≤ vals p 1 e 0 y * stages p 0 (List.replicate s (1, (e : Int))) delta0 x := Int.mul_le_mul (by omega) hx1 (by omega) (by omega)
    show 1 ≤ sumTo p (fun i => vals p 1 e 0 i * stages p 0 (List.replicate s (1, (e : Int))) delta0 (back p c i))
    omega
end Go.Proofs.Ytphlgajlebgnbaa.Q
