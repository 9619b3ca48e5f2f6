/- This text was put together by a session out of texts that its own programs and the print tool wrote. -/
import Derived.Test.YtmjfaagifijmlaaK3
import Derived.Test.YtmjfaagifijmlaaK4
import Derived.Test.YtmjfaagifijmlaaK0
import Derived.Test.YtmjfaagifijmlaaK2
import Derived.Test.YtmjfaagifijmlaaK5
import Derived.Test.YtmjfaagifijmlaaK6
import Derived.Test.YtmjfaagifijmlaaK7
set_option linter.unusedVariables false
set_option linter.unusedSimpArgs false
/-! The plain side of the draws: each hands out a number in its range, and the source stays a source. -/
namespace Go.Proofs.Ytmjfaagifijmlaa.Q
open Go.RowKit Go.Proofs.Ytmjfaagifijmlaa.P Go.Proofs.YtmjfaagifijmlaaW.PrintWords Go.Proofs.YtmjfaagifijmlaaW.PrintLast
theorem u64_wrap (n : Int) : IntKind.u64.wrap n = n % 18446744073709551616 := by simp [IntKind.wrap, IntKind.bits, IntKind.signed]
theorem wraps_u64 (n : Int) (h0 : 0 ≤ n) (h1 : n < 2 ^ 64) : IntKind.u64.wrap n = n := by rw [u64_wrap]; omega
theorem w64 {n : Int} (h0 : -9223372036854775808 ≤ n) (h1 : n ≤ 9223372036854775807) : wrap64 n = n := by unfold wrap64; omega
theorem mask30 (x : Int) (h0 : 0 ≤ x) (h1 : x < 18446744073709551616) : bits .and .u64 x 1073741823 = x % 1073741824 := bits_mask .u64 64 (by decide) wraps_u64 30 (by decide) x h0 (by omega)
/-- A code: what draws are made of. -/
structure Code (c : List Int) : Prop where
  len : c.length ≤ 140737488351232
  byte : ∀ x ∈ c, 0 ≤ x ∧ x ≤ 255
structure Src (c : List Int) (a h : Int) : Prop where
  a0 : 0 ≤ a
  a1 : a ≤ c.length
  h0 : 0 ≤ h
  h1 : h < 18446744073709551616
theorem Code.at_ {c : List Int} (h : Code c) (i : Int) (h0 : 0 ≤ i) (h1 : i < c.length) : 0 ≤ rd c i ∧ rd c i ≤ 255 := by
  have hi : i.toNat < c.length := by omega
  have e : rd c i = c[i.toNat] := by simp [rd, hi]
  rw [e]
  exact h.byte _ (List.getElem_mem hi)
theorem from_src {c : List Int} (hc : Code c) : ∃ h, spec_l01From.f c = some (c, 0, h) ∧ Src c 0 h := by
  refine ⟨_, rfl, by omega, by omega, ?_, ?_⟩
  · unfold hashUpto
    rcases List.eq_nil_or_concat (c.take (min c.length 4096)) with e | ⟨l, x, e⟩
    · rw [e]; simp only [List.foldl_nil]; rw [u64_wrap]; omega
    · rw [e, List.concat_eq_append, List.foldl_append]; simp only [List.foldl_cons, List.foldl_nil, hashStep]; rw [u64_wrap]; omega
  · unfold hashUpto
    rcases List.eq_nil_or_concat (c.take (min c.length 4096)) with e | ⟨l, x, e⟩
    · rw [e]; simp only [List.foldl_nil]; rw [u64_wrap]; omega
    · rw [e, List.concat_eq_append, List.foldl_append]; simp only [List.foldl_cons, List.foldl_nil, hashStep]; rw [u64_wrap]; omega
theorem next_src {c : List Int} (hc : Code c) {a h : Int} (s : Src c a h) (n : Int) (hn : n ≤ 9223372036854775807) :
    ∃ v a' h', spec_l01Next.f c a h n = some (v, a', h') ∧ Src c a' h' ∧ 0 ≤ v ∧ (1 ≤ n → v < n) ∧ (n < 1 → v = 0) := by
  obtain ⟨a0, a1, h0, h1⟩ := s
  unfold spec_l01Next.f
  by_cases hn1 : n < 1
  · rw [if_pos hn1]
    exact ⟨0, a, h, rfl, ⟨a0, a1, h0, h1⟩, by omega, by omega, fun _ => rfl⟩
  · rw [if_neg hn1]
    obtain ⟨g, hg⟩ : ∃ g, g = IntKind.u64.wrap ((IntKind.u64.wrap (h * 6364136223846793005)) + 1442695040888963407) := ⟨_, rfl⟩
    rw [← hg]
    have g0 : 0 ≤ g ∧ g < 18446744073709551616 := by rw [hg, u64_wrap]; omega
    clear hg
    obtain ⟨g0, g1⟩ := g0
    have hm := mask30 (g / 2147483648) (by omega) (by omega)
    have hq : 0 ≤ g / 2147483648 % 1073741824 ∧ g / 2147483648 % 1073741824 < 1073741824 := by omega
    obtain ⟨q, hqe⟩ : ∃ q, q = g / 2147483648 % 1073741824 := ⟨_, rfl⟩
    rw [hm, ← hqe]
    rw [← hqe] at hq
    clear hm hqe
    have hz : ¬ n = 0 := by omega
    by_cases ha : a < (c.length : Int)
    · rw [if_pos ha, if_pos a0, if_neg hz]
      obtain ⟨b0, b1⟩ := hc.at_ a a0 ha
      have hl := hc.len
      rw [w64 (n := q) (by omega) (by omega), w64 (n := rd c a) (by omega) (by omega), w64 (n := q + rd c a) (by omega) (by omega), w64 (n := a + 1) (by omega) (by omega)]
      rw [Int.tmod_eq_emod_of_nonneg (by omega)]
      exact ⟨_, _, _, rfl, ⟨by omega, by omega, g0, g1⟩, Int.emod_nonneg _ hz, fun _ => Int.emod_lt_of_pos _ (by omega), by omega⟩
    · rw [if_neg ha, if_neg hz, w64 (n := q) (by omega) (by omega), Int.tmod_eq_emod_of_nonneg (by omega)]
      exact ⟨_, _, _, rfl, ⟨a0, a1, g0, g1⟩, Int.emod_nonneg _ hz, fun _ => Int.emod_lt_of_pos _ (by omega), by omega⟩
theorem pick_src {c : List Int} (hc : Code c) {a h : Int} (s : Src c a h) (l : List Int) (hl : 0 < l.length) (hl2 : l.length ≤ 1000) :
    ∃ v a' h', spec_l01Pick.f c a h l = some (v, a', h') ∧ Src c a' h' ∧ v ∈ l := by
  obtain ⟨v, a', h', e, s', v0, v1, _⟩ := next_src hc s (l.length : Int) (by omega)
  have hv := v1 (by omega)
  unfold spec_l01Pick.f
  rw [e]
  simp only [Option.bind_some]
  rw [if_pos v0, if_pos hv]
  refine ⟨_, _, _, rfl, s', ?_⟩
  have hi : v.toNat < l.length := by omega
  have e : rd l v = l[v.toNat] := by simp [rd, hi]
  rw [e]
  exact List.getElem_mem hi
theorem near_src {c : List Int} (hc : Code c) {a h : Int} (s : Src c a h) (n : Int) (h0 : 0 ≤ n) (hn : n ≤ 1000000) :
    ∃ v a' h', spec_l01Near.f c a h n = some (v, a', h') ∧ Src c a' h' ∧ -4611686018427387904 ≤ v ∧ v ≤ 1099511627776 := by
  obtain ⟨v, a', h', e, s', v0, v1, _⟩ := next_src hc s 14 (by omega)
  unfold spec_l01Near.f
  rw [e]
  simp only [Option.bind_some]
  rw [w64 (n := n + 1) (by omega) (by omega)]
  by_cases hv : v = 0
  · rw [if_pos hv]
    obtain ⟨u, a2, h2, e2, s2, hu⟩ := pick_src hc s' [(-1), n + 1, 1099511627776, (-4611686018427387904)] (by simp) (by simp)
    rw [e2]
    refine ⟨_, _, _, rfl, s2, ?_⟩
    simp at hu
    omega
  · rw [if_neg hv]
    obtain ⟨u, a2, h2, e2, s2, hu, hu2, _⟩ := next_src hc s' (n + 1) (by omega)
    rw [e2]
    exact ⟨_, _, _, rfl, s2, by omega, by have := hu2 (by omega); omega⟩
def primes : List Int := [3, 5, 7, 11, 13, 17, 19, 23, 29, 31, 37, 41, 43, 47, 53, 59, 61]
theorem prime_src {c : List Int} (hc : Code c) {a h : Int} (s : Src c a h) :
    ∃ v a' h', spec_l08Prime.f c a h = some (v, a', h') ∧ Src c a' h' ∧ 2 ≤ v ∧ v ≤ 67 := by
  unfold spec_l08Prime.f spec_l06Primes.f
  simp only [Option.bind_some]
  obtain ⟨v, a', h', e, s', v0, v1, _⟩ := next_src hc s 30 (by omega)
  rw [e]
  simp only [Option.bind_some]
  by_cases hv : v = 0
  · rw [if_pos hv]
    obtain ⟨u, a2, h2, e2, s2, hu⟩ := pick_src hc s' [2, 15, 67] (by simp) (by simp)
    rw [e2]
    refine ⟨_, _, _, rfl, s2, ?_⟩
    simp at hu
    omega
  · rw [if_neg hv]
    obtain ⟨u, a2, h2, e2, s2, hu⟩ := pick_src hc s' [6, 17] (by simp) (by simp)
    rw [e2]
    simp only [Option.bind_some]
    obtain ⟨t, a3, h3, e3, s3, t0, t1, _⟩ := next_src hc s2 u (by simp at hu; omega)
    rw [e3]
    simp only [Option.bind_some]
    have ht : t < 17 := by simp at hu; have := t1 (by omega); omega
    rw [if_pos t0, if_pos (by simpa using ht)]
    refine ⟨_, _, _, rfl, s3, ?_⟩
    have hb : ∀ i : Nat, i < 17 → 2 ≤ ([3, 5, 7, 11, 13, 17, 19, 23, 29, 31, 37, 41, 43, 47, 53, 59, 61] : List Int).getD i 0 ∧ ([3, 5, 7, 11, 13, 17, 19, 23, 29, 31, 37, 41, 43, 47, 53, 59, 61] : List Int).getD i 0 ≤ 67 := by decide
    exact hb t.toNat (by omega)
end Go.Proofs.Ytmjfaagifijmlaa.Q
/-! Plain sums over 0, .., n - 1; tables; counted sums of residues. -/
namespace Go.Proofs.Ytmjfaagifijmlaa.Q
open Go.Proofs.YtmjfaagifijmlaaW.PrintWords
def sumTo : Nat → (Nat → Int) → Int
  | 0, _ => 0
  | n + 1, f => sumTo n f + f n
theorem sumTo_congr {n : Nat} {f g : Nat → Int} (h : ∀ i, i < n → f i = g i) : sumTo n f = sumTo n g := by
  induction n with
  | zero => rfl
  | succ n ih => simp only [sumTo]; rw [ih (fun i hi => h i (by omega)), h n (by omega)]
theorem sumTo_add (n : Nat) (f g : Nat → Int) : sumTo n (fun i => f i + g i) = sumTo n f + sumTo n g := by
  induction n with
  | zero => rfl
  | succ n ih => simp only [sumTo]; rw [ih]; omega
theorem sumTo_mul (n : Nat) (a : Int) (f : Nat → Int) : sumTo n (fun i => a * f i) = a * sumTo n f := by
  induction n with
  | zero => simp [sumTo]
  | succ n ih => simp only [sumTo]; rw [ih, Int.mul_add]
theorem sumTo_mul' (n : Nat) (a : Int) (f : Nat → Int) : sumTo n (fun i => f i * a) = sumTo n f * a := by
  rw [Int.mul_comm, ← sumTo_mul]; exact sumTo_congr fun i _ => Int.mul_comm _ _
theorem sumTo_zero (n : Nat) : sumTo n (fun _ => 0) = 0 := by
  induction n with
  | zero => rfl
  | succ n ih => simp only [sumTo]; rw [ih]; rfl
theorem sumTo_const (n : Nat) (a : Int) : sumTo n (fun _ => a) = n * a := by
  induction n with
  | zero => simp [sumTo]
  | succ n ih => simp only [sumTo]; rw [ih, Int.natCast_succ, Int.add_mul, Int.one_mul]
theorem sumTo_comm (n m : Nat) (f : Nat → Nat → Int) : sumTo n (fun i => sumTo m (fun j => f i j)) = sumTo m (fun j => sumTo n (fun i => f i j)) := by
  induction n with
  | zero => simp only [sumTo]; rw [sumTo_zero]
  | succ n ih => simp only [sumTo]; rw [ih, sumTo_add]
theorem sumTo_le {n : Nat} {f g : Nat → Int} (h : ∀ i, i < n → f i ≤ g i) : sumTo n f ≤ sumTo n g := by
  induction n with
  | zero => exact Int.le_refl _
  | succ n ih => simp only [sumTo]; have := ih (fun i hi => h i (by omega)); have := h n (by omega); omega
theorem sumTo_nonneg {n : Nat} {f : Nat → Int} (h : ∀ i, i < n → 0 ≤ f i) : 0 ≤ sumTo n f := by
  have := sumTo_le (f := fun _ => 0) (g := f) h
  rwa [sumTo_zero] at this
theorem sumTo_mono {n m : Nat} {f : Nat → Int} (hnm : n ≤ m) (h : ∀ i, i < m → 0 ≤ f i) : sumTo n f ≤ sumTo m f := by
  induction m with
  | zero => obtain rfl : n = 0 := by omega
            exact Int.le_refl _
  | succ m ih =>
    rcases Nat.lt_or_ge n (m + 1) with h1 | h1
    · have := ih (by omega) (fun i hi => h i (by omega)); have := h m (by omega); simp only [sumTo]; omega
    · obtain rfl : n = m + 1 := by omega
      exact Int.le_refl _
theorem sumTo_ge {n : Nat} {f : Nat → Int} (h : ∀ i, i < n → 0 ≤ f i) (j : Nat) (hj : j < n) : f j ≤ sumTo n f := by
  have h1 := sumTo_mono (n := j + 1) (m := n) (by omega) h
  have h2 := sumTo_nonneg (n := j) (fun i hi => h i (by omega))
  simp only [sumTo] at h1
  omega
/-- A sum of which just one place is met. -/
theorem sumTo_one {n : Nat} {f : Nat → Int} (j : Nat) (h : ∀ i, i < n → i ≠ j → f i = 0) : sumTo n f = if j < n then f j else 0 := by
  induction n with
  | zero => simp [sumTo]
  | succ n ih =>
    simp only [sumTo]
    rw [ih (fun i hi hne => h i (by omega) hne)]
    by_cases h1 : n = j
    · subst h1; rw [if_neg (by omega), if_pos (by omega)]; omega
    · rw [h n (by omega) h1]
      by_cases h2 : j < n
      · rw [if_pos h2, if_pos (by omega)]; omega
      · rw [if_neg h2, if_neg (by omega)]; rfl
/-! Tables. -/
def tab (p : Nat) (F : Nat → Int) : List Int := (List.range p).map F
theorem tab_length (p : Nat) (F : Nat → Int) : (tab p F).length = p := by simp [tab]
theorem tab_congr {p : Nat} {F G : Nat → Int} (h : ∀ i, i < p → F i = G i) : tab p F = tab p G := by
  apply List.ext_getElem
  · simp [tab]
  · intro i h1 h2; simp [tab]; exact h i (by simpa [tab] using h1)
theorem tab_rd (p : Nat) (F : Nat → Int) (i : Nat) (h : i < p) : rd (tab p F) (i : Int) = F i := by simp [rd, tab, h]
theorem tab_rdI (p : Nat) (F : Nat → Int) (i : Int) (h0 : 0 ≤ i) (h : i < p) : rd (tab p F) i = F i.toNat := by
  have : i.toNat < p := by omega
  simp [rd, tab, this]
theorem tab_zero (p : Nat) : List.replicate p (0 : Int) = tab p (fun _ => 0) := by
  apply List.ext_getElem
  · simp [tab]
  · intro i h1 h2; simp [tab]
theorem tab_set (p : Nat) (F : Nat → Int) (j : Nat) (v : Int) : (tab p F).set j v = tab p (fun c => if c = j then v else F c) := by
  apply List.ext_getElem
  · simp [tab]
  · intro i h1 h2
    rw [List.getElem_set]
    simp only [tab, List.getElem_map, List.getElem_range]
    by_cases h : j = i
    · subst h; simp
    · rw [if_neg h, if_neg (fun e => h e.symm)]
theorem tab_of (l : List Int) : l = tab l.length (fun i => rd l i) := by
  apply List.ext_getElem
  · simp [tab]
  · intro i h1 h2; simp [tab, rd, h1]
/-! Convolutions of functions of residues. -/
/-- The place that makes c with v. -/
def back (p c v : Nat) : Nat := (c + p - v) % p
theorem back_lt {p c v : Nat} (hp : 0 < p) : back p c v < p := Nat.mod_lt _ hp
theorem back_iff {p c v s : Nat} (hc : c < p) (hv : v < p) (hs : s < p) : (s + v) % p = c ↔ s = back p c v := by
  unfold back
  have e1 : (s + v) % p = if s + v < p then s + v else s + v - p := by
    by_cases h : s + v < p
    · rw [if_pos h, Nat.mod_eq_of_lt h]
    · rw [if_neg h, Nat.mod_eq_sub_mod (by omega), Nat.mod_eq_of_lt (by omega)]
  have e2 : (c + p - v) % p = if c + p - v < p then c + p - v else c + p - v - p := by
    by_cases h : c + p - v < p
    · rw [if_pos h, Nat.mod_eq_of_lt h]
    · rw [if_neg h, Nat.mod_eq_sub_mod (by omega), Nat.mod_eq_of_lt (by omega)]
  rw [e1, e2]
  split <;> split <;> omega
def conv (p : Nat) (f g : Nat → Int) (c : Nat) : Int := sumTo p fun v => g v * f (back p c v)
theorem conv_inner {p c v i : Nat} (hc : c < p) (hv : v < p) (hi : i ≤ p) (h : Nat → Int) : sumTo i (fun s => if (s + v) % p = c then h s else 0) = if back p c v < i then h (back p c v) else 0 := by
  rw [sumTo_one (back p c v) (fun s hs hne => by rw [if_neg (fun e => hne ((back_iff hc hv (by omega)).mp e))])]
  by_cases hb : back p c v < i
  · rw [if_pos hb, if_pos hb, if_pos ((back_iff hc hv (back_lt (by omega))).mpr rfl)]
  · rw [if_neg hb, if_neg hb]
theorem conv_double {p c : Nat} (hc : c < p) (f g : Nat → Int) : conv p f g c = sumTo p fun v => sumTo p fun s => if (s + v) % p = c then g v * f s else 0 := by
  unfold conv
  refine sumTo_congr fun v hv => ?_
  rw [conv_inner hc hv (Nat.le_refl _) (fun s => g v * f s), if_pos (back_lt (by omega))]
theorem conv_comm {p c : Nat} (hc : c < p) (f g : Nat → Int) : conv p f g c = conv p g f c := by
  rw [conv_double hc, conv_double hc, sumTo_comm]
  refine sumTo_congr fun v hv => sumTo_congr fun s hs => ?_
  rw [Nat.add_comm v s, Int.mul_comm]
theorem conv_congr {p : Nat} {f f' g g' : Nat → Int} (hf : ∀ i, i < p → f i = f' i) (hg : ∀ i, i < p → g i = g' i) (c : Nat) : conv p f g c = conv p f' g' c := by
  unfold conv
  refine sumTo_congr fun v hv => ?_
  rw [hg v hv, hf _ (back_lt (by omega))]
/-- The total of a convolution is the product of the totals. -/
theorem conv_total (p : Nat) (f g : Nat → Int) : sumTo p (conv p f g) = sumTo p f * sumTo p g := by
  have e : sumTo p (conv p f g) = sumTo p fun c => sumTo p fun v => sumTo p fun s => if (s + v) % p = c then g v * f s else 0 := sumTo_congr fun c hc => conv_double hc f g
  rw [e, sumTo_comm]
  rw [← sumTo_mul]
  refine sumTo_congr fun v hv => ?_
  rw [sumTo_comm, ← sumTo_mul']
  refine sumTo_congr fun s hs => ?_
  rw [sumTo_one ((s + v) % p) (fun c hc hne => by rw [if_neg (fun e => hne e.symm)]), if_pos (Nat.mod_lt _ (by omega)), if_pos rfl, Int.mul_comm]
theorem conv_le {p : Nat} {f f' g g' : Nat → Int} (hf : ∀ i, i < p → 0 ≤ f i ∧ f i ≤ f' i) (hg : ∀ i, i < p → 0 ≤ g i ∧ g i ≤ g' i) (c : Nat) (hp : 0 < p) : 0 ≤ conv p f g c ∧ conv p f g c ≤ conv p f' g' c := by
  constructor
  · exact sumTo_nonneg fun v hv => Int.mul_nonneg (hg v hv).1 (hf _ (back_lt hp)).1
  · refine sumTo_le fun v hv => ?_
    have h1 := hg v hv
    have h2 := hf _ (back_lt (c := c) (v := v) hp)
    exact Int.mul_le_mul h1.2 h2.2 h2.1 (by omega)
end Go.Proofs.Ytmjfaagifijmlaa.Q
/-! The plain side of powers modulo p and of how often each value is met. -/
namespace Go.Proofs.Ytmjfaagifijmlaa.Q
open Go.RowKit Go.Proofs.Ytmjfaagifijmlaa.P Go.Proofs.YtmjfaagifijmlaaW.PrintWords Go.Proofs.YtmjfaagifijmlaaW.PrintLast
set_option linter.unusedVariables false
theorem pow_emod (a m : Int) (n : Nat) : (a % m) ^ n % m = a ^ n % m := by
  induction n with
  | zero => simp
  | succ n ih => rw [Int.pow_succ, Int.pow_succ, Int.mul_emod, ih, Int.emod_emod, ← Int.mul_emod]
theorem mul_pow_emod (c a m : Int) (n : Nat) : c * (a % m) ^ n % m = c * a ^ n % m := by
  rw [Int.mul_emod, pow_emod, ← Int.mul_emod]
theorem mod_mul (a b m : Int) : a % m * b % m = a * b % m := by rw [Int.mul_emod, Int.emod_emod, ← Int.mul_emod]
theorem sq_pow (b : Int) (n : Nat) : (b * b) ^ n = b ^ (2 * n) := by
  induction n with
  | zero => simp
  | succ n ih => rw [Int.pow_succ, ih, show 2 * (n + 1) = 2 * n + 1 + 1 by omega, Int.pow_succ, Int.pow_succ, Int.mul_assoc]
theorem small_mul {a b m : Int} (h0 : 0 ≤ a) (h1 : a < m) (h2 : 0 ≤ b) (h3 : b < m) (hm : m ≤ 100000) : 0 ≤ a * b ∧ a * b ≤ 10000000000 := by
  refine ⟨Int.mul_nonneg h0 h2, ?_⟩
  have : a * b ≤ 100000 * 100000 := Int.mul_le_mul (by omega) (by omega) h2 (by omega)
  omega
theorem power_loop (m : Int) (hm : 1 ≤ m) (hm2 : m ≤ 100000) : ∀ (e : Nat) (k : Nat) (b acc : Int), e ≤ 1000 → e < k → 0 ≤ b → b < m → 0 ≤ acc → acc < m →
    impl_power.l0 k b e m acc = some (acc * b ^ e % m) := by
  intro e
  induction e using Nat.strongRecOn with
  | _ e ih =>
    intro k b acc he hk b0 b1 a0 a1
    obtain ⟨k, rfl⟩ : ∃ j, k = j + 1 := ⟨k - 1, by omega⟩
    simp only [impl_power.l0]
    obtain ⟨s0, s1⟩ := small_mul b0 b1 b0 b1 hm2
    obtain ⟨t0, t1⟩ := small_mul a0 a1 b0 b1 hm2
    have hz : ¬ m = 0 := by omega
    by_cases hp : (e : Int) > 0
    · rw [if_pos hp]
      have hd : wrap64 (Int.tdiv (e : Int) 2) = ((e / 2 : Nat) : Int) := by
        rw [Int.tdiv_eq_ediv_of_nonneg (by omega), w64 (by omega) (by omega)]; omega
      have hq : Int.tmod (wrap64 (b * b)) m = b * b % m := by rw [w64 (by omega) (by omega), Int.tmod_eq_emod_of_nonneg s0]
      have ha : Int.tmod (wrap64 (acc * b)) m = acc * b % m := by rw [w64 (by omega) (by omega), Int.tmod_eq_emod_of_nonneg t0]
      have h2 : Int.tmod (e : Int) 2 = (e : Int) % 2 := Int.tmod_eq_emod_of_nonneg (by omega)
      rw [hd, hq, ha, h2]
      by_cases ho : (e : Int) % 2 = 1
      · rw [if_pos ho, if_neg hz, ih (e / 2) (by omega) k _ _ (by omega) (by omega) (Int.emod_nonneg _ hz) (Int.emod_lt_of_pos _ (by omega)) (Int.emod_nonneg _ hz) (Int.emod_lt_of_pos _ (by omega))]
        congr 1
        rw [mul_pow_emod, mod_mul, sq_pow, Int.mul_assoc]
        congr 2
        rw [show e = 2 * (e / 2) + 1 by omega, Int.pow_succ, Int.mul_comm]
        congr 2
        omega
      · rw [if_neg ho, if_neg hz, ih (e / 2) (by omega) k _ _ (by omega) (by omega) (Int.emod_nonneg _ hz) (Int.emod_lt_of_pos _ (by omega)) a0 a1]
        congr 1
        rw [mul_pow_emod, sq_pow]
        congr 3
        omega
    · rw [if_neg hp]
      obtain rfl : e = 0 := by omega
      simp
      exact (Int.emod_eq_of_lt a0 a1).symm
theorem power_val (k : Nat) (x : Int) (e : Nat) (m : Int) (hx : 0 ≤ x) (hx2 : x < m) (hm : 1 ≤ m) (hm2 : m ≤ 100000) (he : e ≤ 1000) (hk : 1000 < k) : impl_power.f k x e m = some (x ^ e % m) := by
  unfold impl_power.f impl_around.f
  have hz : ¬ m = 0 := by omega
  rw [if_neg hz, if_neg hz]
  simp only [Option.bind_some]
  rw [Int.tmod_eq_emod_of_nonneg hx, Int.emod_eq_of_lt hx hx2, w64 (by omega) (by omega), Int.tmod_eq_emod_of_nonneg (by omega), Int.add_emod_right, Int.emod_eq_of_lt hx hx2]
  rw [power_loop m hm hm2 e k x _ he (by omega) hx hx2 (Int.emod_nonneg _ hz) (Int.emod_lt_of_pos _ (by omega)), mod_mul, Int.one_mul]
theorem l08Power_loop (p x : Int) (hp : 1 ≤ p) (hp2 : p ≤ 100000) (hx : 0 ≤ x) (hx2 : x < p) : ∀ (e : Nat) (k : Nat) (acc : Int), e ≤ 1000 → e < k → 0 ≤ acc → acc < p →
    spec_l08Power.l0 k p x e acc = some (acc * x ^ e % p) := by
  intro e
  induction e with
  | zero =>
    intro k acc he hk a0 a1
    obtain ⟨k, rfl⟩ : ∃ j, k = j + 1 := ⟨k - 1, by omega⟩
    simp only [spec_l08Power.l0]
    rw [if_neg (by omega)]
    simp
    exact (Int.emod_eq_of_lt a0 a1).symm
  | succ e ih =>
    intro k acc he hk a0 a1
    obtain ⟨k, rfl⟩ : ∃ j, k = j + 1 := ⟨k - 1, by omega⟩
    simp only [spec_l08Power.l0]
    obtain ⟨t0, t1⟩ := small_mul a0 a1 hx hx2 hp2
    have hz : ¬ p = 0 := by omega
    rw [if_pos (by omega), if_neg hz, w64 (n := acc * x) (by omega) (by omega), Int.tmod_eq_emod_of_nonneg t0, show wrap64 (((e + 1 : Nat) : Int) - 1) = (e : Int) by rw [w64 (by omega) (by omega)]; omega,
      ih k _ (by omega) (by omega) (Int.emod_nonneg _ hz) (Int.emod_lt_of_pos _ (by omega)), mod_mul, Int.pow_succ, Int.mul_assoc, Int.mul_comm x]
theorem l08Power_val (k : Nat) (p x : Int) (e : Nat) (hp : 2 ≤ p) (hp2 : p ≤ 100000) (hx : 0 ≤ x) (hx2 : x < p) (he : e ≤ 1000) (hk : 1000 < k) : spec_l08Power.f k p x e = some (x ^ e % p) := by
  unfold spec_l08Power.f
  rw [l08Power_loop p x (by omega) hp2 hx hx2 e k 1 he (by omega) (by omega) (by omega), Int.one_mul]
/-- The powers of 0, .., p - 1. -/
def powL (p e : Nat) : List Int := tab p fun x => (x : Int) ^ e % (p : Int)
theorem powL_length (p e : Nat) : (powL p e).length = p := tab_length _ _
theorem powL_mem (p e : Nat) (hp : 0 < p) : ∀ x ∈ powL p e, 0 ≤ x ∧ x < p := by
  intro x hx
  simp only [powL, tab, List.mem_map] at hx
  obtain ⟨i, _, rfl⟩ := hx
  exact ⟨Int.emod_nonneg _ (by omega), Int.emod_lt_of_pos _ (by omega)⟩
theorem powersOf_loop (p e : Nat) (hp : 1 ≤ p) (hp2 : p ≤ 1000) (he : e ≤ 1000) : ∀ (d i : Nat) (k : Nat), i + d = p → d + 1001 < k →
    impl_powersOf.l0 k p e ((powL p e).take i) p i = some (powL p e) := by
  intro d
  induction d with
  | zero =>
    intro i k hi hk
    obtain ⟨k, rfl⟩ : ∃ j, k = j + 1 := ⟨k - 1, by omega⟩
    simp only [impl_powersOf.l0]
    rw [if_neg (by omega), List.take_of_length_le (by rw [powL_length]; omega)]
  | succ d ih =>
    intro i k hi hk
    obtain ⟨k, rfl⟩ : ∃ j, k = j + 1 := ⟨k - 1, by omega⟩
    simp only [impl_powersOf.l0]
    rw [if_pos (by omega), power_val k i e p (by omega) (by omega) (by omega) (by omega) he (by omega)]
    simp only [Option.bind_some]
    rw [if_pos (by rw [List.length_take, powL_length]; omega), w64 (by omega) (by omega)]
    have h := ih (i + 1) k (by omega) (by omega)
    rw [List.take_succ_eq_append_getElem (by rw [powL_length]; omega)] at h
    simpa [powL, tab] using h
theorem powersOf_val (k p e : Nat) (hp : 1 ≤ p) (hp2 : p ≤ 1000) (he : e ≤ 1000) (hk : 3000 < k) : impl_powersOf.f k p e = some (powL p e) := by
  have h := powersOf_loop p e hp hp2 he p 0 k (by omega) (by omega)
  simpa [impl_powersOf.f] using h
/-- How often a x^e is each residue, of x from 'from' on. -/
def vals (p : Nat) (a : Int) (e fr : Nat) : Nat → Int := fun c => rd (vcount p a ((powL p e).drop fr)) c
theorem vals_tab (p : Nat) (a : Int) (e fr : Nat) : vcount p a ((powL p e).drop fr) = tab p (vals p a e fr) := by
  have h := tab_of (vcount p a ((powL p e).drop fr))
  rw [vcount_length] at h
  exact h
theorem vals_count (p : Nat) (a : Int) (e fr c : Nat) (hc : c < p) : vals p a e fr c = (((powL p e).drop fr).countP fun x => a * x % (p : Int) == (c : Int) : Nat) := by
  unfold vals
  rw [vcount_rd p a _ _ (by omega) (by omega)]
theorem vals_bd (p : Nat) (a : Int) (e fr c : Nat) (hc : c < p) : 0 ≤ vals p a e fr c ∧ vals p a e fr c ≤ p := by
  rw [vals_count p a e fr c hc]
  have := List.countP_le_length (p := fun x => a * x % (p : Int) == (c : Int)) (l := (powL p e).drop fr)
  rw [List.length_drop, powL_length] at this
  omega
theorem valueCounts_val (k p e fr : Nat) (a : Int) (hp : 1 ≤ p) (hp2 : p ≤ 1000) (ha : 0 ≤ a) (ha2 : a ≤ 1000) (he : e ≤ 1000) (hf : fr ≤ p) (hk : 3000 < k) : impl_valueCounts.f k p a e fr = some (tab p (vals p a e fr)) := by
  unfold impl_valueCounts.f
  rw [powersOf_val k p e hp hp2 he hk]
  simp only [Option.bind_some]
  rw [if_pos ⟨by omega, by omega, ha, ha2, by omega, by rw [powL_length]; omega, by rw [powL_length]; omega, fun x hx => by have := powL_mem p e (by omega) x hx; omega⟩]
  rw [← vals_tab]
  simp
theorem l08Values_loop (p e : Nat) (a : Int) (hp : 2 ≤ p) (hp2 : p ≤ 1000) (ha : 0 ≤ a) (ha2 : a < p) (he : e ≤ 1000) : ∀ (d i : Nat) (k : Nat), i + d = p → d + 1001 < k →
    spec_l08Values.l0 k p a e (vcount p a ((powL p e).take i)) i = some (vcount p a (powL p e)) := by
  intro d
  induction d with
  | zero =>
    intro i k hi hk
    obtain ⟨k, rfl⟩ : ∃ j, k = j + 1 := ⟨k - 1, by omega⟩
    simp only [spec_l08Values.l0]
    rw [if_neg (by omega), List.take_of_length_le (by rw [powL_length]; omega)]
  | succ d ih =>
    intro i k hi hk
    obtain ⟨k, rfl⟩ : ∃ j, k = j + 1 := ⟨k - 1, by omega⟩
    simp only [spec_l08Values.l0]
    have hz : ¬ (p : Int) = 0 := by omega
    rw [if_pos (by omega), l08Power_val k p i e (by omega) (by omega) (by omega) (by omega) he (by omega)]
    simp only [Option.bind_some]
    obtain ⟨x, hx⟩ : ∃ x, x = (i : Int) ^ e % (p : Int) := ⟨_, rfl⟩
    have hb0 : 0 ≤ x := by rw [hx]; exact Int.emod_nonneg _ hz
    have hb1 : x < p := by rw [hx]; exact Int.emod_lt_of_pos _ (by omega)
    have hT : (powL p e).take (i + 1) = (powL p e).take i ++ [x] := by
      rw [List.take_succ_eq_append_getElem (by rw [powL_length]; omega), hx]
      simp [powL, tab]
    rw [← hx]
    obtain ⟨t0, t1⟩ := small_mul ha ha2 hb0 hb1 (by omega)
    rw [if_neg hz, w64 (n := a * x) (by omega) (by omega), Int.tmod_eq_emod_of_nonneg t0, if_pos (Int.emod_nonneg _ hz), if_pos (by rw [vcount_length]; exact Int.emod_lt_of_pos _ (by omega))]
    have hq := vcount_rd p a ((powL p e).take i) (a * x % (p : Int)) (Int.emod_nonneg _ hz) (Int.emod_lt_of_pos _ (by omega))
    have hl := List.countP_le_length (p := fun y => a * y % (p : Int) == a * x % (p : Int)) (l := (powL p e).take i)
    rw [List.length_take, powL_length] at hl
    rw [w64 (n := rd _ _ + 1) (by omega) (by omega), vcount_snoc p a _ x (by omega), ← hT, w64 (n := (i : Int) + 1) (by omega) (by omega)]
    exact ih (i + 1) k (by omega) (by omega)
theorem l08Values_val (k p e : Nat) (a : Int) (hp : 2 ≤ p) (hp2 : p ≤ 1000) (ha : 0 ≤ a) (ha2 : a < p) (he : e ≤ 1000) (hk : 3000 < k) : spec_l08Values.f k p a e = some (tab p (vals p a e 0)) := by
  have h := l08Values_loop p e a hp hp2 ha ha2 he p 0 k (by omega) (by omega)
  rw [List.take_zero, vcount_nil] at h
  unfold spec_l08Values.f
  rw [if_pos (by omega), if_pos (by omega), ← vals_tab, List.drop_zero, Int.toNat_natCast]
  exact h
theorem powL_cons (p e : Nat) (hp : 2 ≤ p) (he : 1 ≤ e) : powL p e = 0 :: (powL p e).drop 1 := by
  have h : 0 < (powL p e).length := by rw [powL_length]; omega
  have h2 := List.getElem_cons_drop h
  rw [← List.drop_zero (l := powL p e), ← h2]
  simp only [Nat.zero_add]
  congr 1
  · simp [powL, tab]
    obtain ⟨e, rfl⟩ : ∃ j, e = j + 1 := ⟨e - 1, by omega⟩
    simp [Int.pow_succ]
/-- Less that of 0. -/
theorem vals_full (p : Nat) (a : Int) (e c : Nat) (hp : 2 ≤ p) (he : 1 ≤ e) (hc : c < p) : vals p a e 0 c - (if c = 0 then 1 else 0) = vals p a e 1 c := by
  rw [vals_count _ _ _ _ _ hc, vals_count _ _ _ _ _ hc, List.drop_zero]
  have h := powL_cons p e hp he
  obtain ⟨t, ht⟩ : ∃ t, t = (powL p e).drop 1 := ⟨_, rfl⟩
  rw [← ht] at h ⊢
  rw [h, List.countP_cons]
  by_cases h0 : c = 0
  · subst h0; simp
  · rw [if_neg h0, if_neg (by simp; omega)]; omega
/-- All values together: as many as there are numbers. -/
theorem countP_total (p : Nat) (hp : 0 < p) (f : Int → Int) : ∀ l : List Int, sumTo p (fun c => ((l.countP fun x => f x % (p : Int) == (c : Int) : Nat) : Int)) = l.length := by
  intro l
  induction l with
  | nil => simp [sumTo_zero]
  | cons x l ih =>
    have e : sumTo p (fun c => (((x :: l).countP fun x => f x % (p : Int) == (c : Int) : Nat) : Int)) = sumTo p (fun c => ((l.countP fun x => f x % (p : Int) == (c : Int) : Nat) : Int) + if c = (f x % (p : Int)).toNat then 1 else 0) := by
      refine sumTo_congr fun c hc => ?_
      rw [List.countP_cons]
      have h0 : 0 ≤ f x % (p : Int) := Int.emod_nonneg _ (by omega)
      by_cases h : f x % (p : Int) = (c : Int)
      · rw [if_pos (by simpa using h), if_pos (by omega)]; omega
      · rw [if_neg (by simpa using h), if_neg (by omega)]; omega
    rw [e, sumTo_add, ih, sumTo_one (f x % (p : Int)).toNat (fun i _ hne => by rw [if_neg hne])]
    have h0 : 0 ≤ f x % (p : Int) := Int.emod_nonneg _ (by omega)
    have h1 : f x % (p : Int) < p := Int.emod_lt_of_pos _ (by omega)
    rw [if_pos (by omega), if_pos rfl]
    simp
theorem vals_total (p : Nat) (a : Int) (e : Nat) (hp : 0 < p) : sumTo p (vals p a e 0) = p := by
  have h := countP_total p hp (fun x => a * x) (powL p e)
  rw [powL_length] at h
  rw [← h]
  exact sumTo_congr fun c hc => by rw [vals_count _ _ _ _ _ hc, List.drop_zero]
end Go.Proofs.Ytmjfaagifijmlaa.Q
/-! The plain side of diagonal equations: which there are, and that both counts are the same sums. -/
namespace Go.Proofs.Ytmjfaagifijmlaa.Q
open Go.RowKit Go.Proofs.Ytmjfaagifijmlaa.P Go.Proofs.YtmjfaagifijmlaaW.PrintWords Go.Proofs.YtmjfaagifijmlaaW.PrintLast
set_option linter.unusedVariables false
def isPr (p : Int) : Bool := primes.any fun q => p == q
theorem isPr_bd {p : Int} (h : isPr p = true) : 3 ≤ p ∧ p ≤ 61 := by
  simp [isPr, primes] at h
  omega
theorem isPrime_val (p : Int) (h0 : 2 ≤ p) (h1 : p ≤ 67) (k : Nat) (hk : 100 < k) : impl_isPrime.f k p = some (isPr p) := by
  have h : ∀ i : Nat, i < 66 → impl_isPrime.f 20 ((i : Int) + 2) = some (isPr ((i : Int) + 2)) := by decide +kernel
  have h2 := h (p - 2).toNat (by omega)
  rw [show (((p - 2).toNat : Nat) : Int) + 2 = p by omega] at h2
  exact at_rounds (impl_isPrime.mono p) (by omega) h2
theorem l06Prime_val (p : Int) (h0 : 2 ≤ p) (h1 : p ≤ 67) (k : Nat) (hk : 100 < k) : spec_l06Prime.f k p = some (isPr p) := by
  have h : ∀ i : Nat, i < 66 → spec_l06Prime.f 20 ((i : Int) + 2) = some (isPr ((i : Int) + 2)) := by decide +kernel
  have h2 := h (p - 2).toNat (by omega)
  rw [show (((p - 2).toNat : Nat) : Int) + 2 = p by omega] at h2
  exact at_rounds (spec_l06Prime.mono p) (by omega) h2
theorem within_val (a b c : Int) : impl_within.f a b c = some (decide (b ≤ a ∧ a ≤ c)) := by
  unfold impl_within.f
  by_cases h : b ≤ a
  · rw [if_pos h]; simp [h]
  · rw [if_neg h]; simp [h]
theorem in_val (a b c : Int) : spec_l01In.f a b c = some (decide (b ≤ a ∧ a ≤ c)) := by
  unfold spec_l01In.f
  by_cases h : a ≥ b
  · rw [if_pos h]; simp; omega
  · rw [if_neg h]; simp; omega
def okF (p a : Int) : Bool := decide (1 ≤ a ∧ a ≤ p - 1)
def okE (e : Int) : Bool := decide (1 ≤ e ∧ e ≤ 60)
theorem isExponent_val (e : Int) : impl_isExponent.f e = some (okE e) := by
  unfold impl_isExponent.f
  rw [within_val]
  rfl
def validEq (p : Int) (fs es : List Int) (b : Int) : Bool :=
  isPr p && es.all okE && decide (1 ≤ fs.length ∧ fs.length ≤ 4) && decide (fs.length = es.length) && decide (0 ≤ b ∧ b ≤ p - 1) && fs.all (okF p)
theorem rd_drop (l : List Int) (i : Nat) (h : i < l.length) : l.drop i = rd l (i : Int) :: l.drop (i + 1) := by
  rw [← List.getElem_cons_drop h]
  simp [rd, h]
theorem isEquation_loop (p : Int) (fs es : List Int) (hp0 : 0 ≤ p) (hp : p ≤ 1000000) (hl : fs.length = es.length) (hl2 : fs.length ≤ 1000000) : ∀ (d i k : Nat), i + d = fs.length → d < k →
    impl_isEquation.l0 k p es fs (fs.length : Int) i = some ((fs.drop i).all (okF p) && (es.drop i).all okE) := by
  intro d
  induction d with
  | zero =>
    intro i k hi hk
    obtain ⟨k, rfl⟩ : ∃ j, k = j + 1 := ⟨k - 1, by omega⟩
    simp only [impl_isEquation.l0]
    rw [if_neg (by omega), List.drop_of_length_le (by omega), List.drop_of_length_le (by omega)]
    rfl
  | succ d ih =>
    intro i k hi hk
    obtain ⟨k, rfl⟩ : ∃ j, k = j + 1 := ⟨k - 1, by omega⟩
    simp only [impl_isEquation.l0]
    rw [if_pos (by omega), if_pos (by omega), if_pos (by omega), w64 (n := p - 1) (by omega) (by omega), within_val]
    simp only [Option.bind_some]
    rw [rd_drop fs i (by omega), rd_drop es i (by omega)]
    simp only [List.all_cons]
    by_cases h1 : decide (1 ≤ rd fs (i : Int) ∧ rd fs (i : Int) ≤ p - 1) = true
    · rw [if_pos h1, if_pos (by omega), isExponent_val]
      simp only [Option.bind_some]
      have h1' : okF p (rd fs (i : Int)) = true := h1
      rw [h1']
      by_cases h2 : okE (rd es (i : Int)) = true
      · rw [if_pos h2, h2, w64 (n := (i : Int) + 1) (by omega) (by omega)]
        have := ih (i + 1) k (by omega) (by omega)
        rw [show (((i + 1 : Nat)) : Int) = (i : Int) + 1 by omega] at this
        rw [this]
        simp
      · rw [if_neg h2]
        simp only [Bool.not_eq_true] at h2
        rw [h2]
        simp
    · rw [if_neg h1]
      have h1' : okF p (rd fs (i : Int)) = false := by simpa [okF] using h1
      rw [h1']
      simp
theorem isEquation_val (k : Nat) (p : Int) (fs es : List Int) (b : Int) (h0 : 2 ≤ p) (h1 : p ≤ 67) (hb0 : -1000000 ≤ b) (hb1 : b ≤ 1000000) (hl : fs.length ≤ 1000) (hl2 : es.length ≤ 1000) (hk : 2000 < k) :
    impl_isEquation.f k p fs es b = some (validEq p fs es b) := by
  unfold impl_isEquation.f validEq
  obtain ⟨k, rfl⟩ : ∃ j, k = j + 1 := ⟨k - 1, by omega⟩
  rw [isPrime_val p h0 h1 (k + 1) (by omega)]
  simp only [Option.bind_some, within_val, impl_isEquation.j0]
  rw [w64 (n := p - 1) (by omega) (by omega)]
  by_cases c1 : isPr p = true
  · rw [if_pos c1, c1]
    by_cases c2 : decide ((1 : Int) ≤ (fs.length : Int) ∧ (fs.length : Int) ≤ 4) = true
    · rw [if_pos c2]
      have c2' : decide (1 ≤ fs.length ∧ fs.length ≤ 4) = true := by simp at c2 ⊢; omega
      rw [c2']
      by_cases c3 : (es.length : Int) = (fs.length : Int)
      · rw [if_pos c3]
        have c3' : decide (fs.length = es.length) = true := by simp; omega
        rw [c3']
        by_cases c4 : decide (0 ≤ b ∧ b ≤ p - 1) = true
        · have hL : impl_isEquation.l0 k p es fs (fs.length : Int) 0 = some (fs.all (okF p) && es.all okE) := by
            simpa using isEquation_loop p fs es (by omega) (by omega) (by omega) (by omega) fs.length 0 k (by omega) (by omega)
          rw [c4, if_neg (by simp), hL]
          simp [Bool.and_comm]
        · have c4' : decide (0 ≤ b ∧ b ≤ p - 1) = false := by simpa using c4
          rw [c4', if_pos (by simp)]
          simp
      · rw [if_neg c3, if_pos trivial]
        have c3' : decide (fs.length = es.length) = false := by simp; omega
        rw [c3']
        simp
    · rw [if_neg c2, if_pos trivial]
      have c2' : decide (1 ≤ fs.length ∧ fs.length ≤ 4) = false := by simp at c2 ⊢; omega
      rw [c2']
      simp
  · rw [if_neg c1, if_pos trivial]
    simp only [Bool.not_eq_true] at c1
    rw [c1]
    simp
theorem l08Code_loop (es : List Int) (hl2 : es.length ≤ 1000000) : ∀ (d i k : Nat), i + d = es.length → d < k →
    spec_l08Code.l0 k es i = some (if (es.drop i).all okE then 0 else 2) := by
  intro d
  induction d with
  | zero =>
    intro i k hi hk
    obtain ⟨k, rfl⟩ : ∃ j, k = j + 1 := ⟨k - 1, by omega⟩
    simp only [spec_l08Code.l0]
    rw [if_neg (by omega), List.drop_of_length_le (by omega)]
    rfl
  | succ d ih =>
    intro i k hi hk
    obtain ⟨k, rfl⟩ : ∃ j, k = j + 1 := ⟨k - 1, by omega⟩
    simp only [spec_l08Code.l0]
    rw [if_pos (by omega), if_pos (by omega), in_val, rd_drop es i (by omega)]
    simp only [Option.bind_some]
    rw [show decide (1 ≤ rd es (i : Int) ∧ rd es (i : Int) ≤ 60) = okE (rd es (i : Int)) from rfl, List.all_cons]
    cases h2 : okE (rd es (i : Int))
    · simp
    · have := ih (i + 1) k (by omega) (by omega)
      rw [show (((i + 1 : Nat)) : Int) = (i : Int) + 1 by omega] at this
      rw [if_pos rfl, w64 (n := (i : Int) + 1) (by omega) (by omega), this]
      simp
theorem l08Code_val (k : Nat) (p : Int) (es : List Int) (h0 : 2 ≤ p) (h1 : p ≤ 67) (hl2 : es.length ≤ 1000) (hk : 2000 < k) : spec_l08Code.f k p es = some (if isPr p && es.all okE then 0 else 2) := by
  unfold spec_l08Code.f
  rw [l06Prime_val p h0 h1 k (by omega)]
  simp only [Option.bind_some]
  by_cases c1 : isPr p = true
  · rw [if_pos c1, c1]
    have h := l08Code_loop es (by omega) es.length 0 k (by omega) (by omega)
    simpa using h
  · rw [if_neg c1]
    simp only [Bool.not_eq_true] at c1
    rw [c1]
    simp
theorem l08Given_loop (p : Int) (fs : List Int) (hp0 : 0 ≤ p) (hp : p ≤ 1000000) (hl2 : fs.length ≤ 1000000) : ∀ (d i k : Nat) (c : Int), i + d = fs.length → 2 * d + 2 < k →
    spec_l08Given.l0 k p fs c i = some (if c = 0 then (if (fs.drop i).all (okF p) then 0 else 2) else c) := by
  intro d
  induction d with
  | zero =>
    intro i k c hi hk
    obtain ⟨k, rfl⟩ : ∃ j, k = j + 2 := ⟨k - 2, by omega⟩
    simp only [spec_l08Given.l0, spec_l08Given.j3]
    rw [if_neg (by omega), if_neg (by simp), List.drop_of_length_le (by omega)]
    by_cases hc : c = 0
    · rw [hc]; rfl
    · rw [if_neg hc]
  | succ d ih =>
    intro i k c hi hk
    obtain ⟨k, rfl⟩ : ∃ j, k = j + 2 := ⟨k - 2, by omega⟩
    simp only [spec_l08Given.l0, spec_l08Given.j3]
    rw [if_pos (by omega)]
    by_cases hc : c = 0
    · subst hc
      rw [if_pos (by simp), if_pos (by omega), if_pos (by omega), w64 (n := p - 1) (by omega) (by omega), in_val, rd_drop fs i (by omega)]
      simp only [Option.bind_some]
      rw [w64 (n := (i : Int) + 1) (by omega) (by omega), show decide (1 ≤ rd fs (i : Int) ∧ rd fs (i : Int) ≤ p - 1) = okF p (rd fs (i : Int)) from rfl, List.all_cons]
      have e1 : ((i : Int) + 1) = ((i + 1 : Nat) : Int) := by omega
      rw [e1]
      cases h2 : okF p (rd fs (i : Int))
      · rw [if_neg (by simp), ih (i + 1) k 2 (by omega) (by omega)]
        simp
      · rw [if_pos trivial, ih (i + 1) k 0 (by omega) (by omega)]
        simp
    · rw [if_neg (by simpa using hc), if_neg hc]
theorem l08Given_val (k : Nat) (p : Int) (fs es : List Int) (b : Int) (h0 : 2 ≤ p) (h1 : p ≤ 67) (hl : fs.length ≤ 1000) (hl2 : es.length ≤ 1000) (hk : 3000 < k) :
    spec_l08Given.f k p fs es b = some (if validEq p fs es b then 0 else 2) := by
  unfold spec_l08Given.f validEq
  obtain ⟨k, rfl⟩ : ∃ j, k = j + 2 := ⟨k - 2, by omega⟩
  rw [l08Code_val (k + 2) p es h0 h1 hl2 (by omega)]
  simp only [Option.bind_some, spec_l08Given.j0, spec_l08Given.j1, in_val]
  rw [w64 (n := p - 1) (by omega) (by omega)]
  have hL : ∀ c, spec_l08Given.l0 k p fs c 0 = some (if c = 0 then (if fs.all (okF p) then 0 else 2) else c) := fun c => by
    simpa using l08Given_loop p fs (by omega) (by omega) (by omega) fs.length 0 k c (by omega) (by omega)
  simp only [hL]
  cases c1 : isPr p <;> cases c2 : es.all okE <;> simp
  by_cases c3 : (fs.length : Int) < 1
  · rw [if_pos c3]; rw [if_neg (by omega)]
  · rw [if_neg c3]
    by_cases c4 : 4 < (fs.length : Int)
    · rw [if_pos (by omega), if_neg (by omega)]
    · rw [if_neg (by omega)]
      by_cases c5 : fs.length = es.length
      · rw [if_pos (by omega)]
        by_cases c6 : 0 ≤ b ∧ b ≤ p - 1
        · have c7 : (1 ≤ fs.length ∧ fs.length ≤ 4) ∧ fs.length = es.length := by omega
          rw [if_neg (by omega)]
          by_cases h : ∀ x ∈ fs, okF p x = true
          · rw [if_pos h, if_pos ⟨⟨c7, c6⟩, h⟩]
          · rw [if_neg h, if_neg (fun z => h z.2)]
        · rw [if_pos (by omega), if_neg (by intro h; exact c6 h.1.2)]
      · rw [if_neg (by omega), if_neg (by omega)]
/-! The sums behind both counts. -/
def delta0 : Nat → Int := fun c => if c = 0 then 1 else 0
/-- One part more. -/
def stage (p fr : Nat) (f : Nat → Int) (ae : Int × Int) : Nat → Int := conv p f (vals p ae.1 ae.2.toNat fr)
def stages (p fr : Nat) (l : List (Int × Int)) (f : Nat → Int) : Nat → Int := l.foldl (stage p fr) f
/-- All entries lie between 0 and a bound. -/
def Bd (p : Nat) (B : Int) (f : Nat → Int) : Prop := ∀ c, c < p → 0 ≤ f c ∧ f c ≤ B
theorem conv_bd {p : Nat} {B : Int} {f g : Nat → Int} (hp : 0 < p) (hp2 : p ≤ 61) (hB : 0 ≤ B) (hf : Bd p B f) (hg : ∀ c, c < p → 0 ≤ g c ∧ g c ≤ 61) : Bd p (3721 * B) (conv p f g) := by
  intro c hc
  have h : ∀ v, v < p → 0 ≤ g v * f (back p c v) ∧ g v * f (back p c v) ≤ 61 * B := fun v hv => by
    obtain ⟨a1, a2⟩ := hg v hv
    obtain ⟨b1, b2⟩ := hf _ (back_lt (c := c) (v := v) hp)
    exact ⟨Int.mul_nonneg a1 b1, Int.mul_le_mul a2 b2 b1 (by omega)⟩
  refine ⟨sumTo_nonneg fun v hv => (h v hv).1, Int.le_trans (sumTo_le (g := fun _ => 61 * B) fun v hv => (h v hv).2) ?_⟩
  rw [sumTo_const]
  have : (p : Int) * (61 * B) ≤ 61 * (61 * B) := Int.mul_le_mul_of_nonneg_right (by omega) (by omega)
  omega
/-- The inner loop: many's numbers, times n, added v places on. -/
theorem sol_l2 (p : Nat) (hp : 2 ≤ p) (hp2 : p ≤ 61) (f g G : Nat → Int) (v : Nat) (hv : v < p) (n : Int) (hf : Bd p 1000000000000 f) (hn0 : 0 ≤ n) (hn1 : n ≤ 61) (hG : ∀ c, c < p → 0 ≤ G c ∧ G c ≤ 10000000000000000)
    (x0 : List Int) (b fr : Int) (x23 : List Int) (x24 x25 : Int) (x39 : List Int) (x40 : Int) (r : Int)
    (hnext : Ev (fun k => impl_solutions.l1 k p x0 b fr (tab p f) (tab p fun c => G c + sumTo p fun s => if (s + v) % p = c then n * f s else 0) x23 x24 x25 x39 x40 ((v : Int) + 1)) r) :
    ∀ (d i : Nat), i + d = p → Ev (fun k => impl_solutions.l2 k p x0 b fr (tab p f) (tab p fun c => G c + sumTo i fun s => if (s + v) % p = c then n * f s else 0) v n x23 x24 x25 x39 x40 v (tab p f) p i) r := by
  intro d
  induction d with
  | zero =>
    intro i hi
    obtain rfl : i = p := by omega
    refine Ev.step (fun k => ?_) hnext
    simp only [impl_solutions.l2]
    rw [if_neg (by omega), w64 (n := (v : Int) + 1) (by omega) (by omega)]
  | succ d ih =>
    intro i hi
    refine Ev.step (fun k => ?_) (ih (i + 1) (by omega))
    simp only [impl_solutions.l2]
    have hz : ¬ (p : Int) = 0 := by omega
    have hj0 : 0 ≤ ((i : Int) + v) % (p : Int) := Int.emod_nonneg _ hz
    have hj1 : ((i : Int) + v) % (p : Int) < p := Int.emod_lt_of_pos _ (by omega)
    have hj : (((i : Int) + v) % (p : Int)).toNat = (i + v) % p := by
      rw [show (i : Int) + (v : Int) = ((i + v : Nat) : Int) by omega, ← Int.natCast_emod, Int.toNat_natCast]
    have hjl : (i + v) % p < p := Nat.mod_lt _ (by omega)
    obtain ⟨f0, f1⟩ := hf i (by omega)
    have hm0 : 0 ≤ n * f i := Int.mul_nonneg hn0 f0
    have hm1 : n * f i ≤ 61 * 1000000000000 := Int.mul_le_mul hn1 f1 f0 (by omega)
    have hfree : sumTo i (fun s => if (s + v) % p = (i + v) % p then n * f s else 0) = 0 := by
      rw [conv_inner hjl hv (by omega) (fun s => n * f s), if_neg]
      rw [← (back_iff hjl hv (show i < p by omega)).mp rfl]
      omega
    obtain ⟨g0, g1⟩ := hG _ hjl
    rw [if_pos (by omega), if_pos (by omega), if_pos (by rw [tab_length]; omega), if_neg hz, w64 (n := (i : Int) + v) (by omega) (by omega), Int.tmod_eq_emod_of_nonneg (by omega),
      if_pos hj0, if_pos (by rw [tab_length]; exact hj1), tab_rdI p _ _ hj0 hj1, hj, hfree, tab_rd p f i (by omega), w64 (n := n * f i) (by omega) (by omega), w64 (n := _ + n * f i) (by omega) (by omega), w64 (n := (i : Int) + 1) (by omega) (by omega), tab_set]
    rw [show ((i : Int) + 1) = ((i + 1 : Nat) : Int) by omega]
    congr 1
    refine tab_congr fun c hc => ?_
    simp only [sumTo]
    by_cases hcj : c = (i + v) % p
    · rw [if_pos hcj, if_pos hcj.symm, hcj, hfree]
      omega
    · rw [if_neg hcj, if_neg (fun e => hcj e.symm)]
      omega
theorem sol_l1 (p : Nat) (hp : 2 ≤ p) (hp2 : p ≤ 61) (f g : Nat → Int) (hf : Bd p 1000000000000 f) (hg : ∀ c, c < p → 0 ≤ g c ∧ g c ≤ 61)
    (es : List Int) (b fr : Int) (fs : List Int) (n i : Int) (r : Int)
    (hnext : Ev (fun k => impl_solutions.l0 k p es b fr (tab p (conv p f g)) fs n (wrap64 (i + 1))) r) :
    ∀ (d v : Nat), v + d = p → Ev (fun k => impl_solutions.l1 k p es b fr (tab p f) (tab p fun c => sumTo v fun u => g u * f (back p c u)) fs n i (tab p g) p v) r := by
  intro d
  induction d with
  | zero =>
    intro v hv
    obtain rfl : v = p := by omega
    refine Ev.step (fun k => ?_) hnext
    simp only [impl_solutions.l1]
    rw [if_neg (by omega)]
    rfl
  | succ d ih =>
    intro v hv
    have hpart : ∀ c, c < p → 0 ≤ (sumTo v fun u => g u * f (back p c u)) ∧ (sumTo v fun u => g u * f (back p c u)) ≤ 10000000000000000 := by
      intro c hc
      have h : ∀ u, u < p → 0 ≤ g u * f (back p c u) ∧ g u * f (back p c u) ≤ 61 * 1000000000000 := fun u hu => by
        obtain ⟨a1, a2⟩ := hg u hu
        obtain ⟨b1, b2⟩ := hf _ (back_lt (c := c) (v := u) (by omega))
        exact ⟨Int.mul_nonneg a1 b1, Int.mul_le_mul a2 b2 b1 (by omega)⟩
      refine ⟨sumTo_nonneg fun u hu => (h u (by omega)).1, Int.le_trans (sumTo_le (g := fun _ => 61 * 1000000000000) fun u hu => (h u (by omega)).2) ?_⟩
      rw [sumTo_const]
      omega
    have hn := ih (v + 1) (by omega)
    obtain ⟨g0, g1⟩ := hg v (by omega)
    have he : (tab p fun c => sumTo (v + 1) fun u => g u * f (back p c u)) = tab p fun c => (sumTo v fun u => g u * f (back p c u)) + sumTo p fun s => if (s + v) % p = c then g v * f s else 0 := by
      refine tab_congr fun c hc => ?_
      simp only [sumTo]
      rw [conv_inner hc (by omega) (Nat.le_refl _) (fun s => g v * f s), if_pos (back_lt (by omega))]
    rw [he, show (((v + 1 : Nat)) : Int) = (v : Int) + 1 by omega] at hn
    have h2 := sol_l2 p hp hp2 f g (fun c => sumTo v fun u => g u * f (back p c u)) v (by omega) (g v) hf g0 g1 hpart es b fr fs n i (tab p g) p r hn p 0 (by omega)
    refine Ev.step (fun k => ?_) h2
    simp only [impl_solutions.l1]
    rw [if_pos (by omega), if_pos (by omega), if_pos (by rw [tab_length]; omega), tab_rd p g v (by omega), tab_length]
    congr 1
    refine tab_congr fun c hc => ?_
    simp only [sumTo]
    omega
theorem sol_l0 (p : Nat) (hp : 2 ≤ p) (hp2 : p ≤ 61) (es fs : List Int) (b : Nat) (hb : b < p) (fr : Nat) (hfr : fr ≤ 1) (hl : fs.length = es.length) (hl4 : fs.length ≤ 4) (hfs : fs.all (okF p) = true) (hes : es.all okE = true) :
    ∀ (d i : Nat) (B : Int) (f : Nat → Int), i + d = fs.length → 0 ≤ B → B * 3721 ^ d ≤ 1000000000000 * 3721 → Bd p B f →
      Ev (fun k => impl_solutions.l0 k p es b fr (tab p f) fs (fs.length : Int) i) (stages p fr ((fs.drop i).zip (es.drop i)) f b) := by
  intro d
  induction d with
  | zero =>
    intro i B f hi hB0 hB hf
    rw [List.drop_of_length_le (by omega)]
    refine Ev.step (fun k => ?_) (Ev.now _)
    simp only [impl_solutions.l0]
    rw [if_neg (by omega), if_pos (by omega), if_pos (by rw [tab_length]; omega), tab_rd p f b hb]
    rfl
  | succ d ih =>
    intro i B f hi hB0 hB hf
    have h1 : 1 ≤ (3721 : Int) ^ d := by
      have : 0 < (3721 : Int) ^ d := Int.pow_pos (by omega)
      omega
    have hBs : B ≤ 1000000000000 := by
      rw [Int.pow_succ, ← Int.mul_assoc] at hB
      have h2 : B * 1 ≤ B * 3721 ^ d := Int.mul_le_mul_of_nonneg_left h1 hB0
      omega
    have hfB : Bd p 1000000000000 f := fun c hc => ⟨(hf c hc).1, Int.le_trans (hf c hc).2 hBs⟩
    rw [rd_drop fs i (by omega), rd_drop es i (by omega)] at *
    obtain ⟨a, ha⟩ : ∃ a, a = rd fs (i : Int) := ⟨_, rfl⟩
    obtain ⟨e, he⟩ : ∃ e, e = rd es (i : Int) := ⟨_, rfl⟩
    have hae : a ∈ fs := by rw [ha, show rd fs (i : Int) = fs[i] by simp [rd, show i < fs.length by omega]]; exact List.getElem_mem _
    have hee : e ∈ es := by rw [he, show rd es (i : Int) = es[i] by simp [rd, show i < es.length by omega]]; exact List.getElem_mem _
    have hao := List.all_eq_true.mp hfs a hae
    have heo := List.all_eq_true.mp hes e hee
    simp only [okF, okE, decide_eq_true_eq] at hao heo
    rw [← ha, ← he]
    obtain ⟨en, rfl⟩ := Int.eq_ofNat_of_zero_le (show 0 ≤ e by omega)
    have hv : ∀ c, c < p → 0 ≤ vals p a en fr c ∧ vals p a en fr c ≤ 61 := fun c hc => by
      have := vals_bd p a en fr c hc
      omega
    have hnext := ih (i + 1) (3721 * B) (conv p f (vals p a en fr)) (by omega) (by omega) (by rw [Int.pow_succ] at hB; rw [Int.mul_comm 3721 B, Int.mul_assoc, Int.mul_comm 3721]; exact hB) (conv_bd (by omega) hp2 hB0 hf hv)
    have e1 : stages p fr ((a, (en : Int)) :: (fs.drop (i + 1)).zip (es.drop (i + 1))) f b = stages p fr ((fs.drop (i + 1)).zip (es.drop (i + 1))) (conv p f (vals p a en fr)) b := rfl
    rw [List.zip_cons_cons, e1]
    have hl1 := sol_l1 p hp hp2 f (vals p a en fr) hfB hv es b fr fs (fs.length : Int) i _ (by
      rw [w64 (n := (i : Int) + 1) (by omega) (by omega), show (i : Int) + 1 = ((i + 1 : Nat) : Int) by omega]
      exact hnext) p 0 (by omega)
    have hvc : Ev (fun k => impl_valueCounts.f k p a en fr) (tab p (vals p a en fr)) := ⟨3001, fun k hk => valueCounts_val k p en fr a (by omega) (by omega) (by omega) (by omega) (by omega) (by omega) (by omega)⟩
    refine Ev.step (fun k => ?_) (Ev.bind hvc (f := fun k t => impl_solutions.l1 k p es b fr (tab p f) (List.replicate p 0) fs (fs.length : Int) i t (t.length : Int) 0) ?_)
    · simp only [impl_solutions.l0]
      rw [if_pos (by omega), if_pos (by omega), if_pos (by omega), if_pos (by omega), if_pos (by omega), if_pos (by omega), ← ha, ← he, Int.toNat_natCast]
    · simp only [tab_length]
      rw [tab_zero]
      exact hl1
theorem solutions_val (p : Nat) (hp : 2 ≤ p) (hp2 : p ≤ 61) (es fs : List Int) (b : Nat) (hb : b < p) (fr : Nat) (hfr : fr ≤ 1) (hl : fs.length = es.length) (hl4 : fs.length ≤ 4) (hfs : fs.all (okF p) = true) (hes : es.all okE = true) :
    Ev (fun k => impl_solutions.f k p fs es b fr) (stages p fr (fs.zip es) delta0 b) := by
  have h := sol_l0 p hp hp2 es fs b hb fr hfr hl hl4 hfs hes fs.length 0 1 delta0 (by omega) (by omega) (by
    have : (3721 : Int) ^ fs.length ≤ 3721 ^ 4 := by
      rcases (show fs.length = 0 ∨ fs.length = 1 ∨ fs.length = 2 ∨ fs.length = 3 ∨ fs.length = 4 by omega) with h | h | h | h | h <;> rw [h] <;> decide
    omega) (fun c hc => by unfold delta0; split <;> omega)
  simp only [List.drop_zero] at h
  refine Ev.congr (fun k => ?_) h
  unfold impl_solutions.f
  rw [if_pos (by omega), if_pos (by omega)]
  simp only [Option.bind_some]
  rw [if_pos (by rw [List.length_replicate]; omega), Int.toNat_natCast, tab_zero]
  have : ((0 : Int)).toNat = 0 := rfl
  rw [this, tab_set]
  rfl
/-! The reference's count. -/
theorem cnt_l2 (p : Nat) (hp : 2 ≤ p) (hp2 : p ≤ 61) (f g G : Nat → Int) (v : Nat) (hv : v < p) (hf : Bd p 1000000000000 f) (hg : ∀ c, c < p → 0 ≤ g c ∧ g c ≤ 61) (hG : ∀ c, c < p → 0 ≤ G c ∧ G c ≤ 10000000000000000)
    (fs es : List Int) (b : Int) (full : Bool) (i0 : Int) (r : Int)
    (hnext : Ev (fun k => spec_l08Count.l1 k p fs es b full (tab p f) i0 (tab p g) (tab p fun c => G c + sumTo p fun s => if (s + v) % p = c then f v * g s else 0) ((v : Int) + 1)) r) :
    ∀ (d i : Nat), i + d = p → Ev (fun k => spec_l08Count.l2 k p fs es b full (tab p f) i0 (tab p g) (tab p fun c => G c + sumTo i fun s => if (s + v) % p = c then f v * g s else 0) v i) r := by
  intro d
  induction d with
  | zero =>
    intro i hi
    obtain rfl : i = p := by omega
    refine Ev.step (fun k => ?_) hnext
    simp only [spec_l08Count.l2]
    rw [if_neg (by omega), w64 (n := (v : Int) + 1) (by omega) (by omega)]
  | succ d ih =>
    intro i hi
    refine Ev.step (fun k => ?_) (ih (i + 1) (by omega))
    simp only [spec_l08Count.l2]
    have hz : ¬ (p : Int) = 0 := by omega
    have hj0 : 0 ≤ ((v : Int) + i) % (p : Int) := Int.emod_nonneg _ hz
    have hj1 : ((v : Int) + i) % (p : Int) < p := Int.emod_lt_of_pos _ (by omega)
    have hj : (((v : Int) + i) % (p : Int)).toNat = (i + v) % p := by
      rw [show (v : Int) + (i : Int) = ((i + v : Nat) : Int) by omega, ← Int.natCast_emod, Int.toNat_natCast]
    have hjl : (i + v) % p < p := Nat.mod_lt _ (by omega)
    obtain ⟨f0, f1⟩ := hf v (by omega)
    obtain ⟨n0, n1⟩ := hg i (by omega)
    have hm0 : 0 ≤ f v * g i := Int.mul_nonneg f0 n0
    have hm1 : f v * g i ≤ 1000000000000 * 61 := Int.mul_le_mul f1 n1 n0 (by omega)
    have hfree : sumTo i (fun s => if (s + v) % p = (i + v) % p then f v * g s else 0) = 0 := by
      rw [conv_inner hjl hv (by omega) (fun s => f v * g s), if_neg]
      rw [← (back_iff hjl hv (show i < p by omega)).mp rfl]
      omega
    obtain ⟨g0, g1⟩ := hG _ hjl
    rw [if_pos (by omega), if_neg hz, w64 (n := (v : Int) + i) (by omega) (by omega), Int.tmod_eq_emod_of_nonneg (by omega),
      if_pos hj0, if_pos (by rw [tab_length]; exact hj1), if_pos (by omega), if_pos (by rw [tab_length]; omega), if_pos (by omega), if_pos (by rw [tab_length]; omega),
      tab_rdI p _ _ hj0 hj1, hj, hfree, tab_rd p f v hv, tab_rd p g i (by omega), w64 (n := f v * g i) (by omega) (by omega), w64 (n := _ + f v * g i) (by omega) (by omega), w64 (n := (i : Int) + 1) (by omega) (by omega), tab_set]
    rw [show ((i : Int) + 1) = ((i + 1 : Nat) : Int) by omega]
    congr 1
    refine tab_congr fun c hc => ?_
    simp only [sumTo]
    by_cases hcj : c = (i + v) % p
    · rw [if_pos hcj, if_pos hcj.symm, hcj, hfree]
      omega
    · rw [if_neg hcj, if_neg (fun e => hcj e.symm)]
      omega
theorem cnt_l1 (p : Nat) (hp : 2 ≤ p) (hp2 : p ≤ 61) (f g : Nat → Int) (hf : Bd p 1000000000000 f) (hg : ∀ c, c < p → 0 ≤ g c ∧ g c ≤ 61)
    (fs es : List Int) (b : Int) (full : Bool) (i : Int) (r : Int)
    (hnext : Ev (fun k => spec_l08Count.l0 k p fs es b full (tab p (conv p f g)) (wrap64 (i + 1))) r) :
    ∀ (d v : Nat), v + d = p → Ev (fun k => spec_l08Count.l1 k p fs es b full (tab p f) i (tab p g) (tab p fun c => sumTo v fun u => f u * g (back p c u)) v) r := by
  intro d
  induction d with
  | zero =>
    intro v hv
    obtain rfl : v = p := by omega
    refine Ev.step (fun k => ?_) hnext
    simp only [spec_l08Count.l1]
    rw [if_neg (by omega)]
    congr 1
    exact tab_congr fun c hc => conv_comm hc g f
  | succ d ih =>
    intro v hv
    have hpart : ∀ c, c < p → 0 ≤ (sumTo v fun u => f u * g (back p c u)) ∧ (sumTo v fun u => f u * g (back p c u)) ≤ 10000000000000000 := by
      intro c hc
      have h : ∀ u, u < p → 0 ≤ f u * g (back p c u) ∧ f u * g (back p c u) ≤ 1000000000000 * 61 := fun u hu => by
        obtain ⟨b1, b2⟩ := hf u hu
        obtain ⟨a1, a2⟩ := hg _ (back_lt (c := c) (v := u) (by omega))
        exact ⟨Int.mul_nonneg b1 a1, Int.mul_le_mul b2 a2 a1 (by omega)⟩
      refine ⟨sumTo_nonneg fun u hu => (h u (by omega)).1, Int.le_trans (sumTo_le (g := fun _ => 1000000000000 * 61) fun u hu => (h u (by omega)).2) ?_⟩
      rw [sumTo_const]
      omega
    have hn := ih (v + 1) (by omega)
    have he : (tab p fun c => sumTo (v + 1) fun u => f u * g (back p c u)) = tab p fun c => (sumTo v fun u => f u * g (back p c u)) + sumTo p fun s => if (s + v) % p = c then f v * g s else 0 := by
      refine tab_congr fun c hc => ?_
      simp only [sumTo]
      rw [conv_inner hc (by omega) (Nat.le_refl _) (fun s => f v * g s), if_pos (back_lt (by omega))]
    rw [he, show (((v + 1 : Nat)) : Int) = (v : Int) + 1 by omega] at hn
    have h2 := cnt_l2 p hp hp2 f g (fun c => sumTo v fun u => f u * g (back p c u)) v (by omega) hf hg hpart fs es b full i r hn p 0 (by omega)
    refine Ev.step (fun k => ?_) h2
    simp only [spec_l08Count.l1]
    rw [if_pos (by omega)]
    congr 1
    refine tab_congr fun c hc => ?_
    simp only [sumTo]
    omega
theorem cnt_l0 (p : Nat) (hp : 2 ≤ p) (hp2 : p ≤ 61) (es fs : List Int) (b : Nat) (hb : b < p) (full : Bool) (hl : fs.length = es.length) (hl4 : fs.length ≤ 4) (hfs : fs.all (okF p) = true) (hes : es.all okE = true) :
    ∀ (d i : Nat) (B : Int) (f : Nat → Int), i + d = fs.length → 0 ≤ B → B * 3721 ^ d ≤ 1000000000000 * 3721 → Bd p B f →
      Ev (fun k => spec_l08Count.l0 k p fs es b full (tab p f) i) (stages p (if full then 1 else 0) ((fs.drop i).zip (es.drop i)) f b) := by
  intro d
  induction d with
  | zero =>
    intro i B f hi hB0 hB hf
    rw [List.drop_of_length_le (by omega)]
    refine Ev.step (fun k => ?_) (Ev.now _)
    simp only [spec_l08Count.l0]
    rw [if_neg (by omega), if_pos (by omega), if_pos (by rw [tab_length]; omega), tab_rd p f b hb]
    rfl
  | succ d ih =>
    intro i B f hi hB0 hB hf
    have h1 : 1 ≤ (3721 : Int) ^ d := by
      have : 0 < (3721 : Int) ^ d := Int.pow_pos (by omega)
      omega
    have hBs : B ≤ 1000000000000 := by
      rw [Int.pow_succ, ← Int.mul_assoc] at hB
      have h2 : B * 1 ≤ B * 3721 ^ d := Int.mul_le_mul_of_nonneg_left h1 hB0
      omega
    have hfB : Bd p 1000000000000 f := fun c hc => ⟨(hf c hc).1, Int.le_trans (hf c hc).2 hBs⟩
    rw [rd_drop fs i (by omega), rd_drop es i (by omega)] at *
    obtain ⟨a, ha⟩ : ∃ a, a = rd fs (i : Int) := ⟨_, rfl⟩
    obtain ⟨e, he⟩ : ∃ e, e = rd es (i : Int) := ⟨_, rfl⟩
    have hae : a ∈ fs := by rw [ha, show rd fs (i : Int) = fs[i] by simp [rd, show i < fs.length by omega]]; exact List.getElem_mem _
    have hee : e ∈ es := by rw [he, show rd es (i : Int) = es[i] by simp [rd, show i < es.length by omega]]; exact List.getElem_mem _
    have hao := List.all_eq_true.mp hfs a hae
    have heo := List.all_eq_true.mp hes e hee
    simp only [okF, okE, decide_eq_true_eq] at hao heo
    rw [← ha, ← he]
    obtain ⟨en, rfl⟩ := Int.eq_ofNat_of_zero_le (show 0 ≤ e by omega)
    have hv : ∀ c, c < p → 0 ≤ vals p a en (if full then 1 else 0) c ∧ vals p a en (if full then 1 else 0) c ≤ 61 := fun c hc => by
      have := vals_bd p a en (if full then 1 else 0) c hc
      omega
    have hnext := ih (i + 1) (3721 * B) (conv p f (vals p a en (if full then 1 else 0))) (by omega) (by omega) (by rw [Int.pow_succ] at hB; rw [Int.mul_comm 3721 B, Int.mul_assoc, Int.mul_comm 3721]; exact hB) (conv_bd (by omega) hp2 hB0 hf hv)
    have e1 : stages p (if full then 1 else 0) ((a, (en : Int)) :: (fs.drop (i + 1)).zip (es.drop (i + 1))) f b = stages p (if full then 1 else 0) ((fs.drop (i + 1)).zip (es.drop (i + 1))) (conv p f (vals p a en (if full then 1 else 0))) b := rfl
    rw [List.zip_cons_cons, e1]
    have hl1 := cnt_l1 p hp hp2 f (vals p a en (if full then 1 else 0)) hfB hv fs es b full i _ (by
      rw [w64 (n := (i : Int) + 1) (by omega) (by omega), show (i : Int) + 1 = ((i + 1 : Nat) : Int) by omega]
      exact hnext) p 0 (by omega)
    have hj1 : Ev (fun k => spec_l08Count.j1 k p fs es b full (tab p f) i (tab p (vals p a en (if full then 1 else 0))) (List.replicate p 0)) (stages p (if full then 1 else 0) ((fs.drop (i + 1)).zip (es.drop (i + 1))) (conv p f (vals p a en (if full then 1 else 0))) b) := by
      refine Ev.step (fun k => ?_) hl1
      simp only [spec_l08Count.j1]
      rw [tab_zero]
      rfl
    have hvc : Ev (fun k => spec_l08Values.f k p a en) (tab p (vals p a en 0)) := ⟨3001, fun k hk => l08Values_val k p en a (by omega) (by omega) (by omega) (by omega) (by omega) (by omega)⟩
    refine Ev.step (fun k => ?_) (Ev.bind hvc (f := fun k t => if full = true then (if 0 < (t.length : Int) then spec_l08Count.j1 k p fs es b full (tab p f) i (t.set 0 (wrap64 (rd t 0 - 1))) (List.replicate p 0) else none) else spec_l08Count.j1 k p fs es b full (tab p f) i t (List.replicate p 0)) ?_)
    · simp only [spec_l08Count.l0]
      have c1 : (0 : Int) ≤ (p : Int) := by omega
      have c2 : p ≤ 35184372088832 := by omega
      rw [if_pos (by omega), if_pos (by omega), if_pos (by omega), ← ha, ← he]
      simp only [c1, c2, if_true, Option.bind_some, Int.toNat_natCast]
      rfl
    · cases full with
      | false => simpa using hj1
      | true =>
        have e2 : (tab p (vals p a en 0)).set 0 (wrap64 (rd (tab p (vals p a en 0)) 0 - 1)) = tab p (vals p a en 1) := by
          have hb0 := vals_bd p a en 0 0 (by omega)
          have hr : rd (tab p (vals p a en 0)) 0 = vals p a en 0 0 := tab_rd p _ 0 (by omega)
          rw [hr, w64 (by omega) (by omega), tab_set]
          refine tab_congr fun c hc => ?_
          have := vals_full p a en c hp (by omega) hc
          by_cases h0 : c = 0
          · subst h0; rw [if_pos rfl]; simpa using this
          · rw [if_neg h0]; rw [if_neg h0] at this; omega
        simp only [if_true]
        rw [e2]
        refine Ev.congr (fun k => ?_) hj1
        rw [if_pos (by rw [tab_length]; omega)]
        rfl
theorem l08Count_val (p : Nat) (hp : 2 ≤ p) (hp2 : p ≤ 61) (es fs : List Int) (b : Nat) (hb : b < p) (full : Bool) (hl : fs.length = es.length) (hl4 : fs.length ≤ 4) (hfs : fs.all (okF p) = true) (hes : es.all okE = true) :
    Ev (fun k => spec_l08Count.f k p fs es b full) (stages p (if full then 1 else 0) (fs.zip es) delta0 b) := by
  have h := cnt_l0 p hp hp2 es fs b hb full hl hl4 hfs hes fs.length 0 1 delta0 (by omega) (by omega) (by
    have : (3721 : Int) ^ fs.length ≤ 3721 ^ 4 := by
      rcases (show fs.length = 0 ∨ fs.length = 1 ∨ fs.length = 2 ∨ fs.length = 3 ∨ fs.length = 4 by omega) with h | h | h | h | h <;> rw [h] <;> decide
    omega) (fun c hc => by unfold delta0; split <;> omega)
  simp only [List.drop_zero] at h
  refine Ev.congr (fun k => ?_) h
  unfold spec_l08Count.f
  rw [if_pos (by omega), if_pos (by omega)]
  simp only [Option.bind_some]
  rw [if_pos (by rw [List.length_replicate]; omega), Int.toNat_natCast, tab_zero]
  have : ((0 : Int)).toNat = 0 := rfl
  rw [this, tab_set]
  rfl
end Go.Proofs.Ytmjfaagifijmlaa.Q
/-! Quadrics are counted by their rule: quadratic characters modulo the small primes. -/
namespace Go.Proofs.Ytmjfaagifijmlaa.Q
open Go.RowKit Go.Proofs.Ytmjfaagifijmlaa.P Go.Proofs.YtmjfaagifijmlaaW.PrintWords Go.Proofs.YtmjfaagifijmlaaW.PrintLast
set_option linter.unusedVariables false
/-- 1, -1 or 0 for squares, other numbers, and 0. -/
def chi (p : Nat) (x : Int) : Int := if x % (p : Int) = 0 then 0 else if (x % (p : Int)) ^ ((p - 1) / 2) % (p : Int) = 1 then 1 else -1
theorem chi_mod (p : Nat) (x : Int) : chi p (x % (p : Int)) = chi p x := by unfold chi; rw [Int.emod_emod]
theorem chi_bd (p : Nat) (x : Int) : -1 ≤ chi p x ∧ chi p x ≤ 1 := by
  unfold chi
  split
  · omega
  · split <;> omega
def natPrimes : List Nat := [3, 5, 7, 11, 13, 17, 19, 23, 29, 31, 37, 41, 43, 47, 53, 59, 61]
def chiT (p : Nat) : List Int := (List.range p).map fun (x : Nat) => chi p x
def sumL (l : List Int) : Int := l.foldl (· + ·) 0
theorem isPr_nat {p : Int} (h : isPr p = true) : p.toNat ∈ natPrimes ∧ ((p.toNat : Nat) : Int) = p := by
  simp [isPr, primes] at h
  rcases h with h | h | h | h | h | h | h | h | h | h | h | h | h | h | h | h | h <;> subst h <;> decide
/-- Multiplicative, at the residues. -/
def chkM (p : Nat) : Bool := (List.range p).all fun x => (List.range p).all fun y => chi p ((x * y : Nat) : Int) == chi p x * chi p y
def chkV (p : Nat) : Bool := (List.range p).all fun y => vals p 1 2 0 y == 1 + chi p y
def chkS (p : Nat) : Bool := sumTo p (fun v => chi p v) == 0
def chkJ (p : Nat) : Bool := let t := chiT p; (List.range p).all fun c => sumTo p (fun v => t.getD v 0 * t.getD (back p c v) 0) == chi p (-1) * ((p : Int) * delta0 c - 1)
def chkI (p : Nat) : Bool := (List.range p).all fun a => a == 0 || (a * (a ^ (p - 2) % p)) % p == 1
def chkE (p : Nat) : Bool := chi p (-1) * chi p (-1) == 1
theorem all_chk : natPrimes.all (fun p => chkM p && chkV p && chkS p && chkJ p && chkI p && chkE p) = true := by decide +kernel
structure Chk (p : Nat) : Prop where
  M : ∀ x y : Nat, x < p → y < p → chi p ((x * y : Nat) : Int) = chi p x * chi p y
  V : ∀ y : Nat, y < p → vals p 1 2 0 y = 1 + chi p y
  S : sumTo p (fun v => chi p v) = 0
  J : ∀ c, c < p → sumTo p (fun v => chi p v * chi p (back p c v : Nat)) = chi p (-1) * ((p : Int) * delta0 c - 1)
  I : ∀ a, 1 ≤ a → a < p → (a * (a ^ (p - 2) % p)) % p = 1
  E : chi p (-1) * chi p (-1) = 1
  lo : 3 ≤ p
  hi : p ≤ 61
theorem chk_of {p : Nat} (h : p ∈ natPrimes) : Chk p := by
  have h1 := List.all_eq_true.mp all_chk p h
  simp only [Bool.and_eq_true] at h1
  obtain ⟨⟨⟨⟨⟨hM, hV⟩, hS⟩, hJ⟩, hI⟩, hE⟩ := h1
  have hb : 3 ≤ p ∧ p ≤ 61 := by simp [natPrimes] at h; omega
  refine ⟨fun x y hx hy => ?_, fun y hy => ?_, ?_, fun c hc => ?_, fun a ha ha2 => ?_, ?_, hb.1, hb.2⟩
  · have := List.all_eq_true.mp (List.all_eq_true.mp hM x (List.mem_range.mpr hx)) y (List.mem_range.mpr hy)
    simpa using this
  · have := List.all_eq_true.mp hV y (List.mem_range.mpr hy)
    simpa using this
  · simpa [chkS] using hS
  · have := List.all_eq_true.mp hJ c (List.mem_range.mpr hc)
    rw [beq_iff_eq] at this
    rw [← this]
    refine sumTo_congr fun v hv => ?_
    have e : ∀ i, i < p → (chiT p).getD i 0 = chi p i := fun i hi => by simp [chiT, hi]
    rw [e v hv, e _ (back_lt (by omega))]
  · have := List.all_eq_true.mp hI a (List.mem_range.mpr ha2)
    simp only [Bool.or_eq_true, beq_iff_eq] at this
    omega
  · simpa [chkE] using hE
theorem mul_mod' (a b m : Int) : a * (b % m) % m = a * b % m := by rw [Int.mul_emod, Int.emod_emod, ← Int.mul_emod]
theorem chi_mul {p : Nat} (h : Chk p) (x y : Int) : chi p (x * y) = chi p x * chi p y := by
  have hp := h.lo
  have hx0 : 0 ≤ x % (p : Int) := Int.emod_nonneg _ (by omega)
  have hx1 : x % (p : Int) < p := Int.emod_lt_of_pos _ (by omega)
  have hy0 : 0 ≤ y % (p : Int) := Int.emod_nonneg _ (by omega)
  have hy1 : y % (p : Int) < p := Int.emod_lt_of_pos _ (by omega)
  have := h.M (x % (p : Int)).toNat (y % (p : Int)).toNat (by omega) (by omega)
  rw [Int.natCast_mul, Int.toNat_of_nonneg hx0, Int.toNat_of_nonneg hy0, chi_mod, chi_mod] at this
  rw [← this, ← chi_mod p (x * y), Int.mul_emod, chi_mod]
/-- How often a x x is c. -/
theorem vals_chi {p : Nat} (h : Chk p) (a : Int) (ha : 1 ≤ a) (ha2 : a ≤ (p : Int) - 1) (c : Nat) (hc : c < p) : vals p a 2 0 c = 1 + chi p a * chi p c := by
  have hp := h.lo
  obtain ⟨an, rfl⟩ := Int.eq_ofNat_of_zero_le (show 0 ≤ a by omega)
  have hI := h.I an (by omega) (by omega)
  obtain ⟨b, hb⟩ : ∃ b, b = an ^ (p - 2) % p := ⟨_, rfl⟩
  rw [← hb] at hI
  have hI2 : ((an : Int) * (b : Int)) % (p : Int) = 1 := by rw [← Int.natCast_mul, ← Int.natCast_emod, hI]; rfl
  have hcy : ((b * c % p : Nat) : Int) = (b : Int) * (c : Int) % (p : Int) := by rw [Int.natCast_emod, Int.natCast_mul]
  have hy : b * c % p < p := Nat.mod_lt _ (by omega)
  have e1 : vals p an 2 0 c = vals p 1 2 0 (b * c % p) := by
    rw [vals_count _ _ _ _ _ hc, vals_count _ _ _ _ _ hy, List.drop_zero]
    congr 1
    refine List.countP_congr fun x hx => ?_
    obtain ⟨x0, x1⟩ := powL_mem p 2 (by omega) x hx
    simp only [beq_iff_eq, Int.one_mul]
    rw [Int.emod_eq_of_lt x0 x1, hcy]
    constructor
    · intro hh
      have : x % (p : Int) = (b : Int) * ((an : Int) * x % (p : Int)) % (p : Int) := by
        rw [mul_mod']
        rw [← Int.mul_assoc, Int.mul_comm (b : Int), ← mod_mul, hI2, Int.one_mul]
      rw [Int.emod_eq_of_lt x0 x1] at this
      rw [this, hh]
    · intro hh
      rw [hh, mul_mod', ← Int.mul_assoc, ← mod_mul, hI2, Int.one_mul]
      exact Int.emod_eq_of_lt (by omega) (by omega)
  rw [e1, h.V _ hy, hcy, chi_mod, chi_mul h]
  have : chi p b = chi p an := by
    have h1 : chi p ((an : Int) * (b : Int)) = 1 := by
      rw [← chi_mod, hI2]
      have := h.M 1 1 (by omega) (by omega)
      unfold chi
      rw [Int.emod_eq_of_lt (by omega) (by omega), if_neg (by omega), Int.one_pow, Int.emod_eq_of_lt (by omega) (by omega), if_pos rfl]
    rw [chi_mul h] at h1
    have b1 := chi_bd p an
    have b2 := chi_bd p b
    rcases (show chi p an = -1 ∨ chi p an = 0 ∨ chi p an = 1 by omega) with e | e | e <;> rw [e] at h1 ⊢ <;> omega
  rw [this]
end Go.Proofs.Ytmjfaagifijmlaa.Q
/-! The rule of quadrics gives the sums. -/
namespace Go.Proofs.Ytmjfaagifijmlaa.Q
open Go.RowKit Go.Proofs.Ytmjfaagifijmlaa.P Go.Proofs.YtmjfaagifijmlaaW.PrintWords Go.Proofs.YtmjfaagifijmlaaW.PrintLast
set_option linter.unusedVariables false
theorem back_zero {p c v : Nat} (hc : c < p) (hv : v < p) : back p c v = 0 ↔ v = c := by
  have h := back_iff (s := 0) hc hv (by omega)
  rw [Nat.zero_add, Nat.mod_eq_of_lt hv] at h
  constructor
  · intro e; exact h.mpr e.symm
  · intro e; exact (h.mp e).symm
/-- One square more, onto a sum of a constant, a character and a place. -/
theorem conv_abd {p : Nat} (h : Chk p) (A B D al : Int) (c : Nat) (hc : c < p) :
    conv p (fun c => A + B * chi p c + D * delta0 c) (fun c => 1 + al * chi p c) c =
      (A * p - al * B * chi p (-1) + D) + (D * al) * chi p c + (al * B * chi p (-1) * p) * delta0 c := by
  have hp := h.lo
  have e1 : conv p (fun c => A + B * chi p c + D * delta0 c) (fun c => 1 + al * chi p c) c =
      sumTo p (fun v => A) + B * sumTo p (fun v => chi p (back p c v : Nat)) + (al * A) * sumTo p (fun v => chi p v) + (al * B) * sumTo p (fun v => chi p v * chi p (back p c v : Nat)) + D * sumTo p (fun v => (1 + al * chi p v) * delta0 (back p c v)) := by
    rw [← sumTo_mul, ← sumTo_mul, ← sumTo_mul, ← sumTo_mul, ← sumTo_add, ← sumTo_add, ← sumTo_add, ← sumTo_add]
    refine sumTo_congr fun v hv => ?_
    grind
  have e2 : sumTo p (fun v => chi p (back p c v : Nat)) = 0 := by
    have h1 := conv_comm hc (fun v => chi p v) (fun _ => 1)
    unfold conv at h1
    simp only [Int.one_mul, Int.mul_one] at h1
    rw [h1, h.S]
  have e3 : sumTo p (fun v => (1 + al * chi p v) * delta0 (back p c v)) = 1 + al * chi p c := by
    rw [sumTo_one c (fun v hv hne => by unfold delta0; rw [if_neg (fun e => hne ((back_zero hc hv).mp e))]; omega), if_pos hc]
    unfold delta0
    rw [if_pos ((back_zero hc hc).mpr rfl), Int.mul_one]
  rw [e1, sumTo_const, e2, h.S, h.J c hc, e3]
  grind
theorem l08Square_val {p : Nat} (h : Chk p) (x : Int) (hx : -1000000000 ≤ x ∧ x ≤ 1000000000) (k : Nat) (hk : 2000 < k) : spec_l08Square.f k p x = some (chi p x) := by
  have hp := h.lo
  have hp2 := h.hi
  unfold spec_l08Square.f chi
  have hz : ¬ (p : Int) = 0 := by omega
  have e1 : Int.tmod (wrap64 (Int.tmod x p + p)) p = x % (p : Int) := by
    have h1 := Int.tmod_lt_of_pos x (show (0 : Int) < p by omega)
    have h2 : -(p : Int) < Int.tmod x p := by
      have := Int.lt_tmod_of_pos x (show (0 : Int) < p by omega)
      omega
    rw [w64 (by omega) (by omega), Int.tmod_eq_emod_of_nonneg (by omega), Int.add_emod_right, Int.tmod_eq_emod]
    split
    · simp
    · rw [Int.natAbs_natCast, Int.sub_emod_right, Int.emod_emod]
  rw [if_neg hz, e1]
  by_cases h0 : x % (p : Int) = 0
  · rw [if_pos h0, if_pos h0]
  · rw [if_neg h0, if_neg h0]
    have e2 : wrap64 (Int.tdiv (wrap64 ((p : Int) - 1)) 2) = (((p - 1) / 2 : Nat) : Int) := by
      rw [w64 (n := (p : Int) - 1) (by omega) (by omega), Int.tdiv_eq_ediv_of_nonneg (by omega), w64 (by omega) (by omega)]
      omega
    rw [e2, l08Power_val k p _ ((p - 1) / 2) (by omega) (by omega) (Int.emod_nonneg _ hz) (Int.emod_lt_of_pos _ (by omega)) (by omega) (by omega)]
    simp only [Option.bind_some]
    split <;> rfl
/-- One square more. -/
theorem stage_abd {p : Nat} (h : Chk p) (A B D : Int) (f : Nat → Int) (hf : ∀ c, c < p → f c = A + B * chi p c + D * delta0 c) (a : Int) (ha : okF p a = true) (c : Nat) (hc : c < p) :
    stage p 0 f (a, 2) c = (A * p - chi p a * B * chi p (-1) + D) + (D * chi p a) * chi p c + (chi p a * B * chi p (-1) * p) * delta0 c := by
  simp only [okF, decide_eq_true_eq] at ha
  rw [← conv_abd h A B D (chi p a) c hc]
  exact conv_congr hf (fun i hi => vals_chi h a ha.1 ha.2 i hi) c
theorem chi_zero_one {p : Nat} (h : Chk p) : chi p 1 = 1 := by
  have hp := h.lo
  unfold chi
  rw [Int.emod_eq_of_lt (by omega) (by omega), if_neg (by omega), Int.one_pow, Int.emod_eq_of_lt (by omega) (by omega), if_pos rfl]
theorem delta_cast (b : Nat) : delta0 b = if (b : Int) = 0 then 1 else 0 := by
  unfold delta0
  by_cases h : b = 0
  · subst h; rfl
  · rw [if_neg h, if_neg (by omega)]
theorem quad_val {p : Nat} (h : Chk p) (fs : List Int) (hl0 : 1 ≤ fs.length) (hl : fs.length ≤ 4) (hfs : fs.all (okF p) = true) (b : Nat) (hb : b < p) (k : Nat) (hk : 2000 < k) :
    quadRest k p fs b = some (stages p 0 (fs.zip (List.replicate fs.length 2)) delta0 b, 0) := by
  have hp := h.lo
  have hp2 := h.hi
  have hpm := prodMod_bd p (by omega) fs
  have hS : ∀ s : Int, -1 ≤ s → s ≤ 1 → ∀ y : Int, 0 ≤ y → y ≤ 61 → -1000000000 ≤ s * prodMod p fs * y ∧ s * prodMod p fs * y ≤ 1000000000 := by
    intro s s0 s1 y y0 y1
    have q0 : 0 ≤ prodMod p fs * y := Int.mul_nonneg hpm.1 y0
    have q1 : prodMod p fs * y ≤ 61 * 61 := Int.mul_le_mul (by omega) y1 y0 (by omega)
    rcases (show s = -1 ∨ s = 0 ∨ s = 1 by omega) with rfl | rfl | rfl
    · rw [Int.mul_assoc]; omega
    · simp
    · rw [Int.mul_assoc]; omega
  have hd0 : ∀ c, c < p → delta0 c = 0 + 0 * chi p c + 1 * delta0 c := fun c hc => by omega
  have hE := h.E
  have hone := chi_zero_one h
  have hsg : signOf fs.length = 1 ∨ signOf fs.length = -1 := by unfold signOf; split <;> simp
  have hlow : -1 ≤ signOf fs.length ∧ signOf fs.length ≤ 1 := by omega
  unfold quadRest
  rw [l08Square_val h (signOf fs.length * prodMod p fs * b) (hS _ hlow.1 hlow.2 b (by omega) (by omega)) k hk,
    l08Square_val h (signOf fs.length * prodMod p fs) (by have := hS _ hlow.1 hlow.2 1 (by omega) (by omega); simpa using this) k hk]
  simp only [Option.bind_some]
  rw [if_pos (chi_bd p _), if_pos (chi_bd p _)]
  have hdc := delta_cast b
  match fs, hl0, hl, hfs with
  | [a1], _, _, hfs =>
    simp only [List.all_cons, List.all_nil, Bool.and_true] at hfs
    have f1 := stage_abd h 0 0 1 delta0 hd0 a1 hfs b hb
    have hst : stages p 0 ([a1].zip (List.replicate [a1].length 2)) delta0 b = stage p 0 delta0 (a1, 2) b := rfl
    have hpr : chi p (prodMod p [a1]) = chi p a1 := by simp [prodMod, chi_mod]
    rw [hst, f1, chi_mul h, chi_mul h, hpr]
    simp [signOf, hone]
  | [a1, a2], _, _, hfs =>
    simp only [List.all_cons, List.all_nil, Bool.and_true, Bool.and_eq_true] at hfs
    have f1 := fun c hc => stage_abd h 0 0 1 delta0 hd0 a1 hfs.1 c hc
    have f2 := stage_abd h _ _ _ _ f1 a2 hfs.2 b hb
    have hst : stages p 0 ([a1, a2].zip (List.replicate [a1, a2].length 2)) delta0 b = stage p 0 (stage p 0 delta0 (a1, 2)) (a2, 2) b := rfl
    have hpr : chi p (prodMod p [a1, a2]) = chi p a1 * chi p a2 := by simp [prodMod, chi_mod, chi_mul h]
    rw [hst, f2, if_neg (by simp), show signOf [a1, a2].length = -1 by simp [signOf], chi_mul h (-1), hpr, hdc]
    clear f1 f2 hst hS hd0 hsg hlow hpm hfs hpr hdc
    generalize chi p a1 = x1 at *
    generalize chi p a2 = x2 at *
    generalize chi p (-1) = e at *
    generalize chi p (b : Int) = y at *
    have e1 : (p : Int) ^ ([a1, a2].length - 1) = p := by simp [Int.pow_succ]
    have e2 : (p : Int) ^ ([a1, a2].length / 2 - 1) = 1 := by simp
    rw [e1, e2]
    congr 2
    by_cases hb0 : (b : Int) = 0
    · rw [if_pos hb0, if_pos hb0]; grind
    · rw [if_neg hb0, if_neg hb0]; grind
  | [a1, a2, a3], _, _, hfs =>
    simp only [List.all_cons, List.all_nil, Bool.and_true, Bool.and_eq_true] at hfs
    have f1 := fun c hc => stage_abd h 0 0 1 delta0 hd0 a1 hfs.1 c hc
    have f2 := fun c hc => stage_abd h _ _ _ _ f1 a2 hfs.2.1 c hc
    have f3 := stage_abd h _ _ _ _ f2 a3 hfs.2.2 b hb
    have hst : stages p 0 ([a1, a2, a3].zip (List.replicate [a1, a2, a3].length 2)) delta0 b = stage p 0 (stage p 0 (stage p 0 delta0 (a1, 2)) (a2, 2)) (a3, 2) b := rfl
    have hpr : chi p (prodMod p [a1, a2, a3]) = chi p a1 * chi p a2 * chi p a3 := by simp [prodMod, chi_mod, chi_mul h]
    rw [hst, f3, chi_mul h, chi_mul h, hpr]
    simp [signOf, Int.pow_succ]
    grind
  | [a1, a2, a3, a4], _, _, hfs =>
    simp only [List.all_cons, List.all_nil, Bool.and_true, Bool.and_eq_true] at hfs
    have f1 := fun c hc => stage_abd h 0 0 1 delta0 hd0 a1 hfs.1 c hc
    have f2 := fun c hc => stage_abd h _ _ _ _ f1 a2 hfs.2.1 c hc
    have f3 := fun c hc => stage_abd h _ _ _ _ f2 a3 hfs.2.2.1 c hc
    have f4 := stage_abd h _ _ _ _ f3 a4 hfs.2.2.2 b hb
    have hst : stages p 0 ([a1, a2, a3, a4].zip (List.replicate [a1, a2, a3, a4].length 2)) delta0 b = stage p 0 (stage p 0 (stage p 0 (stage p 0 delta0 (a1, 2)) (a2, 2)) (a3, 2)) (a4, 2) b := rfl
    have hpr : chi p (prodMod p [a1, a2, a3, a4]) = chi p a1 * chi p a2 * chi p a3 * chi p a4 := by simp [prodMod, chi_mod, chi_mul h]
    rw [hst, f4, if_neg (by simp), show signOf [a1, a2, a3, a4].length = 1 by simp [signOf], Int.one_mul, hpr, hdc]
    clear f1 f2 f3 f4 hst hS hd0 hsg hlow hpm hfs hpr hdc
    generalize chi p a1 = x1 at *
    generalize chi p a2 = x2 at *
    generalize chi p a3 = x3 at *
    generalize chi p a4 = x4 at *
    generalize chi p (-1) = e at *
    generalize chi p (b : Int) = y at *
    have e1 : (p : Int) ^ ([a1, a2, a3, a4].length - 1) = p * p * p := by simp [Int.pow_succ]
    have e2 : (p : Int) ^ ([a1, a2, a3, a4].length / 2 - 1) = p := by simp [Int.pow_succ]
    rw [e1, e2]
    congr 2
    by_cases hb0 : (b : Int) = 0
    · rw [if_pos hb0, if_pos hb0]; grind
    · rw [if_neg hb0, if_neg hb0]; grind
end Go.Proofs.Ytmjfaagifijmlaa.Q
/-! The different powers, and counted values, are the reference's. -/
namespace Go.Proofs.Ytmjfaagifijmlaa.Q
open Go.RowKit Go.Proofs.Ytmjfaagifijmlaa.P Go.Proofs.YtmjfaagifijmlaaW.PrintWords Go.Proofs.YtmjfaagifijmlaaW.PrintLast
set_option linter.unusedVariables false
/-- Two strictly ascending lists with the same members are one. -/
theorem asc_ext : ∀ (l m : List Int), l.Pairwise (· < ·) → m.Pairwise (· < ·) → (∀ x, x ∈ l ↔ x ∈ m) → l = m
  | [], [], _, _, _ => rfl
  | [], b :: m, _, _, h => absurd ((h b).mpr List.mem_cons_self) (by simp)
  | a :: l, [], _, _, h => absurd ((h a).mp List.mem_cons_self) (by simp)
  | a :: l, b :: m, hl, hm, h => by
    rw [List.pairwise_cons] at hl hm
    have hab : a = b := by
      rcases List.mem_cons.mp ((h a).mp List.mem_cons_self) with e | e
      · exact e
      · rcases List.mem_cons.mp ((h b).mpr List.mem_cons_self) with e2 | e2
        · exact e2.symm
        · have h1 := hm.1 a e; have h2 := hl.1 b e2; omega
    subst hab
    congr 1
    refine asc_ext l m hl.2 hm.2 fun x => ?_
    constructor
    · intro hx
      rcases List.mem_cons.mp ((h x).mp (List.mem_cons_of_mem _ hx)) with e | e
      · have := hl.1 x hx; omega
      · exact e
    · intro hx
      rcases List.mem_cons.mp ((h x).mpr (List.mem_cons_of_mem _ hx)) with e | e
      · have := hm.1 x hx; omega
      · exact e
/-- A sorted list, each number once: strictly ascending, the same members. -/
theorem compact_asc (d : Array Int) (hs : ∀ i j, i ≤ j → j < d.size → d[i]! ≤ d[j]!) : (Go.Lib.compactUpTo d d.size).Pairwise (· < ·) := by
  unfold Go.Lib.compactUpTo
  rw [List.pairwise_map]
  have h : ((List.range d.size).filter (Go.Lib.keeps d)).Pairwise (· < ·) := List.Pairwise.filter _ List.pairwise_lt_range
  refine List.Pairwise.imp_of_mem (fun {i j} hi hj hij => ?_) h
  rw [List.mem_filter, List.mem_range] at hi hj
  have hk := hj.2
  simp only [Go.Lib.keeps, decide_eq_true_eq] at hk
  have h1 := hs i (j - 1) (by omega) (by omega)
  have h2 := hs (j - 1) j (by omega) hj.1
  have h3 : d[j]! ≠ d[j - 1]! := by
    rcases hk with h | h
    · omega
    · exact h
  omega
theorem compact_mem (d : Array Int) (x : Int) : x ∈ Go.Lib.compactUpTo d d.size ↔ x ∈ d := by
  unfold Go.Lib.compactUpTo
  rw [List.mem_map]
  constructor
  · rintro ⟨i, hi, rfl⟩
    rw [List.mem_filter, List.mem_range] at hi
    rw [getElem!_pos d i hi.1]
    exact Array.getElem_mem hi.1
  · intro hx
    obtain ⟨j, hj, hjx⟩ := Array.getElem_of_mem hx
    -- the least place that holds x
    have : ∀ j, j < d.size → d[j]! = x → ∃ i, i < d.size ∧ d[i]! = x ∧ Go.Lib.keeps d i = true := by
      intro j
      induction j with
      | zero => intro hj hjx; exact ⟨0, hj, hjx, by simp [Go.Lib.keeps]⟩
      | succ j ih =>
        intro hj hjx
        by_cases hk : d[j]! = x
        · exact ih (by omega) hk
        · exact ⟨j + 1, hj, hjx, by simp only [Go.Lib.keeps, decide_eq_true_eq]; right; rw [hjx]; exact fun e => hk e.symm⟩
    obtain ⟨i, hi, hix, hk⟩ := this j hj (by rw [getElem!_pos d j hj]; exact hjx)
    exact ⟨i, by rw [List.mem_filter, List.mem_range]; exact ⟨hi, hk⟩, hix⟩
theorem sortedOnce_asc (l : List Int) : (sortedOnce l).Pairwise (· < ·) := by
  unfold sortedOnce
  refine compact_asc _ fun i j hij hj => ?_
  have hp : (l.mergeSort fun x y => decide (x ≤ y)).Pairwise (fun x y => decide (x ≤ y) = true) := List.pairwise_mergeSort (fun a b c h1 h2 => by simp at *; omega) (fun a b => by simp; omega) l
  have hj' : j < (l.mergeSort fun x y => decide (x ≤ y)).length := by simpa using hj
  rw [getElem!_pos _ i (by omega), getElem!_pos _ j hj]
  rcases Nat.lt_or_ge i j with h | h
  · have := List.pairwise_iff_getElem.mp hp i j (by omega) hj' h
    simpa using this
  · obtain rfl : i = j := by omega
    exact Int.le_refl _
theorem sortedOnce_mem (l : List Int) (x : Int) : x ∈ sortedOnce l ↔ x ∈ l := by
  unfold sortedOnce
  rw [compact_mem]
  simp [List.mem_mergeSort]
/-- All the residues that are powers, ascending. -/
def resid (p e : Nat) : List Int := ((List.range p).filter fun c => decide (0 < vals p 1 e 0 c)).map fun (c : Nat) => (c : Int)
theorem resid_asc (p e : Nat) : (resid p e).Pairwise (· < ·) := by
  unfold resid
  rw [List.pairwise_map]
  refine List.Pairwise.imp (fun h => by omega) (List.Pairwise.filter _ List.pairwise_lt_range)
theorem resid_mem (p e : Nat) (hp : 0 < p) (x : Int) : x ∈ resid p e ↔ x ∈ powL p e := by
  unfold resid
  rw [List.mem_map]
  constructor
  · rintro ⟨c, hc, rfl⟩
    rw [List.mem_filter, List.mem_range] at hc
    have h := hc.2
    rw [vals_count _ _ _ _ _ hc.1, List.drop_zero] at h
    simp only [decide_eq_true_eq] at h
    have h2 : 0 < (powL p e).countP fun x => 1 * x % (p : Int) == (c : Int) := by omega
    rw [List.countP_pos_iff] at h2
    obtain ⟨y, hy, hyc⟩ := h2
    obtain ⟨y0, y1⟩ := powL_mem p e hp y hy
    simp only [beq_iff_eq, Int.one_mul] at hyc
    rw [Int.emod_eq_of_lt y0 y1] at hyc
    rw [← hyc]
    exact hy
  · intro hx
    obtain ⟨x0, x1⟩ := powL_mem p e hp x hx
    refine ⟨x.toNat, ?_, by omega⟩
    rw [List.mem_filter, List.mem_range]
    refine ⟨by omega, ?_⟩
    rw [vals_count _ _ _ _ _ (by omega), List.drop_zero]
    have h2 : 0 < (powL p e).countP fun y => 1 * y % (p : Int) == ((x.toNat : Nat) : Int) := by
      rw [List.countP_pos_iff]
      refine ⟨x, hx, ?_⟩
      simp only [beq_iff_eq, Int.one_mul]
      rw [Int.emod_eq_of_lt x0 x1]
      omega
    simp only [decide_eq_true_eq]
    omega
theorem sortedOnce_resid (p e : Nat) (hp : 0 < p) : sortedOnce (powL p e) = resid p e :=
  asc_ext _ _ (sortedOnce_asc _) (resid_asc _ _) fun x => by rw [sortedOnce_mem, resid_mem p e hp]
end Go.Proofs.Ytmjfaagifijmlaa.Q
/-! The plain side of the chapter's functions: both sides answer the same. -/
namespace Go.Proofs.Ytmjfaagifijmlaa.Q
open Go.RowKit Go.Proofs.Ytmjfaagifijmlaa.P Go.Proofs.YtmjfaagifijmlaaW.PrintWords Go.Proofs.YtmjfaagifijmlaaW.PrintLast
structure Arg (p : Int) (fs es : List Int) (b : Int) : Prop where
  p0 : 2 ≤ p
  p1 : p ≤ 67
  f1 : fs.length ≤ 5
  e1 : es.length ≤ 5
  b0 : 0 ≤ b
  b1 : b ≤ 1000
def due (fr : Nat) (p : Int) (fs es : List Int) (b : Int) : Int × Int :=
  if validEq p fs es b then (stages p.toNat fr (fs.zip es) delta0 b.toNat, 0) else (0, 2)
structure Val (p : Int) (fs es : List Int) (b : Int) : Prop where
  pr : isPr p = true
  ex : es.all okE = true
  l0 : 1 ≤ fs.length
  l1 : fs.length ≤ 4
  le : fs.length = es.length
  b0 : 0 ≤ b
  b1 : b ≤ p - 1
  fa : fs.all (okF p) = true
theorem val_of {p : Int} {fs es : List Int} {b : Int} (h : validEq p fs es b = true) : Val p fs es b := by
  simp only [validEq, Bool.and_eq_true, decide_eq_true_eq] at h
  obtain ⟨⟨⟨⟨⟨a, b⟩, c⟩, d⟩, e⟩, f⟩ := h
  exact ⟨a, b, c.1, c.2, d, e.1, e.2, f⟩
theorem Val.valid {p : Int} {fs es : List Int} {b : Int} (h : Val p fs es b) : validEq p fs es b = true := by
  simp only [validEq, Bool.and_eq_true, decide_eq_true_eq]
  exact ⟨⟨⟨⟨⟨h.pr, h.ex⟩, h.l0, h.l1⟩, h.le⟩, h.b0, h.b1⟩, h.fa⟩
theorem isEq_ev {p : Int} {fs es : List Int} {b : Int} (A : Arg p fs es b) : Ev (fun k => impl_isEquation.f k p fs es b) (validEq p fs es b) :=
  ⟨2001, fun k hk => isEquation_val k p fs es b A.p0 A.p1 (by have := A.b0; omega) (by have := A.b1; omega) (by have := A.f1; omega) (by have := A.e1; omega) (by omega)⟩
theorem given_ev {p : Int} {fs es : List Int} {b : Int} (A : Arg p fs es b) : Ev (fun k => spec_l08Given.f k p fs es b) (if validEq p fs es b then 0 else 2) :=
  ⟨3001, fun k hk => l08Given_val k p fs es b A.p0 A.p1 (by have := A.f1; omega) (by have := A.e1; omega) (by omega)⟩
theorem sol_ev {p : Int} {fs es : List Int} {b : Int} (V : Val p fs es b) (fr : Nat) (hfr : fr ≤ 1) : Ev (fun k => impl_solutions.f k p fs es b fr) (stages p.toNat fr (fs.zip es) delta0 b.toNat) := by
  have hp := isPr_bd V.pr
  have b0 := V.b0
  have b1 := V.b1
  have e := solutions_val p.toNat (by omega) (by omega) es fs b.toNat (by omega) fr hfr V.le V.l1 (by rw [show ((p.toNat : Nat) : Int) = p by omega]; exact V.fa) V.ex
  rw [show ((p.toNat : Nat) : Int) = p by omega, show ((b.toNat : Nat) : Int) = b by omega] at e
  exact e
theorem cnt_ev {p : Int} {fs es : List Int} {b : Int} (V : Val p fs es b) (full : Bool) : Ev (fun k => spec_l08Count.f k p fs es b full) (stages p.toNat (if full then 1 else 0) (fs.zip es) delta0 b.toNat) := by
  have hp := isPr_bd V.pr
  have b0 := V.b0
  have b1 := V.b1
  have e := l08Count_val p.toNat (by omega) (by omega) es fs b.toNat (by omega) full V.le V.l1 (by rw [show ((p.toNat : Nat) : Int) = p by omega]; exact V.fa) V.ex
  rw [show ((p.toNat : Nat) : Int) = p by omega, show ((b.toNat : Nat) : Int) = b by omega] at e
  exact e
theorem iSol {p : Int} {fs es : List Int} {b : Int} (A : Arg p fs es b) : Ev (fun k => impl_CountSolutions.f k p fs es b) (due 0 p fs es b) := by
  unfold due impl_CountSolutions.f
  refine Ev.bind (isEq_ev A) ?_
  by_cases v : validEq p fs es b = true
  · simp only [if_pos v]
    exact Ev.bind (sol_ev (val_of v) 0 (by omega)) (Ev.now _)
  · simp only [if_neg v]
    exact Ev.now _
theorem iFull {p : Int} {fs es : List Int} {b : Int} (A : Arg p fs es b) : Ev (fun k => impl_CountFull.f k p fs es b) (due 1 p fs es b) := by
  unfold due impl_CountFull.f
  refine Ev.bind (isEq_ev A) ?_
  by_cases v : validEq p fs es b = true
  · simp only [if_pos v]
    exact Ev.bind (sol_ev (val_of v) 1 (by omega)) (Ev.now _)
  · simp only [if_neg v]
    exact Ev.now _
theorem sSol {p : Int} {fs es : List Int} {b : Int} (A : Arg p fs es b) : Ev (fun k => spec_CountSolutions.f k p fs es b) (due 0 p fs es b) := by
  unfold due spec_CountSolutions.f
  refine Ev.bind (given_ev A) ?_
  by_cases v : validEq p fs es b = true
  · simp only [if_pos v]
    exact Ev.bind (cnt_ev (val_of v) false) (Ev.now _)
  · simp only [if_neg v]
    exact Ev.now _
theorem sFull {p : Int} {fs es : List Int} {b : Int} (A : Arg p fs es b) : Ev (fun k => spec_CountFull.f k p fs es b) (due 1 p fs es b) := by
  unfold due spec_CountFull.f
  refine Ev.bind (given_ev A) ?_
  by_cases v : validEq p fs es b = true
  · simp only [if_pos v]
    exact Ev.bind (cnt_ev (val_of v) true) (Ev.now _)
  · simp only [if_neg v]
    exact Ev.now _
/-! Quadrics. -/
theorem quad_arg {p : Int} {fs es : List Int} {b : Int} (A : Arg p fs es b) : Arg p fs (List.replicate fs.length 2) b :=
  ⟨A.p0, A.p1, A.f1, by simpa using A.f1, A.b0, A.b1⟩
theorem iQuad {p : Int} {fs es : List Int} {b : Int} (A : Arg p fs es b) : Ev (fun k => impl_QuadricNumber.f k p fs b) (due 0 p fs (List.replicate fs.length 2) b) := by
  have hf := A.f1
  unfold impl_QuadricNumber.f slices_Repeat_int64_int64.f
  rw [if_pos ⟨rfl, by omega, by omega⟩]
  simp only [Option.bind_some]
  exact Ev.bind (iSol (quad_arg A)) (Ev.now _)
theorem sQuad {p : Int} {fs es : List Int} {b : Int} (A : Arg p fs es b) : Ev (fun k => spec_QuadricNumber.f k p fs b) (due 0 p fs (List.replicate fs.length 2) b) := by
  have hf := A.f1
  unfold due spec_QuadricNumber.f
  simp only [if_pos (show fs.length ≤ 1000000 by omega), Nat.min_eq_left hf]
  refine Ev.bind (given_ev (quad_arg A)) ?_
  by_cases v : validEq p fs (List.replicate fs.length 2) b = true
  · simp only [if_pos v]
    have V := val_of v
    have hp := isPr_bd V.pr
    have b0 := V.b0
    have b1 := V.b1
    have hfa := V.fa
    have hq : QuadOk p fs b := ⟨V.l0, V.l1, by omega, by omega, b0, by omega, fun x hx => by
      have := List.all_eq_true.1 hfa x hx
      simp [okF] at this
      omega⟩
    obtain ⟨hn, he⟩ := isPr_nat V.pr
    simp only [if_pos hq]
    have e := fun k => quad_val (chk_of hn) fs V.l0 V.l1 (by rw [he]; exact hfa) b.toNat (by omega) k
    rw [he, show ((b.toNat : Nat) : Int) = b by omega] at e
    exact ⟨2001, fun k hk => e k (by omega)⟩
  · simp only [if_neg v]
    exact Ev.now _
/-! Values. -/
def dueVals (p a e : Int) : List Int × Int := if isPr p && okF p a && okE e then (tab p.toNat (vals p.toNat a e.toNat 0), 0) else ([], 2)
theorem iVals {p a e : Int} (h0 : 2 ≤ p) (h1 : p ≤ 67) : Ev (fun k => impl_ValueCounts.f k p a e) (dueVals p a e) := by
  unfold dueVals impl_ValueCounts.f
  refine Ev.bind ⟨101, fun k hk => isPrime_val p h0 h1 k (by omega)⟩ ?_
  cases c1 : isPr p
  · exact Ev.now _
  simp only [if_true]
  rw [within_val, w64 (n := p - 1) (by omega) (by omega)]
  simp only [Option.bind_some]
  have hp := isPr_bd c1
  by_cases c2 : 1 ≤ a ∧ a ≤ p - 1
  · have c2' : okF p a = true := by simp [okF, c2]
    simp only [isExponent_val, Option.bind_some, c2, c2', decide_true, and_self, if_true, Bool.true_and]
    by_cases c3 : okE e = true
    · simp only [c3, if_true]
      have he : 1 ≤ e ∧ e ≤ 60 := by simpa [okE] using c3
      refine Ev.bind (a := tab p.toNat (vals p.toNat a e.toNat 0)) ⟨3001, fun k hk => ?_⟩ (Ev.now _)
      have hv := valueCounts_val k p.toNat e.toNat 0 a (by omega) (by omega) (by omega) (by omega) (by omega) (by omega) (by omega)
      rw [show ((p.toNat : Nat) : Int) = p by omega, show ((e.toNat : Nat) : Int) = e by omega] at hv
      exact hv
    · simp only [c3]
      exact Ev.now _
  · have c2' : okF p a = false := by simp only [okF, decide_eq_false_iff_not]; exact c2
    simp only [c2, c2', decide_false, Bool.and_false, Bool.false_and]
    exact Ev.now _
theorem sVals {p a e : Int} (h0 : 2 ≤ p) (h1 : p ≤ 67) : Ev (fun k => spec_ValueCounts.f k p a e) (dueVals p a e) := by
  unfold dueVals spec_ValueCounts.f
  refine Ev.bind ⟨2001, fun k hk => l08Code_val k p [e] h0 h1 (by simp) (by omega)⟩ ?_
  have h2 : ¬ (2 : Int) = 0 := by omega
  cases c1 : isPr p
  · simp only [Bool.false_and, Bool.false_eq_true, if_false, h2]
    refine Ev.step (fun k => by simp only [spec_ValueCounts.j0]; rfl) ?_
    simp only [Bool.false_eq_true, if_false, h2]
    exact Ev.now _
  have hp := isPr_bd c1
  simp only [List.all_cons, List.all_nil, Bool.and_true, Bool.true_and]
  by_cases c3 : okE e = true
  · simp only [c3, if_true, Bool.and_true]
    rw [in_val, w64 (n := p - 1) (by omega) (by omega)]
    simp only [Option.bind_some]
    refine Ev.step (fun k => by simp only [spec_ValueCounts.j0]; rfl) ?_
    by_cases c2 : 1 ≤ a ∧ a ≤ p - 1
    · have c2' : okF p a = true := by simp [okF, c2]
      have he : 1 ≤ e ∧ e ≤ 60 := by simpa [okE] using c3
      simp only [c2, c2', and_self, decide_true, Bool.not_true, Bool.false_eq_true, if_false, if_true]
      refine Ev.bind (a := tab p.toNat (vals p.toNat a e.toNat 0)) ⟨3001, fun k hk => ?_⟩ (Ev.now _)
      have hv := l08Values_val k p.toNat e.toNat a (by omega) (by omega) (by omega) (by omega) (by omega) (by omega)
      rw [show ((p.toNat : Nat) : Int) = p by omega, show ((e.toNat : Nat) : Int) = e by omega] at hv
      exact hv
    · have c2' : okF p a = false := by simp only [okF, decide_eq_false_iff_not]; exact c2
      simp only [c2, c2', decide_false, Bool.not_false, if_true, Bool.false_eq_true, if_false]
      exact Ev.now _
  · simp only [c3, Bool.and_false, Bool.false_eq_true, if_false, h2]
    refine Ev.step (fun k => by simp only [spec_ValueCounts.j0]; rfl) ?_
    simp only [Bool.false_eq_true, if_false, h2]
    exact Ev.now _
/-! Powers. -/
def duePow (p e : Int) : List Int × Int := if isPr p && okE e then (resid p.toNat e.toNat, 0) else ([], 2)
theorem iPow {p e : Int} (h0 : 2 ≤ p) (h1 : p ≤ 67) : Ev (fun k => impl_PowersOf.f k p e) (duePow p e) := by
  unfold duePow impl_PowersOf.f
  refine Ev.bind ⟨101, fun k hk => isPrime_val p h0 h1 k (by omega)⟩ ?_
  cases c1 : isPr p
  · exact Ev.now _
  have hp := isPr_bd c1
  simp only [isExponent_val, Option.bind_some, if_true, Bool.true_and]
  by_cases c3 : okE e = true
  · simp only [c3, if_true]
    have he : 1 ≤ e ∧ e ≤ 60 := by simpa [okE] using c3
    refine Ev.bind (a := resid p.toNat e.toNat) ⟨3001, fun k hk => ?_⟩ (Ev.now _)
    have hv := powersOf_val k p.toNat e.toNat (by omega) (by omega) (by omega) (by omega)
    rw [show ((p.toNat : Nat) : Int) = p by omega, show ((e.toNat : Nat) : Int) = e by omega] at hv
    unfold impl_differentPowers.f
    dsimp only
    rw [hv]
    simp only [Option.bind_some]
    rw [if_pos (by rw [powL_length]; omega), sortedOnce_resid _ _ (by omega)]
  · simp only [c3]
    exact Ev.now _
def residTo (p e i : Nat) : List Int := ((List.range i).filter fun c => decide (0 < vals p 1 e 0 c)).map fun (c : Nat) => (c : Int)
theorem residTo_len (p e i : Nat) : (residTo p e i).length ≤ i := by
  unfold residTo
  rw [List.length_map]
  exact Nat.le_trans (List.length_filter_le _ _) (by simp)
theorem residTo_succ (p e i : Nat) : residTo p e (i + 1) = if 0 < vals p 1 e 0 i then residTo p e i ++ [(i : Int)] else residTo p e i := by
  unfold residTo
  rw [List.range_succ, List.filter_append, List.map_append]
  by_cases h : 0 < vals p 1 e 0 i <;> simp [h]
theorem sPow_loop (p e : Nat) (hp : 2 ≤ p) (hp2 : p ≤ 1000) : ∀ (d i k : Nat), i + d = p → d < k →
    spec_PowersOf.l0 k p (tab p (vals p 1 e 0)) (residTo p e i) i = some (resid p e, 0) := by
  intro d
  induction d with
  | zero =>
    intro i k hi hk
    obtain ⟨k, rfl⟩ : ∃ j, k = j + 1 := ⟨k - 1, by omega⟩
    obtain rfl : i = p := by omega
    simp only [spec_PowersOf.l0]
    rw [if_neg (by omega)]
    rfl
  | succ d ih =>
    intro i k hi hk
    obtain ⟨k, rfl⟩ : ∃ j, k = j + 1 := ⟨k - 1, by omega⟩
    have hl := residTo_len p e i
    have h := ih (i + 1) k (by omega) (by omega)
    rw [show (((i + 1 : Nat)) : Int) = (i : Int) + 1 by omega, residTo_succ] at h
    simp only [spec_PowersOf.l0]
    rw [if_pos (by omega), if_pos (by omega), if_pos (by rw [tab_length]; omega), tab_rd p _ i (by omega), w64 (n := (i : Int) + 1) (by omega) (by omega)]
    by_cases c : 0 < vals p 1 e 0 i
    · rw [if_pos c] at h
      rw [if_pos c, if_pos (by omega)]
      exact h
    · rw [if_neg c] at h
      rw [if_neg c]
      exact h
theorem sPow {p e : Int} (h0 : 2 ≤ p) (h1 : p ≤ 67) : Ev (fun k => spec_PowersOf.f k p e) (duePow p e) := by
  unfold duePow spec_PowersOf.f
  refine Ev.bind ⟨2001, fun k hk => l08Code_val k p [e] h0 h1 (by simp) (by omega)⟩ ?_
  have h2 : ¬ (2 : Int) = 0 := by omega
  cases c1 : isPr p
  · simp only [Bool.false_and, Bool.false_eq_true, if_false, h2]
    exact Ev.now _
  have hp := isPr_bd c1
  simp only [List.all_cons, List.all_nil, Bool.and_true, Bool.true_and]
  by_cases c3 : okE e = true
  · simp only [c3, if_true]
    have he : 1 ≤ e ∧ e ≤ 60 := by simpa [okE] using c3
    refine Ev.bind (a := tab p.toNat (vals p.toNat 1 e.toNat 0)) ⟨3001, fun k hk => ?_⟩ ⟨3001, fun k hk => ?_⟩
    · have hv := l08Values_val k p.toNat e.toNat 1 (by omega) (by omega) (by omega) (by omega) (by omega) (by omega)
      rw [show ((p.toNat : Nat) : Int) = p by omega, show ((e.toNat : Nat) : Int) = e by omega] at hv
      exact hv
    · have h := sPow_loop p.toNat e.toNat (by omega) (by omega) p.toNat 0 k (by omega) (by omega)
      rw [show ((p.toNat : Nat) : Int) = p by omega] at h
      exact h
  · simp only [c3, Bool.false_eq_true, if_false, h2]
    exact Ev.now _
/-! Lists that are alike, and sums. -/
theorem like_loop (l : List Int) (hl : l.length ≤ 1000000) : ∀ (d i k : Nat), i + d = l.length → d < k → laws_likeInts.l0 k l l i = some true := by
  intro d
  induction d with
  | zero =>
    intro i k hi hk
    obtain ⟨k, rfl⟩ : ∃ j, k = j + 1 := ⟨k - 1, by omega⟩
    simp only [laws_likeInts.l0]
    rw [if_neg (by omega)]
  | succ d ih =>
    intro i k hi hk
    obtain ⟨k, rfl⟩ : ∃ j, k = j + 1 := ⟨k - 1, by omega⟩
    simp only [laws_likeInts.l0]
    rw [if_pos (by omega), if_pos (by omega), if_pos (by omega), if_pos trivial, w64 (n := (i : Int) + 1) (by omega) (by omega)]
    have h := ih (i + 1) k (by omega) (by omega)
    rw [show (((i + 1 : Nat)) : Int) = (i : Int) + 1 by omega] at h
    exact h
theorem like_ev (l : List Int) (hl : l.length ≤ 1000000) : Ev (fun k => laws_likeInts.f k l l) true :=
  ⟨l.length + 1, fun k hk => by
    unfold laws_likeInts.f
    dsimp only
    rw [if_pos rfl]
    exact like_loop l hl l.length 0 k (by omega) (by omega)⟩
theorem sum_loop (p : Nat) (hp : p ≤ 1000) (F : Nat → Int) (hF : ∀ c, c < p → 0 ≤ F c ∧ F c ≤ 1000) : ∀ (d i k : Nat), i + d = p → d < k → laws_sum.l0 k (tab p F) (sumTo i F) i = some (sumTo p F) := by
  intro d
  induction d with
  | zero =>
    intro i k hi hk
    obtain ⟨k, rfl⟩ : ∃ j, k = j + 1 := ⟨k - 1, by omega⟩
    obtain rfl : i = p := by omega
    simp only [laws_sum.l0]
    rw [if_neg (by rw [tab_length]; omega)]
  | succ d ih =>
    intro i k hi hk
    obtain ⟨k, rfl⟩ : ∃ j, k = j + 1 := ⟨k - 1, by omega⟩
    have h := ih (i + 1) k (by omega) (by omega)
    rw [show (((i + 1 : Nat)) : Int) = (i : Int) + 1 by omega] at h
    have hb0 : 0 ≤ sumTo i F := sumTo_nonneg fun j hj => (hF j (by omega)).1
    have hb1 : sumTo i F ≤ i * 1000 := by
      have := sumTo_le (n := i) (f := F) (g := fun _ => 1000) fun j hj => (hF j (by omega)).2
      rwa [sumTo_const] at this
    have hi := hF i (by omega)
    simp only [sumTo] at h
    simp only [laws_sum.l0]
    rw [if_pos (by rw [tab_length]; omega), if_pos (by omega), tab_rd p _ i (by omega), w64 (n := (i : Int) + 1) (by omega) (by omega), w64 (n := sumTo i F + F i) (by omega) (by omega)]
    exact h
theorem sum_ev (p : Nat) (hp : p ≤ 1000) (F : Nat → Int) (hF : ∀ c, c < p → 0 ≤ F c ∧ F c ≤ 1000) : Ev (fun k => laws_sum.f k (tab p F)) (sumTo p F) :=
  ⟨p + 1, fun k hk => sum_loop p hp F hF p 0 k (by omega) (by omega)⟩
/-! Of the results. -/
theorem unit_zero {p : Nat} (hp : 3 ≤ p) {a b y : Int} (hb : a * b % (p : Int) = 1) (h : a * y % (p : Int) = 0) : y % (p : Int) = 0 := by
  have e : y * (a * b) % (p : Int) = y % (p : Int) := by rw [Int.mul_emod, hb, Int.mul_one, Int.emod_emod]
  rw [← e, show y * (a * b) = (a * y) * b by grind, Int.mul_emod, h, Int.zero_mul, Int.zero_emod]
theorem unit_of {p : Nat} (h : Chk p) (x : Int) (h0 : 1 ≤ x) (h1 : x < p) : ∃ b : Int, x * b % (p : Int) = 1 := by
  have hI := h.I x.toNat (by omega) (by omega)
  refine ⟨((x.toNat ^ (p - 2) % p : Nat) : Int), ?_⟩
  have : ((x.toNat * (x.toNat ^ (p - 2) % p) % p : Nat) : Int) = 1 := by rw [hI]; rfl
  rw [Int.natCast_emod, Int.natCast_mul] at this
  rw [show ((x.toNat : Nat) : Int) = x by omega] at this
  exact this
theorem pow_ne {p : Nat} (h : Chk p) (x : Int) (h0 : 1 ≤ x) (h1 : x < p) : ∀ e : Nat, x ^ e % (p : Int) ≠ 0 := by
  obtain ⟨b, hb⟩ := unit_of h x h0 h1
  have hp := h.lo
  intro e
  induction e with
  | zero => rw [Int.pow_zero, Int.emod_eq_of_lt (by omega) (by omega)]; omega
  | succ e ih =>
    intro z
    rw [Int.pow_succ, Int.mul_comm] at z
    exact ih (unit_zero hp hb z)
theorem vals_zero {p : Nat} (h : Chk p) (a : Int) (ha : 1 ≤ a) (ha2 : a < p) (e : Nat) (he : 1 ≤ e) : vals p a e 0 0 = 1 := by
  have hp := h.lo
  have h1 := vals_full p a e 0 (by omega) he (by omega)
  rw [if_pos rfl] at h1
  have h2 := vals_count p a e 1 0 (by omega)
  obtain ⟨b, hb⟩ := unit_of h a ha ha2
  have h3 : ((powL p e).drop 1).countP (fun x => a * x % (p : Int) == ((0 : Nat) : Int)) = 0 := by
    rw [List.countP_eq_zero]
    intro x hx
    rw [List.mem_iff_getElem] at hx
    obtain ⟨i, hi, rfl⟩ := hx
    rw [List.length_drop, powL_length] at hi
    have e1 : ((powL p e).drop 1)[i]'(by rw [List.length_drop, powL_length]; exact hi) = ((i + 1 : Nat) : Int) ^ e % (p : Int) := by
      simp [powL, tab]
    rw [e1]
    simp only [beq_iff_eq]
    intro z
    have := unit_zero hp hb z
    rw [Int.emod_emod] at this
    exact pow_ne h _ (by omega) (by omega) e this
  omega
theorem asc_two : ∀ l : List Int, l.Pairwise (· < ·) → (∀ x ∈ l, 0 ≤ x) → 0 ∈ l → 1 ∈ l → ∃ t, l = 0 :: 1 :: t := by
  intro l hs h0 m0 m1
  match l with
  | [] => simp at m0
  | x :: t =>
    rw [List.pairwise_cons] at hs
    have hx : x = 0 := by
      rcases List.mem_cons.1 m0 with h | h
      · omega
      · have := hs.1 0 h; have := h0 x (by simp); omega
    subst hx
    have m1' : 1 ∈ t := by
      rcases List.mem_cons.1 m1 with h | h
      · omega
      · exact h
    match t with
    | [] => simp at m1'
    | y :: s =>
      have hy : y = 1 := by
        have y0 := hs.1 y (by simp)
        rcases List.mem_cons.1 m1' with h | h
        · omega
        · have := (List.pairwise_cons.1 hs.2).1 1 h; omega
      subst hy
      exact ⟨s, rfl⟩
theorem resid_two (p e : Nat) (hp : 3 ≤ p) (he : 1 ≤ e) : ∃ t, resid p e = 0 :: 1 :: t := by
  refine asc_two _ (resid_asc p e) (fun x hx => ?_) ?_ ?_
  · rw [resid_mem p e (by omega)] at hx
    exact (powL_mem p e (by omega) x hx).1
  · rw [resid_mem p e (by omega)]
    rw [powL_cons p e (by omega) he]
    simp
  · rw [resid_mem p e (by omega)]
    unfold powL tab
    rw [List.mem_map]
    refine ⟨1, by simp; omega, ?_⟩
    rw [show ((1 : Nat) : Int) = 1 by rfl, Int.one_pow, Int.emod_eq_of_lt (by omega) (by omega)]
theorem resid_len (p e : Nat) : (resid p e).length ≤ p := residTo_len p e p
theorem stages_bd (p : Nat) (hp : 0 < p) : ∀ (l : List (Int × Int)) (f g : Nat → Int), (∀ x ∈ l, 1 ≤ x.2.toNat) → 2 ≤ p → (∀ c, c < p → 0 ≤ f c ∧ f c ≤ g c) → ∀ c, c < p → 0 ≤ stages p 1 l f c ∧ stages p 1 l f c ≤ stages p 0 l g c := by
  intro l
  induction l with
  | nil => intro f g _ _ h c hc; exact h c hc
  | cons x l ih =>
    intro f g hx hp2 h c hc
    refine ih _ _ (fun y hy => hx y (by simp [hy])) hp2 (fun d hd => ?_) c hc
    unfold stage
    refine conv_le h (fun i hi => ?_) d hp
    have h1 := vals_full p x.1 x.2.toNat i hp2 (hx x (by simp)) hi
    have h2 := vals_bd p x.1 x.2.toNat 1 i hi
    refine ⟨h2.1, ?_⟩
    split at h1 <;> omega
theorem stages_nonneg (p : Nat) (hp : 0 < p) : ∀ (l : List (Int × Int)) (f : Nat → Int), (∀ c, c < p → 0 ≤ f c) → ∀ c, c < p → 0 ≤ stages p 0 l f c := by
  intro l
  induction l with
  | nil => intro f h c hc; exact h c hc
  | cons x l ih =>
    intro f h c hc
    refine ih _ (fun d hd => ?_) c hc
    unfold stage
    exact (conv_le (f := f) (f' := f) (g := vals p x.1 x.2.toNat 0) (g' := vals p x.1 x.2.toNat 0) (fun i hi => ⟨h i hi, Int.le_refl _⟩) (fun i hi => ⟨(vals_bd p x.1 x.2.toNat 0 i hi).1, Int.le_refl _⟩) d hp).1
theorem stages_total (p : Nat) (hp : 0 < p) : ∀ (l : List (Int × Int)) (f : Nat → Int), sumTo p (stages p 0 l f) = sumTo p f * (p : Int) ^ l.length := by
  intro l
  induction l with
  | nil => intro f; simp [stages]
  | cons x l ih =>
    intro f
    have h := ih (stage p 0 f x)
    rw [show stages p 0 (x :: l) f = stages p 0 l (stage p 0 f x) from rfl, h]
    unfold stage
    rw [conv_total, vals_total p _ _ hp, List.length_cons, Int.pow_succ]
    grind
theorem delta_total (p : Nat) (hp : 0 < p) : sumTo p delta0 = 1 := by
  rw [sumTo_one 0 (fun i hi h0 => by simp [delta0, h0]), if_pos hp]
  rfl
theorem delta_nonneg (c : Nat) : 0 ≤ delta0 c := by unfold delta0; split <;> omega
end Go.Proofs.Ytmjfaagifijmlaa.Q
/-! What the draws of this chapter hand out. -/
namespace Go.Proofs.Ytmjfaagifijmlaa.Q
open Go.RowKit Go.Proofs.Ytmjfaagifijmlaa.P Go.Proofs.YtmjfaagifijmlaaW.PrintWords Go.Proofs.YtmjfaagifijmlaaW.PrintLast
theorem draw_loop {c : List Int} (hc : Code c) (p : Int) (h0 : 2 ≤ p) (h1 : p ≤ 67) : ∀ (d k : Nat) (fs es : List Int) (a h : Int), Src c a h → fs.length + d ≤ 5 → es.length + d ≤ 5 → 1 ≤ fs.length + d → d < k →
    ∃ fs' es' b a' h', spec_l08Draw.l0 k p fs es d c a h = some (p, fs', es', b, a', h') ∧ Arg p fs' es' b := by
  intro d
  induction d with
  | zero =>
    intro k fs es a h s hf he hf1 hk
    obtain ⟨k, rfl⟩ : ∃ j, k = j + 1 := ⟨k - 1, by omega⟩
    simp only [spec_l08Draw.l0]
    rw [if_neg (by omega)]
    obtain ⟨v, a1, h1', e1, s1, v0, v1, _⟩ := next_src hc s 40 (by omega)
    obtain ⟨u, a2, h2', e2, s2, u0, u1, _⟩ := next_src hc s1 16 (by omega)
    have hu := u1 (by omega)
    have hd : Int.tdiv u 15 = u / 15 := Int.tdiv_eq_ediv_of_nonneg u0
    have hd2 : 0 ≤ u / 15 ∧ u / 15 ≤ 1 := by omega
    obtain ⟨t, a3, h3', e3, s3, t0, t1, _⟩ := next_src hc s2 (p + u / 15) (by omega)
    have ht := t1 (by omega)
    rw [e1]
    simp only [Option.bind_some]
    rw [e2]
    simp only [Option.bind_some]
    rw [hd, w64 (n := u / 15) (by omega) (by omega), w64 (n := p + u / 15) (by omega) (by omega), e3]
    simp only [Option.bind_some]
    by_cases hv : v = 0
    · rw [if_pos hv, if_pos (by omega)]
      exact ⟨_, _, _, _, _, rfl, h0, h1, by rw [List.length_drop]; omega, by omega, t0, by omega⟩
    · rw [if_neg hv]
      exact ⟨_, _, _, _, _, rfl, h0, h1, by omega, by omega, t0, by omega⟩
  | succ d ih =>
    intro k fs es a h s hf he hf1 hk
    obtain ⟨k, rfl⟩ : ∃ j, k = j + 1 := ⟨k - 1, by omega⟩
    simp only [spec_l08Draw.l0]
    rw [if_pos (by omega)]
    obtain ⟨v, a1, h1', e1, s1, _⟩ := next_src hc s (p - 1) (by omega)
    obtain ⟨u, a2, h2', e2, s2, _⟩ := next_src hc s1 (p + 1) (by omega)
    obtain ⟨x, a3, h3', e3, s3, _⟩ := pick_src hc s2 [1, 1, wrap64 (1 + v), u] (by simp) (by simp)
    obtain ⟨y, a4, h4', e4, s4, _⟩ := near_src hc s3 60 (by omega) (by omega)
    obtain ⟨z, a5, h5', e5, s5, _⟩ := pick_src hc s4 [1, 2, 2, 3, 4, 6, y] (by simp) (by simp)
    rw [w64 (n := p - 1) (by omega) (by omega), e1]
    simp only [Option.bind_some]
    rw [w64 (n := p + 1) (by omega) (by omega), e2]
    simp only [Option.bind_some]
    rw [e3]
    simp only [Option.bind_some]
    rw [if_pos (by omega), e4]
    simp only [Option.bind_some]
    rw [e5]
    simp only [Option.bind_some]
    rw [if_pos (by omega), w64 (n := ((d + 1 : Nat) : Int) - 1) (by omega) (by omega), show ((d + 1 : Nat) : Int) - 1 = (d : Int) by omega]
    exact ih k _ _ _ _ s5 (by rw [List.length_append, List.length_singleton]; omega) (by rw [List.length_append, List.length_singleton]; omega) (by rw [List.length_append, List.length_singleton]; omega) (by omega)
theorem draw_val {c : List Int} (hc : Code c) {a h : Int} (s : Src c a h) : ∃ p fs es b a' h', spec_l08Draw.f 10 c a h = some (p, fs, es, b, a', h') ∧ Arg p fs es b := by
  unfold spec_l08Draw.f
  obtain ⟨p, a0, h0', e0, s0, p0, p1⟩ := prime_src hc s
  obtain ⟨v, a1, h1', e1, s1, v0, v1, _⟩ := next_src hc s0 4 (by omega)
  obtain ⟨u, a2, h2', e2, s2, u0, u1, _⟩ := next_src hc s1 40 (by omega)
  have hv := v1 (by omega)
  have hu := u1 (by omega)
  have hd : Int.tdiv u 39 = u / 39 := Int.tdiv_eq_ediv_of_nonneg u0
  have hd2 : 0 ≤ u / 39 ∧ u / 39 ≤ 1 := by omega
  rw [e0]
  simp only [Option.bind_some]
  rw [e1]
  simp only [Option.bind_some]
  rw [e2]
  simp only [Option.bind_some]
  rw [hd, w64 (n := u / 39) (by omega) (by omega), w64 (n := 1 + v) (by omega) (by omega), w64 (n := 1 + v + u / 39) (by omega) (by omega)]
  obtain ⟨fs, es, b, a', h', e, A⟩ := draw_loop hc p p0 p1 (1 + v + u / 39).toNat 10 [] [] _ _ s2 (by simp; omega) (by simp; omega) (by simp; omega) (by omega)
  rw [show (((1 + v + u / 39).toNat : Nat) : Int) = 1 + v + u / 39 by omega] at e
  exact ⟨_, _, _, _, _, _, e, A⟩
theorem drawn_eq {c : List Int} (hc : Code c) : ∃ p fs es b, Arg p fs es b ∧ Ev (fun k => spec_DrawCountSolutions.f k c) (p, fs, es, b) ∧ Ev (fun k => spec_DrawQuadricNumber.f k c) (p, fs, b) := by
  obtain ⟨h, e, s⟩ := from_src hc
  obtain ⟨p, fs, es, b, a', h', e2, A⟩ := draw_val hc s
  have e3 : Ev (fun k => spec_l08Draw.f k c 0 h) (p, fs, es, b, a', h') := Ev.of (spec_l08Draw.mono _ _ _) e2
  refine ⟨p, fs, es, b, A, ?_, ?_⟩
  · unfold spec_DrawCountSolutions.f
    simp only [e, Option.bind_some]
    exact Ev.bind e3 (Ev.now _)
  · unfold spec_DrawQuadricNumber.f
    simp only [e, Option.bind_some]
    exact Ev.bind e3 (Ev.now _)
theorem drawn_pow {c : List Int} (hc : Code c) : ∃ p e a, 2 ≤ p ∧ p ≤ 67 ∧ spec_DrawPowersOf.f c = some (p, e) ∧ spec_DrawValueCounts.f c = some (p, a, e) := by
  obtain ⟨h, e, s⟩ := from_src hc
  obtain ⟨p, a0, h0', e0, s0, p0, p1⟩ := prime_src hc s
  obtain ⟨y, a1, h1', e1, s1, _⟩ := near_src hc s0 60 (by omega) (by omega)
  obtain ⟨z, a2, h2', e2, s2, _⟩ := pick_src hc s1 [1, 2, 2, 3, 3, 4, 5, 6, y] (by simp) (by simp)
  obtain ⟨v, a3, h3', e3, s3, _⟩ := next_src hc s (p + 1) (by omega)
  have hw : spec_l08With.f c = some (p, z) := by
    unfold spec_l08With.f
    simp only [e, e0, e1, e2, Option.bind_some]
  refine ⟨p, z, v, p0, p1, ?_, ?_⟩
  · unfold spec_DrawPowersOf.f
    simp only [hw, Option.bind_some]
  · unfold spec_DrawValueCounts.f
    simp only [hw, e, Option.bind_some]
    rw [w64 (n := p + 1) (by omega) (by omega), e3]
    rfl
end Go.Proofs.Ytmjfaagifijmlaa.Q
/-! The law of solutions, in plain words. -/
namespace Go.Proofs.Ytmjfaagifijmlaa.Q
open Go.RowKit Go.Proofs.Ytmjfaagifijmlaa.P Go.Proofs.YtmjfaagifijmlaaW.PrintWords Go.Proofs.YtmjfaagifijmlaaW.PrintLast
theorem pow_bd (p : Int) (h0 : 0 ≤ p) (h1 : p ≤ 61) (n : Nat) (hn : n ≤ 4) : 0 ≤ p ^ n ∧ p ^ n ≤ 13845841 := by
  obtain ⟨q, rfl⟩ : ∃ q : Nat, p = q := ⟨p.toNat, by omega⟩
  have h : q ^ n ≤ 61 ^ n := Nat.pow_le_pow_left (by omega) n
  have h2 : 61 ^ n ≤ 61 ^ 4 := Nat.pow_le_pow_right (by omega) hn
  have h3 : ((q ^ n : Nat) : Int) = (q : Int) ^ n := Int.natCast_pow q n
  have h4 : (61 : Nat) ^ 4 = 13845841 := by decide
  rw [← h3]
  omega
def Ns (p : Int) (fs es : List Int) : Nat → Int := stages p.toNat 0 (fs.zip es) delta0
theorem Ns_nonneg {p : Int} {fs es : List Int} {b : Int} (_ : Val p fs es b) (c : Nat) (hc : c < p.toNat) : 0 ≤ Ns p fs es c :=
  stages_nonneg p.toNat (by omega) _ _ (fun c _ => delta_nonneg c) c hc
theorem Ns_total {p : Int} {fs es : List Int} {b : Int} (V : Val p fs es b) : sumTo p.toNat (Ns p fs es) = p ^ fs.length := by
  have hp := isPr_bd V.pr
  unfold Ns
  rw [stages_total p.toNat (by omega), delta_total _ (by omega), List.length_zip, ← V.le, Nat.min_self, show ((p.toNat : Nat) : Int) = p by omega, Int.one_mul]
theorem due_val {p : Int} {fs es : List Int} {b : Int} (V : Val p fs es b) : due 0 p fs es b = (Ns p fs es b.toNat, 0) := by
  unfold due
  rw [if_pos V.valid]
  rfl
theorem l2_ev {p : Int} {fs es : List Int} {b : Int} (A : Arg p fs es b) (V : Val p fs es b) : ∀ (d i : Nat), i + d = p.toNat →
    Ev (fun k => laws_FnSolutions.l2 k p fs es (sumTo i (Ns p fs es)) (p ^ fs.length) i) true := by
  have hp := isPr_bd V.pr
  have hpb := pow_bd p (by omega) (by omega) fs.length V.l1
  intro d
  induction d with
  | zero =>
    intro i hi
    obtain rfl : i = p.toNat := by omega
    refine Ev.step (fun k => ?_) (Ev.now true)
    simp only [laws_FnSolutions.l2]
    rw [if_neg (by omega), Ns_total V]
    simp
  | succ d ih =>
    intro i hi
    have Ai : Arg p fs es i := ⟨A.p0, A.p1, A.f1, A.e1, by omega, by omega⟩
    have Vi : Val p fs es i := ⟨V.pr, V.ex, V.l0, V.l1, V.le, by omega, by omega, V.fa⟩
    have h := ih (i + 1) (by omega)
    have n0 : 0 ≤ sumTo i (Ns p fs es) := sumTo_nonneg fun j hj => Ns_nonneg V j (by omega)
    have n1 : sumTo (i + 1) (Ns p fs es) ≤ sumTo p.toNat (Ns p fs es) := sumTo_mono (by omega) fun j hj => Ns_nonneg V j hj
    have n2 := Ns_nonneg V i (by omega)
    rw [Ns_total V] at n1
    simp only [sumTo] at h n1
    rw [show (((i + 1 : Nat)) : Int) = (i : Int) + 1 by omega] at h
    refine Ev.step (g := fun k => laws_FnSolutions.l2 k p fs es (sumTo i (Ns p fs es)) (p ^ fs.length) i) (fun k => by simp only [laws_FnSolutions.l2]; rfl) ?_
    simp only [if_pos (show (i : Int) < p by omega)]
    refine Ev.bind (iSol Ai) ?_
    rw [due_val Vi, show ((i : Int)).toNat = i by omega]
    simp only [if_true]
    rw [w64 (n := sumTo i (Ns p fs es) + Ns p fs es i) (by omega) (by omega), w64 (n := (i : Int) + 1) (by omega) (by omega)]
    exact h
theorem l1_ev {p : Int} {fs es : List Int} {b : Int} (A : Arg p fs es b) (V : Val p fs es b) : ∀ (d i : Nat), i + d = fs.length →
    Ev (fun k => laws_FnSolutions.l1 k p fs es (Ns p fs es b.toNat) 0 (p ^ i) i) true := by
  have hp := isPr_bd V.pr
  have hl := V.l1
  intro d
  induction d with
  | zero =>
    intro i hi
    obtain rfl : i = fs.length := by omega
    refine Ev.step (g := fun k => laws_FnSolutions.l1 k p fs es (Ns p fs es b.toNat) 0 (p ^ fs.length) fs.length) (fun k => by simp only [laws_FnSolutions.l1]; rfl) ?_
    simp only [if_neg (show ¬ (fs.length : Int) < fs.length by omega)]
    by_cases h2 : (fs.length : Int) > 2
    · simp only [if_pos h2]
      have b0 := V.b0
      have b1 := V.b1
      have h3 := sumTo_ge (n := p.toNat) (f := Ns p fs es) (fun j hj => Ns_nonneg V j hj) b.toNat (by omega)
      rw [Ns_total V] at h3
      rw [decide_eq_true h3]
      exact Ev.now true
    · simp only [if_neg h2]
      exact l2_ev A V p.toNat 0 (by omega)
  | succ d ih =>
    intro i hi
    have h := ih (i + 1) (by omega)
    have hb := pow_bd p (by omega) (by omega) (i + 1) (by omega)
    rw [show (((i + 1 : Nat)) : Int) = (i : Int) + 1 by omega] at h
    rw [Int.pow_succ] at h hb
    refine Ev.step (g := fun k => laws_FnSolutions.l1 k p fs es (Ns p fs es b.toNat) 0 (p ^ i) i) (fun k => by simp only [laws_FnSolutions.l1]; rfl) ?_
    simp only [if_pos (show (i : Int) < fs.length by omega)]
    rw [w64 (n := p ^ i * p) (by omega) (by omega), w64 (n := (i : Int) + 1) (by omega) (by omega)]
    exact h
theorem full_le {p : Int} {fs es : List Int} {b : Int} (V : Val p fs es b) : (due 1 p fs es b).1 ≤ (due 0 p fs es b).1 := by
  have hp := isPr_bd V.pr
  have b0 := V.b0
  have b1 := V.b1
  unfold due
  rw [if_pos V.valid, if_pos V.valid]
  refine (stages_bd p.toNat (by omega) (fs.zip es) delta0 delta0 (fun x hx => ?_) (by omega) (fun c _ => ⟨delta_nonneg c, Int.le_refl _⟩) b.toNat (by omega)).2
  have h := List.all_eq_true.1 V.ex x.2 (List.of_mem_zip hx).2
  simp only [okE, decide_eq_true_eq] at h
  omega
theorem j8_ev {p : Int} {fs es : List Int} {b : Int} (A : Arg p fs es b) :
    Ev (fun k => laws_FnSolutions.j8 k p fs es (due 0 p fs es b).1 (due 0 p fs es b).2 (due 1 p fs es b).1 (due 1 p fs es b).2 false) true := by
  refine Ev.step (g := fun k => laws_FnSolutions.j8 k p fs es (due 0 p fs es b).1 (due 0 p fs es b).2 (due 1 p fs es b).1 (due 1 p fs es b).2 false) (fun k => by simp only [laws_FnSolutions.j8]; rfl) ?_
  simp only [Bool.false_eq_true, if_false]
  by_cases v : validEq p fs es b = true
  · have V := val_of v
    have hle := full_le V
    have e1 : (due 1 p fs es b).2 = 0 := by unfold due; rw [if_pos v]
    have e0 : (due 0 p fs es b).2 = 0 := by unfold due; rw [if_pos v]
    have en : ¬ (due 1 p fs es b).1 > (due 0 p fs es b).1 := by omega
    simp only [e0, e1, if_true, decide_eq_false en]
    refine Ev.step (g := fun k => laws_FnSolutions.j9 k p fs es (due 0 p fs es b).1 false) (fun k => by simp only [laws_FnSolutions.j9]; rfl) ?_
    simp only [Bool.false_eq_true, if_false]
    have h := l1_ev A V fs.length 0 (by omega)
    rw [due_val V]
    rw [Int.pow_zero] at h
    exact h
  · have h0 : ∀ fr, due fr p fs es b = (0, 2) := fun fr => by unfold due; rw [if_neg v]
    rw [h0, h0]
    exact Ev.now true
theorem j7_ev {p : Int} {fs es : List Int} {b : Int} (A : Arg p fs es b) (q e : Int) (q0 : 2 ≤ q) :
    Ev (fun k => laws_FnSolutions.j7 k p fs es (due 0 p fs es b).1 (due 0 p fs es b).2 (due 1 p fs es b).1 (due 1 p fs es b).2 (duePow q e).1 (duePow q e).2) true := by
  refine Ev.step (g := fun k => laws_FnSolutions.j7 k p fs es (due 0 p fs es b).1 (due 0 p fs es b).2 (due 1 p fs es b).1 (due 1 p fs es b).2 (duePow q e).1 (duePow q e).2) (fun k => by simp only [laws_FnSolutions.j7]; rfl) ?_
  have h8 := j8_ev A
  by_cases v : (isPr q && okE e) = true
  · have e1 : duePow q e = (resid q.toNat e.toNat, 0) := by unfold duePow; rw [if_pos v]
    simp only [Bool.and_eq_true] at v
    have hq := isPr_bd v.1
    have he : 1 ≤ e ∧ e ≤ 60 := by simpa [okE] using v.2
    obtain ⟨t, ht⟩ := resid_two q.toNat e.toNat (by omega) (by omega)
    simp only [e1, ht, if_true]
    have l0 : ((0 :: 1 :: t : List Int).length : Int) = t.length + 2 := by simp; omega
    have r0 : rd (0 :: 1 :: t : List Int) 0 = 0 := rfl
    have r1 : rd (0 :: 1 :: t : List Int) 1 = 1 := rfl
    simp only [l0, r0, r1, if_true, if_neg (show ¬ (t.length : Int) + 2 < 2 by omega), if_pos (show (0 : Int) < (t.length : Int) + 2 by omega), if_pos (show (1 : Int) < (t.length : Int) + 2 by omega), bne_self_eq_false]
    exact h8
  · have e1 : (duePow q e).2 = 2 := by unfold duePow; rw [if_neg v]
    simp only [e1, if_neg (show ¬ (2 : Int) = 0 by omega)]
    exact h8
theorem l0_ev {p : Int} {fs es : List Int} {b : Int} (A : Arg p fs es b) (q e : Int) (q0 : 2 ≤ q) (P : Int) (FS ES : List Int) (B : Int) (A2 : Arg P FS ES B) (v : validEq P FS (List.replicate FS.length 2) B = true) : ∀ (d i : Nat), i + d = FS.length →
    Ev (fun k => laws_FnSolutions.l0 k p fs es (due 0 p fs es b).1 (due 0 p fs es b).2 (due 1 p fs es b).1 (due 1 p fs es b).2 P FS B (due 0 P FS (List.replicate FS.length 2) B).1 (duePow q e).1 (duePow q e).2 (List.replicate i 2) i) true := by
  have hl := A2.f1
  intro d
  induction d with
  | zero =>
    intro i hi
    obtain rfl : i = FS.length := by omega
    refine Ev.step (g := fun k => laws_FnSolutions.l0 k p fs es (due 0 p fs es b).1 (due 0 p fs es b).2 (due 1 p fs es b).1 (due 1 p fs es b).2 P FS B (due 0 P FS (List.replicate FS.length 2) B).1 (duePow q e).1 (duePow q e).2 (List.replicate FS.length 2) FS.length) (fun k => by simp only [laws_FnSolutions.l0]; rfl) ?_
    simp only [if_neg (show ¬ (FS.length : Int) < FS.length by omega)]
    refine Ev.bind (iSol (quad_arg A2)) ?_
    have e0 : (due 0 P FS (List.replicate FS.length 2) B).2 = 0 := by unfold due; rw [if_pos v]
    simp only [e0, if_true]
    exact j7_ev A q e q0
  | succ d ih =>
    intro i hi
    have h := ih (i + 1) (by omega)
    rw [show (((i + 1 : Nat)) : Int) = (i : Int) + 1 by omega, List.replicate_succ'] at h
    refine Ev.step (g := fun k => laws_FnSolutions.l0 k p fs es (due 0 p fs es b).1 (due 0 p fs es b).2 (due 1 p fs es b).1 (due 1 p fs es b).2 P FS B (due 0 P FS (List.replicate FS.length 2) B).1 (duePow q e).1 (duePow q e).2 (List.replicate i 2) i) (fun k => by simp only [laws_FnSolutions.l0]; rfl) ?_
    simp only [if_pos (show (i : Int) < FS.length by omega), if_pos (show (List.replicate i (2 : Int)).length < 17592186044416 by rw [List.length_replicate]; omega)]
    rw [w64 (n := (i : Int) + 1) (by omega) (by omega)]
    exact h
theorem j5_ev {p : Int} {fs es : List Int} {b : Int} (A : Arg p fs es b) (q e : Int) (q0 : 2 ≤ q) (P : Int) (FS ES : List Int) (B : Int) (A2 : Arg P FS ES B) :
    Ev (fun k => laws_FnSolutions.j5 k p fs es (due 0 p fs es b).1 (due 0 p fs es b).2 (due 1 p fs es b).1 (due 1 p fs es b).2 P FS B (due 0 P FS (List.replicate FS.length 2) B).1 (due 0 P FS (List.replicate FS.length 2) B).2 (duePow q e).1 (duePow q e).2 false) true := by
  refine Ev.step (g := fun k => laws_FnSolutions.j5 k p fs es (due 0 p fs es b).1 (due 0 p fs es b).2 (due 1 p fs es b).1 (due 1 p fs es b).2 P FS B (due 0 P FS (List.replicate FS.length 2) B).1 (due 0 P FS (List.replicate FS.length 2) B).2 (duePow q e).1 (duePow q e).2 false) (fun k => by simp only [laws_FnSolutions.j5]; rfl) ?_
  simp only [Bool.false_eq_true, if_false]
  by_cases v : validEq P FS (List.replicate FS.length 2) B = true
  · have e0 : (due 0 P FS (List.replicate FS.length 2) B).2 = 0 := by unfold due; rw [if_pos v]
    simp only [e0, if_true]
    exact l0_ev A q e q0 P FS ES B A2 v FS.length 0 (by omega)
  · have e0 : (due 0 P FS (List.replicate FS.length 2) B).2 = 2 := by unfold due; rw [if_neg v]
    simp only [e0, if_neg (show ¬ (2 : Int) = 0 by omega)]
    exact j7_ev A q e q0
theorem j4_ev {p : Int} {fs es : List Int} {b : Int} (A : Arg p fs es b) (q e : Int) (q0 : 2 ≤ q) (P : Int) (FS ES : List Int) (B : Int) (A2 : Arg P FS ES B) (r a f : Int) :
    Ev (fun k => laws_FnSolutions.j4 k p fs es (due 0 p fs es b).1 (due 0 p fs es b).2 (due 1 p fs es b).1 (due 1 p fs es b).2 P FS B (due 0 P FS (List.replicate FS.length 2) B).1 (due 0 P FS (List.replicate FS.length 2) B).2 r (dueVals r a f).1 (dueVals r a f).2 (duePow q e).1 (duePow q e).2 false) true := by
  refine Ev.step (g := fun k => laws_FnSolutions.j4 k p fs es (due 0 p fs es b).1 (due 0 p fs es b).2 (due 1 p fs es b).1 (due 1 p fs es b).2 P FS B (due 0 P FS (List.replicate FS.length 2) B).1 (due 0 P FS (List.replicate FS.length 2) B).2 r (dueVals r a f).1 (dueVals r a f).2 (duePow q e).1 (duePow q e).2 false) (fun k => by simp only [laws_FnSolutions.j4]; rfl) ?_
  simp only [Bool.false_eq_true, if_false]
  have h5 := j5_ev A q e q0 P FS ES B A2
  by_cases v : (isPr r && okF r a && okE f) = true
  · have e0 : dueVals r a f = (tab r.toNat (vals r.toNat a f.toNat 0), 0) := by unfold dueVals; rw [if_pos v]
    simp only [Bool.and_eq_true] at v
    obtain ⟨⟨v1, v2⟩, v3⟩ := v
    have hr := isPr_bd v1
    have ha : 1 ≤ a ∧ a ≤ r - 1 := by simpa [okF] using v2
    have hf : 1 ≤ f ∧ f ≤ 60 := by simpa [okE] using v3
    obtain ⟨hn, hc⟩ := isPr_nat v1
    simp only [e0, if_true]
    refine Ev.bind (sum_ev r.toNat (by omega) _ fun c hc => ?_) ?_
    · have := vals_bd r.toNat a f.toNat 0 c hc
      omega
    · rw [vals_total _ _ _ (by omega), hc]
      simp only [if_true]
      have hz := vals_zero (chk_of hn) a ha.1 (by omega) f.toNat (by omega)
      have hr0 : rd (tab r.toNat (vals r.toNat a f.toNat 0)) 0 = 1 := by
        rw [tab_rdI _ _ 0 (by omega) (by omega)]
        exact hz
      simp only [if_pos (show (0 : Int) < (tab r.toNat (vals r.toNat a f.toNat 0)).length by rw [tab_length]; omega), hr0, bne_self_eq_false]
      exact h5
  · have e0 : (dueVals r a f).2 = 2 := by unfold dueVals; rw [if_neg v]
    simp only [e0, if_neg (show ¬ (2 : Int) = 0 by omega)]
    exact h5
theorem dueVals_len (r a f : Int) (hr : r ≤ 67) : (dueVals r a f).1.length ≤ 1000000 := by
  unfold dueVals
  split
  · rw [tab_length]; omega
  · simp
theorem duePow_len (r f : Int) (hr : r ≤ 67) : (duePow r f).1.length ≤ 1000000 := by
  unfold duePow
  split
  · have := resid_len r.toNat f.toNat
    simp only
    omega
  · simp
theorem sol_code {c : List Int} (hc : Code c) : Ev (fun k => laws_FnSolutions.f k c) true := by
  obtain ⟨p, fs, es, b, A, d1, d2⟩ := drawn_eq hc
  obtain ⟨q, e, a, q0, q1, d3, d4⟩ := drawn_pow hc
  unfold laws_FnSolutions.f laws_big.f
  simp only [Option.bind_some]
  by_cases hbig : (c.length : Int) > 4096
  · simp only [hbig, decide_true, if_true]
    exact Ev.now true
  simp only [hbig, decide_false, Bool.false_eq_true, if_false]
  refine Ev.bind d1 ?_
  refine Ev.bind (iSol A) ?_
  refine Ev.bind (sSol A) ?_
  simp only [if_true, bne_self_eq_false]
  refine Ev.step (g := fun k => laws_FnSolutions.j0 k c p fs es b (due 0 p fs es b).1 (due 0 p fs es b).2 false) (fun k => by simp only [laws_FnSolutions.j0]; rfl) ?_
  simp only [Bool.false_eq_true, if_false]
  refine Ev.bind (iFull A) ?_
  refine Ev.bind (sFull A) ?_
  simp only [if_true, bne_self_eq_false]
  refine Ev.step (g := fun k => laws_FnSolutions.j1 k c p fs es (due 0 p fs es b).1 (due 0 p fs es b).2 (due 1 p fs es b).1 (due 1 p fs es b).2 false) (fun k => by simp only [laws_FnSolutions.j1]; rfl) ?_
  simp only [Bool.false_eq_true, if_false]
  refine Ev.bind d2 ?_
  refine Ev.bind (iQuad A) ?_
  refine Ev.bind (sQuad A) ?_
  simp only [if_true, bne_self_eq_false]
  refine Ev.step (g := fun k => laws_FnSolutions.j2 k c p fs es (due 0 p fs es b).1 (due 0 p fs es b).2 (due 1 p fs es b).1 (due 1 p fs es b).2 p fs b (due 0 p fs (List.replicate fs.length 2) b).1 (due 0 p fs (List.replicate fs.length 2) b).2 false) (fun k => by simp only [laws_FnSolutions.j2]; rfl) ?_
  simp only [Bool.false_eq_true, if_false, d4, Option.bind_some]
  refine Ev.bind (iVals q0 q1) ?_
  refine Ev.bind (sVals q0 q1) ?_
  simp only [if_true]
  refine Ev.bind (like_ev _ (dueVals_len q a e q1)) ?_
  simp only [Bool.not_true]
  refine Ev.step (g := fun k => laws_FnSolutions.j3 k c p fs es (due 0 p fs es b).1 (due 0 p fs es b).2 (due 1 p fs es b).1 (due 1 p fs es b).2 p fs b (due 0 p fs (List.replicate fs.length 2) b).1 (due 0 p fs (List.replicate fs.length 2) b).2 q (dueVals q a e).1 (dueVals q a e).2 false) (fun k => by simp only [laws_FnSolutions.j3]; rfl) ?_
  simp only [Bool.false_eq_true, if_false, d3, Option.bind_some]
  refine Ev.bind (iPow q0 q1) ?_
  refine Ev.bind (sPow q0 q1) ?_
  simp only [if_true]
  refine Ev.bind (like_ev _ (duePow_len q e q1)) ?_
  simp only [Bool.not_true]
  exact j4_ev A q e q0 p fs es b A q a e
end Go.Proofs.Ytmjfaagifijmlaa.Q
namespace Go.Proofs.Ytmjfaagifijmlaa.Pure
open Go.RowKit Go.Proofs.Ytmjfaagifijmlaa.P Go.Proofs.YtmjfaagifijmlaaW.PrintWords Go.Proofs.YtmjfaagifijmlaaW.PrintLast
theorem FnSolutions : laws_FnSolutions.Pure := by
  intro c hm hy hb
  refine (Q.sol_code (c := c) ⟨by omega, fun x hx => ?_⟩).rounds
  have := hb x hx
  simp [Lit.wf, IntKind.min, IntKind.max, IntKind.bits, IntKind.signed] at this
  omega
end Go.Proofs.Ytmjfaagifijmlaa.Pure
