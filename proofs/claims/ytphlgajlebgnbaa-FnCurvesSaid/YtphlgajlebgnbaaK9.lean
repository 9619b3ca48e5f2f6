/- This text was put together by a session out of texts that its own programs and the print tool wrote. -/
import Derived.Test.YtphlgajlebgnbaaK4
import Derived.Test.YtphlgajlebgnbaaK5
import Derived.Test.YtphlgajlebgnbaaK3
import Derived.Test.YtphlgajlebgnbaaK8
import Derived.Test.YtphlgajlebgnbaaK6
set_option linter.unusedVariables false
set_option linter.unusedSimpArgs false
/-! Numbers of powers, and the least number that is none: both sides answer the same. -/
namespace Go.Proofs.Ytphlgajlebgnbaa.Q
open Go.RowKit Go.Proofs.Ytphlgajlebgnbaa.P Go.Proofs.YtphlgajlebgnbaaW.PrintWords Go.Proofs.YtphlgajlebgnbaaW.PrintLast
set_option linter.unusedVariables false
set_option linter.unusedSimpArgs false
/-! Lists that hold something. -/
theorem idxI_loop (l : List Int) (x : Int) (hl : l.length ≤ 1000000) : ∀ (d i k : Nat), i + d = l.length → d < k →
    ∃ r, slices_Index_int64_int64.l0 k l x l.length i = some r ∧ (decide (r ≥ 0) = (l.drop i).contains x) := by
  intro d
  induction d with
  | zero =>
    intro i k hi hk
    obtain ⟨k, rfl⟩ : ∃ m, k = m + 1 := ⟨k - 1, by omega⟩
    refine ⟨-1, ?_, ?_⟩
    · simp only [slices_Index_int64_int64.l0]
      rw [if_neg (by omega)]
    · rw [List.drop_of_length_le (by omega)]; rfl
  | succ d ih =>
    intro i k hi hk
    obtain ⟨k, rfl⟩ : ∃ m, k = m + 1 := ⟨k - 1, by omega⟩
    obtain ⟨r, h1, h2⟩ := ih (i + 1) k (by omega) (by omega)
    simp only [slices_Index_int64_int64.l0]
    rw [if_pos (by omega), if_pos (by omega), if_pos (by omega), rd_drop l i (by omega), List.contains_cons]
    by_cases e : x = rd l (i : Int)
    · refine ⟨_, if_pos e, ?_⟩
      rw [e]; simp
    · refine ⟨r, ?_, ?_⟩
      · rw [if_neg e, w64 (by omega) (by omega), show (i : Int) + 1 = ((i + 1 : Nat) : Int) by omega]
        exact h1
      · rw [h2, beq_eq_false_iff_ne.mpr e, Bool.false_or]
theorem contI_val (l : List Int) (x : Int) (hl : l.length ≤ 1000000) (k : Nat) (hk : l.length < k) : slices_Contains_int64_int64.f k l x = some (l.contains x) := by
  obtain ⟨r, h1, h2⟩ := idxI_loop l x hl l.length 0 k (by omega) hk
  unfold slices_Contains_int64_int64.f slices_Index_int64_int64.f
  have h1' : slices_Index_int64_int64.l0 k l x l.length 0 = some r := h1
  rw [h1']
  simp only [Option.bind_some]
  rw [h2, List.drop_zero]
theorem idxB_loop (l : List Bool) (hl : l.length ≤ 1000000) : ∀ (d i k : Nat), i + d = l.length → d < k →
    ∃ r, slices_Index_bool_bool.l0 k l false l.length i = some r ∧ (decide (r ≥ 0) = !(l.drop i).all id) := by
  intro d
  induction d with
  | zero =>
    intro i k hi hk
    obtain ⟨k, rfl⟩ : ∃ m, k = m + 1 := ⟨k - 1, by omega⟩
    refine ⟨-1, ?_, ?_⟩
    · simp only [slices_Index_bool_bool.l0]
      rw [if_neg (by omega)]
    · rw [List.drop_of_length_le (by omega)]; rfl
  | succ d ih =>
    intro i k hi hk
    obtain ⟨k, rfl⟩ : ∃ m, k = m + 1 := ⟨k - 1, by omega⟩
    obtain ⟨r, h1, h2⟩ := ih (i + 1) k (by omega) (by omega)
    have hd : l.drop i = rdOf false l (i : Int) :: l.drop (i + 1) := by
      rw [List.drop_eq_getElem_cons (by omega)]
      simp [rdOf, show i < l.length by omega]
    simp only [slices_Index_bool_bool.l0]
    rw [if_pos (by omega), if_pos (by omega), if_pos (by omega), hd, List.all_cons]
    cases e : rdOf false l (i : Int)
    · exact ⟨_, if_pos rfl, by simp⟩
    · refine ⟨r, ?_, ?_⟩
      · rw [if_neg (by decide), w64 (by omega) (by omega), show (i : Int) + 1 = ((i + 1 : Nat) : Int) by omega]
        exact h1
      · rw [h2]; simp
theorem contB_val (l : List Bool) (hl : l.length ≤ 1000000) (k : Nat) (hk : l.length < k) : slices_Contains_bool_bool.f k l false = some (!l.all id) := by
  obtain ⟨r, h1, h2⟩ := idxB_loop l hl l.length 0 k (by omega) hk
  unfold slices_Contains_bool_bool.f slices_Index_bool_bool.f
  have h1' : slices_Index_bool_bool.l0 k l false l.length 0 = some r := h1
  rw [h1']
  simp only [Option.bind_some]
  rw [h2, List.drop_zero]
theorem hasInt_loop (l : List Int) (x : Int) (hl : l.length ≤ 1000000) : ∀ (d i k : Nat), i + d = l.length → d < k → laws_hasInt.l0 k l x i = some ((l.drop i).contains x) := by
  intro d
  induction d with
  | zero =>
    intro i k hi hk
    obtain ⟨k, rfl⟩ : ∃ m, k = m + 1 := ⟨k - 1, by omega⟩
    simp only [laws_hasInt.l0]
    rw [if_neg (by omega), List.drop_of_length_le (by omega)]; rfl
  | succ d ih =>
    intro i k hi hk
    obtain ⟨k, rfl⟩ : ∃ m, k = m + 1 := ⟨k - 1, by omega⟩
    have h1 := ih (i + 1) k (by omega) (by omega)
    simp only [laws_hasInt.l0]
    rw [if_pos (by omega), if_pos (by omega), rd_drop l i (by omega), List.contains_cons]
    by_cases e : rd l (i : Int) = x
    · rw [if_pos e, e]; simp
    · rw [if_neg e, w64 (by omega) (by omega), show (i : Int) + 1 = ((i + 1 : Nat) : Int) by omega, h1]
      rw [beq_eq_false_iff_ne.mpr (fun z => e z.symm), Bool.false_or]
theorem hasInt_val (l : List Int) (x : Int) (hl : l.length ≤ 1000000) (k : Nat) (hk : l.length < k) : laws_hasInt.f k l x = some (l.contains x) := by
  have h := hasInt_loop l x hl l.length 0 k (by omega) hk
  rw [List.drop_zero] at h
  exact h
/-! Tables of truths. -/
def tabB (p : Nat) (F : Nat → Bool) : List Bool := (List.range p).map F
theorem tabB_length (p : Nat) (F : Nat → Bool) : (tabB p F).length = p := by simp [tabB]
theorem tabB_rd (p : Nat) (F : Nat → Bool) (i : Nat) (h : i < p) : rdOf false (tabB p F) (i : Int) = F i := by simp [rdOf, tabB, h]
theorem tabB_congr {p : Nat} {F G : Nat → Bool} (h : ∀ c, c < p → F c = G c) : tabB p F = tabB p G := by
  unfold tabB
  exact List.map_congr_left fun c hc => h c (List.mem_range.1 hc)
theorem tabB_set (p : Nat) (F : Nat → Bool) (j : Nat) (v : Bool) : (tabB p F).set j v = tabB p (fun c => if c = j then v else F c) := by
  apply List.ext_getElem
  · simp [tabB]
  · intro i h1 h2
    rw [List.getElem_set]
    simp only [tabB, List.getElem_map, List.getElem_range]
    by_cases e : j = i
    · rw [if_pos e, if_pos e.symm]
    · rw [if_neg e, if_neg (fun z => e z.symm)]
theorem tabB_none (p : Nat) : List.replicate p false = tabB p (fun _ => false) := by
  apply List.ext_getElem <;> simp [tabB]
theorem resid_bd (p e : Nat) (hp : 0 < p) (y : Int) (h : y ∈ resid p e) : 0 ≤ y ∧ y < p := powL_mem p e hp y ((resid_mem p e hp y).1 h)
theorem resid_any (p e x c : Nat) (hp : 0 < p) : ((resid p e).any fun y => ((x : Int) + y) % (p : Int) == (c : Int)) = (List.range p).any fun y => inR p e y && (x + y) % p == c := by
  rw [Bool.eq_iff_iff]
  simp only [List.any_eq_true, Bool.and_eq_true, beq_iff_eq, List.mem_range]
  constructor
  · rintro ⟨y, hy, h⟩
    obtain ⟨h0, h1⟩ := resid_bd p e hp y hy
    obtain ⟨z, rfl⟩ := Int.eq_ofNat_of_zero_le h0
    refine ⟨z, by omega, (inR_mem p e z hp (by omega)).2 hy, ?_⟩
    have h2 : (((x + z) % p : Nat) : Int) = (c : Int) := by rw [Int.natCast_emod, Int.natCast_add]; exact h
    omega
  · rintro ⟨y, hy, h1, h2⟩
    refine ⟨(y : Int), (inR_mem p e y hp hy).1 h1, ?_⟩
    rw [show (x : Int) + (y : Int) = ((x + y : Nat) : Int) by omega, ← Int.natCast_emod, h2]
def stepX (p e s i c : Nat) : Bool := (List.range i).any fun x => reach p e s x && (resid p e).any fun y => ((x : Int) + y) % (p : Int) == (c : Int)
theorem stepX_all (p e s c : Nat) (hp : 0 < p) : stepX p e s p c = reach p e (s + 1) c := by
  unfold stepX
  simp only [reach]
  refine congrArg (fun f => (List.range p).any f) (funext fun x => ?_)
  rw [resid_any p e x c hp]
theorem stepX_succ (p e s i c : Nat) : stepX p e s (i + 1) c = (stepX p e s i c || (reach p e s i && (resid p e).any fun y => ((i : Int) + y) % (p : Int) == (c : Int))) := by
  unfold stepX
  rw [List.range_succ, List.any_append]
  simp
theorem pn_l2 (p e : Nat) (hp : 2 ≤ p) (hp2 : p ≤ 61) (s : Int) (x : Nat) (hx : x < p) (b : Bool) (there : List Bool) (F : Nat → Bool) (r : Int × Int)
    (hn : Ev (fun k => impl_PowerNumber.l1 k p (resid p e) s (tabB p fun c => F c || (b && (resid p e).any fun y => ((x : Int) + y) % (p : Int) == (c : Int))) there p ((x : Int) + 1)) r) : ∀ (d i : Nat), i + d = (resid p e).length →
    Ev (fun k => impl_PowerNumber.l2 k p (resid p e) s (tabB p fun c => F c || (b && ((resid p e).take i).any fun y => ((x : Int) + y) % (p : Int) == (c : Int))) x b there p x (resid p e) (resid p e).length i) r := by
  intro d
  have hlen := resid_len p e
  induction d with
  | zero =>
    intro i hi
    refine Ev.step (fun k => ?_) hn
    simp only [impl_PowerNumber.l2]
    rw [if_neg (by omega), w64 (by omega) (by omega), List.take_of_length_le (by omega)]
  | succ d ih =>
    intro i hi
    have h := ih (i + 1) (by omega)
    rw [show (((i + 1 : Nat)) : Int) = (i : Int) + 1 by omega] at h
    obtain ⟨y, hy⟩ : ∃ y, y = rd (resid p e) (i : Int) := ⟨_, rfl⟩
    have hyl : (resid p e)[i]'(by omega) = y := by rw [hy]; simp [rd, show i < (resid p e).length by omega]
    have hyb := resid_bd p e (by omega) y (by rw [← hyl]; exact List.getElem_mem _)
    have hz : ¬ (p : Int) = 0 := by omega
    have hj0 : 0 ≤ ((x : Int) + y) % (p : Int) := Int.emod_nonneg _ hz
    have hj1 : ((x : Int) + y) % (p : Int) < p := Int.emod_lt_of_pos _ (by omega)
    obtain ⟨j, hj⟩ := Int.eq_ofNat_of_zero_le hj0
    have hjp : j < p := by omega
    have htk : (resid p e).take (i + 1) = (resid p e).take i ++ [y] := by
      rw [List.take_succ_eq_append_getElem (by omega), hyl]
    refine Ev.step (fun k => ?_) h
    simp only [impl_PowerNumber.l2]
    rw [if_pos (by omega), if_pos (by omega), if_pos (by omega), if_neg hz, ← hy, w64 (n := (x : Int) + y) (by omega) (by omega), Int.tmod_eq_emod_of_nonneg (by omega), hj, if_pos (by omega), if_pos (by rw [tabB_length]; omega), tabB_rd p _ j hjp, w64 (n := (i : Int) + 1) (by omega) (by omega), Int.toNat_natCast, tabB_set, tabB_set]
    have hF : ∀ c, c < p → (F c || (b && ((resid p e).take (i + 1)).any fun y => ((x : Int) + y) % (p : Int) == (c : Int))) = if c = j then (F j || (b && ((resid p e).take i).any fun y => ((x : Int) + y) % (p : Int) == (j : Int)) || b) else (F c || (b && ((resid p e).take i).any fun y => ((x : Int) + y) % (p : Int) == (c : Int))) := by
      intro c hc
      rw [htk, List.any_append, List.any_cons, List.any_nil, Bool.or_false, hj]
      by_cases e1 : c = j
      · rw [if_pos e1, e1, beq_self_eq_true, Bool.or_true, Bool.and_true]
        cases b <;> simp
      · rw [if_neg e1, beq_eq_false_iff_ne.mpr (show ¬ (j : Int) = (c : Int) by omega), Bool.or_false]
    rw [tabB_congr hF]
    obtain ⟨q, hq⟩ : ∃ q, q = (F j || (b && ((resid p e).take i).any fun y => ((x : Int) + y) % (p : Int) == (j : Int))) := ⟨_, rfl⟩
    rw [← hq]
    cases q
    · rw [if_neg (by decide), Bool.false_or]
    · rw [if_pos rfl, Bool.true_or]
theorem pn_l1 (p e : Nat) (hp : 2 ≤ p) (hp2 : p ≤ 61) (s : Nat) (r : Int × Int)
    (hn : Ev (fun k => impl_PowerNumber.l1 k p (resid p e) ((s : Int) + 1) (tabB p (reach p e (s + 1))) (tabB p (reach p e s)) p p) r) : ∀ (d x : Nat), x + d = p →
    Ev (fun k => impl_PowerNumber.l1 k p (resid p e) ((s : Int) + 1) (tabB p (stepX p e s x)) (tabB p (reach p e s)) p x) r := by
  intro d
  induction d with
  | zero =>
    intro x hx
    obtain rfl : x = p := by omega
    rw [tabB_congr (G := reach x e (s + 1)) (fun c hc => stepX_all x e s c (by omega))]
    exact hn
  | succ d ih =>
    intro x hx
    have h := ih (x + 1) (by omega)
    rw [show (((x + 1 : Nat)) : Int) = (x : Int) + 1 by omega, tabB_congr (G := fun c => stepX p e s x c || (reach p e s x && (resid p e).any fun y => ((x : Int) + y) % (p : Int) == (c : Int))) (fun c _ => stepX_succ p e s x c)] at h
    have h2 := pn_l2 p e hp hp2 ((s : Int) + 1) x (by omega) (reach p e s x) (tabB p (reach p e s)) (stepX p e s x) r h (resid p e).length 0 (by omega)
    refine Ev.step (fun k => ?_) h2
    simp only [impl_PowerNumber.l1]
    rw [if_pos (by omega), if_pos (by omega), if_pos (by rw [tabB_length]; omega), tabB_rd p _ x (by omega)]
    simp
theorem allR_tab (p e s : Nat) : (tabB p (reach p e s)).all id = allR p e s := by
  unfold tabB allR
  rw [List.all_map]
  rfl
theorem pn_l0 (p e : Nat) (hp : 3 ≤ p) (hp2 : p ≤ 61) (he : 1 ≤ e) : ∀ (d s : Nat), s + 1 + d = p - 1 →
    Ev (fun k => impl_PowerNumber.l0 k p (resid p e) (tabB p (reach p e s)) ((s : Int) + 1)) ((leastS p e d (s + 1) : Nat), 0) := by
  intro d
  induction d with
  | zero =>
    intro s hs
    have ht : allR p e (s + 1) = true := allR_top p e (s + 1) hp he (by omega)
    refine Ev.step (g := fun k => impl_PowerNumber.l0 k p (resid p e) (tabB p (reach p e s)) ((s : Int) + 1)) (f := fun k => impl_PowerNumber.l1 k p (resid p e) ((s : Int) + 1) (tabB p (stepX p e s 0)) (tabB p (reach p e s)) p 0) (fun k => ?_) ?_
    · simp only [impl_PowerNumber.l0]
      rw [if_pos (by omega), if_pos (by omega), tabB_length, Int.toNat_natCast, tabB_none]
      rfl
    · refine pn_l1 p e (by omega) hp2 s _ ?_ p 0 (by omega)
      refine Ev.step (g := fun k => impl_PowerNumber.l1 k p (resid p e) ((s : Int) + 1) (tabB p (reach p e (s + 1))) (tabB p (reach p e s)) p p) (fun k => by simp only [impl_PowerNumber.l1]; rfl) ?_
      simp only [if_neg (show ¬ (p : Int) < p by omega)]
      refine Ev.bind (a := false) ⟨p + 1, fun k hk => ?_⟩ ?_
      · show slices_Contains_bool_bool.f k _ false = _
        rw [contB_val _ (by rw [tabB_length]; omega) k (by rw [tabB_length]; omega), allR_tab, ht]; rfl
      · simp only [Bool.false_eq_true, if_false]
        exact Ev.now _
  | succ d ih =>
    intro s hs
    have h := ih (s + 1) (by omega)
    refine Ev.step (g := fun k => impl_PowerNumber.l0 k p (resid p e) (tabB p (reach p e s)) ((s : Int) + 1)) (f := fun k => impl_PowerNumber.l1 k p (resid p e) ((s : Int) + 1) (tabB p (stepX p e s 0)) (tabB p (reach p e s)) p 0) (fun k => ?_) ?_
    · simp only [impl_PowerNumber.l0]
      rw [if_pos (by omega), if_pos (by omega), tabB_length, Int.toNat_natCast, tabB_none]
      rfl
    · refine pn_l1 p e (by omega) hp2 s _ ?_ p 0 (by omega)
      refine Ev.step (g := fun k => impl_PowerNumber.l1 k p (resid p e) ((s : Int) + 1) (tabB p (reach p e (s + 1))) (tabB p (reach p e s)) p p) (fun k => by simp only [impl_PowerNumber.l1]; rfl) ?_
      simp only [if_neg (show ¬ (p : Int) < p by omega)]
      refine Ev.bind (a := !allR p e (s + 1)) ⟨p + 1, fun k hk => ?_⟩ ?_
      · show slices_Contains_bool_bool.f k _ false = _
        rw [contB_val _ (by rw [tabB_length]; omega) k (by rw [tabB_length]; omega), allR_tab]
      · simp only [leastS]
        cases hq : allR p e (s + 1)
        · simp only [Bool.not_false, if_true, Bool.false_eq_true, if_false]
          rw [w64 (by omega) (by omega)]
          exact h
        · simp only [Bool.not_true, Bool.false_eq_true, if_false, if_true]
          exact Ev.now _
def dueNum (p e : Int) : Int × Int := if (isPr p && okE e) = true then ((leastS p.toNat e.toNat (p.toNat - 2) 1 : Nat), 0) else (0, 2)
theorem diff_ev (p e : Nat) (hp : 2 ≤ p) (hp2 : p ≤ 61) (he : e ≤ 60) : Ev (fun k => impl_differentPowers.f k p e) (resid p e) := by
  refine ⟨3001, fun k hk => ?_⟩
  have hv := powersOf_val k p e (by omega) (by omega) (by omega) (by omega)
  unfold impl_differentPowers.f
  dsimp only
  rw [hv]
  simp only [Option.bind_some]
  rw [if_pos (by rw [powL_length]; omega), sortedOnce_resid _ _ (by omega)]
theorem reach0_tab (p e : Nat) : tabB p (reach p e 0) = (tabB p fun _ => false).set 0 true := by
  rw [tabB_set]
  refine tabB_congr fun c _ => ?_
  simp only [reach]
  by_cases h : c = 0 <;> simp [h]
theorem iNum {p e : Int} (h0 : 2 ≤ p) (h1 : p ≤ 67) : Ev (fun k => impl_PowerNumber.f k p e) (dueNum p e) := by
  unfold impl_PowerNumber.f dueNum
  refine Ev.bind ⟨101, fun k hk => isPrime_val p h0 h1 k (by omega)⟩ ?_
  have bad : Ev (fun k => impl_PowerNumber.j0 k p e true) ((0, 2) : Int × Int) := Ev.step (fun k => by simp only [impl_PowerNumber.j0]; rfl) (Ev.now _)
  cases c1 : isPr p
  · exact bad
  have hp := isPr_bd c1
  simp only [isExponent_val, Option.bind_some, if_true, Bool.true_and]
  by_cases c3 : okE e = true
  · simp only [c3, if_true, Bool.not_true]
    have he : 1 ≤ e ∧ e ≤ 60 := by simpa [okE] using c3
    obtain ⟨q, rfl⟩ := Int.eq_ofNat_of_zero_le (show 0 ≤ p by omega)
    obtain ⟨m, rfl⟩ := Int.eq_ofNat_of_zero_le (show 0 ≤ e by omega)
    refine Ev.step (g := fun k => impl_PowerNumber.j0 k q m false) (fun k => by simp only [impl_PowerNumber.j0]; rfl) ?_
    simp only [Bool.false_eq_true, if_false]
    refine Ev.bind (diff_ev q m (by omega) (by omega) (by omega)) ?_
    simp only [if_pos (show (0 : Int) ≤ q by omega), Option.bind_some, Int.toNat_natCast, if_pos (show q ≤ 281474976710656 by omega), List.length_replicate, if_pos (show (0 : Int) < q by omega)]
    have h := pn_l0 q m (by omega) (by omega) (by omega) (q - 2) 0 (by omega)
    rw [reach0_tab, ← tabB_none] at h
    exact h
  · simp only [c3, Bool.false_eq_true, if_false, Bool.not_false]
    exact bad
/-! The reference's number. -/
def ind (P : Nat → Bool) : Nat → Int := fun c => if P c = true then 1 else 0
theorem ind_congr {P Q : Nat → Bool} {c : Nat} (h : P c = Q c) : ind P c = ind Q c := by unfold ind; rw [h]
theorem ind_true {P : Nat → Bool} {c : Nat} (h : P c = true) : ind P c = 1 := by unfold ind; rw [if_pos h]
theorem ind_pos (P : Nat → Bool) (c : Nat) : 0 < ind P c ↔ P c = true := by
  unfold ind
  split <;> simp_all
def stepY (p e s x i c : Nat) : Bool := reach p e s x && (List.range i).any fun y => inR p e y && (x + y) % p == c
def stepZ (p e s i c : Nat) : Bool := (List.range i).any fun x => stepY p e s x p c
theorem stepZ_all (p e s c : Nat) : stepZ p e s p c = reach p e (s + 1) c := rfl
theorem stepZ_succ (p e s i c : Nat) : stepZ p e s (i + 1) c = (stepZ p e s i c || stepY p e s i p c) := by
  unfold stepZ
  rw [List.range_succ, List.any_append]
  simp
theorem stepY_succ (p e s x i c : Nat) : stepY p e s x (i + 1) c = (stepY p e s x i c || (reach p e s x && (inR p e i && (x + i) % p == c))) := by
  unfold stepY
  rw [List.range_succ, List.any_append]
  cases reach p e s x <;> simp
theorem sn_l3 (p e : Nat) (hp : 2 ≤ p) (hp2 : p ≤ 61) (s : Nat) (S : Int) (g : Nat → Int) (hg : ∀ c, c < p → (0 < g c ↔ reach p e s c = true)) (x : Nat) (hx : x < p) (F : Nat → Bool) (r : Int × Int)
    (hn : Ev (fun k => spec_PowerNumber.l2 k p (tab p (vals p 1 e 0)) (tab p g) S (tab p (ind fun c => F c || stepY p e s x p c)) ((x : Int) + 1)) r) : ∀ (d i : Nat), i + d = p →
    Ev (fun k => spec_PowerNumber.l3 k p (tab p (vals p 1 e 0)) (tab p g) S (tab p (ind fun c => F c || stepY p e s x i c)) x i) r := by
  intro d
  induction d with
  | zero =>
    intro i hi
    obtain rfl : i = p := by omega
    refine Ev.step (fun k => ?_) hn
    simp only [spec_PowerNumber.l3]
    rw [if_neg (by omega), w64 (by omega) (by omega)]
  | succ d ih =>
    intro i hi
    have h := ih (i + 1) (by omega)
    rw [show (((i + 1 : Nat)) : Int) = (i : Int) + 1 by omega] at h
    refine Ev.step (fun k => ?_) h
    simp only [spec_PowerNumber.l3]
    rw [if_pos (by omega), if_pos (by omega), if_pos (by rw [tab_length]; omega), tab_rd p g x hx, w64 (n := (i : Int) + 1) (by omega) (by omega)]
    by_cases c1 : reach p e s x = true
    · rw [if_pos ((hg x hx).2 c1), if_pos (by omega), if_pos (by rw [tab_length]; omega), tab_rd p _ i (by omega)]
      by_cases c2 : inR p e i = true
      · have hv : 0 < vals p 1 e 0 i := by simpa [inR] using c2
        have hm : Int.tmod (wrap64 ((x : Int) + i)) p = (((x + i) % p : Nat) : Int) := by
          rw [w64 (by omega) (by omega), Int.tmod_eq_emod_of_nonneg (by omega), Int.natCast_emod, Int.natCast_add]
        have hj : (x + i) % p < p := Nat.mod_lt _ (by omega)
        rw [if_pos hv, if_neg (by omega), hm, if_pos (by omega), if_pos (by rw [tab_length]; omega), Int.toNat_natCast, tab_set]
        congr 1
        refine tab_congr fun c hc => ?_
        by_cases e1 : c = (x + i) % p
        · rw [if_pos e1]
          refine (ind_true ?_).symm
          show (F c || stepY p e s x (i + 1) c) = true
          rw [stepY_succ, c1, c2, e1]; simp
        · rw [if_neg e1]
          refine ind_congr ?_
          show (F c || stepY p e s x i c) = (F c || stepY p e s x (i + 1) c)
          rw [stepY_succ, c1, c2, beq_eq_false_iff_ne.mpr (fun z => e1 z.symm)]; simp
      · have hv : ¬ 0 < vals p 1 e 0 i := by simpa [inR] using c2
        rw [if_neg hv]
        congr 1
        refine tab_congr fun c hc => ?_
        refine ind_congr ?_
        show (F c || stepY p e s x i c) = (F c || stepY p e s x (i + 1) c)
        rw [stepY_succ, c1, Bool.eq_false_iff.mpr c2]
        simp
    · rw [if_neg (fun z => c1 ((hg x hx).1 z))]
      congr 1
      refine tab_congr fun c hc => ?_
      refine ind_congr ?_
      show (F c || stepY p e s x i c) = (F c || stepY p e s x (i + 1) c)
      rw [stepY_succ, Bool.eq_false_iff.mpr c1]
      simp
theorem sn_l2 (p e : Nat) (hp : 2 ≤ p) (hp2 : p ≤ 61) (s : Nat) (S : Int) (hS0 : 0 ≤ S) (hS : S ≤ 1000) (g : Nat → Int) (hg : ∀ c, c < p → (0 < g c ↔ reach p e s c = true)) (r : Int × Int)
    (hn : Ev (fun k => spec_PowerNumber.l0 k p (tab p (vals p 1 e 0)) (tab p (ind (reach p e (s + 1)))) (S + 1)) r) : ∀ (d x : Nat), x + d = p →
    Ev (fun k => spec_PowerNumber.l2 k p (tab p (vals p 1 e 0)) (tab p g) S (tab p (ind (stepZ p e s x))) x) r := by
  intro d
  induction d with
  | zero =>
    intro x hx
    obtain rfl : x = p := by omega
    refine Ev.step (fun k => ?_) hn
    simp only [spec_PowerNumber.l2]
    rw [if_neg (by omega), w64 (by omega) (by omega)]
    rfl
  | succ d ih =>
    intro x hx
    have h := ih (x + 1) (by omega)
    rw [show (((x + 1 : Nat)) : Int) = (x : Int) + 1 by omega, show stepZ p e s (x + 1) = fun c => stepZ p e s x c || stepY p e s x p c from funext (stepZ_succ p e s x)] at h
    have h2 := sn_l3 p e hp hp2 s S g hg x (by omega) (stepZ p e s x) r h p 0 (by omega)
    refine Ev.step (fun k => ?_) h2
    simp only [spec_PowerNumber.l2]
    rw [if_pos (by omega)]
    simp [stepY]
theorem sn_l1 (p e : Nat) (hp : 2 ≤ p) (hp2 : p ≤ 61) (s : Nat) (S : Int) (g : Nat → Int) (hg : ∀ c, c < p → (0 < g c ↔ reach p e s c = true)) (r : Int × Int)
    (hn : Ev (fun k => spec_PowerNumber.l1 k p (tab p (vals p 1 e 0)) (tab p g) S (allR p e s) p) r) : ∀ (d i : Nat), i + d = p →
    Ev (fun k => spec_PowerNumber.l1 k p (tab p (vals p 1 e 0)) (tab p g) S ((List.range i).all (reach p e s)) i) r := by
  intro d
  induction d with
  | zero =>
    intro i hi
    obtain rfl : i = p := by omega
    exact hn
  | succ d ih =>
    intro i hi
    have h := ih (i + 1) (by omega)
    rw [show (((i + 1 : Nat)) : Int) = (i : Int) + 1 by omega, List.range_succ, List.all_append, List.all_cons, List.all_nil, Bool.and_true] at h
    refine Ev.step (fun k => ?_) h
    simp only [spec_PowerNumber.l1]
    rw [if_pos (by omega), w64 (by omega) (by omega)]
    cases c1 : (List.range i).all (reach p e s)
    · rw [if_neg (by decide), Bool.false_and]
    · rw [if_pos rfl, if_pos (by omega), if_pos (by rw [tab_length]; omega), tab_rd p g i (by omega), Bool.true_and]
      congr 1
      rw [Bool.eq_iff_iff, decide_eq_true_eq]
      exact hg i (by omega)
theorem sn_l0 (p e : Nat) (hp : 3 ≤ p) (hp2 : p ≤ 61) (he : 1 ≤ e) : ∀ (d s : Nat) (g : Nat → Int), s + 1 + d = p - 1 → (∀ c, c < p → (0 < g c ↔ reach p e (s + 1) c = true)) →
    Ev (fun k => spec_PowerNumber.l0 k p (tab p (vals p 1 e 0)) (tab p g) ((s : Int) + 1)) ((leastS p e d (s + 1) : Nat), 0) := by
  intro d
  induction d with
  | zero =>
    intro s g hs hg
    have ht : allR p e (s + 1) = true := allR_top p e (s + 1) hp he (by omega)
    refine Ev.step (g := fun k => spec_PowerNumber.l0 k p (tab p (vals p 1 e 0)) (tab p g) ((s : Int) + 1)) (f := fun k => spec_PowerNumber.l1 k p (tab p (vals p 1 e 0)) (tab p g) ((s : Int) + 1) true 0) (fun k => by simp only [spec_PowerNumber.l0]) ?_
    refine sn_l1 p e (by omega) hp2 (s + 1) _ g hg _ ?_ p 0 (by omega)
    refine Ev.step (fun k => ?_) (Ev.now _)
    simp only [spec_PowerNumber.l1]
    rw [if_neg (by omega), ht, if_pos rfl]
    rfl
  | succ d ih =>
    intro s g hs hg
    refine Ev.step (g := fun k => spec_PowerNumber.l0 k p (tab p (vals p 1 e 0)) (tab p g) ((s : Int) + 1)) (f := fun k => spec_PowerNumber.l1 k p (tab p (vals p 1 e 0)) (tab p g) ((s : Int) + 1) true 0) (fun k => by simp only [spec_PowerNumber.l0]) ?_
    refine sn_l1 p e (by omega) hp2 (s + 1) _ g hg _ ?_ p 0 (by omega)
    simp only [leastS]
    cases hq : allR p e (s + 1)
    · have h := ih (s + 1) (ind (reach p e (s + 1 + 1))) (by omega) (fun c _ => ind_pos _ c)
      rw [show (((s + 1 : Nat)) : Int) = (s : Int) + 1 by omega] at h
      have h2 := sn_l2 p e (by omega) hp2 (s + 1) ((s : Int) + 1) (by omega) (by omega) g hg _ h p 0 (by omega)
      refine Ev.step (fun k => ?_) h2
      simp only [spec_PowerNumber.l1]
      rw [if_neg (by omega), if_neg (by decide), if_pos (by omega), if_pos (by omega), Int.toNat_natCast, tab_zero]
      rfl
    · refine Ev.step (fun k => ?_) (Ev.now _)
      simp only [spec_PowerNumber.l1]
      rw [if_neg (by omega), if_pos trivial, if_pos trivial]
      rfl
theorem reach_one (p e c : Nat) (hp : 0 < p) (hc : c < p) : reach p e 1 c = inR p e c := by
  rw [Bool.eq_iff_iff, reach_succ]
  constructor
  · rintro ⟨x, hx, h1, y, hy, h2, h3⟩
    obtain rfl : x = 0 := by simpa [reach] using h1
    rw [Nat.zero_add, Nat.mod_eq_of_lt hy] at h3
    rw [← h3]; exact h2
  · intro h
    exact ⟨0, hp, by simp [reach], c, hc, h, by rw [Nat.zero_add, Nat.mod_eq_of_lt hc]⟩
theorem sNum {p e : Int} (h0 : 2 ≤ p) (h1 : p ≤ 67) : Ev (fun k => spec_PowerNumber.f k p e) (dueNum p e) := by
  unfold spec_PowerNumber.f dueNum
  refine Ev.bind ⟨2001, fun k hk => l08Code_val k p [e] h0 h1 (by simp) (by omega)⟩ ?_
  simp only [List.all_cons, List.all_nil, Bool.and_true]
  by_cases c : (isPr p && okE e) = true
  · have c' := c
    simp only [Bool.and_eq_true] at c'
    have hp := isPr_bd c'.1
    have he : 1 ≤ e ∧ e ≤ 60 := by simpa [okE] using c'.2
    simp only [if_pos c, if_true]
    obtain ⟨q, rfl⟩ := Int.eq_ofNat_of_zero_le (show 0 ≤ p by omega)
    obtain ⟨m, rfl⟩ := Int.eq_ofNat_of_zero_le (show 0 ≤ e by omega)
    refine Ev.bind (a := tab q (vals q 1 m 0)) ⟨3001, fun k hk => l08Values_val k q m 1 (by omega) (by omega) (by omega) (by omega) (by omega) (by omega)⟩ ?_
    have ho : spec_l01Own.f (tab q (vals q 1 m 0)) = some (tab q (vals q 1 m 0)) := by
      unfold spec_l01Own.f
      simp only [Option.bind_some, List.nil_append, List.length_nil]
      rw [if_pos (by rw [tab_length]; omega)]
    rw [ho]
    simp only [Option.bind_some]
    exact sn_l0 q m (by omega) (by omega) (by omega) (q - 2) 0 (vals q 1 m 0) (by omega) (fun c hc => by rw [reach_one q m c (by omega) hc]; simp [inR])
  · simp only [if_neg c, if_neg (show ¬ (2 : Int) = 0 by omega)]
    exact Ev.now _
/-! The least number that is no power. -/
def leastN (p e : Nat) : Nat → Nat → Nat
  | 0, _ => 0
  | d + 1, i => if inR p e i = true then leastN p e d (i + 1) else i
def dueLea (p e : Int) : Int × Int := if (isPr p && okE e) = true then ((leastN p.toNat e.toNat p.toNat 0 : Nat), 0) else (0, 2)
theorem cont_resid (p e i : Nat) (hp : 0 < p) (hi : i < p) : (resid p e).contains (i : Int) = inR p e i := by
  rw [Bool.eq_iff_iff, inR_mem p e i hp hi, List.contains_iff_mem]
theorem ln_l0 (p e : Nat) (hp : 2 ≤ p) (hp2 : p ≤ 61) : ∀ (d i : Nat), i + d = p → Ev (fun k => impl_LeastNoPower.l0 k (resid p e) p i) ((leastN p e d i : Nat), 0) := by
  intro d
  have hlen := resid_len p e
  induction d with
  | zero =>
    intro i hi
    refine Ev.step (fun k => ?_) (Ev.now _)
    simp only [impl_LeastNoPower.l0]
    rw [if_neg (by omega)]
    rfl
  | succ d ih =>
    intro i hi
    have h := ih (i + 1) (by omega)
    rw [show (((i + 1 : Nat)) : Int) = (i : Int) + 1 by omega] at h
    refine Ev.step (g := fun k => impl_LeastNoPower.l0 k (resid p e) p i) (fun k => by simp only [impl_LeastNoPower.l0]; rfl) ?_
    simp only [if_pos (show (i : Int) < p by omega)]
    refine Ev.bind (a := inR p e i) ⟨p + 1, fun k hk => ?_⟩ ?_
    · show slices_Contains_int64_int64.f k _ _ = _
      rw [contI_val _ _ (by omega) k (by omega), cont_resid p e i (by omega) (by omega)]
    · simp only [leastN]
      cases inR p e i
      · simp only [Bool.false_eq_true, if_false]
        exact Ev.now _
      · simp only [if_true]
        rw [w64 (by omega) (by omega)]
        exact h
theorem iLea {p e : Int} (h0 : 2 ≤ p) (h1 : p ≤ 67) : Ev (fun k => impl_LeastNoPower.f k p e) (dueLea p e) := by
  unfold impl_LeastNoPower.f dueLea
  refine Ev.bind ⟨101, fun k hk => isPrime_val p h0 h1 k (by omega)⟩ ?_
  have bad : Ev (fun k => impl_LeastNoPower.j0 k p e true) ((0, 2) : Int × Int) := Ev.step (fun k => by simp only [impl_LeastNoPower.j0]; rfl) (Ev.now _)
  cases c1 : isPr p
  · exact bad
  have hp := isPr_bd c1
  simp only [isExponent_val, Option.bind_some, if_true, Bool.true_and]
  by_cases c3 : okE e = true
  · simp only [c3, if_true, Bool.not_true]
    have he : 1 ≤ e ∧ e ≤ 60 := by simpa [okE] using c3
    obtain ⟨q, rfl⟩ := Int.eq_ofNat_of_zero_le (show 0 ≤ p by omega)
    obtain ⟨m, rfl⟩ := Int.eq_ofNat_of_zero_le (show 0 ≤ e by omega)
    refine Ev.step (g := fun k => impl_LeastNoPower.j0 k q m false) (fun k => by simp only [impl_LeastNoPower.j0]; rfl) ?_
    simp only [Bool.false_eq_true, if_false]
    exact Ev.bind (diff_ev q m (by omega) (by omega) (by omega)) (ln_l0 q m (by omega) (by omega) q 0 (by omega))
  · simp only [c3, Bool.false_eq_true, if_false, Bool.not_false]
    exact bad
theorem sl_l0 (p e : Nat) (hp : 2 ≤ p) (hp2 : p ≤ 61) : ∀ (d i : Nat), i + d = p → Ev (fun k => spec_LeastNoPower.l0 k p (tab p (vals p 1 e 0)) i) ((leastN p e d i : Nat), 0) := by
  intro d
  induction d with
  | zero =>
    intro i hi
    refine Ev.step (fun k => ?_) (Ev.now _)
    simp only [spec_LeastNoPower.l0]
    rw [if_neg (by omega)]
    rfl
  | succ d ih =>
    intro i hi
    have h := ih (i + 1) (by omega)
    rw [show (((i + 1 : Nat)) : Int) = (i : Int) + 1 by omega] at h
    have hb := vals_bd p 1 e 0 i (by omega)
    simp only [leastN]
    by_cases c : inR p e i = true
    · have hv : 0 < vals p 1 e 0 i := by simpa [inR] using c
      rw [if_pos c]
      refine Ev.step (fun k => ?_) h
      simp only [spec_LeastNoPower.l0]
      rw [if_pos (by omega), if_pos (by omega), if_pos (by rw [tab_length]; omega), tab_rd p _ i (by omega), if_neg (by omega), w64 (by omega) (by omega)]
    · have hv : ¬ 0 < vals p 1 e 0 i := by simpa [inR] using c
      rw [if_neg c]
      refine Ev.step (fun k => ?_) (Ev.now _)
      simp only [spec_LeastNoPower.l0]
      rw [if_pos (by omega), if_pos (by omega), if_pos (by rw [tab_length]; omega), tab_rd p _ i (by omega), if_pos (by omega)]
theorem sLea {p e : Int} (h0 : 2 ≤ p) (h1 : p ≤ 67) : Ev (fun k => spec_LeastNoPower.f k p e) (dueLea p e) := by
  unfold spec_LeastNoPower.f dueLea
  refine Ev.bind ⟨2001, fun k hk => l08Code_val k p [e] h0 h1 (by simp) (by omega)⟩ ?_
  simp only [List.all_cons, List.all_nil, Bool.and_true]
  by_cases c : (isPr p && okE e) = true
  · have c' := c
    simp only [Bool.and_eq_true] at c'
    have hp := isPr_bd c'.1
    have he : 1 ≤ e ∧ e ≤ 60 := by simpa [okE] using c'.2
    simp only [if_pos c, if_true]
    obtain ⟨q, rfl⟩ := Int.eq_ofNat_of_zero_le (show 0 ≤ p by omega)
    obtain ⟨m, rfl⟩ := Int.eq_ofNat_of_zero_le (show 0 ≤ e by omega)
    refine Ev.bind (a := tab q (vals q 1 m 0)) ⟨3001, fun k hk => l08Values_val k q m 1 (by omega) (by omega) (by omega) (by omega) (by omega) (by omega)⟩ ?_
    exact sl_l0 q m (by omega) (by omega) q 0 (by omega)
  · simp only [if_neg c, if_neg (show ¬ (2 : Int) = 0 by omega)]
    exact Ev.now _
theorem leastN_zero (p e : Nat) (hp : 3 ≤ p) (he : 1 ≤ e) : ∀ d i, i + d = p → (∀ c, c < i → inR p e c = true) → leastN p e d i = 0 → ∀ c, c < p → inR p e c = true
  | 0, i, hi, h, _, c, hc => h c (by omega)
  | d + 1, i, hi, h, hz, c, hc => by
    simp only [leastN] at hz
    by_cases q : inR p e i = true
    · rw [if_pos q] at hz
      exact leastN_zero p e hp he d (i + 1) (by omega) (fun c hc => by
        by_cases e1 : c = i
        · rw [e1]; exact q
        · exact h c (by omega)) hz c hc
    · rw [if_neg q] at hz
      rw [hz] at q
      exact absurd (inR_zero p e hp he) q
theorem leastN_not (p e : Nat) : ∀ d i, i + d = p → leastN p e d i ≠ 0 → leastN p e d i < p ∧ inR p e (leastN p e d i) = false
  | 0, i, hi, h => absurd rfl h
  | d + 1, i, hi, h => by
    simp only [leastN] at h ⊢
    by_cases q : inR p e i = true
    · rw [if_pos q] at h ⊢
      exact leastN_not p e d (i + 1) (by omega) h
    · rw [if_neg q] at h ⊢
      exact ⟨by omega, Bool.eq_false_iff.mpr q⟩
theorem resid_full (p e : Nat) (h : ∀ c, c < p → inR p e c = true) : (resid p e).length = p := by
  unfold resid
  rw [List.length_map]
  have : (List.range p).filter (fun c => decide (0 < vals p 1 e 0 c)) = List.range p := by
    rw [List.filter_eq_self]
    intro c hc
    exact h c (List.mem_range.1 hc)
  rw [this, List.length_range]
end Go.Proofs.Ytphlgajlebgnbaa.Q
/-! The law of curves, in plain words. -/
namespace Go.Proofs.Ytphlgajlebgnbaa.Q
open Go.RowKit Go.Proofs.Ytphlgajlebgnbaa.P Go.Proofs.YtphlgajlebgnbaaW.PrintWords Go.Proofs.YtphlgajlebgnbaaW.PrintLast
set_option linter.unusedVariables false
set_option linter.unusedSimpArgs false
theorem with_src {c : List Int} (hc : Code c) : ∃ p m, spec_l08With.f c = some (p, m) ∧ 2 ≤ p ∧ p ≤ 67 := by
  obtain ⟨h0, e0, s0⟩ := from_src hc
  obtain ⟨p, a1, h1, e1, s1, p0, p1⟩ := prime_src hc s0
  obtain ⟨v, a2, h2, e2, s2, v0, v1⟩ := near_src hc s1 60 (by omega) (by omega)
  obtain ⟨u, a3, h3, e3, s3, _⟩ := pick_src hc s2 [1, 2, 2, 3, 3, 4, 5, 6, v] (by simp) (by simp)
  refine ⟨p, u, ?_, p0, p1⟩
  unfold spec_l08With.f
  rw [e0]
  simp only [Option.bind_some]
  rw [e1]
  simp only [Option.bind_some]
  rw [e2]
  simp only [Option.bind_some]
  rw [e3]
  rfl
theorem cj11 {p m : Int} (h0 : 2 ≤ p) (h1 : p ≤ 67) :
    Ev (fun k => laws_FnCurves.j11 k p m (duePts p m).1 (duePts p m).2 (dueDef p m).1 (dueDef p m).2 false) true := by
  refine Ev.step (g := fun k => laws_FnCurves.j11 k p m (duePts p m).1 (duePts p m).2 (dueDef p m).1 (dueDef p m).2 false) (fun k => by simp only [laws_FnCurves.j11]; rfl) ?_
  simp only [Bool.false_eq_true, if_false]
  by_cases v : validC p m = true
  · have V := cur_of v
    have hp := isPr_bd V.pr
    have e0 := V.e0
    have e1 := V.e1
    have hok : okE m = true := by simp [okE]; omega
    have g1 : duePts p m = (ptsI p.toNat m.toNat, 0) := if_pos v
    have g2 : dueDef p m = (p + 1 - ptsI p.toNat m.toNat, 0) := if_pos v
    have g3 : dueGen m = (gen m, 0) := if_pos hok
    have hb := ptsI_bd p.toNat m.toNat (by omega)
    rw [g1, g2, iGen, g3]
    simp only [if_true, Option.bind_some]
    obtain ⟨x, hx⟩ : ∃ x, x = ptsI p.toNat m.toNat := ⟨_, rfl⟩
    rw [← hx] at hb ⊢
    rw [w64 (n := x + (p + 1 - x)) (by omega) (by omega), w64 (n := p + 1) (by omega) (by omega), if_pos (by omega)]
    obtain ⟨hn, hc⟩ := isPr_nat V.pr
    have hbd := curve_bound hn (show 1 ≤ m.toNat by omega) (show m.toNat ≤ 60 by omega) (by
      intro z
      apply V.ne
      have : ((m.toNat % p.toNat : Nat) : Int) = 0 := by rw [z]; rfl
      rw [Int.natCast_emod, hc, show ((m.toNat : Nat) : Int) = m by omega] at this
      exact this) (gen m) rfl
    rw [← hx, hc] at hbd
    have hg : 0 ≤ gen m ∧ gen m ≤ 1711 := by
      have h : ∀ i : Nat, i < 60 → 0 ≤ gen ((i + 1 : Nat) : Int) ∧ gen ((i + 1 : Nat) : Int) ≤ 1711 := by decide +kernel
      have h2 := h (m.toNat - 1) (by omega)
      rw [show (((m.toNat - 1 + 1 : Nat)) : Int) = m by omega] at h2
      exact h2
    obtain ⟨g, hge⟩ : ∃ g, g = gen m := ⟨_, rfl⟩
    rw [← hge] at hbd hg ⊢
    obtain ⟨y, hy⟩ : ∃ y, y = p + 1 - x := ⟨_, rfl⟩
    rw [← hy] at hbd ⊢
    have hgg : 0 ≤ 4 * g * g ∧ 4 * g * g ≤ 11710084 := ⟨Int.mul_nonneg (by omega) hg.1, Int.le_trans (Int.mul_le_mul (show 4 * g ≤ 6844 by omega) hg.2 hg.1 (by omega)) (by omega)⟩
    have hgp : 0 ≤ 4 * g * g * p ∧ 4 * g * g * p ≤ 11710084 * 61 := ⟨Int.mul_nonneg hgg.1 (by omega), Int.mul_le_mul hgg.2 (by omega) (by omega) (by omega)⟩
    have hyy : 0 ≤ y * y := by
      rcases Int.le_total 0 y with h | h
      · exact Int.mul_nonneg h h
      · exact Int.mul_nonneg_of_nonpos_of_nonpos h h
    rw [w64 (n := y * y) (by omega) (by omega), w64 (n := 4 * g) (by omega) (by omega), w64 (n := 4 * g * g) (by omega) (by omega), w64 (n := 4 * g * g * p) (by omega) (by omega), decide_eq_true hbd]
    exact Ev.now _
  · have g1 : duePts p m = (0, 2) := if_neg v
    have g2 : dueDef p m = (0, 2) := if_neg v
    rw [g1, g2]
    simp only [if_neg (show ¬ (2 : Int) = 0 by omega), if_true]
    exact Ev.now _
theorem cj10 {p m : Int} (h0 : 2 ≤ p) (h1 : p ≤ 67) {q e : Int} {l : List Int} (q0 : 2 ≤ q) (q1 : q ≤ 67) :
    Ev (fun k => laws_FnCurves.j10 k p m (duePts p m).1 (duePts p m).2 (dueDef p m).1 (dueDef p m).2 q (dueAb q e l).1 (dueAb q e l).2) true := by
  refine Ev.step (g := fun k => laws_FnCurves.j10 k p m (duePts p m).1 (duePts p m).2 (dueDef p m).1 (dueDef p m).2 q (dueAb q e l).1 (dueAb q e l).2) (fun k => by simp only [laws_FnCurves.j10]; rfl) ?_
  by_cases z : (dueAb q e l).2 = 0
  · have hb := dueAb_bd q0 q1 z
    have hqq : q * q ≤ 67 * 67 := Int.mul_le_mul (by omega) (by omega) (by omega) (by omega)
    simp only [if_pos z, if_neg (show ¬ (dueAb q e l).1 < 0 by omega)]
    rw [w64 (n := q * q) (by omega) (by omega), decide_eq_false (show ¬ (dueAb q e l).1 > q * q by omega)]
    exact cj11 h0 h1
  · simp only [if_neg z]
    exact cj11 h0 h1
theorem cl1 {p m : Int} (h0 : 2 ≤ p) (h1 : p ≤ 67) {q e : Int} {l : List Int} (q0 : 2 ≤ q) (q1 : q ≤ 67) {r n : Nat} (hr : isPr r = true) (hn : 1 ≤ n ∧ n ≤ 60) (s : Nat) (hs1 : 1 ≤ s) (hs : s ≤ 4) (hall : allR r n s = true) : ∀ (d b : Nat), b + d = r →
    Ev (fun k => laws_FnCurves.l1 k p m (duePts p m).1 (duePts p m).2 (dueDef p m).1 (dueDef p m).2 q (dueAb q e l).1 (dueAb q e l).2 r (List.replicate s 1) (List.replicate s n) b) true := by
  have hb := isPr_bd hr
  intro d
  induction d with
  | zero =>
    intro b hbd
    obtain rfl : b = r := by omega
    refine Ev.step (g := fun k => laws_FnCurves.l1 k p m (duePts p m).1 (duePts p m).2 (dueDef p m).1 (dueDef p m).2 q (dueAb q e l).1 (dueAb q e l).2 b (List.replicate s 1) (List.replicate s n) b) (fun k => by simp only [laws_FnCurves.l1]; rfl) ?_
    simp only [if_neg (show ¬ (b : Int) < b by omega)]
    exact cj10 h0 h1 q0 q1
  | succ d ih =>
    intro b hbd
    have h := ih (b + 1) (by omega)
    rw [show (((b + 1 : Nat)) : Int) = (b : Int) + 1 by omega] at h
    have A : Arg r (List.replicate s 1) (List.replicate s (n : Int)) b := ⟨by omega, by omega, by rw [List.length_replicate]; omega, by rw [List.length_replicate]; omega, by omega, by omega⟩
    have V : Val r (List.replicate s 1) (List.replicate s (n : Int)) b := by
      refine ⟨hr, ?_, by rw [List.length_replicate]; omega, by rw [List.length_replicate]; omega, by rw [List.length_replicate, List.length_replicate], by omega, by omega, ?_⟩
      · rw [List.all_eq_true]
        intro x hx
        rw [List.eq_of_mem_replicate hx]
        simp [okE]; omega
      · rw [List.all_eq_true]
        intro x hx
        rw [List.eq_of_mem_replicate hx]
        simp [okF]; omega
    have hd : due 0 r (List.replicate s 1) (List.replicate s (n : Int)) b = (stages r 0 (List.replicate s (1, (n : Int))) delta0 b, 0) := by
      unfold due
      rw [if_pos V.valid, List.zip_replicate', Int.toNat_natCast, Int.toNat_natCast]
    have hpos := reach_pos r n (by omega) s b (by omega) ((allR_iff r n s).1 hall b (by omega))
    refine Ev.step (g := fun k => laws_FnCurves.l1 k p m (duePts p m).1 (duePts p m).2 (dueDef p m).1 (dueDef p m).2 q (dueAb q e l).1 (dueAb q e l).2 r (List.replicate s 1) (List.replicate s n) b) (fun k => by simp only [laws_FnCurves.l1]; rfl) ?_
    simp only [if_pos (show (b : Int) < r by omega)]
    refine Ev.bind (iSol A) ?_
    rw [hd]
    simp only [if_true, if_neg (show ¬ stages r 0 (List.replicate s (1, (n : Int))) delta0 b < 1 by omega)]
    rw [w64 (by omega) (by omega)]
    exact h
theorem cl0 {p m : Int} (h0 : 2 ≤ p) (h1 : p ≤ 67) {q e : Int} {l : List Int} (q0 : 2 ≤ q) (q1 : q ≤ 67) {r n : Nat} (hr : isPr r = true) (hn : 1 ≤ n ∧ n ≤ 60) (s : Nat) (hs1 : 1 ≤ s) (hs : s ≤ 4) (hall : allR r n s = true) : ∀ (d i : Nat), i + d = s →
    Ev (fun k => laws_FnCurves.l0 k p m (duePts p m).1 (duePts p m).2 (dueDef p m).1 (dueDef p m).2 q (dueAb q e l).1 (dueAb q e l).2 r n s (List.replicate i 1) (List.replicate i n) i) true := by
  intro d
  induction d with
  | zero =>
    intro i hi
    obtain rfl : i = s := by omega
    refine Ev.step (g := fun k => laws_FnCurves.l0 k p m (duePts p m).1 (duePts p m).2 (dueDef p m).1 (dueDef p m).2 q (dueAb q e l).1 (dueAb q e l).2 r n i (List.replicate i 1) (List.replicate i n) i) (fun k => by simp only [laws_FnCurves.l0]; rfl) ?_
    simp only [if_neg (show ¬ (i : Int) < i by omega)]
    exact cl1 h0 h1 q0 q1 hr hn i hs1 hs hall r 0 (by omega)
  | succ d ih =>
    intro i hi
    have h := ih (i + 1) (by omega)
    rw [show (((i + 1 : Nat)) : Int) = (i : Int) + 1 by omega, List.replicate_succ', List.replicate_succ'] at h
    refine Ev.step (g := fun k => laws_FnCurves.l0 k p m (duePts p m).1 (duePts p m).2 (dueDef p m).1 (dueDef p m).2 q (dueAb q e l).1 (dueAb q e l).2 r n s (List.replicate i 1) (List.replicate i n) i) (fun k => by simp only [laws_FnCurves.l0]; rfl) ?_
    simp only [if_pos (show (i : Int) < s by omega), List.length_replicate, if_pos (show i < 17592186044416 by omega)]
    rw [w64 (by omega) (by omega)]
    exact h
theorem cj6 {p m : Int} (h0 : 2 ≤ p) (h1 : p ≤ 67) {q e : Int} {l : List Int} (q0 : 2 ≤ q) (q1 : q ≤ 67) {r n : Int} (r0 : 2 ≤ r) (r1 : r ≤ 67) :
    Ev (fun k => laws_FnCurves.j6 k p m (duePts p m).1 (duePts p m).2 (dueDef p m).1 (dueDef p m).2 q (dueAb q e l).1 (dueAb q e l).2 r n (dueNum r n).1 (dueNum r n).2) true := by
  refine Ev.step (g := fun k => laws_FnCurves.j6 k p m (duePts p m).1 (duePts p m).2 (dueDef p m).1 (dueDef p m).2 q (dueAb q e l).1 (dueAb q e l).2 r n (dueNum r n).1 (dueNum r n).2) (fun k => by simp only [laws_FnCurves.j6]; rfl) ?_
  have skip : ∀ N : Int, Ev (fun k => laws_FnCurves.j7 k p m (duePts p m).1 (duePts p m).2 (dueDef p m).1 (dueDef p m).2 q (dueAb q e l).1 (dueAb q e l).2 r n N false) true := by
    intro N
    refine Ev.step (g := fun k => laws_FnCurves.j7 k p m (duePts p m).1 (duePts p m).2 (dueDef p m).1 (dueDef p m).2 q (dueAb q e l).1 (dueAb q e l).2 r n N false) (fun k => by simp only [laws_FnCurves.j7]; rfl) ?_
    simp only [Bool.false_eq_true, if_false]
    exact cj10 h0 h1 q0 q1
  by_cases c : (isPr r && okE n) = true
  · have c' := c
    simp only [Bool.and_eq_true] at c'
    have hr := isPr_bd c'.1
    have hn : 1 ≤ n ∧ n ≤ 60 := by simpa [okE] using c'.2
    obtain ⟨R, rfl⟩ := Int.eq_ofNat_of_zero_le (show 0 ≤ r by omega)
    obtain ⟨N, rfl⟩ := Int.eq_ofNat_of_zero_le (show 0 ≤ n by omega)
    have hd : dueNum R N = (((leastS R N (R - 2) 1 : Nat) : Int), 0) := if_pos c
    rw [hd]
    simp only [if_true]
    obtain ⟨s, hs⟩ : ∃ s, s = leastS R N (R - 2) 1 := ⟨_, rfl⟩
    have hall := leastS_all R N (by omega) (by omega) (R - 2) 1 (by omega)
    have hge := leastS_ge R N (R - 2) 1
    rw [← hs] at hall hge ⊢
    by_cases h4 : s ≤ 4
    · rw [decide_eq_true (show (s : Int) ≤ 4 by omega)]
      refine Ev.step (g := fun k => laws_FnCurves.j7 k p m (duePts p m).1 (duePts p m).2 (dueDef p m).1 (dueDef p m).2 q (dueAb q e l).1 (dueAb q e l).2 R N s true) (fun k => by simp only [laws_FnCurves.j7]; rfl) ?_
      simp only [if_true]
      exact cl0 h0 h1 q0 q1 c'.1 (by omega) s hge h4 hall s 0 (by omega)
    · rw [decide_eq_false (show ¬ (s : Int) ≤ 4 by omega)]
      exact skip _
  · have hd : dueNum r n = (0, 2) := if_neg c
    rw [hd]
    simp only [if_neg (show ¬ (2 : Int) = 0 by omega)]
    exact skip _
theorem cj5 {p m : Int} (h0 : 2 ≤ p) (h1 : p ≤ 67) {q e : Int} {l : List Int} (q0 : 2 ≤ q) (q1 : q ≤ 67) {r n : Int} (r0 : 2 ≤ r) (r1 : r ≤ 67) {s t : Int} (s0 : 2 ≤ s) (s1 : s ≤ 67) :
    Ev (fun k => laws_FnCurves.j5 k p m (duePts p m).1 (duePts p m).2 (dueDef p m).1 (dueDef p m).2 q (dueAb q e l).1 (dueAb q e l).2 r n (dueNum r n).1 (dueNum r n).2 s t (dueLea s t).1 (dueLea s t).2 false) true := by
  refine Ev.step (g := fun k => laws_FnCurves.j5 k p m (duePts p m).1 (duePts p m).2 (dueDef p m).1 (dueDef p m).2 q (dueAb q e l).1 (dueAb q e l).2 r n (dueNum r n).1 (dueNum r n).2 s t (dueLea s t).1 (dueLea s t).2 false) (fun k => by simp only [laws_FnCurves.j5]; rfl) ?_
  simp only [Bool.false_eq_true, if_false]
  have hnext : Ev (fun k => laws_FnCurves.j6 k p m (duePts p m).1 (duePts p m).2 (dueDef p m).1 (dueDef p m).2 q (dueAb q e l).1 (dueAb q e l).2 r n (dueNum r n).1 (dueNum r n).2) true := cj6 h0 h1 q0 q1 r0 r1
  by_cases c : (isPr s && okE t) = true
  · have c' := c
    simp only [Bool.and_eq_true] at c'
    have hs := isPr_bd c'.1
    have ht : 1 ≤ t ∧ t ≤ 60 := by simpa [okE] using c'.2
    obtain ⟨S, rfl⟩ := Int.eq_ofNat_of_zero_le (show 0 ≤ s by omega)
    obtain ⟨T, rfl⟩ := Int.eq_ofNat_of_zero_le (show 0 ≤ t by omega)
    have hd : dueLea S T = (((leastN S T S 0 : Nat) : Int), 0) := if_pos c
    have hpw : duePow S T = (resid S T, 0) := if_pos c
    rw [hd]
    simp only [if_true]
    have hp := iPow (e := (T : Int)) s0 s1
    rw [hpw] at hp
    refine Ev.bind hp ?_
    simp only [if_true]
    have hlen := resid_len S T
    by_cases z : leastN S T S 0 = 0
    · have hfull := resid_full S T (leastN_zero S T (by omega) (by omega) S 0 (by omega) (fun c hc => by omega) z)
      simp only [z, show ((0 : Nat) : Int) = 0 from rfl, hfull, if_true]
      exact hnext
    · simp only [if_neg (show ¬ ((leastN S T S 0 : Nat) : Int) = 0 by omega)]
      obtain ⟨hl, hnot⟩ := leastN_not S T S 0 (by omega) z
      refine Ev.bind (a := false) ⟨S + 1, fun k hk => ?_⟩ ?_
      · show laws_hasInt.f k _ _ = _
        rw [hasInt_val _ _ (by omega) k (by omega)]
        congr 1
        rw [Bool.eq_false_iff]
        intro hh
        rw [List.contains_iff_mem, ← inR_mem S T _ (by omega) hl, hnot] at hh
        cases hh
      · simp only [Bool.false_eq_true, if_false]
        exact hnext
  · have hd : dueLea s t = (0, 2) := if_neg c
    rw [hd]
    simp only [if_neg (show ¬ (2 : Int) = 0 by omega)]
    exact hnext
theorem cur_code {c : List Int} (hc : Code c) : Ev (fun k => laws_FnCurves.f k c) true := by
  obtain ⟨p, m, hw, p0, p1⟩ := with_src hc
  obtain ⟨q, e, l, hda, q0, q1, hl⟩ := drawn_above hc
  have d1 : spec_DrawCurvePoints.f c = some (p, m) := by unfold spec_DrawCurvePoints.f; rw [hw]; rfl
  have d2 : spec_DrawGenusOfCurve.f c = some m := by unfold spec_DrawGenusOfCurve.f; rw [hw]; rfl
  have d3 : spec_DrawPowerNumber.f c = some (p, m) := by unfold spec_DrawPowerNumber.f; rw [hw]; rfl
  have d4 : spec_DrawLeastNoPower.f c = some (p, m) := by unfold spec_DrawLeastNoPower.f; rw [hw]; rfl
  unfold laws_FnCurves.f laws_big.f
  simp only [Option.bind_some]
  by_cases hbig : (c.length : Int) > 4096
  · simp only [hbig, decide_true, if_true]
    exact Ev.now true
  simp only [hbig, decide_false, Bool.false_eq_true, if_false]
  rw [d1]
  simp only [Option.bind_some]
  refine Ev.bind (iPts p0 p1) ?_
  refine Ev.bind (sPts p0 p1) ?_
  simp only [if_true, bne_self_eq_false]
  refine Ev.step (g := fun k => laws_FnCurves.j0 k c p m (duePts p m).1 (duePts p m).2 false) (fun k => by simp only [laws_FnCurves.j0]; rfl) ?_
  simp only [Bool.false_eq_true, if_false]
  refine Ev.bind (iDef p0 p1) ?_
  refine Ev.bind (sDef p0 p1) ?_
  simp only [if_true, bne_self_eq_false]
  refine Ev.step (g := fun k => laws_FnCurves.j1 k c p m (duePts p m).1 (duePts p m).2 (dueDef p m).1 (dueDef p m).2 false) (fun k => by simp only [laws_FnCurves.j1]; rfl) ?_
  simp only [Bool.false_eq_true, if_false]
  rw [d2]
  simp only [Option.bind_some]
  rw [iGen, sGen]
  simp only [Option.bind_some, if_true, bne_self_eq_false]
  refine Ev.step (g := fun k => laws_FnCurves.j2 k c p m (duePts p m).1 (duePts p m).2 (dueDef p m).1 (dueDef p m).2 false) (fun k => by simp only [laws_FnCurves.j2]; rfl) ?_
  simp only [Bool.false_eq_true, if_false]
  refine Ev.bind hda ?_
  refine Ev.bind (iAb (e := e) (l := l) q0 q1 (by omega)) ?_
  refine Ev.bind (sAb (e := e) (l := l) q0 q1 (by omega)) ?_
  simp only [if_true, bne_self_eq_false]
  refine Ev.step (g := fun k => laws_FnCurves.j3 k c p m (duePts p m).1 (duePts p m).2 (dueDef p m).1 (dueDef p m).2 q (dueAb q e l).1 (dueAb q e l).2 false) (fun k => by simp only [laws_FnCurves.j3]; rfl) ?_
  simp only [Bool.false_eq_true, if_false]
  rw [d3]
  simp only [Option.bind_some]
  refine Ev.bind (iNum p0 p1) ?_
  refine Ev.bind (sNum p0 p1) ?_
  simp only [if_true, bne_self_eq_false]
  refine Ev.step (g := fun k => laws_FnCurves.j4 k c p m (duePts p m).1 (duePts p m).2 (dueDef p m).1 (dueDef p m).2 q (dueAb q e l).1 (dueAb q e l).2 p m (dueNum p m).1 (dueNum p m).2 false) (fun k => by simp only [laws_FnCurves.j4]; rfl) ?_
  simp only [Bool.false_eq_true, if_false]
  rw [d4]
  simp only [Option.bind_some]
  refine Ev.bind (iLea p0 p1) ?_
  refine Ev.bind (sLea p0 p1) ?_
  simp only [if_true, bne_self_eq_false]
  exact cj5 p0 p1 q0 q1 p0 p1 p0 p1
end Go.Proofs.Ytphlgajlebgnbaa.Q
namespace Go.Proofs.Ytphlgajlebgnbaa.Pure
open Go.Proofs.Ytphlgajlebgnbaa.P
theorem FnCurves : laws_FnCurves.Pure := by
  intro c hm hy hb
  refine (Q.cur_code (c := c) ⟨by omega, fun x hx => ?_⟩).rounds
  have := hb x hx
  simp [Lit.wf, IntKind.min, IntKind.max, IntKind.bits, IntKind.signed] at this
  omega
end Go.Proofs.Ytphlgajlebgnbaa.Pure
