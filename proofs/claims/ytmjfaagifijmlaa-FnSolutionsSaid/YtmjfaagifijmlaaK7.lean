/- This text was put together by a session out of texts that its own programs and the print tool wrote. -/
import Derived.Test.YtmjfaagifijmlaaK2
import Derived.Test.YtmjfaagifijmlaaK4
import Derived.Test.YtmjfaagifijmlaaK5
import Derived.Test.YtmjfaagifijmlaaK6
set_option linter.unusedVariables false
set_option linter.unusedSimpArgs false
namespace Go.Proofs.Ytmjfaagifijmlaa.P
open Go.RowKit Go.Proofs.YtmjfaagifijmlaaW.PrintWords Go.Proofs.YtmjfaagifijmlaaW.PrintLast Go.Proofs.YtmjfaagifijmlaaW.PrintMore
attribute [local go_sem] max2_int min2_int max_two min_two max_three min_three max_four min_four   -- for this text's walks alone
set_option linter.unusedVariables false
set_option linter.unusedSimpArgs false
/-! ### laws_FnSolutions: function 10 -/
mutual
def laws_FnSolutions.j0 : Nat → List Int → Int → List Int → List Int → Int → Int → Int → Bool → Option (Bool)
 | 0, _, _, _, _, _, _, _, _ => none
 | k + 1, x0, x3, x4, x5, x6, x7, x8, x77 => if x77 = true then (some false) else ((impl_CountFull.f k x3 x4 x5 x6).bind fun bt2611 => ((spec_CountFull.f k x3 x4 x5 x6).bind fun bt2613 => (if bt2611.2 = bt2613.2 then (laws_FnSolutions.j1 k x0 x3 x4 x5 x7 x8 bt2611.1 bt2611.2 (bt2611.1 != bt2613.1)) else (laws_FnSolutions.j1 k x0 x3 x4 x5 x7 x8 bt2611.1 bt2611.2 true))))
def laws_FnSolutions.j1 : Nat → List Int → Int → List Int → List Int → Int → Int → Int → Int → Bool → Option (Bool)
 | 0, _, _, _, _, _, _, _, _, _ => none
 | k + 1, x0, x3, x4, x5, x7, x8, x11, x12, x101 => if x101 = true then (some false) else ((spec_DrawQuadricNumber.f k x0).bind fun bt2615 => ((impl_QuadricNumber.f k bt2615.1 bt2615.2.1 bt2615.2.2).bind fun bt2620 => ((spec_QuadricNumber.f k bt2615.1 bt2615.2.1 bt2615.2.2).bind fun bt2622 => (if bt2620.2 = bt2622.2 then (laws_FnSolutions.j2 k x0 x3 x4 x5 x7 x8 x11 x12 bt2615.1 bt2615.2.1 bt2615.2.2 bt2620.1 bt2620.2 (bt2620.1 != bt2622.1)) else (laws_FnSolutions.j2 k x0 x3 x4 x5 x7 x8 x11 x12 bt2615.1 bt2615.2.1 bt2615.2.2 bt2620.1 bt2620.2 true)))))
def laws_FnSolutions.j2 : Nat → List Int → Int → List Int → List Int → Int → Int → Int → Int → Int → List Int → Int → Int → Int → Bool → Option (Bool)
 | 0, _, _, _, _, _, _, _, _, _, _, _, _, _, _ => none
 | k + 1, x0, x3, x4, x5, x7, x8, x11, x12, x15, x16, x17, x18, x19, x129 => if x129 = true then (some false) else ((spec_DrawValueCounts.f x0).bind fun bt2624 => ((impl_ValueCounts.f k bt2624.1 bt2624.2.1 bt2624.2.2).bind fun bt2627 => ((spec_ValueCounts.f k bt2624.1 bt2624.2.1 bt2624.2.2).bind fun bt2631 => (if bt2627.2 = bt2631.2 then ((laws_likeInts.f k bt2627.1 bt2631.1).bind fun t2635 => (laws_FnSolutions.j3 k x0 x3 x4 x5 x7 x8 x11 x12 x15 x16 x17 x18 x19 bt2624.1 bt2627.1 bt2627.2 (!t2635))) else (laws_FnSolutions.j3 k x0 x3 x4 x5 x7 x8 x11 x12 x15 x16 x17 x18 x19 bt2624.1 bt2627.1 bt2627.2 true)))))
def laws_FnSolutions.j3 : Nat → List Int → Int → List Int → List Int → Int → Int → Int → Int → Int → List Int → Int → Int → Int → Int → List Int → Int → Bool → Option (Bool)
 | 0, _, _, _, _, _, _, _, _, _, _, _, _, _, _, _, _, _ => none
 | k + 1, x0, x3, x4, x5, x7, x8, x11, x12, x15, x16, x17, x18, x19, x22, x25, x26, x158 => if x158 = true then (some false) else ((spec_DrawPowersOf.f x0).bind fun bt2636 => ((impl_PowersOf.f k bt2636.1 bt2636.2).bind fun bt2638 => ((spec_PowersOf.f k bt2636.1 bt2636.2).bind fun bt2642 => (if bt2638.2 = bt2642.2 then ((laws_likeInts.f k bt2638.1 bt2642.1).bind fun t2646 => (laws_FnSolutions.j4 k x3 x4 x5 x7 x8 x11 x12 x15 x16 x17 x18 x19 x22 x25 x26 bt2638.1 bt2638.2 (!t2646))) else (laws_FnSolutions.j4 k x3 x4 x5 x7 x8 x11 x12 x15 x16 x17 x18 x19 x22 x25 x26 bt2638.1 bt2638.2 true)))))
def laws_FnSolutions.j4 : Nat → Int → List Int → List Int → Int → Int → Int → Int → Int → List Int → Int → Int → Int → Int → List Int → Int → List Int → Int → Bool → Option (Bool)
 | 0, _, _, _, _, _, _, _, _, _, _, _, _, _, _, _, _, _, _ => none
 | k + 1, x3, x4, x5, x7, x8, x11, x12, x15, x16, x17, x18, x19, x22, x25, x26, x31, x32, x184 => if x184 = true then (some false) else (if x26 = 0 then ((laws_sum.f k x25).bind fun t2647 => (if t2647 = x22 then (if 0 < (x25.length : Int) then (laws_FnSolutions.j5 k x3 x4 x5 x7 x8 x11 x12 x15 x16 x17 x18 x19 x31 x32 ((rd x25 0) != 1)) else (none)) else (laws_FnSolutions.j5 k x3 x4 x5 x7 x8 x11 x12 x15 x16 x17 x18 x19 x31 x32 true))) else (laws_FnSolutions.j5 k x3 x4 x5 x7 x8 x11 x12 x15 x16 x17 x18 x19 x31 x32 false))
def laws_FnSolutions.j5 : Nat → Int → List Int → List Int → Int → Int → Int → Int → Int → List Int → Int → Int → Int → List Int → Int → Bool → Option (Bool)
 | 0, _, _, _, _, _, _, _, _, _, _, _, _, _, _, _ => none
 | k + 1, x3, x4, x5, x7, x8, x11, x12, x15, x16, x17, x18, x19, x31, x32, x198 => if x198 = true then (some false) else (if x19 = 0 then (laws_FnSolutions.l0 k x3 x4 x5 x7 x8 x11 x12 x15 x16 x17 x18 x31 x32 (([] : List Int)) 0) else (laws_FnSolutions.j7 k x3 x4 x5 x7 x8 x11 x12 x31 x32))
def laws_FnSolutions.j7 : Nat → Int → List Int → List Int → Int → Int → Int → Int → List Int → Int → Option (Bool)
 | 0, _, _, _, _, _, _, _, _, _ => none
 | k + 1, x3, x4, x5, x7, x8, x11, x12, x31, x32 => if x32 = 0 then (if (x31.length : Int) < 2 then (laws_FnSolutions.j8 k x3 x4 x5 x7 x8 x11 x12 true) else (if 0 < (x31.length : Int) then (if (rd x31 0) = 0 then (if 1 < (x31.length : Int) then (laws_FnSolutions.j8 k x3 x4 x5 x7 x8 x11 x12 ((rd x31 1) != 1)) else (none)) else (laws_FnSolutions.j8 k x3 x4 x5 x7 x8 x11 x12 true)) else (none))) else (laws_FnSolutions.j8 k x3 x4 x5 x7 x8 x11 x12 false)
def laws_FnSolutions.j8 : Nat → Int → List Int → List Int → Int → Int → Int → Int → Bool → Option (Bool)
 | 0, _, _, _, _, _, _, _, _ => none
 | k + 1, x3, x4, x5, x7, x8, x11, x12, x244 => if x244 = true then (some false) else (if x8 = 0 then (if x12 = 0 then (laws_FnSolutions.j9 k x3 x4 x5 x7 (decide (x11 > x7))) else (laws_FnSolutions.j9 k x3 x4 x5 x7 true)) else (if x12 = x8 then (some (x7 == 0)) else (some false)))
def laws_FnSolutions.j9 : Nat → Int → List Int → List Int → Int → Bool → Option (Bool)
 | 0, _, _, _, _, _ => none
 | k + 1, x3, x4, x5, x7, x260 => if x260 = true then (some false) else (laws_FnSolutions.l1 k x3 x4 x5 x7 0 1 0)
def laws_FnSolutions.l1 : Nat → Int → List Int → List Int → Int → Int → Int → Int → Option (Bool)
 | 0, _, _, _, _, _, _, _ => none
 | k + 1, x3, x4, x5, x7, x39, x40, x41 => if x41 < (x4.length : Int) then (laws_FnSolutions.l1 k x3 x4 x5 x7 x39 (wrap64 (x40 * x3)) (wrap64 (x41 + 1))) else (if (x4.length : Int) > 2 then (some (decide (x7 ≤ x40))) else (laws_FnSolutions.l2 k x3 x4 x5 x39 x40 0))
def laws_FnSolutions.l2 : Nat → Int → List Int → List Int → Int → Int → Int → Option (Bool)
 | 0, _, _, _, _, _, _ => none
 | k + 1, x3, x4, x5, x39, x40, x42 => if x42 < x3 then ((impl_CountSolutions.f k x3 x4 x5 x42).bind fun bt2659 => (if bt2659.2 = 0 then (laws_FnSolutions.l2 k x3 x4 x5 (wrap64 (x39 + bt2659.1)) x40 (wrap64 (x42 + 1))) else (some false))) else (some (x39 == x40))
def laws_FnSolutions.l0 : Nat → Int → List Int → List Int → Int → Int → Int → Int → Int → List Int → Int → Int → List Int → Int → List Int → Int → Option (Bool)
 | 0, _, _, _, _, _, _, _, _, _, _, _, _, _, _, _ => none
 | k + 1, x3, x4, x5, x7, x8, x11, x12, x15, x16, x17, x18, x31, x32, x35, x36 => if x36 < (x16.length : Int) then (if x35.length < 17592186044416 then (laws_FnSolutions.l0 k x3 x4 x5 x7 x8 x11 x12 x15 x16 x17 x18 x31 x32 (x35 ++ [2]) (wrap64 (x36 + 1))) else (none)) else ((impl_CountSolutions.f k x15 x16 x35 x17).bind fun bt2655 => (if bt2655.2 = 0 then (if bt2655.1 = x18 then (laws_FnSolutions.j7 k x3 x4 x5 x7 x8 x11 x12 x31 x32) else (some false)) else (some false)))
end
def laws_FnSolutions.f (k : Nat) (l0 : List Int) : Option (Bool) := (laws_big.f l0).bind fun t2598 => (if t2598 = true then (some true) else ((spec_DrawCountSolutions.f k l0).bind fun bt2599 => ((impl_CountSolutions.f k bt2599.1 bt2599.2.1 bt2599.2.2.1 bt2599.2.2.2).bind fun bt2607 => ((spec_CountSolutions.f k bt2599.1 bt2599.2.1 bt2599.2.2.1 bt2599.2.2.2).bind fun bt2609 => (if bt2607.2 = bt2609.2 then (laws_FnSolutions.j0 k l0 bt2599.1 bt2599.2.1 bt2599.2.2.1 bt2599.2.2.2 bt2607.1 bt2607.2 (bt2607.1 != bt2609.1)) else (laws_FnSolutions.j0 k l0 bt2599.1 bt2599.2.1 bt2599.2.2.1 bt2599.2.2.2 bt2607.1 bt2607.2 true))))))
theorem laws_FnSolutions.mono_l : ∀ k, (∀ y0 y1 y2 y3 y4 y5 y6 y7, LeO (laws_FnSolutions.j0 k y0 y1 y2 y3 y4 y5 y6 y7) (laws_FnSolutions.j0 (k + 1) y0 y1 y2 y3 y4 y5 y6 y7)) ∧ (∀ y0 y1 y2 y3 y4 y5 y6 y7 y8, LeO (laws_FnSolutions.j1 k y0 y1 y2 y3 y4 y5 y6 y7 y8) (laws_FnSolutions.j1 (k + 1) y0 y1 y2 y3 y4 y5 y6 y7 y8)) ∧ (∀ y0 y1 y2 y3 y4 y5 y6 y7 y8 y9 y10 y11 y12 y13, LeO (laws_FnSolutions.j2 k y0 y1 y2 y3 y4 y5 y6 y7 y8 y9 y10 y11 y12 y13) (laws_FnSolutions.j2 (k + 1) y0 y1 y2 y3 y4 y5 y6 y7 y8 y9 y10 y11 y12 y13)) ∧ (∀ y0 y1 y2 y3 y4 y5 y6 y7 y8 y9 y10 y11 y12 y13 y14 y15 y16, LeO (laws_FnSolutions.j3 k y0 y1 y2 y3 y4 y5 y6 y7 y8 y9 y10 y11 y12 y13 y14 y15 y16) (laws_FnSolutions.j3 (k + 1) y0 y1 y2 y3 y4 y5 y6 y7 y8 y9 y10 y11 y12 y13 y14 y15 y16)) ∧ (∀ y0 y1 y2 y3 y4 y5 y6 y7 y8 y9 y10 y11 y12 y13 y14 y15 y16 y17, LeO (laws_FnSolutions.j4 k y0 y1 y2 y3 y4 y5 y6 y7 y8 y9 y10 y11 y12 y13 y14 y15 y16 y17) (laws_FnSolutions.j4 (k + 1) y0 y1 y2 y3 y4 y5 y6 y7 y8 y9 y10 y11 y12 y13 y14 y15 y16 y17)) ∧ (∀ y0 y1 y2 y3 y4 y5 y6 y7 y8 y9 y10 y11 y12 y13 y14, LeO (laws_FnSolutions.j5 k y0 y1 y2 y3 y4 y5 y6 y7 y8 y9 y10 y11 y12 y13 y14) (laws_FnSolutions.j5 (k + 1) y0 y1 y2 y3 y4 y5 y6 y7 y8 y9 y10 y11 y12 y13 y14)) ∧ (∀ y0 y1 y2 y3 y4 y5 y6 y7 y8, LeO (laws_FnSolutions.j7 k y0 y1 y2 y3 y4 y5 y6 y7 y8) (laws_FnSolutions.j7 (k + 1) y0 y1 y2 y3 y4 y5 y6 y7 y8)) ∧ (∀ y0 y1 y2 y3 y4 y5 y6 y7, LeO (laws_FnSolutions.j8 k y0 y1 y2 y3 y4 y5 y6 y7) (laws_FnSolutions.j8 (k + 1) y0 y1 y2 y3 y4 y5 y6 y7)) ∧ (∀ y0 y1 y2 y3 y4, LeO (laws_FnSolutions.j9 k y0 y1 y2 y3 y4) (laws_FnSolutions.j9 (k + 1) y0 y1 y2 y3 y4)) ∧ (∀ y0 y1 y2 y3 y4 y5 y6, LeO (laws_FnSolutions.l1 k y0 y1 y2 y3 y4 y5 y6) (laws_FnSolutions.l1 (k + 1) y0 y1 y2 y3 y4 y5 y6)) ∧ (∀ y0 y1 y2 y3 y4 y5, LeO (laws_FnSolutions.l2 k y0 y1 y2 y3 y4 y5) (laws_FnSolutions.l2 (k + 1) y0 y1 y2 y3 y4 y5)) ∧ (∀ y0 y1 y2 y3 y4 y5 y6 y7 y8 y9 y10 y11 y12 y13 y14, LeO (laws_FnSolutions.l0 k y0 y1 y2 y3 y4 y5 y6 y7 y8 y9 y10 y11 y12 y13 y14) (laws_FnSolutions.l0 (k + 1) y0 y1 y2 y3 y4 y5 y6 y7 y8 y9 y10 y11 y12 y13 y14))
 | 0 => ⟨fun _ _ _ _ _ _ _ _ r h => by simp [laws_FnSolutions.j0] at h, fun _ _ _ _ _ _ _ _ _ r h => by simp [laws_FnSolutions.j1] at h, fun _ _ _ _ _ _ _ _ _ _ _ _ _ _ r h => by simp [laws_FnSolutions.j2] at h, fun _ _ _ _ _ _ _ _ _ _ _ _ _ _ _ _ _ r h => by simp [laws_FnSolutions.j3] at h, fun _ _ _ _ _ _ _ _ _ _ _ _ _ _ _ _ _ _ r h => by simp [laws_FnSolutions.j4] at h, fun _ _ _ _ _ _ _ _ _ _ _ _ _ _ _ r h => by simp [laws_FnSolutions.j5] at h, fun _ _ _ _ _ _ _ _ _ r h => by simp [laws_FnSolutions.j7] at h, fun _ _ _ _ _ _ _ _ r h => by simp [laws_FnSolutions.j8] at h, fun _ _ _ _ _ r h => by simp [laws_FnSolutions.j9] at h, fun _ _ _ _ _ _ _ r h => by simp [laws_FnSolutions.l1] at h, fun _ _ _ _ _ _ r h => by simp [laws_FnSolutions.l2] at h, fun _ _ _ _ _ _ _ _ _ _ _ _ _ _ _ r h => by simp [laws_FnSolutions.l0] at h⟩
 | k + 1 => by
  obtain ⟨ih0, ih1, ih2, ih3, ih4, ih5, ih6, ih7, ih8, ih9, ih10, ih11⟩ := laws_FnSolutions.mono_l k
  refine ⟨?_, ?_, ?_, ?_, ?_, ?_, ?_, ?_, ?_, ?_, ?_, ?_⟩
  · intro y0 y1 y2 y3 y4 y5 y6 y7
    unfold laws_FnSolutions.j0
    repeat' first
    | (with_reducible exact ih0 _ _ _ _ _ _ _ _)
    | (with_reducible exact ih1 _ _ _ _ _ _ _ _ _)
    | (with_reducible exact ih2 _ _ _ _ _ _ _ _ _ _ _ _ _ _)
    | (with_reducible exact ih3 _ _ _ _ _ _ _ _ _ _ _ _ _ _ _ _ _)
    | (with_reducible exact ih4 _ _ _ _ _ _ _ _ _ _ _ _ _ _ _ _ _ _)
    | (with_reducible exact ih5 _ _ _ _ _ _ _ _ _ _ _ _ _ _ _)
    | (with_reducible exact ih6 _ _ _ _ _ _ _ _ _)
    | (with_reducible exact ih7 _ _ _ _ _ _ _ _)
    | (with_reducible exact ih8 _ _ _ _ _)
    | (with_reducible exact ih9 _ _ _ _ _ _ _)
    | (with_reducible exact ih10 _ _ _ _ _ _)
    | (with_reducible exact ih11 _ _ _ _ _ _ _ _ _ _ _ _ _ _ _)
    | (with_reducible exact impl_CountFull.mono _ _ _ _ _)
    | (with_reducible exact impl_CountSolutions.mono _ _ _ _ _)
    | (with_reducible exact impl_PowersOf.mono _ _ _)
    | (with_reducible exact impl_QuadricNumber.mono _ _ _ _)
    | (with_reducible exact impl_ValueCounts.mono _ _ _ _)
    | (with_reducible exact laws_likeInts.mono _ _ _)
    | (with_reducible exact laws_sum.mono _ _)
    | (with_reducible exact spec_CountFull.mono _ _ _ _ _)
    | (with_reducible exact spec_CountSolutions.mono _ _ _ _ _)
    | (with_reducible exact spec_DrawCountSolutions.mono _ _)
    | (with_reducible exact spec_DrawQuadricNumber.mono _ _)
    | (with_reducible exact spec_PowersOf.mono _ _ _)
    | (with_reducible exact spec_QuadricNumber.mono _ _ _ _)
    | (with_reducible exact spec_ValueCounts.mono _ _ _ _)
    | (with_reducible exact LeO.refl _)
    | (with_reducible exact LeO.none _)
    | (with_reducible refine LeO.ite ?_ ?_)
    | (with_reducible refine LeO.bind ?_ (fun _ => ?_))
    | exact ih0 _ _ _ _ _ _ _ _
    | exact ih1 _ _ _ _ _ _ _ _ _
    | exact ih2 _ _ _ _ _ _ _ _ _ _ _ _ _ _
    | exact ih3 _ _ _ _ _ _ _ _ _ _ _ _ _ _ _ _ _
    | exact ih4 _ _ _ _ _ _ _ _ _ _ _ _ _ _ _ _ _ _
    | exact ih5 _ _ _ _ _ _ _ _ _ _ _ _ _ _ _
    | exact ih6 _ _ _ _ _ _ _ _ _
    | exact ih7 _ _ _ _ _ _ _ _
    | exact ih8 _ _ _ _ _
    | exact ih9 _ _ _ _ _ _ _
    | exact ih10 _ _ _ _ _ _
    | exact ih11 _ _ _ _ _ _ _ _ _ _ _ _ _ _ _
    | exact impl_CountFull.mono _ _ _ _ _
    | exact impl_CountSolutions.mono _ _ _ _ _
    | exact impl_PowersOf.mono _ _ _
    | exact impl_QuadricNumber.mono _ _ _ _
    | exact impl_ValueCounts.mono _ _ _ _
    | exact laws_likeInts.mono _ _ _
    | exact laws_sum.mono _ _
    | exact spec_CountFull.mono _ _ _ _ _
    | exact spec_CountSolutions.mono _ _ _ _ _
    | exact spec_DrawCountSolutions.mono _ _
    | exact spec_DrawQuadricNumber.mono _ _
    | exact spec_PowersOf.mono _ _ _
    | exact spec_QuadricNumber.mono _ _ _ _
    | exact spec_ValueCounts.mono _ _ _ _
    | exact LeO.none _
    | refine LeO.ite ?_ ?_
    | refine LeO.bind ?_ (fun _ => ?_)
  · intro y0 y1 y2 y3 y4 y5 y6 y7 y8
    unfold laws_FnSolutions.j1
    repeat' first
    | (with_reducible exact ih0 _ _ _ _ _ _ _ _)
    | (with_reducible exact ih1 _ _ _ _ _ _ _ _ _)
    | (with_reducible exact ih2 _ _ _ _ _ _ _ _ _ _ _ _ _ _)
    | (with_reducible exact ih3 _ _ _ _ _ _ _ _ _ _ _ _ _ _ _ _ _)
    | (with_reducible exact ih4 _ _ _ _ _ _ _ _ _ _ _ _ _ _ _ _ _ _)
    | (with_reducible exact ih5 _ _ _ _ _ _ _ _ _ _ _ _ _ _ _)
    | (with_reducible exact ih6 _ _ _ _ _ _ _ _ _)
    | (with_reducible exact ih7 _ _ _ _ _ _ _ _)
    | (with_reducible exact ih8 _ _ _ _ _)
    | (with_reducible exact ih9 _ _ _ _ _ _ _)
    | (with_reducible exact ih10 _ _ _ _ _ _)
    | (with_reducible exact ih11 _ _ _ _ _ _ _ _ _ _ _ _ _ _ _)
    | (with_reducible exact impl_CountFull.mono _ _ _ _ _)
    | (with_reducible exact impl_CountSolutions.mono _ _ _ _ _)
    | (with_reducible exact impl_PowersOf.mono _ _ _)
    | (with_reducible exact impl_QuadricNumber.mono _ _ _ _)
    | (with_reducible exact impl_ValueCounts.mono _ _ _ _)
    | (with_reducible exact laws_likeInts.mono _ _ _)
    | (with_reducible exact laws_sum.mono _ _)
    | (with_reducible exact spec_CountFull.mono _ _ _ _ _)
    | (with_reducible exact spec_CountSolutions.mono _ _ _ _ _)
    | (with_reducible exact spec_DrawCountSolutions.mono _ _)
    | (with_reducible exact spec_DrawQuadricNumber.mono _ _)
    | (with_reducible exact spec_PowersOf.mono _ _ _)
    | (with_reducible exact spec_QuadricNumber.mono _ _ _ _)
    | (with_reducible exact spec_ValueCounts.mono _ _ _ _)
    | (with_reducible exact LeO.refl _)
    | (with_reducible exact LeO.none _)
    | (with_reducible refine LeO.ite ?_ ?_)
    | (with_reducible refine LeO.bind ?_ (fun _ => ?_))
    | exact ih0 _ _ _ _ _ _ _ _
    | exact ih1 _ _ _ _ _ _ _ _ _
    | exact ih2 _ _ _ _ _ _ _ _ _ _ _ _ _ _
    | exact ih3 _ _ _ _ _ _ _ _ _ _ _ _ _ _ _ _ _
    | exact ih4 _ _ _ _ _ _ _ _ _ _ _ _ _ _ _ _ _ _
    | exact ih5 _ _ _ _ _ _ _ _ _ _ _ _ _ _ _
    | exact ih6 _ _ _ _ _ _ _ _ _
    | exact ih7 _ _ _ _ _ _ _ _
    | exact ih8 _ _ _ _ _
    | exact ih9 _ _ _ _ _ _ _
    | exact ih10 _ _ _ _ _ _
    | exact ih11 _ _ _ _ _ _ _ _ _ _ _ _ _ _ _
    | exact impl_CountFull.mono _ _ _ _ _
    | exact impl_CountSolutions.mono _ _ _ _ _
    | exact impl_PowersOf.mono _ _ _
    | exact impl_QuadricNumber.mono _ _ _ _
    | exact impl_ValueCounts.mono _ _ _ _
    | exact laws_likeInts.mono _ _ _
    | exact laws_sum.mono _ _
    | exact spec_CountFull.mono _ _ _ _ _
    | exact spec_CountSolutions.mono _ _ _ _ _
    | exact spec_DrawCountSolutions.mono _ _
    | exact spec_DrawQuadricNumber.mono _ _
    | exact spec_PowersOf.mono _ _ _
    | exact spec_QuadricNumber.mono _ _ _ _
    | exact spec_ValueCounts.mono _ _ _ _
    | exact LeO.none _
    | refine LeO.ite ?_ ?_
    | refine LeO.bind ?_ (fun _ => ?_)
  · intro y0 y1 y2 y3 y4 y5 y6 y7 y8 y9 y10 y11 y12 y13
    unfold laws_FnSolutions.j2
    repeat' first
    | (with_reducible exact ih0 _ _ _ _ _ _ _ _)
    | (with_reducible exact ih1 _ _ _ _ _ _ _ _ _)
    | (with_reducible exact ih2 _ _ _ _ _ _ _ _ _ _ _ _ _ _)
    | (with_reducible exact ih3 _ _ _ _ _ _ _ _ _ _ _ _ _ _ _ _ _)
    | (with_reducible exact ih4 _ _ _ _ _ _ _ _ _ _ _ _ _ _ _ _ _ _)
    | (with_reducible exact ih5 _ _ _ _ _ _ _ _ _ _ _ _ _ _ _)
    | (with_reducible exact ih6 _ _ _ _ _ _ _ _ _)
    | (with_reducible exact ih7 _ _ _ _ _ _ _ _)
    | (with_reducible exact ih8 _ _ _ _ _)
    | (with_reducible exact ih9 _ _ _ _ _ _ _)
    | (with_reducible exact ih10 _ _ _ _ _ _)
    | (with_reducible exact ih11 _ _ _ _ _ _ _ _ _ _ _ _ _ _ _)
    | (with_reducible exact impl_CountFull.mono _ _ _ _ _)
    | (with_reducible exact impl_CountSolutions.mono _ _ _ _ _)
    | (with_reducible exact impl_PowersOf.mono _ _ _)
    | (with_reducible exact impl_QuadricNumber.mono _ _ _ _)
    | (with_reducible exact impl_ValueCounts.mono _ _ _ _)
    | (with_reducible exact laws_likeInts.mono _ _ _)
    | (with_reducible exact laws_sum.mono _ _)
    | (with_reducible exact spec_CountFull.mono _ _ _ _ _)
    | (with_reducible exact spec_CountSolutions.mono _ _ _ _ _)
    | (with_reducible exact spec_DrawCountSolutions.mono _ _)
    | (with_reducible exact spec_DrawQuadricNumber.mono _ _)
    | (with_reducible exact spec_PowersOf.mono _ _ _)
    | (with_reducible exact spec_QuadricNumber.mono _ _ _ _)
    | (with_reducible exact spec_ValueCounts.mono _ _ _ _)
    | (with_reducible exact LeO.refl _)
    | (with_reducible exact LeO.none _)
    | (with_reducible refine LeO.ite ?_ ?_)
    | (with_reducible refine LeO.bind ?_ (fun _ => ?_))
    | exact ih0 _ _ _ _ _ _ _ _
    | exact ih1 _ _ _ _ _ _ _ _ _
    | exact ih2 _ _ _ _ _ _ _ _ _ _ _ _ _ _
    | exact ih3 _ _ _ _ _ _ _ _ _ _ _ _ _ _ _ _ _
    | exact ih4 _ _ _ _ _ _ _ _ _ _ _ _ _ _ _ _ _ _
    | exact ih5 _ _ _ _ _ _ _ _ _ _ _ _ _ _ _
    | exact ih6 _ _ _ _ _ _ _ _ _
    | exact ih7 _ _ _ _ _ _ _ _
    | exact ih8 _ _ _ _ _
    | exact ih9 _ _ _ _ _ _ _
    | exact ih10 _ _ _ _ _ _
    | exact ih11 _ _ _ _ _ _ _ _ _ _ _ _ _ _ _
    | exact impl_CountFull.mono _ _ _ _ _
    | exact impl_CountSolutions.mono _ _ _ _ _
    | exact impl_PowersOf.mono _ _ _
    | exact impl_QuadricNumber.mono _ _ _ _
    | exact impl_ValueCounts.mono _ _ _ _
    | exact laws_likeInts.mono _ _ _
    | exact laws_sum.mono _ _
    | exact spec_CountFull.mono _ _ _ _ _
    | exact spec_CountSolutions.mono _ _ _ _ _
    | exact spec_DrawCountSolutions.mono _ _
    | exact spec_DrawQuadricNumber.mono _ _
    | exact spec_PowersOf.mono _ _ _
    | exact spec_QuadricNumber.mono _ _ _ _
    | exact spec_ValueCounts.mono _ _ _ _
    | exact LeO.none _
    | refine LeO.ite ?_ ?_
    | refine LeO.bind ?_ (fun _ => ?_)
  · intro y0 y1 y2 y3 y4 y5 y6 y7 y8 y9 y10 y11 y12 y13 y14 y15 y16
    unfold laws_FnSolutions.j3
    repeat' first
    | (with_reducible exact ih0 _ _ _ _ _ _ _ _)
    | (with_reducible exact ih1 _ _ _ _ _ _ _ _ _)
    | (with_reducible exact ih2 _ _ _ _ _ _ _ _ _ _ _ _ _ _)
    | (with_reducible exact ih3 _ _ _ _ _ _ _ _ _ _ _ _ _ _ _ _ _)
    | (with_reducible exact ih4 _ _ _ _ _ _ _ _ _ _ _ _ _ _ _ _ _ _)
    | (with_reducible exact ih5 _ _ _ _ _ _ _ _ _ _ _ _ _ _ _)
    | (with_reducible exact ih6 _ _ _ _ _ _ _ _ _)
    | (with_reducible exact ih7 _ _ _ _ _ _ _ _)
    | (with_reducible exact ih8 _ _ _ _ _)
    | (with_reducible exact ih9 _ _ _ _ _ _ _)
    | (with_reducible exact ih10 _ _ _ _ _ _)
    | (with_reducible exact ih11 _ _ _ _ _ _ _ _ _ _ _ _ _ _ _)
    | (with_reducible exact impl_CountFull.mono _ _ _ _ _)
    | (with_reducible exact impl_CountSolutions.mono _ _ _ _ _)
    | (with_reducible exact impl_PowersOf.mono _ _ _)
    | (with_reducible exact impl_QuadricNumber.mono _ _ _ _)
    | (with_reducible exact impl_ValueCounts.mono _ _ _ _)
    | (with_reducible exact laws_likeInts.mono _ _ _)
    | (with_reducible exact laws_sum.mono _ _)
    | (with_reducible exact spec_CountFull.mono _ _ _ _ _)
    | (with_reducible exact spec_CountSolutions.mono _ _ _ _ _)
    | (with_reducible exact spec_DrawCountSolutions.mono _ _)
    | (with_reducible exact spec_DrawQuadricNumber.mono _ _)
    | (with_reducible exact spec_PowersOf.mono _ _ _)
    | (with_reducible exact spec_QuadricNumber.mono _ _ _ _)
    | (with_reducible exact spec_ValueCounts.mono _ _ _ _)
    | (with_reducible exact LeO.refl _)
    | (with_reducible exact LeO.none _)
    | (with_reducible refine LeO.ite ?_ ?_)
    | (with_reducible refine LeO.bind ?_ (fun _ => ?_))
    | exact ih0 _ _ _ _ _ _ _ _
    | exact ih1 _ _ _ _ _ _ _ _ _
    | exact ih2 _ _ _ _ _ _ _ _ _ _ _ _ _ _
    | exact ih3 _ _ _ _ _ _ _ _ _ _ _ _ _ _ _ _ _
    | exact ih4 _ _ _ _ _ _ _ _ _ _ _ _ _ _ _ _ _ _
    | exact ih5 _ _ _ _ _ _ _ _ _ _ _ _ _ _ _
    | exact ih6 _ _ _ _ _ _ _ _ _
    | exact ih7 _ _ _ _ _ _ _ _
    | exact ih8 _ _ _ _ _
    | exact ih9 _ _ _ _ _ _ _
    | exact ih10 _ _ _ _ _ _
    | exact ih11 _ _ _ _ _ _ _ _ _ _ _ _ _ _ _
    | exact impl_CountFull.mono _ _ _ _ _
    | exact impl_CountSolutions.mono _ _ _ _ _
    | exact impl_PowersOf.mono _ _ _
    | exact impl_QuadricNumber.mono _ _ _ _
    | exact impl_ValueCounts.mono _ _ _ _
    | exact laws_likeInts.mono _ _ _
    | exact laws_sum.mono _ _
    | exact spec_CountFull.mono _ _ _ _ _
    | exact spec_CountSolutions.mono _ _ _ _ _
    | exact spec_DrawCountSolutions.mono _ _
    | exact spec_DrawQuadricNumber.mono _ _
    | exact spec_PowersOf.mono _ _ _
    | exact spec_QuadricNumber.mono _ _ _ _
    | exact spec_ValueCounts.mono _ _ _ _
    | exact LeO.none _
    | refine LeO.ite ?_ ?_
    | refine LeO.bind ?_ (fun _ => ?_)
  · intro y0 y1 y2 y3 y4 y5 y6 y7 y8 y9 y10 y11 y12 y13 y14 y15 y16 y17
    unfold laws_FnSolutions.j4
    repeat' first
    | (with_reducible exact ih0 _ _ _ _ _ _ _ _)
    | (with_reducible exact ih1 _ _ _ _ _ _ _ _ _)
    | (with_reducible exact ih2 _ _ _ _ _ _ _ _ _ _ _ _ _ _)
    | (with_reducible exact ih3 _ _ _ _ _ _ _ _ _ _ _ _ _ _ _ _ _)
    | (with_reducible exact ih4 _ _ _ _ _ _ _ _ _ _ _ _ _ _ _ _ _ _)
    | (with_reducible exact ih5 _ _ _ _ _ _ _ _ _ _ _ _ _ _ _)
    | (with_reducible exact ih6 _ _ _ _ _ _ _ _ _)
    | (with_reducible exact ih7 _ _ _ _ _ _ _ _)
    | (with_reducible exact ih8 _ _ _ _ _)
    | (with_reducible exact ih9 _ _ _ _ _ _ _)
    | (with_reducible exact ih10 _ _ _ _ _ _)
    | (with_reducible exact ih11 _ _ _ _ _ _ _ _ _ _ _ _ _ _ _)
    | (with_reducible exact impl_CountFull.mono _ _ _ _ _)
    | (with_reducible exact impl_CountSolutions.mono _ _ _ _ _)
    | (with_reducible exact impl_PowersOf.mono _ _ _)
    | (with_reducible exact impl_QuadricNumber.mono _ _ _ _)
    | (with_reducible exact impl_ValueCounts.mono _ _ _ _)
    | (with_reducible exact laws_likeInts.mono _ _ _)
    | (with_reducible exact laws_sum.mono _ _)
    | (with_reducible exact spec_CountFull.mono _ _ _ _ _)
    | (with_reducible exact spec_CountSolutions.mono _ _ _ _ _)
    | (with_reducible exact spec_DrawCountSolutions.mono _ _)
    | (with_reducible exact spec_DrawQuadricNumber.mono _ _)
    | (with_reducible exact spec_PowersOf.mono _ _ _)
    | (with_reducible exact spec_QuadricNumber.mono _ _ _ _)
    | (with_reducible exact spec_ValueCounts.mono _ _ _ _)
    | (with_reducible exact LeO.refl _)
    | (with_reducible exact LeO.none _)
    | (with_reducible refine LeO.ite ?_ ?_)
    | (with_reducible refine LeO.bind ?_ (fun _ => ?_))
    | exact ih0 _ _ _ _ _ _ _ _
    | exact ih1 _ _ _ _ _ _ _ _ _
    | exact ih2 _ _ _ _ _ _ _ _ _ _ _ _ _ _
    | exact ih3 _ _ _ _ _ _ _ _ _ _ _ _ _ _ _ _ _
    | exact ih4 _ _ _ _ _ _ _ _ _ _ _ _ _ _ _ _ _ _
    | exact ih5 _ _ _ _ _ _ _ _ _ _ _ _ _ _ _
    | exact ih6 _ _ _ _ _ _ _ _ _
    | exact ih7 _ _ _ _ _ _ _ _
    | exact ih8 _ _ _ _ _
    | exact ih9 _ _ _ _ _ _ _
    | exact ih10 _ _ _ _ _ _
    | exact ih11 _ _ _ _ _ _ _ _ _ _ _ _ _ _ _
    | exact impl_CountFull.mono _ _ _ _ _
    | exact impl_CountSolutions.mono _ _ _ _ _
    | exact impl_PowersOf.mono _ _ _
    | exact impl_QuadricNumber.mono _ _ _ _
    | exact impl_ValueCounts.mono _ _ _ _
    | exact laws_likeInts.mono _ _ _
    | exact laws_sum.mono _ _
    | exact spec_CountFull.mono _ _ _ _ _
    | exact spec_CountSolutions.mono _ _ _ _ _
    | exact spec_DrawCountSolutions.mono _ _
    | exact spec_DrawQuadricNumber.mono _ _
    | exact spec_PowersOf.mono _ _ _
    | exact spec_QuadricNumber.mono _ _ _ _
    | exact spec_ValueCounts.mono _ _ _ _
    | exact LeO.none _
    | refine LeO.ite ?_ ?_
    | refine LeO.bind ?_ (fun _ => ?_)
  · intro y0 y1 y2 y3 y4 y5 y6 y7 y8 y9 y10 y11 y12 y13 y14
    unfold laws_FnSolutions.j5
    repeat' first
    | (with_reducible exact ih0 _ _ _ _ _ _ _ _)
    | (with_reducible exact ih1 _ _ _ _ _ _ _ _ _)
    | (with_reducible exact ih2 _ _ _ _ _ _ _ _ _ _ _ _ _ _)
    | (with_reducible exact ih3 _ _ _ _ _ _ _ _ _ _ _ _ _ _ _ _ _)
    | (with_reducible exact ih4 _ _ _ _ _ _ _ _ _ _ _ _ _ _ _ _ _ _)
    | (with_reducible exact ih5 _ _ _ _ _ _ _ _ _ _ _ _ _ _ _)
    | (with_reducible exact ih6 _ _ _ _ _ _ _ _ _)
    | (with_reducible exact ih7 _ _ _ _ _ _ _ _)
    | (with_reducible exact ih8 _ _ _ _ _)
    | (with_reducible exact ih9 _ _ _ _ _ _ _)
    | (with_reducible exact ih10 _ _ _ _ _ _)
    | (with_reducible exact ih11 _ _ _ _ _ _ _ _ _ _ _ _ _ _ _)
    | (with_reducible exact impl_CountFull.mono _ _ _ _ _)
    | (with_reducible exact impl_CountSolutions.mono _ _ _ _ _)
    | (with_reducible exact impl_PowersOf.mono _ _ _)
    | (with_reducible exact impl_QuadricNumber.mono _ _ _ _)
    | (with_reducible exact impl_ValueCounts.mono _ _ _ _)
    | (with_reducible exact laws_likeInts.mono _ _ _)
    | (with_reducible exact laws_sum.mono _ _)
    | (with_reducible exact spec_CountFull.mono _ _ _ _ _)
    | (with_reducible exact spec_CountSolutions.mono _ _ _ _ _)
    | (with_reducible exact spec_DrawCountSolutions.mono _ _)
    | (with_reducible exact spec_DrawQuadricNumber.mono _ _)
    | (with_reducible exact spec_PowersOf.mono _ _ _)
    | (with_reducible exact spec_QuadricNumber.mono _ _ _ _)
    | (with_reducible exact spec_ValueCounts.mono _ _ _ _)
    | (with_reducible exact LeO.refl _)
    | (with_reducible exact LeO.none _)
    | (with_reducible refine LeO.ite ?_ ?_)
    | (with_reducible refine LeO.bind ?_ (fun _ => ?_))
    | exact ih0 _ _ _ _ _ _ _ _
    | exact ih1 _ _ _ _ _ _ _ _ _
    | exact ih2 _ _ _ _ _ _ _ _ _ _ _ _ _ _
    | exact ih3 _ _ _ _ _ _ _ _ _ _ _ _ _ _ _ _ _
    | exact ih4 _ _ _ _ _ _ _ _ _ _ _ _ _ _ _ _ _ _
    | exact ih5 _ _ _ _ _ _ _ _ _ _ _ _ _ _ _
    | exact ih6 _ _ _ _ _ _ _ _ _
    | exact ih7 _ _ _ _ _ _ _ _
    | exact ih8 _ _ _ _ _
    | exact ih9 _ _ _ _ _ _ _
    | exact ih10 _ _ _ _ _ _
    | exact ih11 _ _ _ _ _ _ _ _ _ _ _ _ _ _ _
    | exact impl_CountFull.mono _ _ _ _ _
    | exact impl_CountSolutions.mono _ _ _ _ _
    | exact impl_PowersOf.mono _ _ _
    | exact impl_QuadricNumber.mono _ _ _ _
    | exact impl_ValueCounts.mono _ _ _ _
    | exact laws_likeInts.mono _ _ _
    | exact laws_sum.mono _ _
    | exact spec_CountFull.mono _ _ _ _ _
    | exact spec_CountSolutions.mono _ _ _ _ _
    | exact spec_DrawCountSolutions.mono _ _
    | exact spec_DrawQuadricNumber.mono _ _
    | exact spec_PowersOf.mono _ _ _
    | exact spec_QuadricNumber.mono _ _ _ _
    | exact spec_ValueCounts.mono _ _ _ _
    | exact LeO.none _
    | refine LeO.ite ?_ ?_
    | refine LeO.bind ?_ (fun _ => ?_)
  · intro y0 y1 y2 y3 y4 y5 y6 y7 y8
    unfold laws_FnSolutions.j7
    repeat' first
    | (with_reducible exact ih0 _ _ _ _ _ _ _ _)
    | (with_reducible exact ih1 _ _ _ _ _ _ _ _ _)
    | (with_reducible exact ih2 _ _ _ _ _ _ _ _ _ _ _ _ _ _)
    | (with_reducible exact ih3 _ _ _ _ _ _ _ _ _ _ _ _ _ _ _ _ _)
    | (with_reducible exact ih4 _ _ _ _ _ _ _ _ _ _ _ _ _ _ _ _ _ _)
    | (with_reducible exact ih5 _ _ _ _ _ _ _ _ _ _ _ _ _ _ _)
    | (with_reducible exact ih6 _ _ _ _ _ _ _ _ _)
    | (with_reducible exact ih7 _ _ _ _ _ _ _ _)
    | (with_reducible exact ih8 _ _ _ _ _)
    | (with_reducible exact ih9 _ _ _ _ _ _ _)
    | (with_reducible exact ih10 _ _ _ _ _ _)
    | (with_reducible exact ih11 _ _ _ _ _ _ _ _ _ _ _ _ _ _ _)
    | (with_reducible exact impl_CountFull.mono _ _ _ _ _)
    | (with_reducible exact impl_CountSolutions.mono _ _ _ _ _)
    | (with_reducible exact impl_PowersOf.mono _ _ _)
    | (with_reducible exact impl_QuadricNumber.mono _ _ _ _)
    | (with_reducible exact impl_ValueCounts.mono _ _ _ _)
    | (with_reducible exact laws_likeInts.mono _ _ _)
    | (with_reducible exact laws_sum.mono _ _)
    | (with_reducible exact spec_CountFull.mono _ _ _ _ _)
    | (with_reducible exact spec_CountSolutions.mono _ _ _ _ _)
    | (with_reducible exact spec_DrawCountSolutions.mono _ _)
    | (with_reducible exact spec_DrawQuadricNumber.mono _ _)
    | (with_reducible exact spec_PowersOf.mono _ _ _)
    | (with_reducible exact spec_QuadricNumber.mono _ _ _ _)
    | (with_reducible exact spec_ValueCounts.mono _ _ _ _)
    | (with_reducible exact LeO.refl _)
    | (with_reducible exact LeO.none _)
    | (with_reducible refine LeO.ite ?_ ?_)
    | (with_reducible refine LeO.bind ?_ (fun _ => ?_))
    | exact ih0 _ _ _ _ _ _ _ _
    | exact ih1 _ _ _ _ _ _ _ _ _
    | exact ih2 _ _ _ _ _ _ _ _ _ _ _ _ _ _
    | exact ih3 _ _ _ _ _ _ _ _ _ _ _ _ _ _ _ _ _
    | exact ih4 _ _ _ _ _ _ _ _ _ _ _ _ _ _ _ _ _ _
    | exact ih5 _ _ _ _ _ _ _ _ _ _ _ _ _ _ _
    | exact ih6 _ _ _ _ _ _ _ _ _
    | exact ih7 _ _ _ _ _ _ _ _
    | exact ih8 _ _ _ _ _
    | exact ih9 _ _ _ _ _ _ _
    | exact ih10 _ _ _ _ _ _
    | exact ih11 _ _ _ _ _ _ _ _ _ _ _ _ _ _ _
    | exact impl_CountFull.mono _ _ _ _ _
    | exact impl_CountSolutions.mono _ _ _ _ _
    | exact impl_PowersOf.mono _ _ _
    | exact impl_QuadricNumber.mono _ _ _ _
    | exact impl_ValueCounts.mono _ _ _ _
    | exact laws_likeInts.mono _ _ _
    | exact laws_sum.mono _ _
    | exact spec_CountFull.mono _ _ _ _ _
    | exact spec_CountSolutions.mono _ _ _ _ _
    | exact spec_DrawCountSolutions.mono _ _
    | exact spec_DrawQuadricNumber.mono _ _
    | exact spec_PowersOf.mono _ _ _
    | exact spec_QuadricNumber.mono _ _ _ _
    | exact spec_ValueCounts.mono _ _ _ _
    | exact LeO.none _
    | refine LeO.ite ?_ ?_
    | refine LeO.bind ?_ (fun _ => ?_)
  · intro y0 y1 y2 y3 y4 y5 y6 y7
    unfold laws_FnSolutions.j8
    repeat' first
    | (with_reducible exact ih0 _ _ _ _ _ _ _ _)
    | (with_reducible exact ih1 _ _ _ _ _ _ _ _ _)
    | (with_reducible exact ih2 _ _ _ _ _ _ _ _ _ _ _ _ _ _)
    | (with_reducible exact ih3 _ _ _ _ _ _ _ _ _ _ _ _ _ _ _ _ _)
    | (with_reducible exact ih4 _ _ _ _ _ _ _ _ _ _ _ _ _ _ _ _ _ _)
    | (with_reducible exact ih5 _ _ _ _ _ _ _ _ _ _ _ _ _ _ _)
    | (with_reducible exact ih6 _ _ _ _ _ _ _ _ _)
    | (with_reducible exact ih7 _ _ _ _ _ _ _ _)
    | (with_reducible exact ih8 _ _ _ _ _)
    | (with_reducible exact ih9 _ _ _ _ _ _ _)
    | (with_reducible exact ih10 _ _ _ _ _ _)
    | (with_reducible exact ih11 _ _ _ _ _ _ _ _ _ _ _ _ _ _ _)
    | (with_reducible exact impl_CountFull.mono _ _ _ _ _)
    | (with_reducible exact impl_CountSolutions.mono _ _ _ _ _)
    | (with_reducible exact impl_PowersOf.mono _ _ _)
    | (with_reducible exact impl_QuadricNumber.mono _ _ _ _)
    | (with_reducible exact impl_ValueCounts.mono _ _ _ _)
    | (with_reducible exact laws_likeInts.mono _ _ _)
    | (with_reducible exact laws_sum.mono _ _)
    | (with_reducible exact spec_CountFull.mono _ _ _ _ _)
    | (with_reducible exact spec_CountSolutions.mono _ _ _ _ _)
    | (with_reducible exact spec_DrawCountSolutions.mono _ _)
    | (with_reducible exact spec_DrawQuadricNumber.mono _ _)
    | (with_reducible exact spec_PowersOf.mono _ _ _)
    | (with_reducible exact spec_QuadricNumber.mono _ _ _ _)
    | (with_reducible exact spec_ValueCounts.mono _ _ _ _)
    | (with_reducible exact LeO.refl _)
    | (with_reducible exact LeO.none _)
    | (with_reducible refine LeO.ite ?_ ?_)
    | (with_reducible refine LeO.bind ?_ (fun _ => ?_))
    | exact ih0 _ _ _ _ _ _ _ _
    | exact ih1 _ _ _ _ _ _ _ _ _
    | exact ih2 _ _ _ _ _ _ _ _ _ _ _ _ _ _
    | exact ih3 _ _ _ _ _ _ _ _ _ _ _ _ _ _ _ _ _
    | exact ih4 _ _ _ _ _ _ _ _ _ _ _ _ _ _ _ _ _ _
    | exact ih5 _ _ _ _ _ _ _ _ _ _ _ _ _ _ _
    | exact ih6 _ _ _ _ _ _ _ _ _
    | exact ih7 _ _ _ _ _ _ _ _
    | exact ih8 _ _ _ _ _
    | exact ih9 _ _ _ _ _ _ _
    | exact ih10 _ _ _ _ _ _
    | exact ih11 _ _ _ _ _ _ _ _ _ _ _ _ _ _ _
    | exact impl_CountFull.mono _ _ _ _ _
    | exact impl_CountSolutions.mono _ _ _ _ _
    | exact impl_PowersOf.mono _ _ _
    | exact impl_QuadricNumber.mono _ _ _ _
    | exact impl_ValueCounts.mono _ _ _ _
    | exact laws_likeInts.mono _ _ _
    | exact laws_sum.mono _ _
    | exact spec_CountFull.mono _ _ _ _ _
    | exact spec_CountSolutions.mono _ _ _ _ _
    | exact spec_DrawCountSolutions.mono _ _
    | exact spec_DrawQuadricNumber.mono _ _
    | exact spec_PowersOf.mono _ _ _
    | exact spec_QuadricNumber.mono _ _ _ _
    | exact spec_ValueCounts.mono _ _ _ _
    | exact LeO.none _
    | refine LeO.ite ?_ ?_
    | refine LeO.bind ?_ (fun _ => ?_)
  · intro y0 y1 y2 y3 y4
    unfold laws_FnSolutions.j9
    repeat' first
    | (with_reducible exact ih0 _ _ _ _ _ _ _ _)
    | (with_reducible exact ih1 _ _ _ _ _ _ _ _ _)
    | (with_reducible exact ih2 _ _ _ _ _ _ _ _ _ _ _ _ _ _)
    | (with_reducible exact ih3 _ _ _ _ _ _ _ _ _ _ _ _ _ _ _ _ _)
    | (with_reducible exact ih4 _ _ _ _ _ _ _ _ _ _ _ _ _ _ _ _ _ _)
    | (with_reducible exact ih5 _ _ _ _ _ _ _ _ _ _ _ _ _ _ _)
    | (with_reducible exact ih6 _ _ _ _ _ _ _ _ _)
    | (with_reducible exact ih7 _ _ _ _ _ _ _ _)
    | (with_reducible exact ih8 _ _ _ _ _)
    | (with_reducible exact ih9 _ _ _ _ _ _ _)
    | (with_reducible exact ih10 _ _ _ _ _ _)
    | (with_reducible exact ih11 _ _ _ _ _ _ _ _ _ _ _ _ _ _ _)
    | (with_reducible exact impl_CountFull.mono _ _ _ _ _)
    | (with_reducible exact impl_CountSolutions.mono _ _ _ _ _)
    | (with_reducible exact impl_PowersOf.mono _ _ _)
    | (with_reducible exact impl_QuadricNumber.mono _ _ _ _)
    | (with_reducible exact impl_ValueCounts.mono _ _ _ _)
    | (with_reducible exact laws_likeInts.mono _ _ _)
    | (with_reducible exact laws_sum.mono _ _)
    | (with_reducible exact spec_CountFull.mono _ _ _ _ _)
    | (with_reducible exact spec_CountSolutions.mono _ _ _ _ _)
    | (with_reducible exact spec_DrawCountSolutions.mono _ _)
    | (with_reducible exact spec_DrawQuadricNumber.mono _ _)
    | (with_reducible exact spec_PowersOf.mono _ _ _)
    | (with_reducible exact spec_QuadricNumber.mono _ _ _ _)
    | (with_reducible exact spec_ValueCounts.mono _ _ _ _)
    | (with_reducible exact LeO.refl _)
    | (with_reducible exact LeO.none _)
    | (with_reducible refine LeO.ite ?_ ?_)
    | (with_reducible refine LeO.bind ?_ (fun _ => ?_))
    | exact ih0 _ _ _ _ _ _ _ _
    | exact ih1 _ _ _ _ _ _ _ _ _
    | exact ih2 _ _ _ _ _ _ _ _ _ _ _ _ _ _
    | exact ih3 _ _ _ _ _ _ _ _ _ _ _ _ _ _ _ _ _
    | exact ih4 _ _ _ _ _ _ _ _ _ _ _ _ _ _ _ _ _ _
    | exact ih5 _ _ _ _ _ _ _ _ _ _ _ _ _ _ _
    | exact ih6 _ _ _ _ _ _ _ _ _
    | exact ih7 _ _ _ _ _ _ _ _
    | exact ih8 _ _ _ _ _
    | exact ih9 _ _ _ _ _ _ _
    | exact ih10 _ _ _ _ _ _
    | exact ih11 _ _ _ _ _ _ _ _ _ _ _ _ _ _ _
    | exact impl_CountFull.mono _ _ _ _ _
    | exact impl_CountSolutions.mono _ _ _ _ _
    | exact impl_PowersOf.mono _ _ _
    | exact impl_QuadricNumber.mono _ _ _ _
    | exact impl_ValueCounts.mono _ _ _ _
    | exact laws_likeInts.mono _ _ _
    | exact laws_sum.mono _ _
    | exact spec_CountFull.mono _ _ _ _ _
    | exact spec_CountSolutions.mono _ _ _ _ _
    | exact spec_DrawCountSolutions.mono _ _
    | exact spec_DrawQuadricNumber.mono _ _
    | exact spec_PowersOf.mono _ _ _
    | exact spec_QuadricNumber.mono _ _ _ _
    | exact spec_ValueCounts.mono _ _ _ _
    | exact LeO.none _
    | refine LeO.ite ?_ ?_
    | refine LeO.bind ?_ (fun _ => ?_)
  · intro y0 y1 y2 y3 y4 y5 y6
    unfold laws_FnSolutions.l1
    repeat' first
    | (with_reducible exact ih0 _ _ _ _ _ _ _ _)
    | (with_reducible exact ih1 _ _ _ _ _ _ _ _ _)
    | (with_reducible exact ih2 _ _ _ _ _ _ _ _ _ _ _ _ _ _)
    | (with_reducible exact ih3 _ _ _ _ _ _ _ _ _ _ _ _ _ _ _ _ _)
    | (with_reducible exact ih4 _ _ _ _ _ _ _ _ _ _ _ _ _ _ _ _ _ _)
    | (with_reducible exact ih5 _ _ _ _ _ _ _ _ _ _ _ _ _ _ _)
    | (with_reducible exact ih6 _ _ _ _ _ _ _ _ _)
    | (with_reducible exact ih7 _ _ _ _ _ _ _ _)
    | (with_reducible exact ih8 _ _ _ _ _)
    | (with_reducible exact ih9 _ _ _ _ _ _ _)
    | (with_reducible exact ih10 _ _ _ _ _ _)
    | (with_reducible exact ih11 _ _ _ _ _ _ _ _ _ _ _ _ _ _ _)
    | (with_reducible exact impl_CountFull.mono _ _ _ _ _)
    | (with_reducible exact impl_CountSolutions.mono _ _ _ _ _)
    | (with_reducible exact impl_PowersOf.mono _ _ _)
    | (with_reducible exact impl_QuadricNumber.mono _ _ _ _)
    | (with_reducible exact impl_ValueCounts.mono _ _ _ _)
    | (with_reducible exact laws_likeInts.mono _ _ _)
    | (with_reducible exact laws_sum.mono _ _)
    | (with_reducible exact spec_CountFull.mono _ _ _ _ _)
    | (with_reducible exact spec_CountSolutions.mono _ _ _ _ _)
    | (with_reducible exact spec_DrawCountSolutions.mono _ _)
    | (with_reducible exact spec_DrawQuadricNumber.mono _ _)
    | (with_reducible exact spec_PowersOf.mono _ _ _)
    | (with_reducible exact spec_QuadricNumber.mono _ _ _ _)
    | (with_reducible exact spec_ValueCounts.mono _ _ _ _)
    | (with_reducible exact LeO.refl _)
    | (with_reducible exact LeO.none _)
    | (with_reducible refine LeO.ite ?_ ?_)
    | (with_reducible refine LeO.bind ?_ (fun _ => ?_))
    | exact ih0 _ _ _ _ _ _ _ _
    | exact ih1 _ _ _ _ _ _ _ _ _
    | exact ih2 _ _ _ _ _ _ _ _ _ _ _ _ _ _
    | exact ih3 _ _ _ _ _ _ _ _ _ _ _ _ _ _ _ _ _
    | exact ih4 _ _ _ _ _ _ _ _ _ _ _ _ _ _ _ _ _ _
    | exact ih5 _ _ _ _ _ _ _ _ _ _ _ _ _ _ _
    | exact ih6 _ _ _ _ _ _ _ _ _
    | exact ih7 _ _ _ _ _ _ _ _
    | exact ih8 _ _ _ _ _
    | exact ih9 _ _ _ _ _ _ _
    | exact ih10 _ _ _ _ _ _
    | exact ih11 _ _ _ _ _ _ _ _ _ _ _ _ _ _ _
    | exact impl_CountFull.mono _ _ _ _ _
    | exact impl_CountSolutions.mono _ _ _ _ _
    | exact impl_PowersOf.mono _ _ _
    | exact impl_QuadricNumber.mono _ _ _ _
    | exact impl_ValueCounts.mono _ _ _ _
    | exact laws_likeInts.mono _ _ _
    | exact laws_sum.mono _ _
    | exact spec_CountFull.mono _ _ _ _ _
    | exact spec_CountSolutions.mono _ _ _ _ _
    | exact spec_DrawCountSolutions.mono _ _
    | exact spec_DrawQuadricNumber.mono _ _
    | exact spec_PowersOf.mono _ _ _
    | exact spec_QuadricNumber.mono _ _ _ _
    | exact spec_ValueCounts.mono _ _ _ _
    | exact LeO.none _
    | refine LeO.ite ?_ ?_
    | refine LeO.bind ?_ (fun _ => ?_)
  · intro y0 y1 y2 y3 y4 y5
    unfold laws_FnSolutions.l2
    repeat' first
    | (with_reducible exact ih0 _ _ _ _ _ _ _ _)
    | (with_reducible exact ih1 _ _ _ _ _ _ _ _ _)
    | (with_reducible exact ih2 _ _ _ _ _ _ _ _ _ _ _ _ _ _)
    | (with_reducible exact ih3 _ _ _ _ _ _ _ _ _ _ _ _ _ _ _ _ _)
    | (with_reducible exact ih4 _ _ _ _ _ _ _ _ _ _ _ _ _ _ _ _ _ _)
    | (with_reducible exact ih5 _ _ _ _ _ _ _ _ _ _ _ _ _ _ _)
    | (with_reducible exact ih6 _ _ _ _ _ _ _ _ _)
    | (with_reducible exact ih7 _ _ _ _ _ _ _ _)
    | (with_reducible exact ih8 _ _ _ _ _)
    | (with_reducible exact ih9 _ _ _ _ _ _ _)
    | (with_reducible exact ih10 _ _ _ _ _ _)
    | (with_reducible exact ih11 _ _ _ _ _ _ _ _ _ _ _ _ _ _ _)
    | (with_reducible exact impl_CountFull.mono _ _ _ _ _)
    | (with_reducible exact impl_CountSolutions.mono _ _ _ _ _)
    | (with_reducible exact impl_PowersOf.mono _ _ _)
    | (with_reducible exact impl_QuadricNumber.mono _ _ _ _)
    | (with_reducible exact impl_ValueCounts.mono _ _ _ _)
    | (with_reducible exact laws_likeInts.mono _ _ _)
    | (with_reducible exact laws_sum.mono _ _)
    | (with_reducible exact spec_CountFull.mono _ _ _ _ _)
    | (with_reducible exact spec_CountSolutions.mono _ _ _ _ _)
    | (with_reducible exact spec_DrawCountSolutions.mono _ _)
    | (with_reducible exact spec_DrawQuadricNumber.mono _ _)
    | (with_reducible exact spec_PowersOf.mono _ _ _)
    | (with_reducible exact spec_QuadricNumber.mono _ _ _ _)
    | (with_reducible exact spec_ValueCounts.mono _ _ _ _)
    | (with_reducible exact LeO.refl _)
    | (with_reducible exact LeO.none _)
    | (with_reducible refine LeO.ite ?_ ?_)
    | (with_reducible refine LeO.bind ?_ (fun _ => ?_))
    | exact ih0 _ _ _ _ _ _ _ _
    | exact ih1 _ _ _ _ _ _ _ _ _
    | exact ih2 _ _ _ _ _ _ _ _ _ _ _ _ _ _
    | exact ih3 _ _ _ _ _ _ _ _ _ _ _ _ _ _ _ _ _
    | exact ih4 _ _ _ _ _ _ _ _ _ _ _ _ _ _ _ _ _ _
    | exact ih5 _ _ _ _ _ _ _ _ _ _ _ _ _ _ _
    | exact ih6 _ _ _ _ _ _ _ _ _
    | exact ih7 _ _ _ _ _ _ _ _
    | exact ih8 _ _ _ _ _
    | exact ih9 _ _ _ _ _ _ _
    | exact ih10 _ _ _ _ _ _
    | exact ih11 _ _ _ _ _ _ _ _ _ _ _ _ _ _ _
    | exact impl_CountFull.mono _ _ _ _ _
    | exact impl_CountSolutions.mono _ _ _ _ _
    | exact impl_PowersOf.mono _ _ _
    | exact impl_QuadricNumber.mono _ _ _ _
    | exact impl_ValueCounts.mono _ _ _ _
    | exact laws_likeInts.mono _ _ _
    | exact laws_sum.mono _ _
    | exact spec_CountFull.mono _ _ _ _ _
    | exact spec_CountSolutions.mono _ _ _ _ _
    | exact spec_DrawCountSolutions.mono _ _
    | exact spec_DrawQuadricNumber.mono _ _
    | exact spec_PowersOf.mono _ _ _
    | exact spec_QuadricNumber.mono _ _ _ _
    | exact spec_ValueCounts.mono _ _ _ _
    | exact LeO.none _
    | refine LeO.ite ?_ ?_
    | refine LeO.bind ?_ (fun _ => ?_)
  · intro y0 y1 y2 y3 y4 y5 y6 y7 y8 y9 y10 y11 y12 y13 y14
    unfold laws_FnSolutions.l0
    repeat' first
    | (with_reducible exact ih0 _ _ _ _ _ _ _ _)
    | (with_reducible exact ih1 _ _ _ _ _ _ _ _ _)
    | (with_reducible exact ih2 _ _ _ _ _ _ _ _ _ _ _ _ _ _)
    | (with_reducible exact ih3 _ _ _ _ _ _ _ _ _ _ _ _ _ _ _ _ _)
    | (with_reducible exact ih4 _ _ _ _ _ _ _ _ _ _ _ _ _ _ _ _ _ _)
    | (with_reducible exact ih5 _ _ _ _ _ _ _ _ _ _ _ _ _ _ _)
    | (with_reducible exact ih6 _ _ _ _ _ _ _ _ _)
    | (with_reducible exact ih7 _ _ _ _ _ _ _ _)
    | (with_reducible exact ih8 _ _ _ _ _)
    | (with_reducible exact ih9 _ _ _ _ _ _ _)
    | (with_reducible exact ih10 _ _ _ _ _ _)
    | (with_reducible exact ih11 _ _ _ _ _ _ _ _ _ _ _ _ _ _ _)
    | (with_reducible exact impl_CountFull.mono _ _ _ _ _)
    | (with_reducible exact impl_CountSolutions.mono _ _ _ _ _)
    | (with_reducible exact impl_PowersOf.mono _ _ _)
    | (with_reducible exact impl_QuadricNumber.mono _ _ _ _)
    | (with_reducible exact impl_ValueCounts.mono _ _ _ _)
    | (with_reducible exact laws_likeInts.mono _ _ _)
    | (with_reducible exact laws_sum.mono _ _)
    | (with_reducible exact spec_CountFull.mono _ _ _ _ _)
    | (with_reducible exact spec_CountSolutions.mono _ _ _ _ _)
    | (with_reducible exact spec_DrawCountSolutions.mono _ _)
    | (with_reducible exact spec_DrawQuadricNumber.mono _ _)
    | (with_reducible exact spec_PowersOf.mono _ _ _)
    | (with_reducible exact spec_QuadricNumber.mono _ _ _ _)
    | (with_reducible exact spec_ValueCounts.mono _ _ _ _)
    | (with_reducible exact LeO.refl _)
    | (with_reducible exact LeO.none _)
    | (with_reducible refine LeO.ite ?_ ?_)
    | (with_reducible refine LeO.bind ?_ (fun _ => ?_))
    | exact ih0 _ _ _ _ _ _ _ _
    | exact ih1 _ _ _ _ _ _ _ _ _
    | exact ih2 _ _ _ _ _ _ _ _ _ _ _ _ _ _
    | exact ih3 _ _ _ _ _ _ _ _ _ _ _ _ _ _ _ _ _
    | exact ih4 _ _ _ _ _ _ _ _ _ _ _ _ _ _ _ _ _ _
    | exact ih5 _ _ _ _ _ _ _ _ _ _ _ _ _ _ _
    | exact ih6 _ _ _ _ _ _ _ _ _
    | exact ih7 _ _ _ _ _ _ _ _
    | exact ih8 _ _ _ _ _
    | exact ih9 _ _ _ _ _ _ _
    | exact ih10 _ _ _ _ _ _
    | exact ih11 _ _ _ _ _ _ _ _ _ _ _ _ _ _ _
    | exact impl_CountFull.mono _ _ _ _ _
    | exact impl_CountSolutions.mono _ _ _ _ _
    | exact impl_PowersOf.mono _ _ _
    | exact impl_QuadricNumber.mono _ _ _ _
    | exact impl_ValueCounts.mono _ _ _ _
    | exact laws_likeInts.mono _ _ _
    | exact laws_sum.mono _ _
    | exact spec_CountFull.mono _ _ _ _ _
    | exact spec_CountSolutions.mono _ _ _ _ _
    | exact spec_DrawCountSolutions.mono _ _
    | exact spec_DrawQuadricNumber.mono _ _
    | exact spec_PowersOf.mono _ _ _
    | exact spec_QuadricNumber.mono _ _ _ _
    | exact spec_ValueCounts.mono _ _ _ _
    | exact LeO.none _
    | refine LeO.ite ?_ ?_
    | refine LeO.bind ?_ (fun _ => ?_)
theorem laws_FnSolutions.mono : ∀ a0 k, LeO (laws_FnSolutions.f k a0) (laws_FnSolutions.f (k + 1) a0) := by
 intro a0 k
 obtain ⟨ih0, ih1, ih2, ih3, ih4, ih5, ih6, ih7, ih8, ih9, ih10, ih11⟩ := laws_FnSolutions.mono_l k
 unfold laws_FnSolutions.f
 repeat' first
  | (with_reducible exact ih0 _ _ _ _ _ _ _ _)
  | (with_reducible exact ih1 _ _ _ _ _ _ _ _ _)
  | (with_reducible exact ih2 _ _ _ _ _ _ _ _ _ _ _ _ _ _)
  | (with_reducible exact ih3 _ _ _ _ _ _ _ _ _ _ _ _ _ _ _ _ _)
  | (with_reducible exact ih4 _ _ _ _ _ _ _ _ _ _ _ _ _ _ _ _ _ _)
  | (with_reducible exact ih5 _ _ _ _ _ _ _ _ _ _ _ _ _ _ _)
  | (with_reducible exact ih6 _ _ _ _ _ _ _ _ _)
  | (with_reducible exact ih7 _ _ _ _ _ _ _ _)
  | (with_reducible exact ih8 _ _ _ _ _)
  | (with_reducible exact ih9 _ _ _ _ _ _ _)
  | (with_reducible exact ih10 _ _ _ _ _ _)
  | (with_reducible exact ih11 _ _ _ _ _ _ _ _ _ _ _ _ _ _ _)
  | (with_reducible exact impl_CountFull.mono _ _ _ _ _)
  | (with_reducible exact impl_CountSolutions.mono _ _ _ _ _)
  | (with_reducible exact impl_PowersOf.mono _ _ _)
  | (with_reducible exact impl_QuadricNumber.mono _ _ _ _)
  | (with_reducible exact impl_ValueCounts.mono _ _ _ _)
  | (with_reducible exact laws_likeInts.mono _ _ _)
  | (with_reducible exact laws_sum.mono _ _)
  | (with_reducible exact spec_CountFull.mono _ _ _ _ _)
  | (with_reducible exact spec_CountSolutions.mono _ _ _ _ _)
  | (with_reducible exact spec_DrawCountSolutions.mono _ _)
  | (with_reducible exact spec_DrawQuadricNumber.mono _ _)
  | (with_reducible exact spec_PowersOf.mono _ _ _)
  | (with_reducible exact spec_QuadricNumber.mono _ _ _ _)
  | (with_reducible exact spec_ValueCounts.mono _ _ _ _)
  | (with_reducible exact LeO.refl _)
  | (with_reducible exact LeO.none _)
  | (with_reducible refine LeO.ite ?_ ?_)
  | (with_reducible refine LeO.bind ?_ (fun _ => ?_))
  | exact ih0 _ _ _ _ _ _ _ _
  | exact ih1 _ _ _ _ _ _ _ _ _
  | exact ih2 _ _ _ _ _ _ _ _ _ _ _ _ _ _
  | exact ih3 _ _ _ _ _ _ _ _ _ _ _ _ _ _ _ _ _
  | exact ih4 _ _ _ _ _ _ _ _ _ _ _ _ _ _ _ _ _ _
  | exact ih5 _ _ _ _ _ _ _ _ _ _ _ _ _ _ _
  | exact ih6 _ _ _ _ _ _ _ _ _
  | exact ih7 _ _ _ _ _ _ _ _
  | exact ih8 _ _ _ _ _
  | exact ih9 _ _ _ _ _ _ _
  | exact ih10 _ _ _ _ _ _
  | exact ih11 _ _ _ _ _ _ _ _ _ _ _ _ _ _ _
  | exact impl_CountFull.mono _ _ _ _ _
  | exact impl_CountSolutions.mono _ _ _ _ _
  | exact impl_PowersOf.mono _ _ _
  | exact impl_QuadricNumber.mono _ _ _ _
  | exact impl_ValueCounts.mono _ _ _ _
  | exact laws_likeInts.mono _ _ _
  | exact laws_sum.mono _ _
  | exact spec_CountFull.mono _ _ _ _ _
  | exact spec_CountSolutions.mono _ _ _ _ _
  | exact spec_DrawCountSolutions.mono _ _
  | exact spec_DrawQuadricNumber.mono _ _
  | exact spec_PowersOf.mono _ _ _
  | exact spec_QuadricNumber.mono _ _ _ _
  | exact spec_ValueCounts.mono _ _ _ _
  | exact LeO.none _
  | refine LeO.ite ?_ ?_
  | refine LeO.bind ?_ (fun _ => ?_)
def laws_FnSolutions.Pure : Prop := ∀ (l0 : List Int), l0.length ≤ maxLen → l0.length * 1 ≤ 140737488351232 → (∀ x ∈ l0, (Lit.int .u8 x).wf = true) → ∃ k, laws_FnSolutions.f k l0 = some true
end Go.Proofs.Ytmjfaagifijmlaa.P
