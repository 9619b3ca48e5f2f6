/- This text was put together by a session out of texts that its own programs and the print tool wrote. -/
import Derived.Test.YtphlgajlebgnbaaK6
import Derived.Test.YtphlgajlebgnbaaK1
import Derived.Test.YtphlgajlebgnbaaK0
set_option linter.unusedVariables false
set_option linter.unusedSimpArgs false
namespace Go.Proofs.Ytphlgajlebgnbaa.P
open Go.RowKit Go.Proofs.YtphlgajlebgnbaaW.PrintWords Go.Proofs.YtphlgajlebgnbaaW.PrintLast Go.Proofs.YtphlgajlebgnbaaW.PrintMore
attribute [local go_sem] max2_int min2_int max_two min_two max_three min_three max_four min_four   -- for this text's walks alone
set_option linter.unusedVariables false
set_option linter.unusedSimpArgs false
set_option maxHeartbeats 8000000 in
set_option maxRecDepth 100000 in
theorem laws_FnCurves.calls (k : Nat) (A0 : Option Addr) (c0 : Nat) (l0 : List Int) (r : Bool) (w : World) (hr0 : Kd.C (Kd.int .u8) w A0 l0.length l0) (hc0 : l0.length ≤ c0) (h : laws_FnCurves.f k l0 = some r) :
   Calls Try.prog 3 #[.slice A0 l0.length c0] w fun e w' => e = .returned (.bool r) ∧ Below w.heap.size w w' := by
 have HR0 := Aside0.mk hr0
 have HC0 := Aside0.mk hc0
 clear hr0 hc0
 have HB := Aside0.mk (Below.refl w.heap.size w)
 have H : ((laws_big.f l0).bind fun t521 => (if t521 = true then (some true) else ((spec_DrawCurvePoints.f l0).bind fun bt522 => ((impl_CurvePoints.f k bt522.1 bt522.2).bind fun bt524 => ((spec_CurvePoints.f k bt522.1 bt522.2).bind fun bt526 => (if bt524.2 = bt526.2 then (laws_FnCurves.j0 k l0 bt522.1 bt522.2 bt524.1 bt524.2 (bt524.1 != bt526.1)) else (laws_FnCurves.j0 k l0 bt522.1 bt522.2 bt524.1 bt524.2 true))))))) = some r := h
 clear h
 replace H := Option.bind_eq_some_iff.mp H
 obtain ⟨t521, A20, H⟩ := H
 replace H : (if t521 = true then (some true) else ((spec_DrawCurvePoints.f l0).bind fun bt522 => ((impl_CurvePoints.f k bt522.1 bt522.2).bind fun bt524 => ((spec_CurvePoints.f k bt522.1 bt522.2).bind fun bt526 => (if bt524.2 = bt526.2 then (laws_FnCurves.j0 k l0 bt522.1 bt522.2 bt524.1 bt524.2 (bt524.1 != bt526.1)) else (laws_FnCurves.j0 k l0 bt522.1 bt522.2 bt524.1 bt524.2 true)))))) = some r := H
 have A2 := Aside0.mk A20
 clear A20
 by_cases c3 : t521 = true
 · subst c3
   have H1 : (some true) = some r := by rw [if_pos rfl] at H; exact H
   clear H
   have H := H1
   clear H1
   obtain rfl := Option.some.inj H
   go_enter Try.func3, Try.ntmps3
   go_wp2_with (first | ((with_reducible refine gate_callee (f := 4) rfl ?_); refine goesL_ (some 48) rfl rfl Try.func4 (by kernel_rfl) rfl #[.slice A0 l0.length c0] rfl (by (try simp only [List.map_toArray, List.map_cons, List.map_nil]); first | done | rfl | (simp only [List.length_drop, List.length_take]; rfl)) ?_; (with_reducible refine (laws_big.calls _ _ l0 true _ ?side1 ?side2 A2.out).mono ?_); (case side1 => repeat (first | exact HR0.out | (with_reducible refine Kd.C_alloc ?_ _) | (with_reducible refine Kd.C_drewN ?_ _) | (with_reducible refine Kd.C_drew ?_))); (case side2 => exact HC0.out); rintro e w' ⟨rfl, ⟨nd, rfl⟩⟩; refine ⟨_, rfl, ?_⟩))
   go_ret
   exact ⟨by first | rfl | (simp [errW_none, errW_some] <;> rfl) | (simp [*, errW_none, errW_some] <;> rfl), by repeat (first | (with_reducible first | exact HB.out | apply below_alloc | apply pw_below_drewN | apply below_drew1) | exact HB.out)⟩
 · replace c3 := Bool.eq_false_iff.mpr c3
   subst c3
   have H1 : ((spec_DrawCurvePoints.f l0).bind fun bt522 => ((impl_CurvePoints.f k bt522.1 bt522.2).bind fun bt524 => ((spec_CurvePoints.f k bt522.1 bt522.2).bind fun bt526 => (if bt524.2 = bt526.2 then (laws_FnCurves.j0 k l0 bt522.1 bt522.2 bt524.1 bt524.2 (bt524.1 != bt526.1)) else (laws_FnCurves.j0 k l0 bt522.1 bt522.2 bt524.1 bt524.2 true))))) = some r := by rw [if_neg (show ¬ (false = true) by decide)] at H; exact H
   clear H
   have H := H1
   clear H1
   replace H := Option.bind_eq_some_iff.mp H
   obtain ⟨⟨t522, t523⟩, A40, H⟩ := H
   replace H : ((impl_CurvePoints.f k t522 t523).bind fun bt524 => ((spec_CurvePoints.f k t522 t523).bind fun bt526 => (if bt524.2 = bt526.2 then (laws_FnCurves.j0 k l0 t522 t523 bt524.1 bt524.2 (bt524.1 != bt526.1)) else (laws_FnCurves.j0 k l0 t522 t523 bt524.1 bt524.2 true)))) = some r := H
   have A4 := Aside0.mk A40
   clear A40
   replace H := Option.bind_eq_some_iff.mp H
   obtain ⟨⟨t524, t525⟩, A50, H⟩ := H
   replace H : ((spec_CurvePoints.f k t522 t523).bind fun bt526 => (if t525 = bt526.2 then (laws_FnCurves.j0 k l0 t522 t523 t524 t525 (t524 != bt526.1)) else (laws_FnCurves.j0 k l0 t522 t523 t524 t525 true))) = some r := H
   have A5 := Aside0.mk A50
   clear A50
   replace H := Option.bind_eq_some_iff.mp H
   obtain ⟨⟨t526, t527⟩, A60, H⟩ := H
   replace H : (if t525 = t527 then (laws_FnCurves.j0 k l0 t522 t523 t524 t525 (t524 != t526)) else (laws_FnCurves.j0 k l0 t522 t523 t524 t525 true)) = some r := H
   have A6 := Aside0.mk A60
   clear A60
   have HC7 := Aside0.mk H
   clear H
   go_enter Try.func3, Try.ntmps3
   go_upto_region 6 with (first | ((with_reducible refine gate_callee (f := 4) rfl ?_); refine goesL_ (some 48) rfl rfl Try.func4 (by kernel_rfl) rfl #[.slice A0 l0.length c0] rfl (by (try simp only [List.map_toArray, List.map_cons, List.map_nil]); first | done | rfl | (simp only [List.length_drop, List.length_take]; rfl)) ?_; (with_reducible refine (laws_big.calls _ _ l0 false _ ?side1 ?side2 A2.out).mono ?_); (case side1 => repeat (first | exact HR0.out | (with_reducible refine Kd.C_alloc ?_ _) | (with_reducible refine Kd.C_drewN ?_ _) | (with_reducible refine Kd.C_drew ?_))); (case side2 => exact HC0.out); rintro e w' ⟨rfl, ⟨nd, rfl⟩⟩; refine ⟨_, rfl, ?_⟩) | ((with_reducible refine gate_callee (f := 5) rfl ?_); refine goesL_ (some 51) rfl rfl Try.func5 (by kernel_rfl) rfl #[.slice A0 l0.length c0] rfl (by (try simp only [List.map_toArray, List.map_cons, List.map_nil]); first | done | rfl | (simp only [List.length_drop, List.length_take]; rfl)) ?_; (with_reducible refine (spec_DrawCurvePoints.calls _ _ l0 t522 t523 _ ?side1 ?side2 A4.out).mono ?_); (case side1 => repeat (first | exact HR0.out | (with_reducible refine Kd.C_alloc ?_ _) | (with_reducible refine Kd.C_drewN ?_ _) | (with_reducible refine Kd.C_drew ?_))); (case side2 => exact HC0.out); rintro e w8 ⟨rfl, hb⟩; refine ⟨_, rfl, ?_⟩; have n0_ := Aside0.mk (below_step (by repeat (first | (with_reducible first | exact HB.out | apply below_alloc | apply pw_below_drewN | apply below_drew1) | exact HB.out)) hb); clear HB; have HB := n0_; clear n0_; (try clear hb); (try clear hb2); (try clear hk); (try clear hi)) | ((with_reducible refine gate_callee (f := 6) rfl ?_); refine goesL_ (some 57) rfl rfl Try.func6 (by kernel_rfl) rfl #[.int .i64 t522, .int .i64 t523] rfl (by (try simp only [List.map_toArray, List.map_cons, List.map_nil]); first | done | rfl | (simp only [List.length_drop, List.length_take]; rfl)) ?_; (with_reducible refine (impl_CurvePoints.calls k t522 t523 t524 t525 _ A5.out).mono ?_); rintro e w9 ⟨rfl, hb⟩; refine ⟨_, rfl, ?_⟩; have n0_ := Aside0.mk (below_step (by repeat (first | (with_reducible first | exact HB.out | apply below_alloc | apply pw_below_drewN | apply below_drew1) | exact HB.out)) hb); clear HB; have HB := n0_; clear n0_; (try clear hb); (try clear hb2); (try clear hk); (try clear hi)) | ((with_reducible refine gate_callee (f := 7) rfl ?_); refine goesL_ (some 63) rfl rfl Try.func7 (by kernel_rfl) rfl #[.int .i64 t522, .int .i64 t523] rfl (by (try simp only [List.map_toArray, List.map_cons, List.map_nil]); first | done | rfl | (simp only [List.length_drop, List.length_take]; rfl)) ?_; (with_reducible refine (spec_CurvePoints.calls k t522 t523 t526 t527 _ A6.out).mono ?_); rintro e w10 ⟨rfl, hb⟩; refine ⟨_, rfl, ?_⟩; have n0_ := Aside0.mk (below_step (by repeat (first | (with_reducible first | exact HB.out | apply below_alloc | apply pw_below_drewN | apply below_drew1) | exact HB.out)) hb); clear HB; have HB := n0_; clear n0_; (try clear hb); (try clear hb2); (try clear hk); (try clear hi)))
   (try simp only [Act.put, List.setIfInBounds_toArray, List.set_cons_zero, List.set_cons_succ])
   go_cut [73] (fun v73 wc => ∃ (kq : Nat) (x73_6 : Bool), v73 = .bool x73_6 ∧ Aside0 (laws_FnCurves.j0 kq l0 t522 t523 t524 t525 x73_6 = some r) ∧ Aside0 (kq ≤ k) ∧ Aside0 (Below w.heap.size w wc))
   case first =>
    as_aux_lemma =>
    have H := HC7.out
    clear HC7
    by_cases c11 : t525 = t527
    · rw [if_pos c11] at H
      have c11b0 : (t525 == t527) = true := beq_iff_eq.mpr c11
      have c11b1 : (t525 != t527) = false := bne_eq_false_iff_eq.mpr c11
      clear c11
      (first | rw [c11b0] | (simp only [i64_w, i32_w]; rw [c11b0]) | rw [c11b2] | simp only [c11b2] | skip)
      have H' := Aside0.mk H
      clear H
      go_wp2
      go_meet
      case rel => exact ⟨_, ((t524 != t526)), (by first | rfl | (simp; done) | (simp [*]; done)), H', ⟨by first | omega | exact Nat.le_refl _⟩, ⟨by repeat (first | (with_reducible first | exact HB.out | apply below_alloc | apply pw_below_drewN | apply below_drew1) | exact HB.out)⟩⟩
    · rw [if_neg c11] at H
      have c11b0 : (t525 == t527) = false := beq_eq_false_iff_ne.mpr c11
      have c11b1 : (t525 != t527) = true := bne_iff_ne.mpr c11
      (first | rw [c11b0] | (simp only [i64_w, i32_w]; rw [c11b0]) | rw [c11b2] | simp only [c11b2] | skip)
      have H' := Aside0.mk H
      clear H
      go_wp2
      go_meet
      case rel => exact ⟨_, (true), (by first | rfl | (simp; done) | (simp [*]; done)), H', ⟨by first | omega | exact Nat.le_refl _⟩, ⟨by repeat (first | (with_reducible first | exact HB.out | apply below_alloc | apply pw_below_drewN | apply below_drew1) | exact HB.out)⟩⟩
   case rest =>
   as_aux_lemma =>
   clear HC7
   try clear c1
   try clear p2
   try clear c3
   try clear c4
   try clear c5
   try clear c6
   try clear c7
   try clear c11
   try clear c11b0
   try clear c11b1
   try clear c11b2
   obtain ⟨kq, x73_6, rfl, HA, HJ6, HB⟩ := hcut
   cases kq with
   | zero => exact absurd HA.out (by simp [laws_FnCurves.j0])
   | succ kj6 =>
    have H := HA.out
    clear HA
    simp only [laws_FnCurves.j0] at H
    by_cases c12 : x73_6 = true
    · subst c12
      have H1 : (some false) = some r := by rw [if_pos rfl] at H; exact H
      clear H
      have H := H1
      clear H1
      obtain rfl := Option.some.inj H
      go_wp2
      go_ret
      exact ⟨by first | rfl | (simp [errW_none, errW_some] <;> rfl) | (simp [*, errW_none, errW_some] <;> rfl), by repeat (first | (with_reducible first | exact HB.out | apply below_alloc | apply pw_below_drewN | apply below_drew1) | exact HB.out)⟩
    · replace c12 := Bool.eq_false_iff.mpr c12
      subst c12
      have H1 : ((impl_CurveDefect.f kj6 t522 t523).bind fun bt528 => ((spec_CurveDefect.f kj6 t522 t523).bind fun bt530 => (if bt528.2 = bt530.2 then (laws_FnCurves.j1 kj6 l0 t522 t523 t524 t525 bt528.1 bt528.2 (bt528.1 != bt530.1)) else (laws_FnCurves.j1 kj6 l0 t522 t523 t524 t525 bt528.1 bt528.2 true)))) = some r := by rw [if_neg (show ¬ (false = true) by decide)] at H; exact H
      clear H
      have H := H1
      clear H1
      replace H := Option.bind_eq_some_iff.mp H
      obtain ⟨⟨t528, t529⟩, A130, H⟩ := H
      replace H : ((spec_CurveDefect.f kj6 t522 t523).bind fun bt530 => (if t529 = bt530.2 then (laws_FnCurves.j1 kj6 l0 t522 t523 t524 t525 t528 t529 (t528 != bt530.1)) else (laws_FnCurves.j1 kj6 l0 t522 t523 t524 t525 t528 t529 true))) = some r := H
      have A13 := Aside0.mk A130
      clear A130
      replace H := Option.bind_eq_some_iff.mp H
      obtain ⟨⟨t530, t531⟩, A140, H⟩ := H
      replace H : (if t529 = t531 then (laws_FnCurves.j1 kj6 l0 t522 t523 t524 t525 t528 t529 (t528 != t530)) else (laws_FnCurves.j1 kj6 l0 t522 t523 t524 t525 t528 t529 true)) = some r := H
      have A14 := Aside0.mk A140
      clear A140
      have HC15 := Aside0.mk H
      clear H
      go_upto_region 10 with (first | ((with_reducible refine gate_callee (f := 8) rfl ?_); refine goesL_ (some 77) rfl rfl Try.func8 (by kernel_rfl) rfl #[.int .i64 t522, .int .i64 t523] rfl (by (try simp only [List.map_toArray, List.map_cons, List.map_nil]); first | done | rfl | (simp only [List.length_drop, List.length_take]; rfl)) ?_; (with_reducible refine (impl_CurveDefect.calls kj6 t522 t523 t528 t529 _ A13.out).mono ?_); rintro e w16 ⟨rfl, hb⟩; refine ⟨_, rfl, ?_⟩; have n0_ := Aside0.mk (below_step (by repeat (first | (with_reducible first | exact HB.out | apply below_alloc | apply pw_below_drewN | apply below_drew1) | exact HB.out)) hb); clear HB; have HB := n0_; clear n0_; (try clear hb); (try clear hb2); (try clear hk); (try clear hi)) | ((with_reducible refine gate_callee (f := 9) rfl ?_); refine goesL_ (some 83) rfl rfl Try.func9 (by kernel_rfl) rfl #[.int .i64 t522, .int .i64 t523] rfl (by (try simp only [List.map_toArray, List.map_cons, List.map_nil]); first | done | rfl | (simp only [List.length_drop, List.length_take]; rfl)) ?_; (with_reducible refine (spec_CurveDefect.calls kj6 t522 t523 t530 t531 _ A14.out).mono ?_); rintro e w17 ⟨rfl, hb⟩; refine ⟨_, rfl, ?_⟩; have n0_ := Aside0.mk (below_step (by repeat (first | (with_reducible first | exact HB.out | apply below_alloc | apply pw_below_drewN | apply below_drew1) | exact HB.out)) hb); clear HB; have HB := n0_; clear n0_; (try clear hb); (try clear hb2); (try clear hk); (try clear hi)))
      (try simp only [Act.put, List.setIfInBounds_toArray, List.set_cons_zero, List.set_cons_succ])
      go_cut [93] (fun v93 wc => ∃ (kq : Nat) (x93_14 : Bool), v93 = .bool x93_14 ∧ Aside0 (laws_FnCurves.j1 kq l0 t522 t523 t524 t525 t528 t529 x93_14 = some r) ∧ Aside0 (kq ≤ kj6) ∧ Aside0 (Below w.heap.size w wc))
      case first =>
       as_aux_lemma =>
       have H := HC15.out
       clear HC15
       by_cases c18 : t529 = t531
       · rw [if_pos c18] at H
         have c18b0 : (t529 == t531) = true := beq_iff_eq.mpr c18
         have c18b1 : (t529 != t531) = false := bne_eq_false_iff_eq.mpr c18
         clear c18
         (first | rw [c18b0] | (simp only [i64_w, i32_w]; rw [c18b0]) | rw [c18b2] | simp only [c18b2] | skip)
         have H' := Aside0.mk H
         clear H
         go_wp2
         go_meet
         case rel => exact ⟨_, ((t528 != t530)), (by first | rfl | (simp; done) | (simp [*]; done)), H', ⟨by have := HJ6.out; first | omega | exact Nat.le_refl _⟩, ⟨by repeat (first | (with_reducible first | exact HB.out | apply below_alloc | apply pw_below_drewN | apply below_drew1) | exact HB.out)⟩⟩
       · rw [if_neg c18] at H
         have c18b0 : (t529 == t531) = false := beq_eq_false_iff_ne.mpr c18
         have c18b1 : (t529 != t531) = true := bne_iff_ne.mpr c18
         (first | rw [c18b0] | (simp only [i64_w, i32_w]; rw [c18b0]) | rw [c18b2] | simp only [c18b2] | skip)
         have H' := Aside0.mk H
         clear H
         go_wp2
         go_meet
         case rel => exact ⟨_, (true), (by first | rfl | (simp; done) | (simp [*]; done)), H', ⟨by have := HJ6.out; first | omega | exact Nat.le_refl _⟩, ⟨by repeat (first | (with_reducible first | exact HB.out | apply below_alloc | apply pw_below_drewN | apply below_drew1) | exact HB.out)⟩⟩
      case rest =>
      as_aux_lemma =>
      clear HC15
      try clear c1
      try clear p2
      try clear c3
      try clear c4
      try clear c5
      try clear c6
      try clear c7
      try clear c8
      try clear c9
      try clear c11
      try clear c11b0
      try clear c11b1
      try clear c11b2
      try clear c12
      try clear c18
      try clear c18b0
      try clear c18b1
      try clear c18b2
      try clear p2
      obtain ⟨kq, x93_14, rfl, HA, HJ14, HB⟩ := hcut
      cases kq with
      | zero => exact absurd HA.out (by simp [laws_FnCurves.j1])
      | succ kj14 =>
       have H := HA.out
       clear HA
       simp only [laws_FnCurves.j1] at H
       by_cases c19 : x93_14 = true
       · subst c19
         have H1 : (some false) = some r := by rw [if_pos rfl] at H; exact H
         clear H
         have H := H1
         clear H1
         obtain rfl := Option.some.inj H
         go_wp2
         go_ret
         exact ⟨by first | rfl | (simp [errW_none, errW_some] <;> rfl) | (simp [*, errW_none, errW_some] <;> rfl), by repeat (first | (with_reducible first | exact HB.out | apply below_alloc | apply pw_below_drewN | apply below_drew1) | exact HB.out)⟩
       · replace c19 := Bool.eq_false_iff.mpr c19
         subst c19
         have H1 : ((spec_DrawGenusOfCurve.f l0).bind fun t532 => ((impl_GenusOfCurve.f t532).bind fun bt533 => ((spec_GenusOfCurve.f t532).bind fun bt535 => (if bt533.2 = bt535.2 then (laws_FnCurves.j2 kj14 l0 t522 t523 t524 t525 t528 t529 (bt533.1 != bt535.1)) else (laws_FnCurves.j2 kj14 l0 t522 t523 t524 t525 t528 t529 true))))) = some r := by rw [if_neg (show ¬ (false = true) by decide)] at H; exact H
         clear H
         have H := H1
         clear H1
         replace H := Option.bind_eq_some_iff.mp H
         obtain ⟨t532, A200, H⟩ := H
         replace H : ((impl_GenusOfCurve.f t532).bind fun bt533 => ((spec_GenusOfCurve.f t532).bind fun bt535 => (if bt533.2 = bt535.2 then (laws_FnCurves.j2 kj14 l0 t522 t523 t524 t525 t528 t529 (bt533.1 != bt535.1)) else (laws_FnCurves.j2 kj14 l0 t522 t523 t524 t525 t528 t529 true)))) = some r := H
         have A20 := Aside0.mk A200
         clear A200
         replace H := Option.bind_eq_some_iff.mp H
         obtain ⟨⟨t533, t534⟩, A210, H⟩ := H
         replace H : ((spec_GenusOfCurve.f t532).bind fun bt535 => (if t534 = bt535.2 then (laws_FnCurves.j2 kj14 l0 t522 t523 t524 t525 t528 t529 (t533 != bt535.1)) else (laws_FnCurves.j2 kj14 l0 t522 t523 t524 t525 t528 t529 true))) = some r := H
         have A21 := Aside0.mk A210
         clear A210
         replace H := Option.bind_eq_some_iff.mp H
         obtain ⟨⟨t535, t536⟩, A220, H⟩ := H
         replace H : (if t534 = t536 then (laws_FnCurves.j2 kj14 l0 t522 t523 t524 t525 t528 t529 (t533 != t535)) else (laws_FnCurves.j2 kj14 l0 t522 t523 t524 t525 t528 t529 true)) = some r := H
         have A22 := Aside0.mk A220
         clear A220
         have HC23 := Aside0.mk H
         clear H
         go_upto_region 15 with (first | ((with_reducible refine gate_callee (f := 10) rfl ?_); refine goesL_ (some 95) rfl rfl Try.func10 (by kernel_rfl) rfl #[.slice A0 l0.length c0] rfl (by (try simp only [List.map_toArray, List.map_cons, List.map_nil]); first | done | rfl | (simp only [List.length_drop, List.length_take]; rfl)) ?_; (with_reducible refine (spec_DrawGenusOfCurve.calls _ _ l0 t532 _ ?side1 ?side2 A20.out).mono ?_); (case side1 => repeat (first | exact (Kd.C_below HR0.out HB.out) | (with_reducible refine Kd.C_alloc ?_ _) | (with_reducible refine Kd.C_drewN ?_ _) | (with_reducible refine Kd.C_drew ?_))); (case side2 => exact HC0.out); rintro e w24 ⟨rfl, hb⟩; refine ⟨_, rfl, ?_⟩; have n0_ := Aside0.mk (below_step (by repeat (first | (with_reducible first | exact HB.out | apply below_alloc | apply pw_below_drewN | apply below_drew1) | exact HB.out)) hb); clear HB; have HB := n0_; clear n0_; (try clear hb); (try clear hb2); (try clear hk); (try clear hi)) | ((with_reducible refine gate_callee (f := 11) rfl ?_); refine goesL_ (some 98) rfl rfl Try.func11 (by kernel_rfl) rfl #[.int .i64 t532] rfl (by (try simp only [List.map_toArray, List.map_cons, List.map_nil]); first | done | rfl | (simp only [List.length_drop, List.length_take]; rfl)) ?_; (with_reducible refine (impl_GenusOfCurve.calls t532 t533 t534 _ A21.out).mono ?_); rintro e w' ⟨rfl, ⟨nd, rfl⟩⟩; refine ⟨_, rfl, ?_⟩) | ((with_reducible refine gate_callee (f := 12) rfl ?_); refine goesL_ (some 103) rfl rfl Try.func12 (by kernel_rfl) rfl #[.int .i64 t532] rfl (by (try simp only [List.map_toArray, List.map_cons, List.map_nil]); first | done | rfl | (simp only [List.length_drop, List.length_take]; rfl)) ?_; (with_reducible refine (spec_GenusOfCurve.calls t532 t535 t536 _ A22.out).mono ?_); rintro e w' ⟨rfl, ⟨nd, rfl⟩⟩; refine ⟨_, rfl, ?_⟩))
         (try simp only [Act.put, List.setIfInBounds_toArray, List.set_cons_zero, List.set_cons_succ])
         go_cut [113] (fun v113 wc => ∃ (kq : Nat) (x113_22 : Bool), v113 = .bool x113_22 ∧ Aside0 (laws_FnCurves.j2 kq l0 t522 t523 t524 t525 t528 t529 x113_22 = some r) ∧ Aside0 (kq ≤ kj14) ∧ Aside0 (Below w.heap.size w wc))
         case first =>
          as_aux_lemma =>
          have H := HC23.out
          clear HC23
          by_cases c25 : t534 = t536
          · rw [if_pos c25] at H
            have c25b0 : (t534 == t536) = true := beq_iff_eq.mpr c25
            have c25b1 : (t534 != t536) = false := bne_eq_false_iff_eq.mpr c25
            clear c25
            (first | rw [c25b0] | (simp only [i64_w, i32_w]; rw [c25b0]) | rw [c25b2] | simp only [c25b2] | skip)
            have H' := Aside0.mk H
            clear H
            go_wp2
            go_meet
            case rel => exact ⟨_, ((t533 != t535)), (by first | rfl | (simp; done) | (simp [*]; done)), H', ⟨by have := HJ6.out; have := HJ14.out; first | omega | exact Nat.le_refl _⟩, ⟨by repeat (first | (with_reducible first | exact HB.out | apply below_alloc | apply pw_below_drewN | apply below_drew1) | exact HB.out)⟩⟩
          · rw [if_neg c25] at H
            have c25b0 : (t534 == t536) = false := beq_eq_false_iff_ne.mpr c25
            have c25b1 : (t534 != t536) = true := bne_iff_ne.mpr c25
            (first | rw [c25b0] | (simp only [i64_w, i32_w]; rw [c25b0]) | rw [c25b2] | simp only [c25b2] | skip)
            have H' := Aside0.mk H
            clear H
            go_wp2
            go_meet
            case rel => exact ⟨_, (true), (by first | rfl | (simp; done) | (simp [*]; done)), H', ⟨by have := HJ6.out; have := HJ14.out; first | omega | exact Nat.le_refl _⟩, ⟨by repeat (first | (with_reducible first | exact HB.out | apply below_alloc | apply pw_below_drewN | apply below_drew1) | exact HB.out)⟩⟩
         case rest =>
         as_aux_lemma =>
         clear HC23
         try clear c1
         try clear c2
         try clear p2
         try clear c3
         try clear c4
         try clear c5
         try clear c6
         try clear c7
         try clear c8
         try clear c9
         try clear c10
         try clear c11
         try clear c11b0
         try clear c11b1
         try clear c11b2
         try clear c12
         try clear c18
         try clear c18b0
         try clear c18b1
         try clear c18b2
         try clear c19
         try clear c25
         try clear c25b0
         try clear c25b1
         try clear c25b2
         try clear p2
         obtain ⟨kq, x113_22, rfl, HA, HJ22, HB⟩ := hcut
         cases kq with
         | zero => exact absurd HA.out (by simp [laws_FnCurves.j2])
         | succ kj22 =>
          have H := HA.out
          clear HA
          simp only [laws_FnCurves.j2] at H
          by_cases c26 : x113_22 = true
          · subst c26
            have H1 : (some false) = some r := by rw [if_pos rfl] at H; exact H
            clear H
            have H := H1
            clear H1
            obtain rfl := Option.some.inj H
            go_wp2
            go_ret
            exact ⟨by first | rfl | (simp [errW_none, errW_some] <;> rfl) | (simp [*, errW_none, errW_some] <;> rfl), by repeat (first | (with_reducible first | exact HB.out | apply below_alloc | apply pw_below_drewN | apply below_drew1) | exact HB.out)⟩
          · replace c26 := Bool.eq_false_iff.mpr c26
            subst c26
            have H1 : ((spec_DrawPointsAbove.f kj22 l0).bind fun bt537 => ((impl_PointsAbove.f kj22 bt537.1 bt537.2.1 bt537.2.2).bind fun bt542 => ((spec_PointsAbove.f kj22 bt537.1 bt537.2.1 bt537.2.2).bind fun bt544 => (if bt542.2 = bt544.2 then (laws_FnCurves.j3 kj22 l0 t522 t523 t524 t525 t528 t529 bt537.1 bt542.1 bt542.2 (bt542.1 != bt544.1)) else (laws_FnCurves.j3 kj22 l0 t522 t523 t524 t525 t528 t529 bt537.1 bt542.1 bt542.2 true))))) = some r := by rw [if_neg (show ¬ (false = true) by decide)] at H; exact H
            clear H
            have H := H1
            clear H1
            replace H := Option.bind_eq_some_iff.mp H
            obtain ⟨⟨t537, t538, t539⟩, A270, H⟩ := H
            replace H : ((impl_PointsAbove.f kj22 t537 t538 t539).bind fun bt542 => ((spec_PointsAbove.f kj22 t537 t538 t539).bind fun bt544 => (if bt542.2 = bt544.2 then (laws_FnCurves.j3 kj22 l0 t522 t523 t524 t525 t528 t529 t537 bt542.1 bt542.2 (bt542.1 != bt544.1)) else (laws_FnCurves.j3 kj22 l0 t522 t523 t524 t525 t528 t529 t537 bt542.1 bt542.2 true)))) = some r := H
            have A27 := Aside0.mk A270
            clear A270
            replace H := Option.bind_eq_some_iff.mp H
            obtain ⟨⟨t542, t543⟩, A280, H⟩ := H
            replace H : ((spec_PointsAbove.f kj22 t537 t538 t539).bind fun bt544 => (if t543 = bt544.2 then (laws_FnCurves.j3 kj22 l0 t522 t523 t524 t525 t528 t529 t537 t542 t543 (t542 != bt544.1)) else (laws_FnCurves.j3 kj22 l0 t522 t523 t524 t525 t528 t529 t537 t542 t543 true))) = some r := H
            have A28 := Aside0.mk A280
            clear A280
            replace H := Option.bind_eq_some_iff.mp H
            obtain ⟨⟨t544, t545⟩, A290, H⟩ := H
            replace H : (if t543 = t545 then (laws_FnCurves.j3 kj22 l0 t522 t523 t524 t525 t528 t529 t537 t542 t543 (t542 != t544)) else (laws_FnCurves.j3 kj22 l0 t522 t523 t524 t525 t528 t529 t537 t542 t543 true)) = some r := H
            have A29 := Aside0.mk A290
            clear A290
            have HC30 := Aside0.mk H
            clear H
            go_upto_region 20 with (first | ((with_reducible refine gate_callee (f := 13) rfl ?_); refine goesL_ (some 116) rfl rfl Try.func13 (by kernel_rfl) rfl #[.slice A0 l0.length c0] rfl (by (try simp only [List.map_toArray, List.map_cons, List.map_nil]); first | done | rfl | (simp only [List.length_drop, List.length_take]; rfl)) ?_; (with_reducible refine (spec_DrawPointsAbove.calls kj22 _ _ l0 t537 t538 t539 _ ?side1 ?side2 A27.out).mono ?_); (case side1 => repeat (first | exact (Kd.C_below HR0.out HB.out) | (with_reducible refine Kd.C_alloc ?_ _) | (with_reducible refine Kd.C_drewN ?_ _) | (with_reducible refine Kd.C_drew ?_))); (case side2 => exact HC0.out); rintro e w31 ⟨v540, rfl, ho0, hb⟩; refine ⟨_, rfl, ?_⟩; have n0_ := Aside0.mk (Kd.R_lower ho0 (below_size (by repeat (first | (with_reducible first | exact HB.out | apply below_alloc | apply pw_below_drewN | apply below_drew1) | exact HB.out)))); have n1_ := Aside0.mk (below_step (by repeat (first | (with_reducible first | exact HB.out | apply below_alloc | apply pw_below_drewN | apply below_drew1) | exact HB.out)) hb); clear HB; have HO541 := n0_; have HB := n1_; clear n0_ n1_; (try clear hb); (try clear hb2); (try clear hk); (try clear hi); (try clear ho0); obtain ⟨Ao32, co32, eo32⟩ := Kd.R_slice HO541.out; subst eo32) | ((with_reducible refine gate_callee (f := 14) rfl ?_); refine goesL_ (some 124) rfl rfl Try.func14 (by kernel_rfl) rfl #[.int .i64 t537, .int .i64 t538, .slice Ao32 t539.length co32] rfl (by (try simp only [List.map_toArray, List.map_cons, List.map_nil]); first | done | rfl | (simp only [List.length_drop, List.length_take]; rfl)) ?_; (with_reducible refine (impl_PointsAbove.calls kj22 t537 t538 _ _ t539 t542 t543 _ ?side1 ?side2 A28.out).mono ?_); (case side1 => repeat (first | exact (Kd.R_reads' HO541.out).2.2 | (with_reducible refine Kd.C_alloc ?_ _) | (with_reducible refine Kd.C_drewN ?_ _) | (with_reducible refine Kd.C_drew ?_))); (case side2 => exact (Kd.R_reads' HO541.out).2.1); rintro e w33 ⟨rfl, hb⟩; refine ⟨_, rfl, ?_⟩; have n0_ := Aside0.mk (Kd.R_below (by (with_reducible repeat (first | apply Kd.R_alloc | apply Kd.R_drewN | apply Kd.R_drew)); exact HO541.out) hb); have n1_ := Aside0.mk (below_step (by repeat (first | (with_reducible first | exact HB.out | apply below_alloc | apply pw_below_drewN | apply below_drew1) | exact HB.out)) hb); clear HO541; clear HB; have HO541 := n0_; have HB := n1_; clear n0_ n1_; (try clear hb); (try clear hb2); (try clear hk); (try clear hi)) | ((with_reducible refine gate_callee (f := 15) rfl ?_); refine goesL_ (some 131) rfl rfl Try.func15 (by kernel_rfl) rfl #[.int .i64 t537, .int .i64 t538, .slice Ao32 t539.length co32] rfl (by (try simp only [List.map_toArray, List.map_cons, List.map_nil]); first | done | rfl | (simp only [List.length_drop, List.length_take]; rfl)) ?_; (with_reducible refine (spec_PointsAbove.calls kj22 t537 t538 _ _ t539 t544 t545 _ ?side1 ?side2 A29.out).mono ?_); (case side1 => repeat (first | exact (Kd.R_reads' HO541.out).2.2 | (with_reducible refine Kd.C_alloc ?_ _) | (with_reducible refine Kd.C_drewN ?_ _) | (with_reducible refine Kd.C_drew ?_))); (case side2 => exact (Kd.R_reads' HO541.out).2.1); rintro e w34 ⟨rfl, hb⟩; refine ⟨_, rfl, ?_⟩; have n0_ := Aside0.mk (Kd.R_below (by (with_reducible repeat (first | apply Kd.R_alloc | apply Kd.R_drewN | apply Kd.R_drew)); exact HO541.out) hb); have n1_ := Aside0.mk (below_step (by repeat (first | (with_reducible first | exact HB.out | apply below_alloc | apply pw_below_drewN | apply below_drew1) | exact HB.out)) hb); clear HO541; clear HB; have HO541 := n0_; have HB := n1_; clear n0_ n1_; (try clear hb); (try clear hb2); (try clear hk); (try clear hi)))
            (try simp only [Act.put, List.setIfInBounds_toArray, List.set_cons_zero, List.set_cons_succ])
            go_cut [141] (fun v141 wc => ∃ (kq : Nat) (x141_29 : Bool), v141 = .bool x141_29 ∧ Aside0 (laws_FnCurves.j3 kq l0 t522 t523 t524 t525 t528 t529 t537 t542 t543 x141_29 = some r) ∧ Aside0 (kq ≤ kj22) ∧ Aside0 (Below w.heap.size w wc))
            case first =>
             as_aux_lemma =>
             have H := HC30.out
             clear HC30
             by_cases c35 : t543 = t545
             · rw [if_pos c35] at H
               have c35b0 : (t543 == t545) = true := beq_iff_eq.mpr c35
               have c35b1 : (t543 != t545) = false := bne_eq_false_iff_eq.mpr c35
               clear c35
               (first | rw [c35b0] | (simp only [i64_w, i32_w]; rw [c35b0]) | rw [c35b2] | simp only [c35b2] | skip)
               have H' := Aside0.mk H
               clear H
               go_wp2
               go_meet
               case rel => exact ⟨_, ((t542 != t544)), (by first | rfl | (simp; done) | (simp [*]; done)), H', ⟨by have := HJ6.out; have := HJ14.out; have := HJ22.out; first | omega | exact Nat.le_refl _⟩, ⟨by repeat (first | (with_reducible first | exact HB.out | apply below_alloc | apply pw_below_drewN | apply below_drew1) | exact HB.out)⟩⟩
             · rw [if_neg c35] at H
               have c35b0 : (t543 == t545) = false := beq_eq_false_iff_ne.mpr c35
               have c35b1 : (t543 != t545) = true := bne_iff_ne.mpr c35
               (first | rw [c35b0] | (simp only [i64_w, i32_w]; rw [c35b0]) | rw [c35b2] | simp only [c35b2] | skip)
               have H' := Aside0.mk H
               clear H
               go_wp2
               go_meet
               case rel => exact ⟨_, (true), (by first | rfl | (simp; done) | (simp [*]; done)), H', ⟨by have := HJ6.out; have := HJ14.out; have := HJ22.out; first | omega | exact Nat.le_refl _⟩, ⟨by repeat (first | (with_reducible first | exact HB.out | apply below_alloc | apply pw_below_drewN | apply below_drew1) | exact HB.out)⟩⟩
            case rest =>
            as_aux_lemma =>
            clear HC30
            try clear c1
            try clear c2
            try clear p2
            try clear c3
            try clear c4
            try clear c5
            try clear c6
            try clear c7
            try clear c8
            try clear c9
            try clear c10
            try clear c11
            try clear c11b0
            try clear c11b1
            try clear c11b2
            try clear c12
            try clear c13
            try clear c14
            try clear c15
            try clear c18
            try clear c18b0
            try clear c18b1
            try clear c18b2
            try clear c19
            try clear c25
            try clear c25b0
            try clear c25b1
            try clear c25b2
            try clear c26
            try clear c35
            try clear c35b0
            try clear c35b1
            try clear c35b2
            try clear p2
            obtain ⟨kq, x141_29, rfl, HA, HJ29, HB⟩ := hcut
            cases kq with
            | zero => exact absurd HA.out (by simp [laws_FnCurves.j3])
            | succ kj29 =>
             have H := HA.out
             clear HA
             simp only [laws_FnCurves.j3] at H
             by_cases c36 : x141_29 = true
             · subst c36
               have H1 : (some false) = some r := by rw [if_pos rfl] at H; exact H
               clear H
               have H := H1
               clear H1
               obtain rfl := Option.some.inj H
               go_wp2
               go_ret
               exact ⟨by first | rfl | (simp [errW_none, errW_some] <;> rfl) | (simp [*, errW_none, errW_some] <;> rfl), by repeat (first | (with_reducible first | exact HB.out | apply below_alloc | apply pw_below_drewN | apply below_drew1) | exact HB.out)⟩
             · replace c36 := Bool.eq_false_iff.mpr c36
               subst c36
               have H1 : ((spec_DrawPowerNumber.f l0).bind fun bt546 => ((impl_PowerNumber.f kj29 bt546.1 bt546.2).bind fun bt548 => ((spec_PowerNumber.f kj29 bt546.1 bt546.2).bind fun bt550 => (if bt548.2 = bt550.2 then (laws_FnCurves.j4 kj29 l0 t522 t523 t524 t525 t528 t529 t537 t542 t543 bt546.1 bt546.2 bt548.1 bt548.2 (bt548.1 != bt550.1)) else (laws_FnCurves.j4 kj29 l0 t522 t523 t524 t525 t528 t529 t537 t542 t543 bt546.1 bt546.2 bt548.1 bt548.2 true))))) = some r := by rw [if_neg (show ¬ (false = true) by decide)] at H; exact H
               clear H
               have H := H1
               clear H1
               replace H := Option.bind_eq_some_iff.mp H
               obtain ⟨⟨t546, t547⟩, A370, H⟩ := H
               replace H : ((impl_PowerNumber.f kj29 t546 t547).bind fun bt548 => ((spec_PowerNumber.f kj29 t546 t547).bind fun bt550 => (if bt548.2 = bt550.2 then (laws_FnCurves.j4 kj29 l0 t522 t523 t524 t525 t528 t529 t537 t542 t543 t546 t547 bt548.1 bt548.2 (bt548.1 != bt550.1)) else (laws_FnCurves.j4 kj29 l0 t522 t523 t524 t525 t528 t529 t537 t542 t543 t546 t547 bt548.1 bt548.2 true)))) = some r := H
               have A37 := Aside0.mk A370
               clear A370
               replace H := Option.bind_eq_some_iff.mp H
               obtain ⟨⟨t548, t549⟩, A380, H⟩ := H
               replace H : ((spec_PowerNumber.f kj29 t546 t547).bind fun bt550 => (if t549 = bt550.2 then (laws_FnCurves.j4 kj29 l0 t522 t523 t524 t525 t528 t529 t537 t542 t543 t546 t547 t548 t549 (t548 != bt550.1)) else (laws_FnCurves.j4 kj29 l0 t522 t523 t524 t525 t528 t529 t537 t542 t543 t546 t547 t548 t549 true))) = some r := H
               have A38 := Aside0.mk A380
               clear A380
               replace H := Option.bind_eq_some_iff.mp H
               obtain ⟨⟨t550, t551⟩, A390, H⟩ := H
               replace H : (if t549 = t551 then (laws_FnCurves.j4 kj29 l0 t522 t523 t524 t525 t528 t529 t537 t542 t543 t546 t547 t548 t549 (t548 != t550)) else (laws_FnCurves.j4 kj29 l0 t522 t523 t524 t525 t528 t529 t537 t542 t543 t546 t547 t548 t549 true)) = some r := H
               have A39 := Aside0.mk A390
               clear A390
               have HC40 := Aside0.mk H
               clear H
               go_upto_region 25 with (first | ((with_reducible refine gate_callee (f := 16) rfl ?_); refine goesL_ (some 144) rfl rfl Try.func16 (by kernel_rfl) rfl #[.slice A0 l0.length c0] rfl (by (try simp only [List.map_toArray, List.map_cons, List.map_nil]); first | done | rfl | (simp only [List.length_drop, List.length_take]; rfl)) ?_; (with_reducible refine (spec_DrawPowerNumber.calls _ _ l0 t546 t547 _ ?side1 ?side2 A37.out).mono ?_); (case side1 => repeat (first | exact (Kd.C_below HR0.out HB.out) | (with_reducible refine Kd.C_alloc ?_ _) | (with_reducible refine Kd.C_drewN ?_ _) | (with_reducible refine Kd.C_drew ?_))); (case side2 => exact HC0.out); rintro e w41 ⟨rfl, hb⟩; refine ⟨_, rfl, ?_⟩; have n0_ := Aside0.mk (below_step (by repeat (first | (with_reducible first | exact HB.out | apply below_alloc | apply pw_below_drewN | apply below_drew1) | exact HB.out)) hb); clear HB; have HB := n0_; clear n0_; (try clear hb); (try clear hb2); (try clear hk); (try clear hi)) | ((with_reducible refine gate_callee (f := 17) rfl ?_); refine goesL_ (some 150) rfl rfl Try.func17 (by kernel_rfl) rfl #[.int .i64 t546, .int .i64 t547] rfl (by (try simp only [List.map_toArray, List.map_cons, List.map_nil]); first | done | rfl | (simp only [List.length_drop, List.length_take]; rfl)) ?_; (with_reducible refine (impl_PowerNumber.calls kj29 t546 t547 t548 t549 _ A38.out).mono ?_); rintro e w42 ⟨rfl, hb⟩; refine ⟨_, rfl, ?_⟩; have n0_ := Aside0.mk (below_step (by repeat (first | (with_reducible first | exact HB.out | apply below_alloc | apply pw_below_drewN | apply below_drew1) | exact HB.out)) hb); clear HB; have HB := n0_; clear n0_; (try clear hb); (try clear hb2); (try clear hk); (try clear hi)) | ((with_reducible refine gate_callee (f := 18) rfl ?_); refine goesL_ (some 156) rfl rfl Try.func18 (by kernel_rfl) rfl #[.int .i64 t546, .int .i64 t547] rfl (by (try simp only [List.map_toArray, List.map_cons, List.map_nil]); first | done | rfl | (simp only [List.length_drop, List.length_take]; rfl)) ?_; (with_reducible refine (spec_PowerNumber.calls kj29 t546 t547 t550 t551 _ A39.out).mono ?_); rintro e w43 ⟨rfl, hb⟩; refine ⟨_, rfl, ?_⟩; have n0_ := Aside0.mk (below_step (by repeat (first | (with_reducible first | exact HB.out | apply below_alloc | apply pw_below_drewN | apply below_drew1) | exact HB.out)) hb); clear HB; have HB := n0_; clear n0_; (try clear hb); (try clear hb2); (try clear hk); (try clear hi)))
               (try simp only [Act.put, List.setIfInBounds_toArray, List.set_cons_zero, List.set_cons_succ])
               go_cut [166] (fun v166 wc => ∃ (kq : Nat) (x166_39 : Bool), v166 = .bool x166_39 ∧ Aside0 (laws_FnCurves.j4 kq l0 t522 t523 t524 t525 t528 t529 t537 t542 t543 t546 t547 t548 t549 x166_39 = some r) ∧ Aside0 (kq ≤ kj29) ∧ Aside0 (Below w.heap.size w wc))
               case first =>
                as_aux_lemma =>
                have H := HC40.out
                clear HC40
                by_cases c44 : t549 = t551
                · rw [if_pos c44] at H
                  have c44b0 : (t549 == t551) = true := beq_iff_eq.mpr c44
                  have c44b1 : (t549 != t551) = false := bne_eq_false_iff_eq.mpr c44
                  clear c44
                  (first | rw [c44b0] | (simp only [i64_w, i32_w]; rw [c44b0]) | rw [c44b2] | simp only [c44b2] | skip)
                  have H' := Aside0.mk H
                  clear H
                  go_wp2
                  go_meet
                  case rel => exact ⟨_, ((t548 != t550)), (by first | rfl | (simp; done) | (simp [*]; done)), H', ⟨by have := HJ6.out; have := HJ14.out; have := HJ22.out; have := HJ29.out; first | omega | exact Nat.le_refl _⟩, ⟨by repeat (first | (with_reducible first | exact HB.out | apply below_alloc | apply pw_below_drewN | apply below_drew1) | exact HB.out)⟩⟩
                · rw [if_neg c44] at H
                  have c44b0 : (t549 == t551) = false := beq_eq_false_iff_ne.mpr c44
                  have c44b1 : (t549 != t551) = true := bne_iff_ne.mpr c44
                  (first | rw [c44b0] | (simp only [i64_w, i32_w]; rw [c44b0]) | rw [c44b2] | simp only [c44b2] | skip)
                  have H' := Aside0.mk H
                  clear H
                  go_wp2
                  go_meet
                  case rel => exact ⟨_, (true), (by first | rfl | (simp; done) | (simp [*]; done)), H', ⟨by have := HJ6.out; have := HJ14.out; have := HJ22.out; have := HJ29.out; first | omega | exact Nat.le_refl _⟩, ⟨by repeat (first | (with_reducible first | exact HB.out | apply below_alloc | apply pw_below_drewN | apply below_drew1) | exact HB.out)⟩⟩
               case rest =>
               as_aux_lemma =>
               clear HC40
               try clear c1
               try clear c2
               try clear p2
               try clear c3
               try clear c4
               try clear c5
               try clear c6
               try clear c7
               try clear c8
               try clear c9
               try clear c10
               try clear c11
               try clear c11b0
               try clear c11b1
               try clear c11b2
               try clear c12
               try clear c13
               try clear c14
               try clear c15
               try clear c16
               try clear c17
               try clear c18
               try clear c18b0
               try clear c18b1
               try clear c18b2
               try clear c19
               try clear c25
               try clear c25b0
               try clear c25b1
               try clear c25b2
               try clear c26
               try clear c35
               try clear c35b0
               try clear c35b1
               try clear c35b2
               try clear c36
               try clear c44
               try clear c44b0
               try clear c44b1
               try clear c44b2
               try clear p2
               obtain ⟨kq, x166_39, rfl, HA, HJ39, HB⟩ := hcut
               cases kq with
               | zero => exact absurd HA.out (by simp [laws_FnCurves.j4])
               | succ kj39 =>
                have H := HA.out
                clear HA
                simp only [laws_FnCurves.j4] at H
                by_cases c45 : x166_39 = true
                · subst c45
                  have H1 : (some false) = some r := by rw [if_pos rfl] at H; exact H
                  clear H
                  have H := H1
                  clear H1
                  obtain rfl := Option.some.inj H
                  go_wp2
                  go_ret
                  exact ⟨by first | rfl | (simp [errW_none, errW_some] <;> rfl) | (simp [*, errW_none, errW_some] <;> rfl), by repeat (first | (with_reducible first | exact HB.out | apply below_alloc | apply pw_below_drewN | apply below_drew1) | exact HB.out)⟩
                · replace c45 := Bool.eq_false_iff.mpr c45
                  subst c45
                  have H1 : ((spec_DrawLeastNoPower.f l0).bind fun bt552 => ((impl_LeastNoPower.f kj39 bt552.1 bt552.2).bind fun bt554 => ((spec_LeastNoPower.f kj39 bt552.1 bt552.2).bind fun bt556 => (if bt554.2 = bt556.2 then (laws_FnCurves.j5 kj39 t522 t523 t524 t525 t528 t529 t537 t542 t543 t546 t547 t548 t549 bt552.1 bt552.2 bt554.1 bt554.2 (bt554.1 != bt556.1)) else (laws_FnCurves.j5 kj39 t522 t523 t524 t525 t528 t529 t537 t542 t543 t546 t547 t548 t549 bt552.1 bt552.2 bt554.1 bt554.2 true))))) = some r := by rw [if_neg (show ¬ (false = true) by decide)] at H; exact H
                  clear H
                  have H := H1
                  clear H1
                  replace H := Option.bind_eq_some_iff.mp H
                  obtain ⟨⟨t552, t553⟩, A460, H⟩ := H
                  replace H : ((impl_LeastNoPower.f kj39 t552 t553).bind fun bt554 => ((spec_LeastNoPower.f kj39 t552 t553).bind fun bt556 => (if bt554.2 = bt556.2 then (laws_FnCurves.j5 kj39 t522 t523 t524 t525 t528 t529 t537 t542 t543 t546 t547 t548 t549 t552 t553 bt554.1 bt554.2 (bt554.1 != bt556.1)) else (laws_FnCurves.j5 kj39 t522 t523 t524 t525 t528 t529 t537 t542 t543 t546 t547 t548 t549 t552 t553 bt554.1 bt554.2 true)))) = some r := H
                  have A46 := Aside0.mk A460
                  clear A460
                  replace H := Option.bind_eq_some_iff.mp H
                  obtain ⟨⟨t554, t555⟩, A470, H⟩ := H
                  replace H : ((spec_LeastNoPower.f kj39 t552 t553).bind fun bt556 => (if t555 = bt556.2 then (laws_FnCurves.j5 kj39 t522 t523 t524 t525 t528 t529 t537 t542 t543 t546 t547 t548 t549 t552 t553 t554 t555 (t554 != bt556.1)) else (laws_FnCurves.j5 kj39 t522 t523 t524 t525 t528 t529 t537 t542 t543 t546 t547 t548 t549 t552 t553 t554 t555 true))) = some r := H
                  have A47 := Aside0.mk A470
                  clear A470
                  replace H := Option.bind_eq_some_iff.mp H
                  obtain ⟨⟨t556, t557⟩, A480, H⟩ := H
                  replace H : (if t555 = t557 then (laws_FnCurves.j5 kj39 t522 t523 t524 t525 t528 t529 t537 t542 t543 t546 t547 t548 t549 t552 t553 t554 t555 (t554 != t556)) else (laws_FnCurves.j5 kj39 t522 t523 t524 t525 t528 t529 t537 t542 t543 t546 t547 t548 t549 t552 t553 t554 t555 true)) = some r := H
                  have A48 := Aside0.mk A480
                  clear A480
                  have HC49 := Aside0.mk H
                  clear H
                  go_upto_region 30 with (first | ((with_reducible refine gate_callee (f := 19) rfl ?_); refine goesL_ (some 169) rfl rfl Try.func19 (by kernel_rfl) rfl #[.slice A0 l0.length c0] rfl (by (try simp only [List.map_toArray, List.map_cons, List.map_nil]); first | done | rfl | (simp only [List.length_drop, List.length_take]; rfl)) ?_; (with_reducible refine (spec_DrawLeastNoPower.calls _ _ l0 t552 t553 _ ?side1 ?side2 A46.out).mono ?_); (case side1 => repeat (first | exact (Kd.C_below HR0.out HB.out) | (with_reducible refine Kd.C_alloc ?_ _) | (with_reducible refine Kd.C_drewN ?_ _) | (with_reducible refine Kd.C_drew ?_))); (case side2 => exact HC0.out); rintro e w50 ⟨rfl, hb⟩; refine ⟨_, rfl, ?_⟩; have n0_ := Aside0.mk (below_step (by repeat (first | (with_reducible first | exact HB.out | apply below_alloc | apply pw_below_drewN | apply below_drew1) | exact HB.out)) hb); clear HB; have HB := n0_; clear n0_; (try clear hb); (try clear hb2); (try clear hk); (try clear hi)) | ((with_reducible refine gate_callee (f := 20) rfl ?_); refine goesL_ (some 175) rfl rfl Try.func20 (by kernel_rfl) rfl #[.int .i64 t552, .int .i64 t553] rfl (by (try simp only [List.map_toArray, List.map_cons, List.map_nil]); first | done | rfl | (simp only [List.length_drop, List.length_take]; rfl)) ?_; (with_reducible refine (impl_LeastNoPower.calls kj39 t552 t553 t554 t555 _ A47.out).mono ?_); rintro e w51 ⟨rfl, hb⟩; refine ⟨_, rfl, ?_⟩; have n0_ := Aside0.mk (below_step (by repeat (first | (with_reducible first | exact HB.out | apply below_alloc | apply pw_below_drewN | apply below_drew1) | exact HB.out)) hb); clear HB; have HB := n0_; clear n0_; (try clear hb); (try clear hb2); (try clear hk); (try clear hi)) | ((with_reducible refine gate_callee (f := 21) rfl ?_); refine goesL_ (some 181) rfl rfl Try.func21 (by kernel_rfl) rfl #[.int .i64 t552, .int .i64 t553] rfl (by (try simp only [List.map_toArray, List.map_cons, List.map_nil]); first | done | rfl | (simp only [List.length_drop, List.length_take]; rfl)) ?_; (with_reducible refine (spec_LeastNoPower.calls kj39 t552 t553 t556 t557 _ A48.out).mono ?_); rintro e w52 ⟨rfl, hb⟩; refine ⟨_, rfl, ?_⟩; have n0_ := Aside0.mk (below_step (by repeat (first | (with_reducible first | exact HB.out | apply below_alloc | apply pw_below_drewN | apply below_drew1) | exact HB.out)) hb); clear HB; have HB := n0_; clear n0_; (try clear hb); (try clear hb2); (try clear hk); (try clear hi)))
                  (try simp only [Act.put, List.setIfInBounds_toArray, List.set_cons_zero, List.set_cons_succ])
                  go_cut [191] (fun v191 wc => ∃ (kq : Nat) (x191_48 : Bool), v191 = .bool x191_48 ∧ Aside0 (laws_FnCurves.j5 kq t522 t523 t524 t525 t528 t529 t537 t542 t543 t546 t547 t548 t549 t552 t553 t554 t555 x191_48 = some r) ∧ Aside0 (kq ≤ kj39) ∧ Aside0 (Below w.heap.size w wc))
                  case first =>
                   as_aux_lemma =>
                   have H := HC49.out
                   clear HC49
                   by_cases c53 : t555 = t557
                   · rw [if_pos c53] at H
                     have c53b0 : (t555 == t557) = true := beq_iff_eq.mpr c53
                     have c53b1 : (t555 != t557) = false := bne_eq_false_iff_eq.mpr c53
                     clear c53
                     (first | rw [c53b0] | (simp only [i64_w, i32_w]; rw [c53b0]) | rw [c53b2] | simp only [c53b2] | skip)
                     have H' := Aside0.mk H
                     clear H
                     go_wp2
                     go_meet
                     case rel => exact ⟨_, ((t554 != t556)), (by first | rfl | (simp; done) | (simp [*]; done)), H', ⟨by have := HJ6.out; have := HJ14.out; have := HJ22.out; have := HJ29.out; have := HJ39.out; first | omega | exact Nat.le_refl _⟩, ⟨by repeat (first | (with_reducible first | exact HB.out | apply below_alloc | apply pw_below_drewN | apply below_drew1) | exact HB.out)⟩⟩
                   · rw [if_neg c53] at H
                     have c53b0 : (t555 == t557) = false := beq_eq_false_iff_ne.mpr c53
                     have c53b1 : (t555 != t557) = true := bne_iff_ne.mpr c53
                     (first | rw [c53b0] | (simp only [i64_w, i32_w]; rw [c53b0]) | rw [c53b2] | simp only [c53b2] | skip)
                     have H' := Aside0.mk H
                     clear H
                     go_wp2
                     go_meet
                     case rel => exact ⟨_, (true), (by first | rfl | (simp; done) | (simp [*]; done)), H', ⟨by have := HJ6.out; have := HJ14.out; have := HJ22.out; have := HJ29.out; have := HJ39.out; first | omega | exact Nat.le_refl _⟩, ⟨by repeat (first | (with_reducible first | exact HB.out | apply below_alloc | apply pw_below_drewN | apply below_drew1) | exact HB.out)⟩⟩
                  case rest =>
                  as_aux_lemma =>
                  clear HC49
                  try clear c1
                  try clear c2
                  try clear p2
                  try clear c3
                  try clear c4
                  try clear c5
                  try clear c6
                  try clear c7
                  try clear c8
                  try clear c9
                  try clear c10
                  try clear c11
                  try clear c11b0
                  try clear c11b1
                  try clear c11b2
                  try clear c12
                  try clear c13
                  try clear c14
                  try clear c15
                  try clear c16
                  try clear c17
                  try clear c18
                  try clear c18b0
                  try clear c18b1
                  try clear c18b2
                  try clear c19
                  try clear c20
                  try clear c21
                  try clear c25
                  try clear c25b0
                  try clear c25b1
                  try clear c25b2
                  try clear c26
                  try clear c35
                  try clear c35b0
                  try clear c35b1
                  try clear c35b2
                  try clear c36
                  try clear c44
                  try clear c44b0
                  try clear c44b1
                  try clear c44b2
                  try clear c45
                  try clear c53
                  try clear c53b0
                  try clear c53b1
                  try clear c53b2
                  try clear p2
                  obtain ⟨kq, x191_48, rfl, HA, HJ48, HB⟩ := hcut
                  cases kq with
                  | zero => exact absurd HA.out (by simp [laws_FnCurves.j5])
                  | succ kj48 =>
                   have H := HA.out
                   clear HA
                   simp only [laws_FnCurves.j5] at H
                   by_cases c54 : x191_48 = true
                   · subst c54
                     have H1 : (some false) = some r := by rw [if_pos rfl] at H; exact H
                     clear H
                     have H := H1
                     clear H1
                     obtain rfl := Option.some.inj H
                     go_wp2
                     go_ret
                     exact ⟨by first | rfl | (simp [errW_none, errW_some] <;> rfl) | (simp [*, errW_none, errW_some] <;> rfl), by repeat (first | (with_reducible first | exact HB.out | apply below_alloc | apply pw_below_drewN | apply below_drew1) | exact HB.out)⟩
                   · replace c54 := Bool.eq_false_iff.mpr c54
                     subst c54
                     have H1 : (if t555 = 0 then ((impl_PowersOf.f kj48 t552 t553).bind fun bt558 => (if bt558.2 = 0 then (if t554 = 0 then (if (bt558.1.length : Int) = t552 then (laws_FnCurves.j6 kj48 t522 t523 t524 t525 t528 t529 t537 t542 t543 t546 t547 t548 t549) else (some false)) else ((laws_hasInt.f kj48 bt558.1 t554).bind fun t562 => (if t562 = true then (some false) else (laws_FnCurves.j6 kj48 t522 t523 t524 t525 t528 t529 t537 t542 t543 t546 t547 t548 t549)))) else (some false))) else (laws_FnCurves.j6 kj48 t522 t523 t524 t525 t528 t529 t537 t542 t543 t546 t547 t548 t549)) = some r := by rw [if_neg (show ¬ (false = true) by decide)] at H; exact H
                     clear H
                     have H := H1
                     clear H1
                     have HC55 := Aside0.mk H
                     clear H
                     go_upto_if 193 with (fail)
                     go_cut [] (fun wc => ∃ (kq : Nat), Aside0 (laws_FnCurves.j6 kq t522 t523 t524 t525 t528 t529 t537 t542 t543 t546 t547 t548 t549 = some r) ∧ Aside0 (kq ≤ kj48) ∧ Aside0 (Below w.heap.size w wc))
                     case first =>
                      as_aux_lemma =>
                      have H := HC55.out
                      clear HC55
                      by_cases c56 : t555 = 0
                      · rw [if_pos c56] at H
                        have c56b0 : (t555 == 0) = true := beq_iff_eq.mpr c56
                        have c56b1 : (t555 != 0) = false := bne_eq_false_iff_eq.mpr c56
                        clear c56
                        (first | rw [c56b0] | (simp only [i64_w, i32_w]; rw [c56b0]) | rw [c56b2] | simp only [c56b2] | skip)
                        replace H := Option.bind_eq_some_iff.mp H
                        obtain ⟨⟨t558, t559⟩, A570, H⟩ := H
                        replace H : (if t559 = 0 then (if t554 = 0 then (if (t558.length : Int) = t552 then (laws_FnCurves.j6 kj48 t522 t523 t524 t525 t528 t529 t537 t542 t543 t546 t547 t548 t549) else (some false)) else ((laws_hasInt.f kj48 t558 t554).bind fun t562 => (if t562 = true then (some false) else (laws_FnCurves.j6 kj48 t522 t523 t524 t525 t528 t529 t537 t542 t543 t546 t547 t548 t549)))) else (some false)) = some r := H
                        have A57 := Aside0.mk A570
                        clear A570
                        by_cases c58 : t559 = 0
                        · rw [if_pos c58] at H
                          have c58b0 : (t559 == 0) = true := beq_iff_eq.mpr c58
                          have c58b1 : (t559 != 0) = false := bne_eq_false_iff_eq.mpr c58
                          clear c58
                          by_cases c59 : t554 = 0
                          · rw [if_pos c59] at H
                            have c59b0 : (t554 == 0) = true := beq_iff_eq.mpr c59
                            have c59b1 : (t554 != 0) = false := bne_eq_false_iff_eq.mpr c59
                            clear c59
                            by_cases c60 : (t558.length : Int) = t552
                            · rw [if_pos c60] at H
                              have c60b0 : ((t558.length : Int) == t552) = true := beq_iff_eq.mpr c60
                              have c60b1 : ((t558.length : Int) != t552) = false := bne_eq_false_iff_eq.mpr c60
                              clear c60
                              have H' := Aside0.mk H
                              clear H
                              go_wp2_with (first | ((with_reducible refine gate_callee (f := 22) rfl ?_); refine goesL_ (some 197) rfl rfl Try.func22 (by kernel_rfl) rfl #[.int .i64 t552, .int .i64 t553] rfl (by (try simp only [List.map_toArray, List.map_cons, List.map_nil]); first | done | rfl | (simp only [List.length_drop, List.length_take]; rfl)) ?_; (with_reducible refine (impl_PowersOf.calls kj48 t552 t553 t558 t559 _ A57.out).mono ?_); rintro e w61 ⟨v560, rfl, ho0, hb⟩; refine ⟨_, rfl, ?_⟩; have n0_ := Aside0.mk (Kd.R_lower ho0 (below_size (by repeat (first | (with_reducible first | exact HB.out | apply below_alloc | apply pw_below_drewN | apply below_drew1) | exact HB.out)))); have n1_ := Aside0.mk (below_step (by repeat (first | (with_reducible first | exact HB.out | apply below_alloc | apply pw_below_drewN | apply below_drew1) | exact HB.out)) hb); clear HB; have HO561 := n0_; have HB := n1_; clear n0_ n1_; (try clear hb); (try clear hb2); (try clear hk); (try clear hi); (try clear ho0); obtain ⟨Ao62, co62, eo62⟩ := Kd.R_slice HO561.out; subst eo62))
                              go_meet
                              case rel => exact ⟨_, H', ⟨by have := HJ6.out; have := HJ14.out; have := HJ22.out; have := HJ29.out; have := HJ39.out; have := HJ48.out; first | omega | exact Nat.le_refl _⟩, ⟨by repeat (first | (with_reducible first | exact HB.out | apply below_alloc | apply pw_below_drewN | apply below_drew1) | exact HB.out)⟩⟩
                            · rw [if_neg c60] at H
                              have c60b0 : ((t558.length : Int) == t552) = false := beq_eq_false_iff_ne.mpr c60
                              have c60b1 : ((t558.length : Int) != t552) = true := bne_iff_ne.mpr c60
                              obtain rfl := Option.some.inj H
                              go_wp2_with (first | ((with_reducible refine gate_callee (f := 22) rfl ?_); refine goesL_ (some 197) rfl rfl Try.func22 (by kernel_rfl) rfl #[.int .i64 t552, .int .i64 t553] rfl (by (try simp only [List.map_toArray, List.map_cons, List.map_nil]); first | done | rfl | (simp only [List.length_drop, List.length_take]; rfl)) ?_; (with_reducible refine (impl_PowersOf.calls kj48 t552 t553 t558 t559 _ A57.out).mono ?_); rintro e w63 ⟨v560, rfl, ho0, hb⟩; refine ⟨_, rfl, ?_⟩; have n0_ := Aside0.mk (Kd.R_lower ho0 (below_size (by repeat (first | (with_reducible first | exact HB.out | apply below_alloc | apply pw_below_drewN | apply below_drew1) | exact HB.out)))); have n1_ := Aside0.mk (below_step (by repeat (first | (with_reducible first | exact HB.out | apply below_alloc | apply pw_below_drewN | apply below_drew1) | exact HB.out)) hb); clear HB; have HO561 := n0_; have HB := n1_; clear n0_ n1_; (try clear hb); (try clear hb2); (try clear hk); (try clear hi); (try clear ho0); obtain ⟨Ao64, co64, eo64⟩ := Kd.R_slice HO561.out; subst eo64))
                              go_ret
                              exact ⟨by first | rfl | (simp [errW_none, errW_some] <;> rfl) | (simp [*, errW_none, errW_some] <;> rfl), by repeat (first | (with_reducible first | exact HB.out | apply below_alloc | apply pw_below_drewN | apply below_drew1) | exact HB.out)⟩
                          · rw [if_neg c59] at H
                            have c59b0 : (t554 == 0) = false := beq_eq_false_iff_ne.mpr c59
                            have c59b1 : (t554 != 0) = true := bne_iff_ne.mpr c59
                            replace H := Option.bind_eq_some_iff.mp H
                            obtain ⟨t562, A650, H⟩ := H
                            replace H : (if t562 = true then (some false) else (laws_FnCurves.j6 kj48 t522 t523 t524 t525 t528 t529 t537 t542 t543 t546 t547 t548 t549)) = some r := H
                            have A65 := Aside0.mk A650
                            clear A650
                            by_cases c66 : t562 = true
                            · subst c66
                              have H1 : (some false) = some r := by rw [if_pos rfl] at H; exact H
                              clear H
                              have H := H1
                              clear H1
                              obtain rfl := Option.some.inj H
                              go_wp2_with (first | ((with_reducible refine gate_callee (f := 22) rfl ?_); refine goesL_ (some 197) rfl rfl Try.func22 (by kernel_rfl) rfl #[.int .i64 t552, .int .i64 t553] rfl (by (try simp only [List.map_toArray, List.map_cons, List.map_nil]); first | done | rfl | (simp only [List.length_drop, List.length_take]; rfl)) ?_; (with_reducible refine (impl_PowersOf.calls kj48 t552 t553 t558 t559 _ A57.out).mono ?_); rintro e w67 ⟨v560, rfl, ho0, hb⟩; refine ⟨_, rfl, ?_⟩; have n0_ := Aside0.mk (Kd.R_lower ho0 (below_size (by repeat (first | (with_reducible first | exact HB.out | apply below_alloc | apply pw_below_drewN | apply below_drew1) | exact HB.out)))); have n1_ := Aside0.mk (below_step (by repeat (first | (with_reducible first | exact HB.out | apply below_alloc | apply pw_below_drewN | apply below_drew1) | exact HB.out)) hb); clear HB; have HO561 := n0_; have HB := n1_; clear n0_ n1_; (try clear hb); (try clear hb2); (try clear hk); (try clear hi); (try clear ho0); obtain ⟨Ao68, co68, eo68⟩ := Kd.R_slice HO561.out; subst eo68) | (go_at_call 23; (with_reducible refine (laws_hasInt.calls kj48 _ _ t558 t554 true _ ?side1 ?side2 A65.out).mono ?_); (case side1 => repeat (first | exact (Kd.R_reads' HO561.out).2.2 | (with_reducible refine Kd.C_alloc ?_ _) | (with_reducible refine Kd.C_drewN ?_ _) | (with_reducible refine Kd.C_drew ?_))); (case side2 => exact (Kd.R_reads' HO561.out).2.1); rintro e w' ⟨rfl, ⟨nd, rfl⟩⟩))
                              go_ret
                              exact ⟨by first | rfl | (simp [errW_none, errW_some] <;> rfl) | (simp [*, errW_none, errW_some] <;> rfl), by repeat (first | (with_reducible first | exact HB.out | apply below_alloc | apply pw_below_drewN | apply below_drew1) | exact HB.out)⟩
                            · replace c66 := Bool.eq_false_iff.mpr c66
                              subst c66
                              have H1 : (laws_FnCurves.j6 kj48 t522 t523 t524 t525 t528 t529 t537 t542 t543 t546 t547 t548 t549) = some r := by rw [if_neg (show ¬ (false = true) by decide)] at H; exact H
                              clear H
                              have H := H1
                              clear H1
                              have H' := Aside0.mk H
                              clear H
                              go_wp2_with (first | ((with_reducible refine gate_callee (f := 22) rfl ?_); refine goesL_ (some 197) rfl rfl Try.func22 (by kernel_rfl) rfl #[.int .i64 t552, .int .i64 t553] rfl (by (try simp only [List.map_toArray, List.map_cons, List.map_nil]); first | done | rfl | (simp only [List.length_drop, List.length_take]; rfl)) ?_; (with_reducible refine (impl_PowersOf.calls kj48 t552 t553 t558 t559 _ A57.out).mono ?_); rintro e w69 ⟨v560, rfl, ho0, hb⟩; refine ⟨_, rfl, ?_⟩; have n0_ := Aside0.mk (Kd.R_lower ho0 (below_size (by repeat (first | (with_reducible first | exact HB.out | apply below_alloc | apply pw_below_drewN | apply below_drew1) | exact HB.out)))); have n1_ := Aside0.mk (below_step (by repeat (first | (with_reducible first | exact HB.out | apply below_alloc | apply pw_below_drewN | apply below_drew1) | exact HB.out)) hb); clear HB; have HO561 := n0_; have HB := n1_; clear n0_ n1_; (try clear hb); (try clear hb2); (try clear hk); (try clear hi); (try clear ho0); obtain ⟨Ao70, co70, eo70⟩ := Kd.R_slice HO561.out; subst eo70) | (go_at_call 23; (with_reducible refine (laws_hasInt.calls kj48 _ _ t558 t554 false _ ?side1 ?side2 A65.out).mono ?_); (case side1 => repeat (first | exact (Kd.R_reads' HO561.out).2.2 | (with_reducible refine Kd.C_alloc ?_ _) | (with_reducible refine Kd.C_drewN ?_ _) | (with_reducible refine Kd.C_drew ?_))); (case side2 => exact (Kd.R_reads' HO561.out).2.1); rintro e w' ⟨rfl, ⟨nd, rfl⟩⟩))
                              go_meet
                              case rel => exact ⟨_, H', ⟨by have := HJ6.out; have := HJ14.out; have := HJ22.out; have := HJ29.out; have := HJ39.out; have := HJ48.out; first | omega | exact Nat.le_refl _⟩, ⟨by repeat (first | (with_reducible first | exact HB.out | apply below_alloc | apply pw_below_drewN | apply below_drew1) | exact HB.out)⟩⟩
                        · rw [if_neg c58] at H
                          have c58b0 : (t559 == 0) = false := beq_eq_false_iff_ne.mpr c58
                          have c58b1 : (t559 != 0) = true := bne_iff_ne.mpr c58
                          obtain rfl := Option.some.inj H
                          go_wp2_with (first | ((with_reducible refine gate_callee (f := 22) rfl ?_); refine goesL_ (some 197) rfl rfl Try.func22 (by kernel_rfl) rfl #[.int .i64 t552, .int .i64 t553] rfl (by (try simp only [List.map_toArray, List.map_cons, List.map_nil]); first | done | rfl | (simp only [List.length_drop, List.length_take]; rfl)) ?_; (with_reducible refine (impl_PowersOf.calls kj48 t552 t553 t558 t559 _ A57.out).mono ?_); rintro e w71 ⟨v560, rfl, ho0, hb⟩; refine ⟨_, rfl, ?_⟩; have n0_ := Aside0.mk (Kd.R_lower ho0 (below_size (by repeat (first | (with_reducible first | exact HB.out | apply below_alloc | apply pw_below_drewN | apply below_drew1) | exact HB.out)))); have n1_ := Aside0.mk (below_step (by repeat (first | (with_reducible first | exact HB.out | apply below_alloc | apply pw_below_drewN | apply below_drew1) | exact HB.out)) hb); clear HB; have HO561 := n0_; have HB := n1_; clear n0_ n1_; (try clear hb); (try clear hb2); (try clear hk); (try clear hi); (try clear ho0)))
                          go_ret
                          exact ⟨by first | rfl | (simp [errW_none, errW_some] <;> rfl) | (simp [*, errW_none, errW_some] <;> rfl), by repeat (first | (with_reducible first | exact HB.out | apply below_alloc | apply pw_below_drewN | apply below_drew1) | exact HB.out)⟩
                      · rw [if_neg c56] at H
                        have c56b0 : (t555 == 0) = false := beq_eq_false_iff_ne.mpr c56
                        have c56b1 : (t555 != 0) = true := bne_iff_ne.mpr c56
                        (first | rw [c56b0] | (simp only [i64_w, i32_w]; rw [c56b0]) | rw [c56b2] | simp only [c56b2] | skip)
                        have H' := Aside0.mk H
                        clear H
                        go_wp2
                        go_meet
                        case rel => exact ⟨_, H', ⟨by have := HJ6.out; have := HJ14.out; have := HJ22.out; have := HJ29.out; have := HJ39.out; have := HJ48.out; first | omega | exact Nat.le_refl _⟩, ⟨by repeat (first | (with_reducible first | exact HB.out | apply below_alloc | apply pw_below_drewN | apply below_drew1) | exact HB.out)⟩⟩
                     case rest =>
                     as_aux_lemma =>
                     clear HC55
                     try clear c1
                     try clear c2
                     try clear p2
                     try clear c3
                     try clear c4
                     try clear c5
                     try clear c6
                     try clear c7
                     try clear c8
                     try clear c9
                     try clear c10
                     try clear c11
                     try clear c11b0
                     try clear c11b1
                     try clear c11b2
                     try clear c12
                     try clear c13
                     try clear c14
                     try clear c15
                     try clear c16
                     try clear c17
                     try clear c18
                     try clear c18b0
                     try clear c18b1
                     try clear c18b2
                     try clear c19
                     try clear c20
                     try clear c21
                     try clear c22
                     try clear c25
                     try clear c25b0
                     try clear c25b1
                     try clear c25b2
                     try clear c26
                     try clear c35
                     try clear c35b0
                     try clear c35b1
                     try clear c35b2
                     try clear c36
                     try clear c44
                     try clear c44b0
                     try clear c44b1
                     try clear c44b2
                     try clear c45
                     try clear c53
                     try clear c53b0
                     try clear c53b1
                     try clear c53b2
                     try clear c54
                     try clear c56
                     try clear c56b0
                     try clear c56b1
                     try clear c56b2
                     try clear c58
                     try clear c58b0
                     try clear c58b1
                     try clear c59
                     try clear c59b0
                     try clear c59b1
                     try clear c60
                     try clear c60b0
                     try clear c60b1
                     try clear c66
                     try clear p2
                     obtain ⟨kq, HA, HJ54, HB⟩ := hcut
                     cases kq with
                     | zero => exact absurd HA.out (by simp [laws_FnCurves.j6])
                     | succ kj54 =>
                      have H := HA.out
                      clear HA
                      simp only [laws_FnCurves.j6] at H
                      have HC72 := Aside0.mk H
                      clear H
                      go_upto_region 36 with (fail)
                      go_cut [226] (fun v226 wc => ∃ (kq : Nat) (x226_71 : Bool), v226 = .bool x226_71 ∧ Aside0 (laws_FnCurves.j7 kq t522 t523 t524 t525 t528 t529 t537 t542 t543 t546 t547 t548 x226_71 = some r) ∧ Aside0 (kq ≤ kj54) ∧ Aside0 (Below w.heap.size w wc))
                      case first =>
                       as_aux_lemma =>
                       have H := HC72.out
                       clear HC72
                       by_cases c73 : t549 = 0
                       · rw [if_pos c73] at H
                         have c73b0 : (t549 == 0) = true := beq_iff_eq.mpr c73
                         have c73b1 : (t549 != 0) = false := bne_eq_false_iff_eq.mpr c73
                         clear c73
                         (first | rw [c73b0] | (simp only [i64_w, i32_w]; rw [c73b0]) | rw [c73b2] | simp only [c73b2] | skip)
                         have H' := Aside0.mk H
                         clear H
                         go_wp2
                         go_meet
                         case rel => exact ⟨_, (decide (t548 ≤ 4)), (by first | rfl | (simp; done) | (simp [*]; done)), H', ⟨by have := HJ6.out; have := HJ14.out; have := HJ22.out; have := HJ29.out; have := HJ39.out; have := HJ48.out; have := HJ54.out; first | omega | exact Nat.le_refl _⟩, ⟨by repeat (first | (with_reducible first | exact HB.out | apply below_alloc | apply pw_below_drewN | apply below_drew1) | exact HB.out)⟩⟩
                       · rw [if_neg c73] at H
                         have c73b0 : (t549 == 0) = false := beq_eq_false_iff_ne.mpr c73
                         have c73b1 : (t549 != 0) = true := bne_iff_ne.mpr c73
                         (first | rw [c73b0] | (simp only [i64_w, i32_w]; rw [c73b0]) | rw [c73b2] | simp only [c73b2] | skip)
                         have H' := Aside0.mk H
                         clear H
                         go_wp2
                         go_meet
                         case rel => exact ⟨_, (false), (by first | rfl | (simp; done) | (simp [*]; done)), H', ⟨by have := HJ6.out; have := HJ14.out; have := HJ22.out; have := HJ29.out; have := HJ39.out; have := HJ48.out; have := HJ54.out; first | omega | exact Nat.le_refl _⟩, ⟨by repeat (first | (with_reducible first | exact HB.out | apply below_alloc | apply pw_below_drewN | apply below_drew1) | exact HB.out)⟩⟩
                      case rest =>
                      as_aux_lemma =>
                      clear HC72
                      try clear c1
                      try clear c2
                      try clear p2
                      try clear c3
                      try clear c4
                      try clear c5
                      try clear c6
                      try clear c7
                      try clear c8
                      try clear c9
                      try clear c10
                      try clear c11
                      try clear c11b0
                      try clear c11b1
                      try clear c11b2
                      try clear c12
                      try clear c13
                      try clear c14
                      try clear c15
                      try clear c16
                      try clear c17
                      try clear c18
                      try clear c18b0
                      try clear c18b1
                      try clear c18b2
                      try clear c19
                      try clear c20
                      try clear c21
                      try clear c22
                      try clear c25
                      try clear c25b0
                      try clear c25b1
                      try clear c25b2
                      try clear c26
                      try clear c35
                      try clear c35b0
                      try clear c35b1
                      try clear c35b2
                      try clear c36
                      try clear c44
                      try clear c44b0
                      try clear c44b1
                      try clear c44b2
                      try clear c45
                      try clear c53
                      try clear c53b0
                      try clear c53b1
                      try clear c53b2
                      try clear c54
                      try clear c56
                      try clear c56b0
                      try clear c56b1
                      try clear c56b2
                      try clear c58
                      try clear c58b0
                      try clear c58b1
                      try clear c59
                      try clear c59b0
                      try clear c59b1
                      try clear c60
                      try clear c60b0
                      try clear c60b1
                      try clear c66
                      try clear c73
                      try clear c73b0
                      try clear c73b1
                      try clear c73b2
                      try clear p2
                      obtain ⟨kq, x226_71, rfl, HA, HJ71, HB⟩ := hcut
                      cases kq with
                      | zero => exact absurd HA.out (by simp [laws_FnCurves.j7])
                      | succ kj71 =>
                       have H := HA.out
                       clear HA
                       simp only [laws_FnCurves.j7] at H
                       have HC74 := Aside0.mk H
                       clear H
                       go_upto_if 226 with (fail)
                       go_cut [] (fun wc => ∃ (kq : Nat), Aside0 (laws_FnCurves.j10 kq t522 t523 t524 t525 t528 t529 t537 t542 t543 = some r) ∧ Aside0 (kq ≤ kj71) ∧ Aside0 (Below w.heap.size w wc))
                       case first =>
                        as_aux_lemma =>
                        have H := HC74.out
                        clear HC74
                        by_cases c75 : x226_71 = true
                        · subst c75
                          have H1 : (laws_FnCurves.l0 kj71 t522 t523 t524 t525 t528 t529 t537 t542 t543 t546 t547 t548 (([] : List Int)) (([] : List Int)) 0) = some r := by rw [if_pos rfl] at H; exact H
                          clear H
                          have H := H1
                          clear H1
                          obtain ⟨y563, hy563⟩ : ∃ y_ : List Int, y_ = (([] : List Int)) := ⟨_, rfl⟩
                          replace H : (laws_FnCurves.l0 kj71 t522 t523 t524 t525 t528 t529 t537 t542 t543 t546 t547 t548 y563 (([] : List Int)) 0) = some r := by first | (rw [hy563]; with_reducible exact H) | (have H2_ := (Option.bind_some _ _).symm.trans H; rw [hy563]; with_reducible exact H2_) | (have H2_ := (Option.bind_some _ _).symm.trans H; with_reducible exact H2_) | with_reducible exact H | (rw [hy563]; exact H) | exact H
                          have Ny563 := Aside0.mk hy563
                          clear hy563
                          obtain ⟨y566, hy566⟩ : ∃ y_ : List Int, y_ = (([] : List Int)) := ⟨_, rfl⟩
                          replace H : (laws_FnCurves.l0 kj71 t522 t523 t524 t525 t528 t529 t537 t542 t543 t546 t547 t548 y563 y566 0) = some r := by first | (rw [hy566]; with_reducible exact H) | (have H2_ := (Option.bind_some _ _).symm.trans H; rw [hy566]; with_reducible exact H2_) | (have H2_ := (Option.bind_some _ _).symm.trans H; with_reducible exact H2_) | with_reducible exact H | (rw [hy566]; exact H) | exact H
                          have Ny566 := Aside0.mk hy566
                          clear hy566
                          have H' := Aside0.mk H
                          clear H
                          go_wp2_with (first | ((with_reducible refine gate_dst (N := 227) rfl ?_); (try (refine gate_guard (by rfl) ?_; dsimp only)); refine Kd.R_lit (Kd.int .i64) _ 2 ?hg (N := 227) ?hd (xs := ([] : List Int)) (inner := []) (ok := fun _ => True) (okp := fun _ => True) ?hr ?hp (fun _ hk => hk) trivial (Below.refl _ _) (Nat.le_refl _) (by simp) ?_; (case hd => rfl); (case hg => rfl); (case hr => first | (go_simp; done) | (go_simp; rfl)); (case hp => exact (Reps.none _ _)); intro v564 w76 ho77 hb hg_ hnew_; clear hg_ hnew_; (first | rw [← Ny563.out] at ho77 | (simp only [Int.reduceToNat] at ho77; rw [← Ny563.out] at ho77)); have n0_ := Aside0.mk (Kd.R_lower ho77 (below_size (by repeat (first | (with_reducible first | exact HB.out | apply below_alloc | apply pw_below_drewN | apply below_drew1) | exact HB.out)))); have n1_ := Aside0.mk (below_step (by repeat (first | (with_reducible first | exact HB.out | apply below_alloc | apply pw_below_drewN | apply below_drew1) | exact HB.out)) hb); clear HB; have HO565 := n0_; have HB := n1_; clear n0_ n1_; clear hb ho77) | ((with_reducible refine gate_dst (N := 228) rfl ?_); (try (refine gate_guard (by rfl) ?_; dsimp only)); refine Kd.R_lit (Kd.int .i64) _ 2 ?hg (N := 228) ?hd (xs := ([] : List Int)) (inner := []) (ok := fun _ => True) (okp := fun _ => True) ?hr ?hp (fun _ hk => hk) trivial (Below.refl _ _) (Nat.le_refl _) (by simp) ?_; (case hd => rfl); (case hg => rfl); (case hr => first | (go_simp; done) | (go_simp; rfl)); (case hp => exact (Reps.none _ _)); intro v567 w78 ho79 hb hg_ hnew_; clear hg_ hnew_; (first | rw [← Ny566.out] at ho79 | (simp only [Int.reduceToNat] at ho79; rw [← Ny566.out] at ho79)); have n0_ := Aside0.mk (Kd.R_elder' (by (with_reducible repeat (first | apply Kd.R_alloc | apply Kd.R_drewN | apply Kd.R_drew)); exact HO565.out) (Kd.R_base ho79) hb); have n1_ := Aside0.mk (Kd.R_lower (Kd.R_new' ho79 (Kd.R_lt (by (with_reducible repeat (first | apply Kd.R_alloc | apply Kd.R_drewN | apply Kd.R_drew)); exact HO565.out))) (below_size (by repeat (first | (with_reducible first | exact HB.out | apply below_alloc | apply pw_below_drewN | apply below_drew1) | exact HB.out)))); have n2_ := Aside0.mk (below_step (by repeat (first | (with_reducible first | exact HB.out | apply below_alloc | apply pw_below_drewN | apply below_drew1) | exact HB.out)) hb); clear HO565; clear HB; have HO565 := n0_; have HO568 := n1_; have HB := n2_; clear n0_ n1_ n2_; clear hb ho79))
                          go_loopg [39, 40, 41] kj71 (fun kq v39 v40 v41 w' => ∃ (x39_9 : List Int) (x40_9 : List Int) (x41_9 : Int), v41 = .int .i64 x41_9 ∧ Aside0 (laws_FnCurves.l0 kq t522 t523 t524 t525 t528 t529 t537 t542 t543 t546 t547 t548 x39_9 x40_9 x41_9 = some r) ∧ Aside0 (kq ≤ kj71) ∧ Aside0 (Kd.R (Kd.int .i64) 2 w' w.heap.size (fun k_ => some k_ ≠ (v40 : Value).ownBlock) v39 x39_9) ∧ Aside0 (Kd.R (Kd.int .i64) 2 w' w.heap.size (fun k_ => some k_ ≠ (v39 : Value).ownBlock) v40 x40_9) ∧ Aside0 (Below w.heap.size w w'))
                          case atStart => exact ⟨(y563), (y566), (0), (by first | rfl | (simp; done) | (simp [*]; done)), H', ⟨Nat.le_refl _⟩, ⟨by (with_reducible repeat (first | apply Kd.R_alloc | apply Kd.R_drewN | apply Kd.R_drew)); exact Kd.R_mono HO565.out (fun _ hk => hk.2)⟩, ⟨by (with_reducible repeat (first | apply Kd.R_alloc | apply Kd.R_drewN | apply Kd.R_drew)); exact Kd.R_mono HO568.out (fun _ hk => hk.2)⟩, ⟨by repeat (first | (with_reducible first | exact HB.out | apply below_alloc | apply pw_below_drewN | apply below_drew1) | exact HB.out)⟩⟩
                          case round =>
                          clear H'
                          try clear c1
                          try clear c2
                          try clear p2
                          try clear c3
                          try clear c4
                          try clear c5
                          try clear c6
                          try clear c7
                          try clear c8
                          try clear c9
                          try clear c10
                          try clear c11
                          try clear c11b0
                          try clear c11b1
                          try clear c11b2
                          try clear c12
                          try clear c13
                          try clear c14
                          try clear c15
                          try clear c16
                          try clear c17
                          try clear c18
                          try clear c18b0
                          try clear c18b1
                          try clear c18b2
                          try clear c19
                          try clear c20
                          try clear c21
                          try clear c22
                          try clear c25
                          try clear c25b0
                          try clear c25b1
                          try clear c25b2
                          try clear c26
                          try clear c35
                          try clear c35b0
                          try clear c35b1
                          try clear c35b2
                          try clear c36
                          try clear c44
                          try clear c44b0
                          try clear c44b1
                          try clear c44b2
                          try clear c45
                          try clear c53
                          try clear c53b0
                          try clear c53b1
                          try clear c53b2
                          try clear c54
                          try clear c56
                          try clear c56b0
                          try clear c56b1
                          try clear c56b2
                          try clear c58
                          try clear c58b0
                          try clear c58b1
                          try clear c59
                          try clear c59b0
                          try clear c59b1
                          try clear c60
                          try clear c60b0
                          try clear c60b1
                          try clear c66
                          try clear c73
                          try clear c73b0
                          try clear c73b1
                          try clear c73b2
                          try clear c75
                          try clear p2
                          obtain ⟨x39_9, x40_9, x41_9, rfl, HA, HK9, HO_39, HO_40, HB⟩ := hrel
                          cases gk with
                          | zero => exact absurd HA.out (by simp [laws_FnCurves.l0])
                          | succ k9 =>
                           have H := HA.out
                           clear HA
                           simp only [laws_FnCurves.l0] at H
                           by_cases c80 : x41_9 < t548
                           · rw [if_pos c80] at H
                             have c80b0 : decide (x41_9 < t548) = true := decide_eq_true c80
                             clear c80
                             (first | rw [c80b0] | (simp only [i64_w, i32_w]; rw [c80b0]) | rw [c80b2] | simp only [c80b2] | skip)
                             by_cases c81 : x39_9.length < 17592186044416
                             · rw [if_pos c81] at H
                               have LMc81 := Aside0.mk c81
                               clear c81
                               obtain ⟨y569, hy569⟩ : ∃ y_ : List Int, y_ = (x39_9 ++ [1]) := ⟨_, rfl⟩
                               replace H : (if x40_9.length < 17592186044416 then (laws_FnCurves.l0 k9 t522 t523 t524 t525 t528 t529 t537 t542 t543 t546 t547 t548 y569 (x40_9 ++ [t547]) (wrap64 (x41_9 + 1))) else (none)) = some r := by first | (rw [hy569]; with_reducible exact H) | (have H2_ := (Option.bind_some _ _).symm.trans H; rw [hy569]; with_reducible exact H2_) | (have H2_ := (Option.bind_some _ _).symm.trans H; with_reducible exact H2_) | with_reducible exact H | (rw [hy569]; exact H) | exact H
                               have Ny569 := Aside0.mk hy569
                               clear hy569
                               by_cases c82 : x40_9.length < 17592186044416
                               · rw [if_pos c82] at H
                                 have LMc82 := Aside0.mk c82
                                 clear c82
                                 obtain ⟨y572, hy572⟩ : ∃ y_ : List Int, y_ = (x40_9 ++ [t547]) := ⟨_, rfl⟩
                                 replace H : (laws_FnCurves.l0 k9 t522 t523 t524 t525 t528 t529 t537 t542 t543 t546 t547 t548 y569 y572 (wrap64 (x41_9 + 1))) = some r := by first | (rw [hy572]; with_reducible exact H) | (have H2_ := (Option.bind_some _ _).symm.trans H; rw [hy572]; with_reducible exact H2_) | (have H2_ := (Option.bind_some _ _).symm.trans H; with_reducible exact H2_) | with_reducible exact H | (rw [hy572]; exact H) | exact H
                                 have Ny572 := Aside0.mk hy572
                                 clear hy572
                                 have H' := Aside0.mk H
                                 clear H
                                 go_wp2_with (first | ((with_reducible refine gate_builtin (b := .append) (xs := #[.tmp 234, .tmp 235]) rfl ?_); (try (refine gate_guard (by rfl) ?_; dsimp only)); at_builtin; refine Kd.R_append (Kd.int .i64) (w0 := w) w.heap.size rfl (.tmp 234) (.tmp 235) 29 2 (.int .i64 0) 8 rfl Try.underlying29 info2 rfl (by decide) (by omega) u39 x39_9 1 [.int .i64 1] (fun k_ => some k_ ≠ (u40 : Value).ownBlock) (fun _ => False) rfl rfl ?aP (fun _ hk => hk.elim) ?aF ?aO ?aB ?aS ?aL ?_; (case aP => exact rfl); (case aB => exact (by repeat (first | (with_reducible first | exact HB.out | apply below_alloc | apply pw_below_drewN | apply below_drew1) | exact HB.out))); (case aF => exact (fun k_ hk => Kd.fresh' (Kd.R_lt (by (with_reducible repeat (first | apply Kd.R_alloc | apply Kd.R_drewN | apply Kd.R_drew)); exact HO_40.out)) k_ hk)); (case aO => exact (by (with_reducible repeat (first | apply Kd.R_alloc | apply Kd.R_drewN | apply Kd.R_drew)); exact HO_39.out)); (case aS => exact (below_size (by repeat (first | (with_reducible first | exact HB.out | apply below_alloc | apply pw_below_drewN | apply below_drew1) | exact HB.out)))); (case aL => have := LMc81.out; omega); intro v570 w83 ho hb hg hat; rw [← Ny569.out] at ho; have n0_ := Aside0.mk (Kd.R_after (ok := (fun _ => True)) (by (with_reducible repeat (first | apply Kd.R_alloc | apply Kd.R_drewN | apply Kd.R_drew)); exact Kd.R_mono HO_40.out (fun _ hk => ⟨trivial, hk⟩)) hg hat); have n1_ := Aside0.mk (hb); have n2_ := Aside0.mk (ho); clear HO_40; clear HB; clear HO_39; have HO_40 := n0_; have HB := n1_; have HO571 := n2_; clear n0_ n1_ n2_; clear ho hb hg hat) | ((with_reducible refine gate_builtin (b := .append) (xs := #[.tmp 237, .tmp 239]) rfl ?_); (try (refine gate_guard (by rfl) ?_; dsimp only)); at_builtin; refine Kd.R_append (Kd.int .i64) (w0 := w) w.heap.size rfl (.tmp 237) (.tmp 239) 29 2 (.int .i64 0) 8 rfl Try.underlying29 info2 rfl (by decide) (by omega) u40 x40_9 t547 [.int .i64 t547] (fun k_ => some k_ ≠ (v570 : Value).ownBlock) (fun _ => False) rfl rfl ?aP (fun _ hk => hk.elim) ?aF ?aO ?aB ?aS ?aL ?_; (case aP => exact rfl); (case aB => exact (by repeat (first | (with_reducible first | exact HB.out | apply below_alloc | apply pw_below_drewN | apply below_drew1) | exact HB.out))); (case aF => exact (fun k_ hk => Kd.fresh' (Kd.R_lt (by (with_reducible repeat (first | apply Kd.R_alloc | apply Kd.R_drewN | apply Kd.R_drew)); exact HO571.out)) k_ hk)); (case aO => exact (by (with_reducible repeat (first | apply Kd.R_alloc | apply Kd.R_drewN | apply Kd.R_drew)); exact Kd.R_mono HO_40.out (fun _ hk => hk.2))); (case aS => exact (below_size (by repeat (first | (with_reducible first | exact HB.out | apply below_alloc | apply pw_below_drewN | apply below_drew1) | exact HB.out)))); (case aL => have := LMc82.out; omega); intro v573 w84 ho hb hg hat; rw [← Ny572.out] at ho; have n0_ := Aside0.mk (Kd.R_after (ok := (fun _ => True)) (by (with_reducible repeat (first | apply Kd.R_alloc | apply Kd.R_drewN | apply Kd.R_drew)); exact Kd.R_mono HO571.out (fun _ hk => ⟨trivial, hk⟩)) hg hat); have n1_ := Aside0.mk (hb); have n2_ := Aside0.mk (ho); clear HO571; clear HB; clear HO_40; have HO571 := n0_; have HB := n1_; have HO574 := n2_; clear n0_ n1_ n2_; clear ho hb hg hat))
                                 go_roundg k9
                                 case measure => have := HJ6.out; have := HJ14.out; have := HJ22.out; have := HJ29.out; have := HJ39.out; have := HJ48.out; have := HJ54.out; have := HJ71.out; have := HK9.out; omega
                                 case rel => exact ⟨(y569), (y572), (wrap64 (x41_9 + 1)), (by first | rfl | (simp; done) | (simp [*]; done)), H', ⟨by have := HJ6.out; have := HJ14.out; have := HJ22.out; have := HJ29.out; have := HJ39.out; have := HJ48.out; have := HJ54.out; have := HJ71.out; have := HK9.out; omega⟩, ⟨by (with_reducible repeat (first | apply Kd.R_alloc | apply Kd.R_drewN | apply Kd.R_drew)); exact Kd.R_mono HO571.out (fun _ hk => hk.2)⟩, ⟨by (with_reducible repeat (first | apply Kd.R_alloc | apply Kd.R_drewN | apply Kd.R_drew)); exact HO574.out⟩, ⟨by repeat (first | (with_reducible first | exact HB.out | apply below_alloc | apply pw_below_drewN | apply below_drew1) | exact HB.out)⟩⟩
                               · rw [if_neg c82] at H
                                 exact absurd H (by simp)
                             · rw [if_neg c81] at H
                               exact absurd H (by simp)
                           · rw [if_neg c80] at H
                             have c80b0 : decide (x41_9 < t548) = false := decide_eq_false c80
                             clear c80
                             (first | rw [c80b0] | (simp only [i64_w, i32_w]; rw [c80b0]) | rw [c80b2] | simp only [c80b2] | skip)
                             have H' := Aside0.mk H
                             clear H
                             go_wp2
                             go_loopg [42] k9 (fun kq v42 w' => ∃ (x42_10 : Int), v42 = .int .i64 x42_10 ∧ Aside0 (laws_FnCurves.l1 kq t522 t523 t524 t525 t528 t529 t537 t542 t543 t546 x39_9 x40_9 x42_10 = some r) ∧ Aside0 (kq ≤ k9) ∧ Aside0 (Kd.R (Kd.int .i64) 2 w' w.heap.size (fun k_ => some k_ ≠ (u40 : Value).ownBlock) u39 x39_9) ∧ Aside0 (Kd.R (Kd.int .i64) 2 w' w.heap.size (fun k_ => some k_ ≠ (u39 : Value).ownBlock) u40 x40_9) ∧ Aside0 (Below w.heap.size w w'))
                             case atStart => exact ⟨(0), (by first | rfl | (simp; done) | (simp [*]; done)), H', ⟨Nat.le_refl _⟩, ⟨by (with_reducible repeat (first | apply Kd.R_alloc | apply Kd.R_drewN | apply Kd.R_drew)); exact HO_39.out⟩, ⟨by (with_reducible repeat (first | apply Kd.R_alloc | apply Kd.R_drewN | apply Kd.R_drew)); exact HO_40.out⟩, ⟨by repeat (first | (with_reducible first | exact HB.out | apply below_alloc | apply pw_below_drewN | apply below_drew1) | exact HB.out)⟩⟩
                             case round =>
                             clear H'
                             try clear c1
                             try clear c2
                             try clear p2
                             try clear c3
                             try clear c4
                             try clear c5
                             try clear c6
                             try clear p6
                             try clear c7
                             try clear c8
                             try clear c9
                             try clear c10
                             try clear c11
                             try clear c11b0
                             try clear c11b1
                             try clear c11b2
                             try clear c12
                             try clear c13
                             try clear c14
                             try clear c15
                             try clear c16
                             try clear c17
                             try clear c18
                             try clear c18b0
                             try clear c18b1
                             try clear c18b2
                             try clear c19
                             try clear c20
                             try clear c21
                             try clear c22
                             try clear c25
                             try clear c25b0
                             try clear c25b1
                             try clear c25b2
                             try clear c26
                             try clear c35
                             try clear c35b0
                             try clear c35b1
                             try clear c35b2
                             try clear c36
                             try clear c44
                             try clear c44b0
                             try clear c44b1
                             try clear c44b2
                             try clear c45
                             try clear c53
                             try clear c53b0
                             try clear c53b1
                             try clear c53b2
                             try clear c54
                             try clear c56
                             try clear c56b0
                             try clear c56b1
                             try clear c56b2
                             try clear c58
                             try clear c58b0
                             try clear c58b1
                             try clear c59
                             try clear c59b0
                             try clear c59b1
                             try clear c60
                             try clear c60b0
                             try clear c60b1
                             try clear p64
                             try clear c66
                             try clear c73
                             try clear c73b0
                             try clear c73b1
                             try clear c73b2
                             try clear c75
                             try clear c80
                             try clear c80b0
                             try clear c80b2
                             try clear c81
                             try clear c82
                             try clear p2
                             obtain ⟨x42_10, rfl, HA, HK10, HO_39, HO_40, HB⟩ := hrel
                             cases gk with
                             | zero => exact absurd HA.out (by simp [laws_FnCurves.l1])
                             | succ k10 =>
                              have H := HA.out
                              clear HA
                              simp only [laws_FnCurves.l1] at H
                              by_cases c85 : x42_10 < t546
                              · rw [if_pos c85] at H
                                have c85b0 : decide (x42_10 < t546) = true := decide_eq_true c85
                                clear c85
                                replace H := Option.bind_eq_some_iff.mp H
                                obtain ⟨⟨t575, t576⟩, A860, H⟩ := H
                                replace H : (if t576 = 0 then (if t575 < 1 then (some false) else (laws_FnCurves.l1 k10 t522 t523 t524 t525 t528 t529 t537 t542 t543 t546 x39_9 x40_9 (wrap64 (x42_10 + 1)))) else (some false)) = some r := H
                                have A86 := Aside0.mk A860
                                clear A860
                                by_cases c87 : t576 = 0
                                · rw [if_pos c87] at H
                                  have c87b0 : (t576 == 0) = true := beq_iff_eq.mpr c87
                                  have c87b1 : (t576 != 0) = false := bne_eq_false_iff_eq.mpr c87
                                  clear c87
                                  by_cases c88 : t575 < 1
                                  · rw [if_pos c88] at H
                                    have c88b0 : decide (t575 < 1) = true := decide_eq_true c88
                                    clear c88
                                    obtain rfl := Option.some.inj H
                                    obtain ⟨Ao89, co89, eo89⟩ := Kd.R_slice HO_39.out
                                    subst eo89
                                    obtain ⟨Ao90, co90, eo90⟩ := Kd.R_slice HO_40.out
                                    subst eo90
                                    go_wp2_with (first | ((with_reducible refine gate_callee (f := 24) rfl ?_); refine goesL_ (some 251) rfl rfl Try.func24 (by kernel_rfl) rfl #[.int .i64 t546, .slice Ao89 x39_9.length co89, .slice Ao90 x40_9.length co90, .int .i64 x42_10] rfl (by (try simp only [List.map_toArray, List.map_cons, List.map_nil]); first | done | rfl | (simp only [List.length_drop, List.length_take]; rfl)) ?_; (with_reducible refine (impl_CountSolutions.calls k10 t546 _ _ x39_9 _ _ x40_9 x42_10 t575 t576 _ ?side1 ?side2 ?side3 ?side4 A86.out).mono ?_); (case side1 => repeat (first | exact (Kd.R_reads' HO_39.out).2.2 | (with_reducible refine Kd.C_alloc ?_ _) | (with_reducible refine Kd.C_drewN ?_ _) | (with_reducible refine Kd.C_drew ?_))); (case side2 => exact (Kd.R_reads' HO_39.out).2.1); (case side3 => repeat (first | exact (Kd.R_reads' HO_40.out).2.2 | (with_reducible refine Kd.C_alloc ?_ _) | (with_reducible refine Kd.C_drewN ?_ _) | (with_reducible refine Kd.C_drew ?_))); (case side4 => exact (Kd.R_reads' HO_40.out).2.1); rintro e w91 ⟨rfl, hb⟩; refine ⟨_, rfl, ?_⟩; have n0_ := Aside0.mk (Kd.R_below (by (with_reducible repeat (first | apply Kd.R_alloc | apply Kd.R_drewN | apply Kd.R_drew)); exact HO_39.out) hb); have n1_ := Aside0.mk (Kd.R_below (by (with_reducible repeat (first | apply Kd.R_alloc | apply Kd.R_drewN | apply Kd.R_drew)); exact HO_40.out) hb); have n2_ := Aside0.mk (below_step (by repeat (first | (with_reducible first | exact HB.out | apply below_alloc | apply pw_below_drewN | apply below_drew1) | exact HB.out)) hb); clear HO_39; clear HO_40; clear HB; have HO_39 := n0_; have HO_40 := n1_; have HB := n2_; clear n0_ n1_ n2_; (try clear hb); (try clear hb2); (try clear hk); (try clear hi)))
                                    go_ret
                                    exact ⟨by first | rfl | (simp [errW_none, errW_some] <;> rfl) | (simp [*, errW_none, errW_some] <;> rfl), by repeat (first | (with_reducible first | exact HB.out | apply below_alloc | apply pw_below_drewN | apply below_drew1) | exact HB.out)⟩
                                  · rw [if_neg c88] at H
                                    have c88b0 : decide (t575 < 1) = false := decide_eq_false c88
                                    clear c88
                                    have H' := Aside0.mk H
                                    clear H
                                    obtain ⟨Ao92, co92, eo92⟩ := Kd.R_slice HO_39.out
                                    subst eo92
                                    obtain ⟨Ao93, co93, eo93⟩ := Kd.R_slice HO_40.out
                                    subst eo93
                                    go_wp2_with (first | ((with_reducible refine gate_callee (f := 24) rfl ?_); refine goesL_ (some 251) rfl rfl Try.func24 (by kernel_rfl) rfl #[.int .i64 t546, .slice Ao92 x39_9.length co92, .slice Ao93 x40_9.length co93, .int .i64 x42_10] rfl (by (try simp only [List.map_toArray, List.map_cons, List.map_nil]); first | done | rfl | (simp only [List.length_drop, List.length_take]; rfl)) ?_; (with_reducible refine (impl_CountSolutions.calls k10 t546 _ _ x39_9 _ _ x40_9 x42_10 t575 t576 _ ?side1 ?side2 ?side3 ?side4 A86.out).mono ?_); (case side1 => repeat (first | exact (Kd.R_reads' HO_39.out).2.2 | (with_reducible refine Kd.C_alloc ?_ _) | (with_reducible refine Kd.C_drewN ?_ _) | (with_reducible refine Kd.C_drew ?_))); (case side2 => exact (Kd.R_reads' HO_39.out).2.1); (case side3 => repeat (first | exact (Kd.R_reads' HO_40.out).2.2 | (with_reducible refine Kd.C_alloc ?_ _) | (with_reducible refine Kd.C_drewN ?_ _) | (with_reducible refine Kd.C_drew ?_))); (case side4 => exact (Kd.R_reads' HO_40.out).2.1); rintro e w94 ⟨rfl, hb⟩; refine ⟨_, rfl, ?_⟩; have n0_ := Aside0.mk (Kd.R_below (by (with_reducible repeat (first | apply Kd.R_alloc | apply Kd.R_drewN | apply Kd.R_drew)); exact HO_39.out) hb); have n1_ := Aside0.mk (Kd.R_below (by (with_reducible repeat (first | apply Kd.R_alloc | apply Kd.R_drewN | apply Kd.R_drew)); exact HO_40.out) hb); have n2_ := Aside0.mk (below_step (by repeat (first | (with_reducible first | exact HB.out | apply below_alloc | apply pw_below_drewN | apply below_drew1) | exact HB.out)) hb); clear HO_39; clear HO_40; clear HB; have HO_39 := n0_; have HO_40 := n1_; have HB := n2_; clear n0_ n1_ n2_; (try clear hb); (try clear hb2); (try clear hk); (try clear hi)))
                                    go_roundg k10
                                    case measure => have := HJ6.out; have := HJ14.out; have := HJ22.out; have := HJ29.out; have := HJ39.out; have := HJ48.out; have := HJ54.out; have := HJ71.out; have := HK9.out; have := HK10.out; omega
                                    case rel => exact ⟨(wrap64 (x42_10 + 1)), (by first | rfl | (simp; done) | (simp [*]; done)), H', ⟨by have := HJ6.out; have := HJ14.out; have := HJ22.out; have := HJ29.out; have := HJ39.out; have := HJ48.out; have := HJ54.out; have := HJ71.out; have := HK9.out; have := HK10.out; omega⟩, ⟨by (with_reducible repeat (first | apply Kd.R_alloc | apply Kd.R_drewN | apply Kd.R_drew)); exact HO_39.out⟩, ⟨by (with_reducible repeat (first | apply Kd.R_alloc | apply Kd.R_drewN | apply Kd.R_drew)); exact HO_40.out⟩, ⟨by repeat (first | (with_reducible first | exact HB.out | apply below_alloc | apply pw_below_drewN | apply below_drew1) | exact HB.out)⟩⟩
                                · rw [if_neg c87] at H
                                  have c87b0 : (t576 == 0) = false := beq_eq_false_iff_ne.mpr c87
                                  have c87b1 : (t576 != 0) = true := bne_iff_ne.mpr c87
                                  obtain rfl := Option.some.inj H
                                  obtain ⟨Ao95, co95, eo95⟩ := Kd.R_slice HO_39.out
                                  subst eo95
                                  obtain ⟨Ao96, co96, eo96⟩ := Kd.R_slice HO_40.out
                                  subst eo96
                                  go_wp2_with (first | ((with_reducible refine gate_callee (f := 24) rfl ?_); refine goesL_ (some 251) rfl rfl Try.func24 (by kernel_rfl) rfl #[.int .i64 t546, .slice Ao95 x39_9.length co95, .slice Ao96 x40_9.length co96, .int .i64 x42_10] rfl (by (try simp only [List.map_toArray, List.map_cons, List.map_nil]); first | done | rfl | (simp only [List.length_drop, List.length_take]; rfl)) ?_; (with_reducible refine (impl_CountSolutions.calls k10 t546 _ _ x39_9 _ _ x40_9 x42_10 t575 t576 _ ?side1 ?side2 ?side3 ?side4 A86.out).mono ?_); (case side1 => repeat (first | exact (Kd.R_reads' HO_39.out).2.2 | (with_reducible refine Kd.C_alloc ?_ _) | (with_reducible refine Kd.C_drewN ?_ _) | (with_reducible refine Kd.C_drew ?_))); (case side2 => exact (Kd.R_reads' HO_39.out).2.1); (case side3 => repeat (first | exact (Kd.R_reads' HO_40.out).2.2 | (with_reducible refine Kd.C_alloc ?_ _) | (with_reducible refine Kd.C_drewN ?_ _) | (with_reducible refine Kd.C_drew ?_))); (case side4 => exact (Kd.R_reads' HO_40.out).2.1); rintro e w97 ⟨rfl, hb⟩; refine ⟨_, rfl, ?_⟩; have n0_ := Aside0.mk (Kd.R_below (by (with_reducible repeat (first | apply Kd.R_alloc | apply Kd.R_drewN | apply Kd.R_drew)); exact HO_39.out) hb); have n1_ := Aside0.mk (Kd.R_below (by (with_reducible repeat (first | apply Kd.R_alloc | apply Kd.R_drewN | apply Kd.R_drew)); exact HO_40.out) hb); have n2_ := Aside0.mk (below_step (by repeat (first | (with_reducible first | exact HB.out | apply below_alloc | apply pw_below_drewN | apply below_drew1) | exact HB.out)) hb); clear HO_39; clear HO_40; clear HB; have HO_39 := n0_; have HO_40 := n1_; have HB := n2_; clear n0_ n1_ n2_; (try clear hb); (try clear hb2); (try clear hk); (try clear hi)))
                                  go_ret
                                  exact ⟨by first | rfl | (simp [errW_none, errW_some] <;> rfl) | (simp [*, errW_none, errW_some] <;> rfl), by repeat (first | (with_reducible first | exact HB.out | apply below_alloc | apply pw_below_drewN | apply below_drew1) | exact HB.out)⟩
                              · rw [if_neg c85] at H
                                have c85b0 : decide (x42_10 < t546) = false := decide_eq_false c85
                                clear c85
                                have H' := Aside0.mk H
                                clear H
                                go_wp2
                                go_meet
                                case rel => exact ⟨_, H', ⟨by have := HJ6.out; have := HJ14.out; have := HJ22.out; have := HJ29.out; have := HJ39.out; have := HJ48.out; have := HJ54.out; have := HJ71.out; have := HK9.out; have := HK10.out; first | omega | exact Nat.le_refl _⟩, ⟨by repeat (first | (with_reducible first | exact HB.out | apply below_alloc | apply pw_below_drewN | apply below_drew1) | exact HB.out)⟩⟩
                        · replace c75 := Bool.eq_false_iff.mpr c75
                          subst c75
                          have H1 : (laws_FnCurves.j10 kj71 t522 t523 t524 t525 t528 t529 t537 t542 t543) = some r := by rw [if_neg (show ¬ (false = true) by decide)] at H; exact H
                          clear H
                          have H := H1
                          clear H1
                          have H' := Aside0.mk H
                          clear H
                          go_wp2
                          go_meet
                          case rel => exact ⟨_, H', ⟨by have := HJ6.out; have := HJ14.out; have := HJ22.out; have := HJ29.out; have := HJ39.out; have := HJ48.out; have := HJ54.out; have := HJ71.out; first | omega | exact Nat.le_refl _⟩, ⟨by repeat (first | (with_reducible first | exact HB.out | apply below_alloc | apply pw_below_drewN | apply below_drew1) | exact HB.out)⟩⟩
                       case rest =>
                       as_aux_lemma =>
                       clear HC74
                       try clear c1
                       try clear c2
                       try clear p2
                       try clear c3
                       try clear c4
                       try clear c5
                       try clear c6
                       try clear p6
                       try clear c7
                       try clear c8
                       try clear c9
                       try clear c10
                       try clear c11
                       try clear c11b0
                       try clear c11b1
                       try clear c11b2
                       try clear c12
                       try clear c13
                       try clear c14
                       try clear c15
                       try clear c16
                       try clear c17
                       try clear c18
                       try clear c18b0
                       try clear c18b1
                       try clear c18b2
                       try clear c19
                       try clear c20
                       try clear c21
                       try clear c22
                       try clear c24
                       try clear c25
                       try clear c25b0
                       try clear c25b1
                       try clear c25b2
                       try clear c26
                       try clear c35
                       try clear c35b0
                       try clear c35b1
                       try clear c35b2
                       try clear c36
                       try clear c44
                       try clear c44b0
                       try clear c44b1
                       try clear c44b2
                       try clear c45
                       try clear c53
                       try clear c53b0
                       try clear c53b1
                       try clear c53b2
                       try clear c54
                       try clear c56
                       try clear c56b0
                       try clear c56b1
                       try clear c56b2
                       try clear c58
                       try clear c58b0
                       try clear c58b1
                       try clear c59
                       try clear c59b0
                       try clear c59b1
                       try clear c60
                       try clear c60b0
                       try clear c60b1
                       try clear p64
                       try clear c66
                       try clear c73
                       try clear c73b0
                       try clear c73b1
                       try clear c73b2
                       try clear c75
                       try clear c80
                       try clear c80b0
                       try clear c80b2
                       try clear c81
                       try clear c82
                       try clear c85
                       try clear c85b0
                       try clear c87
                       try clear c87b0
                       try clear c87b1
                       try clear c88
                       try clear c88b0
                       try clear p2
                       try clear p6
                       try clear p64
                       obtain ⟨kq, HA, HJ73, HB⟩ := hcut
                       cases kq with
                       | zero => exact absurd HA.out (by simp [laws_FnCurves.j10])
                       | succ kj73 =>
                        have H := HA.out
                        clear HA
                        simp only [laws_FnCurves.j10] at H
                        have HC98 := Aside0.mk H
                        clear H
                        go_upto_region 49 with (fail)
                        go_cut [272] (fun v272 wc => ∃ (kq : Nat) (x272_97 : Bool), v272 = .bool x272_97 ∧ Aside0 (laws_FnCurves.j11 kq t522 t523 t524 t525 t528 t529 x272_97 = some r) ∧ Aside0 (kq ≤ kj73) ∧ Aside0 (Below w.heap.size w wc))
                        case first =>
                         as_aux_lemma =>
                         have H := HC98.out
                         clear HC98
                         by_cases c99 : t543 = 0
                         · rw [if_pos c99] at H
                           have c99b0 : (t543 == 0) = true := beq_iff_eq.mpr c99
                           have c99b1 : (t543 != 0) = false := bne_eq_false_iff_eq.mpr c99
                           clear c99
                           (first | rw [c99b0] | (simp only [i64_w, i32_w]; rw [c99b0]) | rw [c99b2] | simp only [c99b2] | skip)
                           by_cases c100 : t542 < 0
                           · rw [if_pos c100] at H
                             have c100b0 : decide (t542 < 0) = true := decide_eq_true c100
                             clear c100
                             have H' := Aside0.mk H
                             clear H
                             go_wp2
                             go_meet
                             case rel => exact ⟨_, (true), (by first | rfl | (simp; done) | (simp [*]; done)), H', ⟨by have := HJ6.out; have := HJ14.out; have := HJ22.out; have := HJ29.out; have := HJ39.out; have := HJ48.out; have := HJ54.out; have := HJ71.out; have := HJ73.out; first | omega | exact Nat.le_refl _⟩, ⟨by repeat (first | (with_reducible first | exact HB.out | apply below_alloc | apply pw_below_drewN | apply below_drew1) | exact HB.out)⟩⟩
                           · rw [if_neg c100] at H
                             have c100b0 : decide (t542 < 0) = false := decide_eq_false c100
                             clear c100
                             have H' := Aside0.mk H
                             clear H
                             go_wp2
                             go_meet
                             case rel => exact ⟨_, (decide (t542 > (wrap64 (t537 * t537)))), (by first | rfl | (simp; done) | (simp [*]; done)), H', ⟨by have := HJ6.out; have := HJ14.out; have := HJ22.out; have := HJ29.out; have := HJ39.out; have := HJ48.out; have := HJ54.out; have := HJ71.out; have := HJ73.out; first | omega | exact Nat.le_refl _⟩, ⟨by repeat (first | (with_reducible first | exact HB.out | apply below_alloc | apply pw_below_drewN | apply below_drew1) | exact HB.out)⟩⟩
                         · rw [if_neg c99] at H
                           have c99b0 : (t543 == 0) = false := beq_eq_false_iff_ne.mpr c99
                           have c99b1 : (t543 != 0) = true := bne_iff_ne.mpr c99
                           (first | rw [c99b0] | (simp only [i64_w, i32_w]; rw [c99b0]) | rw [c99b2] | simp only [c99b2] | skip)
                           have H' := Aside0.mk H
                           clear H
                           go_wp2
                           go_meet
                           case rel => exact ⟨_, (false), (by first | rfl | (simp; done) | (simp [*]; done)), H', ⟨by have := HJ6.out; have := HJ14.out; have := HJ22.out; have := HJ29.out; have := HJ39.out; have := HJ48.out; have := HJ54.out; have := HJ71.out; have := HJ73.out; first | omega | exact Nat.le_refl _⟩, ⟨by repeat (first | (with_reducible first | exact HB.out | apply below_alloc | apply pw_below_drewN | apply below_drew1) | exact HB.out)⟩⟩
                        case rest =>
                        as_aux_lemma =>
                        clear HC98
                        try clear c1
                        try clear c2
                        try clear p2
                        try clear c3
                        try clear c4
                        try clear c5
                        try clear c6
                        try clear p6
                        try clear c7
                        try clear c8
                        try clear c9
                        try clear c10
                        try clear c11
                        try clear c11b0
                        try clear c11b1
                        try clear c11b2
                        try clear c12
                        try clear c13
                        try clear c14
                        try clear c15
                        try clear c16
                        try clear c17
                        try clear c18
                        try clear c18b0
                        try clear c18b1
                        try clear c18b2
                        try clear c19
                        try clear c20
                        try clear c21
                        try clear c22
                        try clear c24
                        try clear c25
                        try clear c25b0
                        try clear c25b1
                        try clear c25b2
                        try clear c26
                        try clear c35
                        try clear c35b0
                        try clear c35b1
                        try clear c35b2
                        try clear c36
                        try clear c44
                        try clear c44b0
                        try clear c44b1
                        try clear c44b2
                        try clear c45
                        try clear c53
                        try clear c53b0
                        try clear c53b1
                        try clear c53b2
                        try clear c54
                        try clear c56
                        try clear c56b0
                        try clear c56b1
                        try clear c56b2
                        try clear c58
                        try clear c58b0
                        try clear c58b1
                        try clear c59
                        try clear c59b0
                        try clear c59b1
                        try clear c60
                        try clear c60b0
                        try clear c60b1
                        try clear p64
                        try clear c66
                        try clear c73
                        try clear c73b0
                        try clear c73b1
                        try clear c73b2
                        try clear c75
                        try clear c80
                        try clear c80b0
                        try clear c80b2
                        try clear c81
                        try clear c82
                        try clear c85
                        try clear c85b0
                        try clear c87
                        try clear c87b0
                        try clear c87b1
                        try clear c88
                        try clear c88b0
                        try clear c99
                        try clear c99b0
                        try clear c99b1
                        try clear c99b2
                        try clear c100
                        try clear c100b0
                        try clear p2
                        try clear p6
                        try clear p64
                        obtain ⟨kq, x272_97, rfl, HA, HJ97, HB⟩ := hcut
                        cases kq with
                        | zero => exact absurd HA.out (by simp [laws_FnCurves.j11])
                        | succ kj97 =>
                         have H := HA.out
                         clear HA
                         simp only [laws_FnCurves.j11] at H
                         by_cases c101 : x272_97 = true
                         · subst c101
                           have H1 : (some false) = some r := by rw [if_pos rfl] at H; exact H
                           clear H
                           have H := H1
                           clear H1
                           obtain rfl := Option.some.inj H
                           go_wp2
                           go_ret
                           exact ⟨by first | rfl | (simp [errW_none, errW_some] <;> rfl) | (simp [*, errW_none, errW_some] <;> rfl), by repeat (first | (with_reducible first | exact HB.out | apply below_alloc | apply pw_below_drewN | apply below_drew1) | exact HB.out)⟩
                         · replace c101 := Bool.eq_false_iff.mpr c101
                           subst c101
                           have H1 : (if t525 = 0 then ((impl_GenusOfCurve.f t523).bind fun bt577 => (if t529 = 0 then (if bt577.2 = 0 then (if (wrap64 (t524 + t528)) = (wrap64 (t522 + 1)) then (some (decide ((wrap64 (t528 * t528)) ≤ (wrap64 ((wrap64 ((wrap64 (4 * bt577.1)) * bt577.1)) * t522))))) else (some false)) else (some false)) else (some false))) else (if t529 = t525 then (some (t524 == 0)) else (some false))) = some r := by rw [if_neg (show ¬ (false = true) by decide)] at H; exact H
                           clear H
                           have H := H1
                           clear H1
                           by_cases c102 : t525 = 0
                           · rw [if_pos c102] at H
                             have c102b0 : (t525 == 0) = true := beq_iff_eq.mpr c102
                             have c102b1 : (t525 != 0) = false := bne_eq_false_iff_eq.mpr c102
                             clear c102
                             replace H := Option.bind_eq_some_iff.mp H
                             obtain ⟨⟨t577, t578⟩, A1030, H⟩ := H
                             replace H : (if t529 = 0 then (if t578 = 0 then (if (wrap64 (t524 + t528)) = (wrap64 (t522 + 1)) then (some (decide ((wrap64 (t528 * t528)) ≤ (wrap64 ((wrap64 ((wrap64 (4 * t577)) * t577)) * t522))))) else (some false)) else (some false)) else (some false)) = some r := H
                             have A103 := Aside0.mk A1030
                             clear A1030
                             by_cases c104 : t529 = 0
                             · rw [if_pos c104] at H
                               have c104b0 : (t529 == 0) = true := beq_iff_eq.mpr c104
                               have c104b1 : (t529 != 0) = false := bne_eq_false_iff_eq.mpr c104
                               clear c104
                               by_cases c105 : t578 = 0
                               · rw [if_pos c105] at H
                                 have c105b0 : (t578 == 0) = true := beq_iff_eq.mpr c105
                                 have c105b1 : (t578 != 0) = false := bne_eq_false_iff_eq.mpr c105
                                 clear c105
                                 by_cases c106 : (wrap64 (t524 + t528)) = (wrap64 (t522 + 1))
                                 · rw [if_pos c106] at H
                                   have c106b0 : ((wrap64 (t524 + t528)) == (wrap64 (t522 + 1))) = true := beq_iff_eq.mpr c106
                                   have c106b1 : ((wrap64 (t524 + t528)) != (wrap64 (t522 + 1))) = false := bne_eq_false_iff_eq.mpr c106
                                   clear c106
                                   obtain rfl := Option.some.inj H
                                   go_wp2_with (first | ((with_reducible refine gate_callee (f := 11) rfl ?_); refine goesL_ (some 284) rfl rfl Try.func11 (by kernel_rfl) rfl #[.int .i64 t523] rfl (by (try simp only [List.map_toArray, List.map_cons, List.map_nil]); first | done | rfl | (simp only [List.length_drop, List.length_take]; rfl)) ?_; (with_reducible refine (impl_GenusOfCurve.calls t523 t577 t578 _ A103.out).mono ?_); rintro e w' ⟨rfl, ⟨nd, rfl⟩⟩; refine ⟨_, rfl, ?_⟩))
                                   go_ret
                                   exact ⟨by first | rfl | (simp [errW_none, errW_some] <;> rfl) | (simp [*, errW_none, errW_some] <;> rfl), by repeat (first | (with_reducible first | exact HB.out | apply below_alloc | apply pw_below_drewN | apply below_drew1) | exact HB.out)⟩
                                 · rw [if_neg c106] at H
                                   have c106b0 : ((wrap64 (t524 + t528)) == (wrap64 (t522 + 1))) = false := beq_eq_false_iff_ne.mpr c106
                                   have c106b1 : ((wrap64 (t524 + t528)) != (wrap64 (t522 + 1))) = true := bne_iff_ne.mpr c106
                                   obtain rfl := Option.some.inj H
                                   go_wp2_with (first | ((with_reducible refine gate_callee (f := 11) rfl ?_); refine goesL_ (some 284) rfl rfl Try.func11 (by kernel_rfl) rfl #[.int .i64 t523] rfl (by (try simp only [List.map_toArray, List.map_cons, List.map_nil]); first | done | rfl | (simp only [List.length_drop, List.length_take]; rfl)) ?_; (with_reducible refine (impl_GenusOfCurve.calls t523 t577 t578 _ A103.out).mono ?_); rintro e w' ⟨rfl, ⟨nd, rfl⟩⟩; refine ⟨_, rfl, ?_⟩))
                                   go_ret
                                   exact ⟨by first | rfl | (simp [errW_none, errW_some] <;> rfl) | (simp [*, errW_none, errW_some] <;> rfl), by repeat (first | (with_reducible first | exact HB.out | apply below_alloc | apply pw_below_drewN | apply below_drew1) | exact HB.out)⟩
                               · rw [if_neg c105] at H
                                 have c105b0 : (t578 == 0) = false := beq_eq_false_iff_ne.mpr c105
                                 have c105b1 : (t578 != 0) = true := bne_iff_ne.mpr c105
                                 obtain rfl := Option.some.inj H
                                 go_wp2_with (first | ((with_reducible refine gate_callee (f := 11) rfl ?_); refine goesL_ (some 284) rfl rfl Try.func11 (by kernel_rfl) rfl #[.int .i64 t523] rfl (by (try simp only [List.map_toArray, List.map_cons, List.map_nil]); first | done | rfl | (simp only [List.length_drop, List.length_take]; rfl)) ?_; (with_reducible refine (impl_GenusOfCurve.calls t523 t577 t578 _ A103.out).mono ?_); rintro e w' ⟨rfl, ⟨nd, rfl⟩⟩; refine ⟨_, rfl, ?_⟩))
                                 go_ret
                                 exact ⟨by first | rfl | (simp [errW_none, errW_some] <;> rfl) | (simp [*, errW_none, errW_some] <;> rfl), by repeat (first | (with_reducible first | exact HB.out | apply below_alloc | apply pw_below_drewN | apply below_drew1) | exact HB.out)⟩
                             · rw [if_neg c104] at H
                               have c104b0 : (t529 == 0) = false := beq_eq_false_iff_ne.mpr c104
                               have c104b1 : (t529 != 0) = true := bne_iff_ne.mpr c104
                               obtain rfl := Option.some.inj H
                               go_wp2_with (first | ((with_reducible refine gate_callee (f := 11) rfl ?_); refine goesL_ (some 284) rfl rfl Try.func11 (by kernel_rfl) rfl #[.int .i64 t523] rfl (by (try simp only [List.map_toArray, List.map_cons, List.map_nil]); first | done | rfl | (simp only [List.length_drop, List.length_take]; rfl)) ?_; (with_reducible refine (impl_GenusOfCurve.calls t523 t577 t578 _ A103.out).mono ?_); rintro e w' ⟨rfl, ⟨nd, rfl⟩⟩; refine ⟨_, rfl, ?_⟩))
                               go_ret
                               exact ⟨by first | rfl | (simp [errW_none, errW_some] <;> rfl) | (simp [*, errW_none, errW_some] <;> rfl), by repeat (first | (with_reducible first | exact HB.out | apply below_alloc | apply pw_below_drewN | apply below_drew1) | exact HB.out)⟩
                           · rw [if_neg c102] at H
                             have c102b0 : (t525 == 0) = false := beq_eq_false_iff_ne.mpr c102
                             have c102b1 : (t525 != 0) = true := bne_iff_ne.mpr c102
                             by_cases c107 : t529 = t525
                             · rw [if_pos c107] at H
                               have c107b0 : (t529 == t525) = true := beq_iff_eq.mpr c107
                               have c107b1 : (t529 != t525) = false := bne_eq_false_iff_eq.mpr c107
                               clear c107
                               obtain rfl := Option.some.inj H
                               go_wp2
                               go_ret
                               exact ⟨by first | rfl | (simp [errW_none, errW_some] <;> rfl) | (simp [*, errW_none, errW_some] <;> rfl), by repeat (first | (with_reducible first | exact HB.out | apply below_alloc | apply pw_below_drewN | apply below_drew1) | exact HB.out)⟩
                             · rw [if_neg c107] at H
                               have c107b0 : (t529 == t525) = false := beq_eq_false_iff_ne.mpr c107
                               have c107b1 : (t529 != t525) = true := bne_iff_ne.mpr c107
                               obtain rfl := Option.some.inj H
                               go_wp2
                               go_ret
                               exact ⟨by first | rfl | (simp [errW_none, errW_some] <;> rfl) | (simp [*, errW_none, errW_some] <;> rfl), by repeat (first | (with_reducible first | exact HB.out | apply below_alloc | apply pw_below_drewN | apply below_drew1) | exact HB.out)⟩
theorem laws_FnCurves.walk (P : laws_FnCurves.Pure) (a0 : Option Addr) (len0 cap0 : Nat) (z0 : List Int) (w : World) (w0 : (a0 = none ∧ len0 = 0 ∧ cap0 = 0 ∧ z0 = []) ∨ ∃ x, a0 = some x ∧ len0 ≤ cap0 ∧ cap0 ≤ maxLen ∧ z0.length = cap0 ∧ (∀ i, i < z0.length → w.cell? (x.add i) = some (.int .u8 (z0.getD i 0))) ∧ ∀ n ∈ z0, (Lit.int .u8 n).wf = true) (y0 : len0 * 1 ≤ 140737488351232) :
   Calls Try.prog 3 #[.slice a0 len0 cap0] w fun e w' => e = .returned (.bool true) ∧ Below w.heap.size w w' := by
 obtain ⟨l0, rfl, hr0, hm0, hw0, hc0⟩ := ReadsInt.ofRowC w0
 obtain ⟨k, h⟩ := P l0 hm0 y0 hw0
 refine (laws_FnCurves.calls k _ _ l0 true w (Kd.C_of_reads (d := (0 : Int)) (h1 := fun _ => rfl) hr0) hc0 h).mono ?_
 rintro e w' ⟨rfl, hd⟩
 exact ⟨rfl, hd⟩
end Go.Proofs.Ytphlgajlebgnbaa.P
/-! The plain side of the draws: each hands out a number in its range, and the source stays a source. -/
namespace Go.Proofs.Ytphlgajlebgnbaa.Q
open Go.RowKit Go.Proofs.Ytphlgajlebgnbaa.P Go.Proofs.YtphlgajlebgnbaaW.PrintWords Go.Proofs.YtphlgajlebgnbaaW.PrintLast
theorem u64_wrap (n : Int) : IntKind.u64.wrap n = n % 18446744073709551616 := by simp [IntKind.wrap, IntKind.bits, IntKind.signed]
theorem wraps_u64 (n : Int) (h0 : 0 ≤ n) (h1 : n < 2 ^ 64) : IntKind.u64.wrap n = n := by rw [u64_wrap]; omega
theorem w64 {n : Int} (h0 : -9223372036854775808 ≤ n) (h1 : n ≤ 9223372036854775807) : wrap64 n = n := by unfold wrap64; omega
theorem mask30 (x : Int) (h0 : 0 ≤ x) (h1 : x < 18446744073709551616) : bits .and .u64 x 1073741823 = x % 1073741824 := bits_mask .u64 64 (by decide) wraps_u64 30 (by decide) x h0 (by omega)
/-- A code: what draws are made of. -/
structure Code (c : List Int) : Prop where
  len : c.length ≤ 140737488351232
  byte : ∀ x ∈ c, 0 ≤ x ∧ x ≤ 255
structure Src (c : List Int) (a h : Int) : Prop where
  a0 : 0 ≤ a
  a1 : a ≤ c.length
  h0 : 0 ≤ h
  h1 : h < 18446744073709551616
theorem Code.at_ {c : List Int} (h : Code c) (i : Int) (h0 : 0 ≤ i) (h1 : i < c.length) : 0 ≤ rd c i ∧ rd c i ≤ 255 := by
  have hi : i.toNat < c.length := by omega
  have e : rd c i = c[i.toNat] := by simp [rd, hi]
  rw [e]
  exact h.byte _ (List.getElem_mem hi)
theorem from_src {c : List Int} (hc : Code c) : ∃ h, spec_l01From.f c = some (c, 0, h) ∧ Src c 0 h := by
  refine ⟨_, rfl, by omega, by omega, ?_, ?_⟩
  · unfold hashUpto
    rcases List.eq_nil_or_concat (c.take (min c.length 4096)) with e | ⟨l, x, e⟩
    · rw [e]; simp only [List.foldl_nil]; rw [u64_wrap]; omega
    · rw [e, List.concat_eq_append, List.foldl_append]; simp only [List.foldl_cons, List.foldl_nil, hashStep]; rw [u64_wrap]; omega
  · unfold hashUpto
    rcases List.eq_nil_or_concat (c.take (min c.length 4096)) with e | ⟨l, x, e⟩
    · rw [e]; simp only [List.foldl_nil]; rw [u64_wrap]; omega
    · rw [e, List.concat_eq_append, List.foldl_append]; simp only [List.foldl_cons, List.foldl_nil, hashStep]; rw [u64_wrap]; omega
theorem next_src {c : List Int} (hc : Code c) {a h : Int} (s : Src c a h) (n : Int) (hn : n ≤ 9223372036854775807) :
    ∃ v a' h', spec_l01Next.f c a h n = some (v, a', h') ∧ Src c a' h' ∧ 0 ≤ v ∧ (1 ≤ n → v < n) ∧ (n < 1 → v = 0) := by
  obtain ⟨a0, a1, h0, h1⟩ := s
  unfold spec_l01Next.f
  by_cases hn1 : n < 1
  · rw [if_pos hn1]
    exact ⟨0, a, h, rfl, ⟨a0, a1, h0, h1⟩, by omega, by omega, fun _ => rfl⟩
  · rw [if_neg hn1]
    obtain ⟨g, hg⟩ : ∃ g, g = IntKind.u64.wrap ((IntKind.u64.wrap (h * 6364136223846793005)) + 1442695040888963407) := ⟨_, rfl⟩
    rw [← hg]
    have g0 : 0 ≤ g ∧ g < 18446744073709551616 := by rw [hg, u64_wrap]; omega
    clear hg
    obtain ⟨g0, g1⟩ := g0
    have hm := mask30 (g / 2147483648) (by omega) (by omega)
    have hq : 0 ≤ g / 2147483648 % 1073741824 ∧ g / 2147483648 % 1073741824 < 1073741824 := by omega
    obtain ⟨q, hqe⟩ : ∃ q, q = g / 2147483648 % 1073741824 := ⟨_, rfl⟩
    rw [hm, ← hqe]
    rw [← hqe] at hq
    clear hm hqe
    have hz : ¬ n = 0 := by omega
    by_cases ha : a < (c.length : Int)
    · rw [if_pos ha, if_pos a0, if_neg hz]
      obtain ⟨b0, b1⟩ := hc.at_ a a0 ha
      have hl := hc.len
      rw [w64 (n := q) (by omega) (by omega), w64 (n := rd c a) (by omega) (by omega), w64 (n := q + rd c a) (by omega) (by omega), w64 (n := a + 1) (by omega) (by omega)]
      rw [Int.tmod_eq_emod_of_nonneg (by omega)]
      exact ⟨_, _, _, rfl, ⟨by omega, by omega, g0, g1⟩, Int.emod_nonneg _ hz, fun _ => Int.emod_lt_of_pos _ (by omega), by omega⟩
    · rw [if_neg ha, if_neg hz, w64 (n := q) (by omega) (by omega), Int.tmod_eq_emod_of_nonneg (by omega)]
      exact ⟨_, _, _, rfl, ⟨a0, a1, g0, g1⟩, Int.emod_nonneg _ hz, fun _ => Int.emod_lt_of_pos _ (by omega), by omega⟩
theorem pick_src {c : List Int} (hc : Code c) {a h : Int} (s : Src c a h) (l : List Int) (hl : 0 < l.length) (hl2 : l.length ≤ 1000) :
    ∃ v a' h', spec_l01Pick.f c a h l = some (v, a', h') ∧ Src c a' h' ∧ v ∈ l := by
  obtain ⟨v, a', h', e, s', v0, v1, _⟩ := next_src hc s (l.length : Int) (by omega)
  have hv := v1 (by omega)
  unfold spec_l01Pick.f
  rw [e]
  simp only [Option.bind_some]
  rw [if_pos v0, if_pos hv]
  refine ⟨_, _, _, rfl, s', ?_⟩
  have hi : v.toNat < l.length := by omega
  have e : rd l v = l[v.toNat] := by simp [rd, hi]
  rw [e]
  exact List.getElem_mem hi
theorem near_src {c : List Int} (hc : Code c) {a h : Int} (s : Src c a h) (n : Int) (h0 : 0 ≤ n) (hn : n ≤ 1000000) :
    ∃ v a' h', spec_l01Near.f c a h n = some (v, a', h') ∧ Src c a' h' ∧ -4611686018427387904 ≤ v ∧ v ≤ 1099511627776 := by
  obtain ⟨v, a', h', e, s', v0, v1, _⟩ := next_src hc s 14 (by omega)
  unfold spec_l01Near.f
  rw [e]
  simp only [Option.bind_some]
  rw [w64 (n := n + 1) (by omega) (by omega)]
  by_cases hv : v = 0
  · rw [if_pos hv]
    obtain ⟨u, a2, h2, e2, s2, hu⟩ := pick_src hc s' [(-1), n + 1, 1099511627776, (-4611686018427387904)] (by simp) (by simp)
    rw [e2]
    refine ⟨_, _, _, rfl, s2, ?_⟩
    simp at hu
    omega
  · rw [if_neg hv]
    obtain ⟨u, a2, h2, e2, s2, hu, hu2, _⟩ := next_src hc s' (n + 1) (by omega)
    rw [e2]
    exact ⟨_, _, _, rfl, s2, by omega, by have := hu2 (by omega); omega⟩
def primes : List Int := [3, 5, 7, 11, 13, 17, 19, 23, 29, 31, 37, 41, 43, 47, 53, 59, 61]
theorem prime_src {c : List Int} (hc : Code c) {a h : Int} (s : Src c a h) :
    ∃ v a' h', spec_l08Prime.f c a h = some (v, a', h') ∧ Src c a' h' ∧ 2 ≤ v ∧ v ≤ 67 := by
  unfold spec_l08Prime.f spec_l06Primes.f
  simp only [Option.bind_some]
  obtain ⟨v, a', h', e, s', v0, v1, _⟩ := next_src hc s 30 (by omega)
  rw [e]
  simp only [Option.bind_some]
  by_cases hv : v = 0
  · rw [if_pos hv]
    obtain ⟨u, a2, h2, e2, s2, hu⟩ := pick_src hc s' [2, 15, 67] (by simp) (by simp)
    rw [e2]
    refine ⟨_, _, _, rfl, s2, ?_⟩
    simp at hu
    omega
  · rw [if_neg hv]
    obtain ⟨u, a2, h2, e2, s2, hu⟩ := pick_src hc s' [6, 17] (by simp) (by simp)
    rw [e2]
    simp only [Option.bind_some]
    obtain ⟨t, a3, h3, e3, s3, t0, t1, _⟩ := next_src hc s2 u (by simp at hu; omega)
    rw [e3]
    simp only [Option.bind_some]
    have ht : t < 17 := by simp at hu; have := t1 (by omega); omega
    rw [if_pos t0, if_pos (by simpa using ht)]
    refine ⟨_, _, _, rfl, s3, ?_⟩
    have hb : ∀ i : Nat, i < 17 → 2 ≤ ([3, 5, 7, 11, 13, 17, 19, 23, 29, 31, 37, 41, 43, 47, 53, 59, 61] : List Int).getD i 0 ∧ ([3, 5, 7, 11, 13, 17, 19, 23, 29, 31, 37, 41, 43, 47, 53, 59, 61] : List Int).getD i 0 ≤ 67 := by decide
    exact hb t.toNat (by omega)
end Go.Proofs.Ytphlgajlebgnbaa.Q
/-! Plain sums over 0, .., n - 1; tables; counted sums of residues. -/
namespace Go.Proofs.Ytphlgajlebgnbaa.Q
open Go.Proofs.YtphlgajlebgnbaaW.PrintWords
def sumTo : Nat → (Nat → Int) → Int
  | 0, _ => 0
  | n + 1, f => sumTo n f + f n
theorem sumTo_congr {n : Nat} {f g : Nat → Int} (h : ∀ i, i < n → f i = g i) : sumTo n f = sumTo n g := by
  induction n with
  | zero => rfl
  | succ n ih => simp only [sumTo]; rw [ih (fun i hi => h i (by omega)), h n (by omega)]
theorem sumTo_add (n : Nat) (f g : Nat → Int) : sumTo n (fun i => f i + g i) = sumTo n f + sumTo n g := by
  induction n with
  | zero => rfl
  | succ n ih => simp only [sumTo]; rw [ih]; omega
theorem sumTo_mul (n : Nat) (a : Int) (f : Nat → Int) : sumTo n (fun i => a * f i) = a * sumTo n f := by
  induction n with
  | zero => simp [sumTo]
  | succ n ih => simp only [sumTo]; rw [ih, Int.mul_add]
theorem sumTo_mul' (n : Nat) (a : Int) (f : Nat → Int) : sumTo n (fun i => f i * a) = sumTo n f * a := by
  rw [Int.mul_comm, ← sumTo_mul]; exact sumTo_congr fun i _ => Int.mul_comm _ _
theorem sumTo_zero (n : Nat) : sumTo n (fun _ => 0) = 0 := by
  induction n with
  | zero => rfl
  | succ n ih => simp only [sumTo]; rw [ih]; rfl
theorem sumTo_const (n : Nat) (a : Int) : sumTo n (fun _ => a) = n * a := by
  induction n with
  | zero => simp [sumTo]
  | succ n ih => simp only [sumTo]; rw [ih, Int.natCast_succ, Int.add_mul, Int.one_mul]
theorem sumTo_comm (n m : Nat) (f : Nat → Nat → Int) : sumTo n (fun i => sumTo m (fun j => f i j)) = sumTo m (fun j => sumTo n (fun i => f i j)) := by
  induction n with
  | zero => simp only [sumTo]; rw [sumTo_zero]
  | succ n ih => simp only [sumTo]; rw [ih, sumTo_add]
theorem sumTo_le {n : Nat} {f g : Nat → Int} (h : ∀ i, i < n → f i ≤ g i) : sumTo n f ≤ sumTo n g := by
  induction n with
  | zero => exact Int.le_refl _
  | succ n ih => simp only [sumTo]; have := ih (fun i hi => h i (by omega)); have := h n (by omega); omega
theorem sumTo_nonneg {n : Nat} {f : Nat → Int} (h : ∀ i, i < n → 0 ≤ f i) : 0 ≤ sumTo n f := by
  have := sumTo_le (f := fun _ => 0) (g := f) h
  rwa [sumTo_zero] at this
theorem sumTo_mono {n m : Nat} {f : Nat → Int} (hnm : n ≤ m) (h : ∀ i, i < m → 0 ≤ f i) : sumTo n f ≤ sumTo m f := by
  induction m with
  | zero => obtain rfl : n = 0 := by omega
            exact Int.le_refl _
  | succ m ih =>
    rcases Nat.lt_or_ge n (m + 1) with h1 | h1
    · have := ih (by omega) (fun i hi => h i (by omega)); have := h m (by omega); simp only [sumTo]; omega
    · obtain rfl : n = m + 1 := by omega
      exact Int.le_refl _
theorem sumTo_ge {n : Nat} {f : Nat → Int} (h : ∀ i, i < n → 0 ≤ f i) (j : Nat) (hj : j < n) : f j ≤ sumTo n f := by
  have h1 := sumTo_mono (n := j + 1) (m := n) (by omega) h
  have h2 := sumTo_nonneg (n := j) (fun i hi => h i (by omega))
  simp only [sumTo] at h1
  omega
/-- A sum of which just one place is met. -/
theorem sumTo_one {n : Nat} {f : Nat → Int} (j : Nat) (h : ∀ i, i < n → i ≠ j → f i = 0) : sumTo n f = if j < n then f j else 0 := by
  induction n with
  | zero => simp [sumTo]
  | succ n ih =>
    simp only [sumTo]
    rw [ih (fun i hi hne => h i (by omega) hne)]
    by_cases h1 : n = j
    · subst h1; rw [if_neg (by omega), if_pos (by omega)]; omega
    · rw [h n (by omega) h1]
      by_cases h2 : j < n
      · rw [if_pos h2, if_pos (by omega)]; omega
      · rw [if_neg h2, if_neg (by omega)]; rfl
/-! Tables. -/
def tab (p : Nat) (F : Nat → Int) : List Int := (List.range p).map F
theorem tab_length (p : Nat) (F : Nat → Int) : (tab p F).length = p := by simp [tab]
theorem tab_congr {p : Nat} {F G : Nat → Int} (h : ∀ i, i < p → F i = G i) : tab p F = tab p G := by
  apply List.ext_getElem
  · simp [tab]
  · intro i h1 h2; simp [tab]; exact h i (by simpa [tab] using h1)
theorem tab_rd (p : Nat) (F : Nat → Int) (i : Nat) (h : i < p) : rd (tab p F) (i : Int) = F i := by simp [rd, tab, h]
theorem tab_rdI (p : Nat) (F : Nat → Int) (i : Int) (h0 : 0 ≤ i) (h : i < p) : rd (tab p F) i = F i.toNat := by
  have : i.toNat < p := by omega
  simp [rd, tab, this]
theorem tab_zero (p : Nat) : List.replicate p (0 : Int) = tab p (fun _ => 0) := by
  apply List.ext_getElem
  · simp [tab]
  · intro i h1 h2; simp [tab]
theorem tab_set (p : Nat) (F : Nat → Int) (j : Nat) (v : Int) : (tab p F).set j v = tab p (fun c => if c = j then v else F c) := by
  apply List.ext_getElem
  · simp [tab]
  · intro i h1 h2
    rw [List.getElem_set]
    simp only [tab, List.getElem_map, List.getElem_range]
    by_cases h : j = i
    · subst h; simp
    · rw [if_neg h, if_neg (fun e => h e.symm)]
theorem tab_of (l : List Int) : l = tab l.length (fun i => rd l i) := by
  apply List.ext_getElem
  · simp [tab]
  · intro i h1 h2; simp [tab, rd, h1]
/-! Convolutions of functions of residues. -/
/-- The place that makes c with v. -/
def back (p c v : Nat) : Nat := (c + p - v) % p
theorem back_lt {p c v : Nat} (hp : 0 < p) : back p c v < p := Nat.mod_lt _ hp
theorem back_iff {p c v s : Nat} (hc : c < p) (hv : v < p) (hs : s < p) : (s + v) % p = c ↔ s = back p c v := by
  unfold back
  have e1 : (s + v) % p = if s + v < p then s + v else s + v - p := by
    by_cases h : s + v < p
    · rw [if_pos h, Nat.mod_eq_of_lt h]
    · rw [if_neg h, Nat.mod_eq_sub_mod (by omega), Nat.mod_eq_of_lt (by omega)]
  have e2 : (c + p - v) % p = if c + p - v < p then c + p - v else c + p - v - p := by
    by_cases h : c + p - v < p
    · rw [if_pos h, Nat.mod_eq_of_lt h]
    · rw [if_neg h, Nat.mod_eq_sub_mod (by omega), Nat.mod_eq_of_lt (by omega)]
  rw [e1, e2]
  split <;> split <;> omega
def conv (p : Nat) (f g : Nat → Int) (c : Nat) : Int := sumTo p fun v => g v * f (back p c v)
theorem conv_inner {p c v i : Nat} (hc : c < p) (hv : v < p) (hi : i ≤ p) (h : Nat → Int) : sumTo i (fun s => if (s + v) % p = c then h s else 0) = if back p c v < i then h (back p c v) else 0 := by
  rw [sumTo_one (back p c v) (fun s hs hne => by rw [if_neg (fun e => hne ((back_iff hc hv (by omega)).mp e))])]
  by_cases hb : back p c v < i
  · rw [if_pos hb, if_pos hb, if_pos ((back_iff hc hv (back_lt (by omega))).mpr rfl)]
  · rw [if_neg hb, if_neg hb]
theorem conv_double {p c : Nat} (hc : c < p) (f g : Nat → Int) : conv p f g c = sumTo p fun v => sumTo p fun s => if (s + v) % p = c then g v * f s else 0 := by
  unfold conv
  refine sumTo_congr fun v hv => ?_
  rw [conv_inner hc hv (Nat.le_refl _) (fun s => g v * f s), if_pos (back_lt (by omega))]
theorem conv_comm {p c : Nat} (hc : c < p) (f g : Nat → Int) : conv p f g c = conv p g f c := by
  rw [conv_double hc, conv_double hc, sumTo_comm]
  refine sumTo_congr fun v hv => sumTo_congr fun s hs => ?_
  rw [Nat.add_comm v s, Int.mul_comm]
theorem conv_congr {p : Nat} {f f' g g' : Nat → Int} (hf : ∀ i, i < p → f i = f' i) (hg : ∀ i, i < p → g i = g' i) (c : Nat) : conv p f g c = conv p f' g' c := by
  unfold conv
  refine sumTo_congr fun v hv => ?_
  rw [hg v hv, hf _ (back_lt (by omega))]
/-- The total of a convolution is the product of the totals. -/
theorem conv_total (p : Nat) (f g : Nat → Int) : sumTo p (conv p f g) = sumTo p f * sumTo p g := by
  have e : sumTo p (conv p f g) = sumTo p fun c => sumTo p fun v => sumTo p fun s => if (s + v) % p = c then g v * f s else 0 := sumTo_congr fun c hc => conv_double hc f g
  rw [e, sumTo_comm]
  rw [← sumTo_mul]
  refine sumTo_congr fun v hv => ?_
  rw [sumTo_comm, ← sumTo_mul']
  refine sumTo_congr fun s hs => ?_
  rw [sumTo_one ((s + v) % p) (fun c hc hne => by rw [if_neg (fun e => hne e.symm)]), if_pos (Nat.mod_lt _ (by omega)), if_pos rfl, Int.mul_comm]
theorem conv_le {p : Nat} {f f' g g' : Nat → Int} (hf : ∀ i, i < p → 0 ≤ f i ∧ f i ≤ f' i) (hg : ∀ i, i < p → 0 ≤ g i ∧ g i ≤ g' i) (c : Nat) (hp : 0 < p) : 0 ≤ conv p f g c ∧ conv p f g c ≤ conv p f' g' c := by
  constructor
  · exact sumTo_nonneg fun v hv => Int.mul_nonneg (hg v hv).1 (hf _ (back_lt hp)).1
  · refine sumTo_le fun v hv => ?_
    have h1 := hg v hv
    have h2 := hf _ (back_lt (c := c) (v := v) hp)
    exact Int.mul_le_mul h1.2 h2.2 h2.1 (by omega)
end Go.Proofs.Ytphlgajlebgnbaa.Q
