/- This text was put together by a session out of texts that its own programs and the print tool wrote. -/
import Derived.Test.YtmjfaagifijmlaaK7
set_option linter.unusedVariables false
set_option linter.unusedSimpArgs false
namespace Go.Proofs.Ytmjfaagifijmlaa.P
open Go.RowKit Go.Proofs.YtmjfaagifijmlaaW.PrintWords Go.Proofs.YtmjfaagifijmlaaW.PrintLast Go.Proofs.YtmjfaagifijmlaaW.PrintMore
attribute [local go_sem] max2_int min2_int max_two min_two max_three min_three max_four min_four   -- for this text's walks alone
set_option linter.unusedVariables false
set_option linter.unusedSimpArgs false
set_option maxHeartbeats 8000000 in
set_option maxRecDepth 100000 in
theorem laws_FnSolutions.calls (k : Nat) (A0 : Option Addr) (c0 : Nat) (l0 : List Int) (r : Bool) (w : World) (hr0 : Kd.C (Kd.int .u8) w A0 l0.length l0) (hc0 : l0.length ≤ c0) (h : laws_FnSolutions.f k l0 = some r) :
   Calls Try.prog 10 #[.slice A0 l0.length c0] w fun e w' => e = .returned (.bool r) ∧ Below w.heap.size w w' := by
 have HR0 := Aside0.mk hr0
 have HC0 := Aside0.mk hc0
 clear hr0 hc0
 have HB := Aside0.mk (Below.refl w.heap.size w)
 have H : ((laws_big.f l0).bind fun t2598 => (if t2598 = true then (some true) else ((spec_DrawCountSolutions.f k l0).bind fun bt2599 => ((impl_CountSolutions.f k bt2599.1 bt2599.2.1 bt2599.2.2.1 bt2599.2.2.2).bind fun bt2607 => ((spec_CountSolutions.f k bt2599.1 bt2599.2.1 bt2599.2.2.1 bt2599.2.2.2).bind fun bt2609 => (if bt2607.2 = bt2609.2 then (laws_FnSolutions.j0 k l0 bt2599.1 bt2599.2.1 bt2599.2.2.1 bt2599.2.2.2 bt2607.1 bt2607.2 (bt2607.1 != bt2609.1)) else (laws_FnSolutions.j0 k l0 bt2599.1 bt2599.2.1 bt2599.2.2.1 bt2599.2.2.2 bt2607.1 bt2607.2 true))))))) = some r := h
 clear h
 replace H := Option.bind_eq_some_iff.mp H
 obtain ⟨t2598, A20, H⟩ := H
 replace H : (if t2598 = true then (some true) else ((spec_DrawCountSolutions.f k l0).bind fun bt2599 => ((impl_CountSolutions.f k bt2599.1 bt2599.2.1 bt2599.2.2.1 bt2599.2.2.2).bind fun bt2607 => ((spec_CountSolutions.f k bt2599.1 bt2599.2.1 bt2599.2.2.1 bt2599.2.2.2).bind fun bt2609 => (if bt2607.2 = bt2609.2 then (laws_FnSolutions.j0 k l0 bt2599.1 bt2599.2.1 bt2599.2.2.1 bt2599.2.2.2 bt2607.1 bt2607.2 (bt2607.1 != bt2609.1)) else (laws_FnSolutions.j0 k l0 bt2599.1 bt2599.2.1 bt2599.2.2.1 bt2599.2.2.2 bt2607.1 bt2607.2 true)))))) = some r := H
 have A2 := Aside0.mk A20
 clear A20
 by_cases c3 : t2598 = true
 · subst c3
   have H1 : (some true) = some r := by rw [if_pos rfl] at H; exact H
   clear H
   have H := H1
   clear H1
   obtain rfl := Option.some.inj H
   go_enter Try.func10, Try.ntmps10
   go_wp2_with (first | ((with_reducible refine gate_callee (f := 12) rfl ?_); refine goesL_ (some 46) rfl rfl Try.func12 (by kernel_rfl) rfl #[.slice A0 l0.length c0] rfl (by (try simp only [List.map_toArray, List.map_cons, List.map_nil]); first | done | rfl | (simp only [List.length_drop, List.length_take]; rfl)) ?_; (with_reducible refine (laws_big.calls _ _ l0 true _ ?side1 ?side2 A2.out).mono ?_); (case side1 => repeat (first | exact HR0.out | (with_reducible refine Kd.C_alloc ?_ _) | (with_reducible refine Kd.C_drewN ?_ _) | (with_reducible refine Kd.C_drew ?_))); (case side2 => exact HC0.out); rintro e w' ⟨rfl, ⟨nd, rfl⟩⟩; refine ⟨_, rfl, ?_⟩))
   go_ret
   exact ⟨by first | rfl | (simp [errW_none, errW_some] <;> rfl) | (simp [*, errW_none, errW_some] <;> rfl), by repeat (first | (with_reducible first | exact HB.out | apply below_alloc | apply pw_below_drewN | apply below_drew1) | exact HB.out)⟩
 · replace c3 := Bool.eq_false_iff.mpr c3
   subst c3
   have H1 : ((spec_DrawCountSolutions.f k l0).bind fun bt2599 => ((impl_CountSolutions.f k bt2599.1 bt2599.2.1 bt2599.2.2.1 bt2599.2.2.2).bind fun bt2607 => ((spec_CountSolutions.f k bt2599.1 bt2599.2.1 bt2599.2.2.1 bt2599.2.2.2).bind fun bt2609 => (if bt2607.2 = bt2609.2 then (laws_FnSolutions.j0 k l0 bt2599.1 bt2599.2.1 bt2599.2.2.1 bt2599.2.2.2 bt2607.1 bt2607.2 (bt2607.1 != bt2609.1)) else (laws_FnSolutions.j0 k l0 bt2599.1 bt2599.2.1 bt2599.2.2.1 bt2599.2.2.2 bt2607.1 bt2607.2 true))))) = some r := by rw [if_neg (show ¬ (false = true) by decide)] at H; exact H
   clear H
   have H := H1
   clear H1
   replace H := Option.bind_eq_some_iff.mp H
   obtain ⟨⟨t2599, t2600, t2601, t2602⟩, A40, H⟩ := H
   replace H : ((impl_CountSolutions.f k t2599 t2600 t2601 t2602).bind fun bt2607 => ((spec_CountSolutions.f k t2599 t2600 t2601 t2602).bind fun bt2609 => (if bt2607.2 = bt2609.2 then (laws_FnSolutions.j0 k l0 t2599 t2600 t2601 t2602 bt2607.1 bt2607.2 (bt2607.1 != bt2609.1)) else (laws_FnSolutions.j0 k l0 t2599 t2600 t2601 t2602 bt2607.1 bt2607.2 true)))) = some r := H
   have A4 := Aside0.mk A40
   clear A40
   replace H := Option.bind_eq_some_iff.mp H
   obtain ⟨⟨t2607, t2608⟩, A50, H⟩ := H
   replace H : ((spec_CountSolutions.f k t2599 t2600 t2601 t2602).bind fun bt2609 => (if t2608 = bt2609.2 then (laws_FnSolutions.j0 k l0 t2599 t2600 t2601 t2602 t2607 t2608 (t2607 != bt2609.1)) else (laws_FnSolutions.j0 k l0 t2599 t2600 t2601 t2602 t2607 t2608 true))) = some r := H
   have A5 := Aside0.mk A50
   clear A50
   replace H := Option.bind_eq_some_iff.mp H
   obtain ⟨⟨t2609, t2610⟩, A60, H⟩ := H
   replace H : (if t2608 = t2610 then (laws_FnSolutions.j0 k l0 t2599 t2600 t2601 t2602 t2607 t2608 (t2607 != t2609)) else (laws_FnSolutions.j0 k l0 t2599 t2600 t2601 t2602 t2607 t2608 true)) = some r := H
   have A6 := Aside0.mk A60
   clear A60
   have HC7 := Aside0.mk H
   clear H
   go_enter Try.func10, Try.ntmps10
   go_upto_region 6 with (first | ((with_reducible refine gate_callee (f := 12) rfl ?_); refine goesL_ (some 46) rfl rfl Try.func12 (by kernel_rfl) rfl #[.slice A0 l0.length c0] rfl (by (try simp only [List.map_toArray, List.map_cons, List.map_nil]); first | done | rfl | (simp only [List.length_drop, List.length_take]; rfl)) ?_; (with_reducible refine (laws_big.calls _ _ l0 false _ ?side1 ?side2 A2.out).mono ?_); (case side1 => repeat (first | exact HR0.out | (with_reducible refine Kd.C_alloc ?_ _) | (with_reducible refine Kd.C_drewN ?_ _) | (with_reducible refine Kd.C_drew ?_))); (case side2 => exact HC0.out); rintro e w' ⟨rfl, ⟨nd, rfl⟩⟩; refine ⟨_, rfl, ?_⟩) | ((with_reducible refine gate_callee (f := 115) rfl ?_); refine goesL_ (some 49) rfl rfl Try.func115 (by kernel_rfl) rfl #[.slice A0 l0.length c0] rfl (by (try simp only [List.map_toArray, List.map_cons, List.map_nil]); first | done | rfl | (simp only [List.length_drop, List.length_take]; rfl)) ?_; (with_reducible refine (spec_DrawCountSolutions.calls k _ _ l0 t2599 t2600 t2601 t2602 _ ?side1 ?side2 A4.out).mono ?_); (case side1 => repeat (first | exact HR0.out | (with_reducible refine Kd.C_alloc ?_ _) | (with_reducible refine Kd.C_drewN ?_ _) | (with_reducible refine Kd.C_drew ?_))); (case side2 => exact HC0.out); rintro e w8 ⟨v2603, v2605, rfl, ho0, ho1, hb⟩; refine ⟨_, rfl, ?_⟩; have n0_ := Aside0.mk (Kd.Q_lower ho0 (below_size (by repeat (first | (with_reducible first | exact HB.out | apply below_alloc | apply pw_below_drewN | apply below_drew1) | exact HB.out)))); have n1_ := Aside0.mk (Kd.R_lower ho1 (below_size (by repeat (first | (with_reducible first | exact HB.out | apply below_alloc | apply pw_below_drewN | apply below_drew1) | exact HB.out)))); have n2_ := Aside0.mk (below_step (by repeat (first | (with_reducible first | exact HB.out | apply below_alloc | apply pw_below_drewN | apply below_drew1) | exact HB.out)) hb); clear HB; have HO2604 := n0_; have HO2606 := n1_; have HB := n2_; clear n0_ n1_ n2_; (try clear hb); (try clear hb2); (try clear hk); (try clear hi); (try clear ho0); (try clear ho1); obtain ⟨Ao9, co9, eo9, _⟩ := Kd.Q_slice HO2604.out; subst eo9; obtain ⟨Ao10, co10, eo10⟩ := Kd.R_slice HO2606.out; subst eo10) | ((with_reducible refine gate_callee (f := 61) rfl ?_); refine goesL_ (some 59) rfl rfl Try.func61 (by kernel_rfl) rfl #[.int .i64 t2599, .slice Ao9 t2600.length co9, .slice Ao10 t2601.length co10, .int .i64 t2602] rfl (by (try simp only [List.map_toArray, List.map_cons, List.map_nil]); first | done | rfl | (simp only [List.length_drop, List.length_take]; rfl)) ?_; (with_reducible refine (impl_CountSolutions.calls k t2599 _ _ t2600 _ _ t2601 t2602 t2607 t2608 _ ?side1 ?side2 ?side3 ?side4 A5.out).mono ?_); (case side1 => repeat (first | exact (Kd.Q_reads' HO2604.out).2.2 | (with_reducible refine Kd.C_alloc ?_ _) | (with_reducible refine Kd.C_drewN ?_ _) | (with_reducible refine Kd.C_drew ?_))); (case side2 => exact (Kd.Q_reads' HO2604.out).2.1); (case side3 => repeat (first | exact (Kd.R_reads' HO2606.out).2.2 | (with_reducible refine Kd.C_alloc ?_ _) | (with_reducible refine Kd.C_drewN ?_ _) | (with_reducible refine Kd.C_drew ?_))); (case side4 => exact (Kd.R_reads' HO2606.out).2.1); rintro e w11 ⟨rfl, hb⟩; refine ⟨_, rfl, ?_⟩; have n0_ := Aside0.mk (Kd.Q_below (by (with_reducible repeat (first | apply Kd.Q_alloc | apply Kd.Q_drewN | apply Kd.Q_drew)); exact HO2604.out) hb); have n1_ := Aside0.mk (Kd.R_below (by (with_reducible repeat (first | apply Kd.R_alloc | apply Kd.R_drewN | apply Kd.R_drew)); exact HO2606.out) hb); have n2_ := Aside0.mk (below_step (by repeat (first | (with_reducible first | exact HB.out | apply below_alloc | apply pw_below_drewN | apply below_drew1) | exact HB.out)) hb); clear HO2604; clear HO2606; clear HB; have HO2604 := n0_; have HO2606 := n1_; have HB := n2_; clear n0_ n1_ n2_; (try clear hb); (try clear hb2); (try clear hk); (try clear hi)) | ((with_reducible refine gate_callee (f := 116) rfl ?_); refine goesL_ (some 67) rfl rfl Try.func116 (by kernel_rfl) rfl #[.int .i64 t2599, .slice Ao9 t2600.length co9, .slice Ao10 t2601.length co10, .int .i64 t2602] rfl (by (try simp only [List.map_toArray, List.map_cons, List.map_nil]); first | done | rfl | (simp only [List.length_drop, List.length_take]; rfl)) ?_; (with_reducible refine (spec_CountSolutions.calls k t2599 _ _ t2600 _ _ t2601 t2602 t2609 t2610 _ ?side1 ?side2 ?side3 ?side4 A6.out).mono ?_); (case side1 => repeat (first | exact (Kd.Q_reads' HO2604.out).2.2 | (with_reducible refine Kd.C_alloc ?_ _) | (with_reducible refine Kd.C_drewN ?_ _) | (with_reducible refine Kd.C_drew ?_))); (case side2 => exact (Kd.Q_reads' HO2604.out).2.1); (case side3 => repeat (first | exact (Kd.R_reads' HO2606.out).2.2 | (with_reducible refine Kd.C_alloc ?_ _) | (with_reducible refine Kd.C_drewN ?_ _) | (with_reducible refine Kd.C_drew ?_))); (case side4 => exact (Kd.R_reads' HO2606.out).2.1); rintro e w12 ⟨rfl, hb⟩; refine ⟨_, rfl, ?_⟩; have n0_ := Aside0.mk (Kd.Q_below (by (with_reducible repeat (first | apply Kd.Q_alloc | apply Kd.Q_drewN | apply Kd.Q_drew)); exact HO2604.out) hb); have n1_ := Aside0.mk (Kd.R_below (by (with_reducible repeat (first | apply Kd.R_alloc | apply Kd.R_drewN | apply Kd.R_drew)); exact HO2606.out) hb); have n2_ := Aside0.mk (below_step (by repeat (first | (with_reducible first | exact HB.out | apply below_alloc | apply pw_below_drewN | apply below_drew1) | exact HB.out)) hb); clear HO2604; clear HO2606; clear HB; have HO2604 := n0_; have HO2606 := n1_; have HB := n2_; clear n0_ n1_ n2_; (try clear hb); (try clear hb2); (try clear hk); (try clear hi)))
   (try simp only [Act.put, List.setIfInBounds_toArray, List.set_cons_zero, List.set_cons_succ])
   go_cut [77] (fun v77 wc => ∃ (kq : Nat) (x77_6 : Bool), v77 = .bool x77_6 ∧ Aside0 (laws_FnSolutions.j0 kq l0 t2599 t2600 t2601 t2602 t2607 t2608 x77_6 = some r) ∧ Aside0 (kq ≤ k) ∧ Aside0 (Kd.Q (Kd.int .i64) 2 wc w.heap.size (fun k_ => some k_ ≠ ((.slice Ao10 t2601.length co10) : Value).ownBlock) (.slice Ao9 t2600.length co9) t2600) ∧ Aside0 (Kd.R (Kd.int .i64) 2 wc w.heap.size (fun k_ => some k_ ≠ ((.slice Ao9 t2600.length co9) : Value).ownBlock) (.slice Ao10 t2601.length co10) t2601) ∧ Aside0 (Below w.heap.size w wc))
   case first =>
    as_aux_lemma =>
    have H := HC7.out
    clear HC7
    by_cases c13 : t2608 = t2610
    · rw [if_pos c13] at H
      have c13b0 : (t2608 == t2610) = true := beq_iff_eq.mpr c13
      have c13b1 : (t2608 != t2610) = false := bne_eq_false_iff_eq.mpr c13
      clear c13
      (first | rw [c13b0] | (simp only [i64_w, i32_w]; rw [c13b0]) | rw [c13b2] | simp only [c13b2] | skip)
      have H' := Aside0.mk H
      clear H
      go_wp2
      go_meet
      case rel => exact ⟨_, ((t2607 != t2609)), (by first | rfl | (simp; done) | (simp [*]; done)), H', ⟨by first | omega | exact Nat.le_refl _⟩, ⟨by (with_reducible repeat (first | apply Kd.Q_alloc | apply Kd.Q_drewN | apply Kd.Q_drew)); exact HO2604.out⟩, ⟨by (with_reducible repeat (first | apply Kd.R_alloc | apply Kd.R_drewN | apply Kd.R_drew)); exact HO2606.out⟩, ⟨by repeat (first | (with_reducible first | exact HB.out | apply below_alloc | apply pw_below_drewN | apply below_drew1) | exact HB.out)⟩⟩
    · rw [if_neg c13] at H
      have c13b0 : (t2608 == t2610) = false := beq_eq_false_iff_ne.mpr c13
      have c13b1 : (t2608 != t2610) = true := bne_iff_ne.mpr c13
      (first | rw [c13b0] | (simp only [i64_w, i32_w]; rw [c13b0]) | rw [c13b2] | simp only [c13b2] | skip)
      have H' := Aside0.mk H
      clear H
      go_wp2
      go_meet
      case rel => exact ⟨_, (true), (by first | rfl | (simp; done) | (simp [*]; done)), H', ⟨by first | omega | exact Nat.le_refl _⟩, ⟨by (with_reducible repeat (first | apply Kd.Q_alloc | apply Kd.Q_drewN | apply Kd.Q_drew)); exact HO2604.out⟩, ⟨by (with_reducible repeat (first | apply Kd.R_alloc | apply Kd.R_drewN | apply Kd.R_drew)); exact HO2606.out⟩, ⟨by repeat (first | (with_reducible first | exact HB.out | apply below_alloc | apply pw_below_drewN | apply below_drew1) | exact HB.out)⟩⟩
   case rest =>
   as_aux_lemma =>
   clear HC7
   try clear c1
   try clear p2
   try clear c3
   try clear c6
   try clear c10
   try clear c11
   try clear c12
   try clear c13
   try clear c13b0
   try clear c13b1
   try clear c13b2
   obtain ⟨kq, x77_6, rfl, HA, HJ6, HO_4, HO_5, HB⟩ := hcut
   cases kq with
   | zero => exact absurd HA.out (by simp [laws_FnSolutions.j0])
   | succ kj6 =>
    have H := HA.out
    clear HA
    simp only [laws_FnSolutions.j0] at H
    by_cases c14 : x77_6 = true
    · subst c14
      have H1 : (some false) = some r := by rw [if_pos rfl] at H; exact H
      clear H
      have H := H1
      clear H1
      obtain rfl := Option.some.inj H
      go_wp2
      go_ret
      exact ⟨by first | rfl | (simp [errW_none, errW_some] <;> rfl) | (simp [*, errW_none, errW_some] <;> rfl), by repeat (first | (with_reducible first | exact HB.out | apply below_alloc | apply pw_below_drewN | apply below_drew1) | exact HB.out)⟩
    · replace c14 := Bool.eq_false_iff.mpr c14
      subst c14
      have H1 : ((impl_CountFull.f kj6 t2599 t2600 t2601 t2602).bind fun bt2611 => ((spec_CountFull.f kj6 t2599 t2600 t2601 t2602).bind fun bt2613 => (if bt2611.2 = bt2613.2 then (laws_FnSolutions.j1 kj6 l0 t2599 t2600 t2601 t2607 t2608 bt2611.1 bt2611.2 (bt2611.1 != bt2613.1)) else (laws_FnSolutions.j1 kj6 l0 t2599 t2600 t2601 t2607 t2608 bt2611.1 bt2611.2 true)))) = some r := by rw [if_neg (show ¬ (false = true) by decide)] at H; exact H
      clear H
      have H := H1
      clear H1
      replace H := Option.bind_eq_some_iff.mp H
      obtain ⟨⟨t2611, t2612⟩, A150, H⟩ := H
      replace H : ((spec_CountFull.f kj6 t2599 t2600 t2601 t2602).bind fun bt2613 => (if t2612 = bt2613.2 then (laws_FnSolutions.j1 kj6 l0 t2599 t2600 t2601 t2607 t2608 t2611 t2612 (t2611 != bt2613.1)) else (laws_FnSolutions.j1 kj6 l0 t2599 t2600 t2601 t2607 t2608 t2611 t2612 true))) = some r := H
      have A15 := Aside0.mk A150
      clear A150
      replace H := Option.bind_eq_some_iff.mp H
      obtain ⟨⟨t2613, t2614⟩, A160, H⟩ := H
      replace H : (if t2612 = t2614 then (laws_FnSolutions.j1 kj6 l0 t2599 t2600 t2601 t2607 t2608 t2611 t2612 (t2611 != t2613)) else (laws_FnSolutions.j1 kj6 l0 t2599 t2600 t2601 t2607 t2608 t2611 t2612 true)) = some r := H
      have A16 := Aside0.mk A160
      clear A160
      have HC17 := Aside0.mk H
      clear H
      go_upto_region 10 with (first | ((with_reducible refine gate_callee (f := 117) rfl ?_); refine goesL_ (some 83) rfl rfl Try.func117 (by kernel_rfl) rfl #[.int .i64 t2599, .slice Ao9 t2600.length co9, .slice Ao10 t2601.length co10, .int .i64 t2602] rfl (by (try simp only [List.map_toArray, List.map_cons, List.map_nil]); first | done | rfl | (simp only [List.length_drop, List.length_take]; rfl)) ?_; (with_reducible refine (impl_CountFull.calls kj6 t2599 _ _ t2600 _ _ t2601 t2602 t2611 t2612 _ ?side1 ?side2 ?side3 ?side4 A15.out).mono ?_); (case side1 => repeat (first | exact (Kd.Q_reads' HO_4.out).2.2 | (with_reducible refine Kd.C_alloc ?_ _) | (with_reducible refine Kd.C_drewN ?_ _) | (with_reducible refine Kd.C_drew ?_))); (case side2 => exact (Kd.Q_reads' HO_4.out).2.1); (case side3 => repeat (first | exact (Kd.R_reads' HO_5.out).2.2 | (with_reducible refine Kd.C_alloc ?_ _) | (with_reducible refine Kd.C_drewN ?_ _) | (with_reducible refine Kd.C_drew ?_))); (case side4 => exact (Kd.R_reads' HO_5.out).2.1); rintro e w18 ⟨rfl, hb⟩; refine ⟨_, rfl, ?_⟩; have n0_ := Aside0.mk (Kd.Q_below (by (with_reducible repeat (first | apply Kd.Q_alloc | apply Kd.Q_drewN | apply Kd.Q_drew)); exact HO_4.out) hb); have n1_ := Aside0.mk (Kd.R_below (by (with_reducible repeat (first | apply Kd.R_alloc | apply Kd.R_drewN | apply Kd.R_drew)); exact HO_5.out) hb); have n2_ := Aside0.mk (below_step (by repeat (first | (with_reducible first | exact HB.out | apply below_alloc | apply pw_below_drewN | apply below_drew1) | exact HB.out)) hb); clear HO_4; clear HO_5; clear HB; have HO_4 := n0_; have HO_5 := n1_; have HB := n2_; clear n0_ n1_ n2_; (try clear hb); (try clear hb2); (try clear hk); (try clear hi)) | ((with_reducible refine gate_callee (f := 118) rfl ?_); refine goesL_ (some 91) rfl rfl Try.func118 (by kernel_rfl) rfl #[.int .i64 t2599, .slice Ao9 t2600.length co9, .slice Ao10 t2601.length co10, .int .i64 t2602] rfl (by (try simp only [List.map_toArray, List.map_cons, List.map_nil]); first | done | rfl | (simp only [List.length_drop, List.length_take]; rfl)) ?_; (with_reducible refine (spec_CountFull.calls kj6 t2599 _ _ t2600 _ _ t2601 t2602 t2613 t2614 _ ?side1 ?side2 ?side3 ?side4 A16.out).mono ?_); (case side1 => repeat (first | exact (Kd.Q_reads' HO_4.out).2.2 | (with_reducible refine Kd.C_alloc ?_ _) | (with_reducible refine Kd.C_drewN ?_ _) | (with_reducible refine Kd.C_drew ?_))); (case side2 => exact (Kd.Q_reads' HO_4.out).2.1); (case side3 => repeat (first | exact (Kd.R_reads' HO_5.out).2.2 | (with_reducible refine Kd.C_alloc ?_ _) | (with_reducible refine Kd.C_drewN ?_ _) | (with_reducible refine Kd.C_drew ?_))); (case side4 => exact (Kd.R_reads' HO_5.out).2.1); rintro e w19 ⟨rfl, hb⟩; refine ⟨_, rfl, ?_⟩; have n0_ := Aside0.mk (Kd.Q_below (by (with_reducible repeat (first | apply Kd.Q_alloc | apply Kd.Q_drewN | apply Kd.Q_drew)); exact HO_4.out) hb); have n1_ := Aside0.mk (Kd.R_below (by (with_reducible repeat (first | apply Kd.R_alloc | apply Kd.R_drewN | apply Kd.R_drew)); exact HO_5.out) hb); have n2_ := Aside0.mk (below_step (by repeat (first | (with_reducible first | exact HB.out | apply below_alloc | apply pw_below_drewN | apply below_drew1) | exact HB.out)) hb); clear HO_4; clear HO_5; clear HB; have HO_4 := n0_; have HO_5 := n1_; have HB := n2_; clear n0_ n1_ n2_; (try clear hb); (try clear hb2); (try clear hk); (try clear hi)))
      (try simp only [Act.put, List.setIfInBounds_toArray, List.set_cons_zero, List.set_cons_succ])
      go_cut [101] (fun v101 wc => ∃ (kq : Nat) (x101_16 : Bool), v101 = .bool x101_16 ∧ Aside0 (laws_FnSolutions.j1 kq l0 t2599 t2600 t2601 t2607 t2608 t2611 t2612 x101_16 = some r) ∧ Aside0 (kq ≤ kj6) ∧ Aside0 (Kd.Q (Kd.int .i64) 2 wc w.heap.size (fun k_ => some k_ ≠ ((.slice Ao10 t2601.length co10) : Value).ownBlock) (.slice Ao9 t2600.length co9) t2600) ∧ Aside0 (Kd.R (Kd.int .i64) 2 wc w.heap.size (fun k_ => some k_ ≠ ((.slice Ao9 t2600.length co9) : Value).ownBlock) (.slice Ao10 t2601.length co10) t2601) ∧ Aside0 (Below w.heap.size w wc))
      case first =>
       as_aux_lemma =>
       have H := HC17.out
       clear HC17
       by_cases c20 : t2612 = t2614
       · rw [if_pos c20] at H
         have c20b0 : (t2612 == t2614) = true := beq_iff_eq.mpr c20
         have c20b1 : (t2612 != t2614) = false := bne_eq_false_iff_eq.mpr c20
         clear c20
         (first | rw [c20b0] | (simp only [i64_w, i32_w]; rw [c20b0]) | rw [c20b2] | simp only [c20b2] | skip)
         have H' := Aside0.mk H
         clear H
         go_wp2
         go_meet
         case rel => exact ⟨_, ((t2611 != t2613)), (by first | rfl | (simp; done) | (simp [*]; done)), H', ⟨by have := HJ6.out; first | omega | exact Nat.le_refl _⟩, ⟨by (with_reducible repeat (first | apply Kd.Q_alloc | apply Kd.Q_drewN | apply Kd.Q_drew)); exact HO_4.out⟩, ⟨by (with_reducible repeat (first | apply Kd.R_alloc | apply Kd.R_drewN | apply Kd.R_drew)); exact HO_5.out⟩, ⟨by repeat (first | (with_reducible first | exact HB.out | apply below_alloc | apply pw_below_drewN | apply below_drew1) | exact HB.out)⟩⟩
       · rw [if_neg c20] at H
         have c20b0 : (t2612 == t2614) = false := beq_eq_false_iff_ne.mpr c20
         have c20b1 : (t2612 != t2614) = true := bne_iff_ne.mpr c20
         (first | rw [c20b0] | (simp only [i64_w, i32_w]; rw [c20b0]) | rw [c20b2] | simp only [c20b2] | skip)
         have H' := Aside0.mk H
         clear H
         go_wp2
         go_meet
         case rel => exact ⟨_, (true), (by first | rfl | (simp; done) | (simp [*]; done)), H', ⟨by have := HJ6.out; first | omega | exact Nat.le_refl _⟩, ⟨by (with_reducible repeat (first | apply Kd.Q_alloc | apply Kd.Q_drewN | apply Kd.Q_drew)); exact HO_4.out⟩, ⟨by (with_reducible repeat (first | apply Kd.R_alloc | apply Kd.R_drewN | apply Kd.R_drew)); exact HO_5.out⟩, ⟨by repeat (first | (with_reducible first | exact HB.out | apply below_alloc | apply pw_below_drewN | apply below_drew1) | exact HB.out)⟩⟩
      case rest =>
      as_aux_lemma =>
      clear HC17
      try clear c1
      try clear c2
      try clear p2
      try clear c3
      try clear c6
      try clear c10
      try clear c11
      try clear c12
      try clear c13
      try clear c13b0
      try clear c13b1
      try clear c13b2
      try clear c14
      try clear c20
      try clear c20b0
      try clear c20b1
      try clear c20b2
      try clear p2
      obtain ⟨kq, x101_16, rfl, HA, HJ16, HO_4, HO_5, HB⟩ := hcut
      cases kq with
      | zero => exact absurd HA.out (by simp [laws_FnSolutions.j1])
      | succ kj16 =>
       have H := HA.out
       clear HA
       simp only [laws_FnSolutions.j1] at H
       by_cases c21 : x101_16 = true
       · subst c21
         have H1 : (some false) = some r := by rw [if_pos rfl] at H; exact H
         clear H
         have H := H1
         clear H1
         obtain rfl := Option.some.inj H
         go_wp2
         go_ret
         exact ⟨by first | rfl | (simp [errW_none, errW_some] <;> rfl) | (simp [*, errW_none, errW_some] <;> rfl), by repeat (first | (with_reducible first | exact HB.out | apply below_alloc | apply pw_below_drewN | apply below_drew1) | exact HB.out)⟩
       · replace c21 := Bool.eq_false_iff.mpr c21
         subst c21
         have H1 : ((spec_DrawQuadricNumber.f kj16 l0).bind fun bt2615 => ((impl_QuadricNumber.f kj16 bt2615.1 bt2615.2.1 bt2615.2.2).bind fun bt2620 => ((spec_QuadricNumber.f kj16 bt2615.1 bt2615.2.1 bt2615.2.2).bind fun bt2622 => (if bt2620.2 = bt2622.2 then (laws_FnSolutions.j2 kj16 l0 t2599 t2600 t2601 t2607 t2608 t2611 t2612 bt2615.1 bt2615.2.1 bt2615.2.2 bt2620.1 bt2620.2 (bt2620.1 != bt2622.1)) else (laws_FnSolutions.j2 kj16 l0 t2599 t2600 t2601 t2607 t2608 t2611 t2612 bt2615.1 bt2615.2.1 bt2615.2.2 bt2620.1 bt2620.2 true))))) = some r := by rw [if_neg (show ¬ (false = true) by decide)] at H; exact H
         clear H
         have H := H1
         clear H1
         replace H := Option.bind_eq_some_iff.mp H
         obtain ⟨⟨t2615, t2616, t2617⟩, A220, H⟩ := H
         replace H : ((impl_QuadricNumber.f kj16 t2615 t2616 t2617).bind fun bt2620 => ((spec_QuadricNumber.f kj16 t2615 t2616 t2617).bind fun bt2622 => (if bt2620.2 = bt2622.2 then (laws_FnSolutions.j2 kj16 l0 t2599 t2600 t2601 t2607 t2608 t2611 t2612 t2615 t2616 t2617 bt2620.1 bt2620.2 (bt2620.1 != bt2622.1)) else (laws_FnSolutions.j2 kj16 l0 t2599 t2600 t2601 t2607 t2608 t2611 t2612 t2615 t2616 t2617 bt2620.1 bt2620.2 true)))) = some r := H
         have A22 := Aside0.mk A220
         clear A220
         replace H := Option.bind_eq_some_iff.mp H
         obtain ⟨⟨t2620, t2621⟩, A230, H⟩ := H
         replace H : ((spec_QuadricNumber.f kj16 t2615 t2616 t2617).bind fun bt2622 => (if t2621 = bt2622.2 then (laws_FnSolutions.j2 kj16 l0 t2599 t2600 t2601 t2607 t2608 t2611 t2612 t2615 t2616 t2617 t2620 t2621 (t2620 != bt2622.1)) else (laws_FnSolutions.j2 kj16 l0 t2599 t2600 t2601 t2607 t2608 t2611 t2612 t2615 t2616 t2617 t2620 t2621 true))) = some r := H
         have A23 := Aside0.mk A230
         clear A230
         replace H := Option.bind_eq_some_iff.mp H
         obtain ⟨⟨t2622, t2623⟩, A240, H⟩ := H
         replace H : (if t2621 = t2623 then (laws_FnSolutions.j2 kj16 l0 t2599 t2600 t2601 t2607 t2608 t2611 t2612 t2615 t2616 t2617 t2620 t2621 (t2620 != t2622)) else (laws_FnSolutions.j2 kj16 l0 t2599 t2600 t2601 t2607 t2608 t2611 t2612 t2615 t2616 t2617 t2620 t2621 true)) = some r := H
         have A24 := Aside0.mk A240
         clear A240
         have HC25 := Aside0.mk H
         clear H
         go_upto_region 15 with (first | ((with_reducible refine gate_callee (f := 119) rfl ?_); refine goesL_ (some 104) rfl rfl Try.func119 (by kernel_rfl) rfl #[.slice A0 l0.length c0] rfl (by (try simp only [List.map_toArray, List.map_cons, List.map_nil]); first | done | rfl | (simp only [List.length_drop, List.length_take]; rfl)) ?_; (with_reducible refine (spec_DrawQuadricNumber.calls kj16 _ _ l0 t2615 t2616 t2617 _ ?side1 ?side2 A22.out).mono ?_); (case side1 => repeat (first | exact (Kd.C_below HR0.out HB.out) | (with_reducible refine Kd.C_alloc ?_ _) | (with_reducible refine Kd.C_drewN ?_ _) | (with_reducible refine Kd.C_drew ?_))); (case side2 => exact HC0.out); rintro e w26 ⟨v2618, rfl, ho0, hb⟩; refine ⟨_, rfl, ?_⟩; have n0_ := Aside0.mk (Kd.Q_elder' (by (with_reducible repeat (first | apply Kd.Q_alloc | apply Kd.Q_drewN | apply Kd.Q_drew)); exact HO_4.out) (Kd.Q_base ho0) hb); have n1_ := Aside0.mk (Kd.R_elder' (by (with_reducible repeat (first | apply Kd.R_alloc | apply Kd.R_drewN | apply Kd.R_drew)); exact HO_5.out) (Kd.Q_base ho0) hb); have n2_ := Aside0.mk (Kd.Q_lower (Kd.Q_new' (Kd.Q_new' ho0 (Kd.Q_lt (by (with_reducible repeat (first | apply Kd.Q_alloc | apply Kd.Q_drewN | apply Kd.Q_drew)); exact HO_4.out))) (Kd.R_lt (by (with_reducible repeat (first | apply Kd.R_alloc | apply Kd.R_drewN | apply Kd.R_drew)); exact HO_5.out))) (below_size (by repeat (first | (with_reducible first | exact HB.out | apply below_alloc | apply pw_below_drewN | apply below_drew1) | exact HB.out)))); have n3_ := Aside0.mk (below_step (by repeat (first | (with_reducible first | exact HB.out | apply below_alloc | apply pw_below_drewN | apply below_drew1) | exact HB.out)) hb); clear HO_4; clear HO_5; clear HB; have HO_4 := n0_; have HO_5 := n1_; have HO2619 := n2_; have HB := n3_; clear n0_ n1_ n2_ n3_; (try clear hb); (try clear hb2); (try clear hk); (try clear hi); (try clear ho0); obtain ⟨Ao27, co27, eo27, _⟩ := Kd.Q_slice HO2619.out; subst eo27) | ((with_reducible refine gate_callee (f := 120) rfl ?_); refine goesL_ (some 112) rfl rfl Try.func120 (by kernel_rfl) rfl #[.int .i64 t2615, .slice Ao27 t2616.length co27, .int .i64 t2617] rfl (by (try simp only [List.map_toArray, List.map_cons, List.map_nil]); first | done | rfl | (simp only [List.length_drop, List.length_take]; rfl)) ?_; (with_reducible refine (impl_QuadricNumber.calls kj16 t2615 _ _ t2616 t2617 t2620 t2621 _ ?side1 ?side2 A23.out).mono ?_); (case side1 => repeat (first | exact (Kd.Q_reads' HO2619.out).2.2 | (with_reducible refine Kd.C_alloc ?_ _) | (with_reducible refine Kd.C_drewN ?_ _) | (with_reducible refine Kd.C_drew ?_))); (case side2 => exact (Kd.Q_reads' HO2619.out).2.1); rintro e w28 ⟨rfl, hb⟩; refine ⟨_, rfl, ?_⟩; have n0_ := Aside0.mk (Kd.Q_below (by (with_reducible repeat (first | apply Kd.Q_alloc | apply Kd.Q_drewN | apply Kd.Q_drew)); exact HO_4.out) hb); have n1_ := Aside0.mk (Kd.R_below (by (with_reducible repeat (first | apply Kd.R_alloc | apply Kd.R_drewN | apply Kd.R_drew)); exact HO_5.out) hb); have n2_ := Aside0.mk (Kd.Q_below (by (with_reducible repeat (first | apply Kd.Q_alloc | apply Kd.Q_drewN | apply Kd.Q_drew)); exact HO2619.out) hb); have n3_ := Aside0.mk (below_step (by repeat (first | (with_reducible first | exact HB.out | apply below_alloc | apply pw_below_drewN | apply below_drew1) | exact HB.out)) hb); clear HO_4; clear HO_5; clear HO2619; clear HB; have HO_4 := n0_; have HO_5 := n1_; have HO2619 := n2_; have HB := n3_; clear n0_ n1_ n2_ n3_; (try clear hb); (try clear hb2); (try clear hk); (try clear hi)) | ((with_reducible refine gate_callee (f := 121) rfl ?_); refine goesL_ (some 119) rfl rfl Try.func121 (by kernel_rfl) rfl #[.int .i64 t2615, .slice Ao27 t2616.length co27, .int .i64 t2617] rfl (by (try simp only [List.map_toArray, List.map_cons, List.map_nil]); first | done | rfl | (simp only [List.length_drop, List.length_take]; rfl)) ?_; (with_reducible refine (spec_QuadricNumber.calls kj16 t2615 _ _ t2616 t2617 t2622 t2623 _ ?side1 ?side2 A24.out).mono ?_); (case side1 => repeat (first | exact (Kd.Q_reads' HO2619.out).2.2 | (with_reducible refine Kd.C_alloc ?_ _) | (with_reducible refine Kd.C_drewN ?_ _) | (with_reducible refine Kd.C_drew ?_))); (case side2 => exact (Kd.Q_reads' HO2619.out).2.1); rintro e w29 ⟨rfl, hb⟩; refine ⟨_, rfl, ?_⟩; have n0_ := Aside0.mk (Kd.Q_below (by (with_reducible repeat (first | apply Kd.Q_alloc | apply Kd.Q_drewN | apply Kd.Q_drew)); exact HO_4.out) hb); have n1_ := Aside0.mk (Kd.R_below (by (with_reducible repeat (first | apply Kd.R_alloc | apply Kd.R_drewN | apply Kd.R_drew)); exact HO_5.out) hb); have n2_ := Aside0.mk (Kd.Q_below (by (with_reducible repeat (first | apply Kd.Q_alloc | apply Kd.Q_drewN | apply Kd.Q_drew)); exact HO2619.out) hb); have n3_ := Aside0.mk (below_step (by repeat (first | (with_reducible first | exact HB.out | apply below_alloc | apply pw_below_drewN | apply below_drew1) | exact HB.out)) hb); clear HO_4; clear HO_5; clear HO2619; clear HB; have HO_4 := n0_; have HO_5 := n1_; have HO2619 := n2_; have HB := n3_; clear n0_ n1_ n2_ n3_; (try clear hb); (try clear hb2); (try clear hk); (try clear hi)))
         (try simp only [Act.put, List.setIfInBounds_toArray, List.set_cons_zero, List.set_cons_succ])
         go_cut [129] (fun v129 wc => ∃ (kq : Nat) (x129_24 : Bool), v129 = .bool x129_24 ∧ Aside0 (laws_FnSolutions.j2 kq l0 t2599 t2600 t2601 t2607 t2608 t2611 t2612 t2615 t2616 t2617 t2620 t2621 x129_24 = some r) ∧ Aside0 (kq ≤ kj16) ∧ Aside0 (Kd.Q (Kd.int .i64) 2 wc w.heap.size (fun k_ => some k_ ≠ ((.slice Ao10 t2601.length co10) : Value).ownBlock ∧ some k_ ≠ ((.slice Ao27 t2616.length co27) : Value).ownBlock) (.slice Ao9 t2600.length co9) t2600) ∧ Aside0 (Kd.R (Kd.int .i64) 2 wc w.heap.size (fun k_ => some k_ ≠ ((.slice Ao9 t2600.length co9) : Value).ownBlock ∧ some k_ ≠ ((.slice Ao27 t2616.length co27) : Value).ownBlock) (.slice Ao10 t2601.length co10) t2601) ∧ Aside0 (Kd.Q (Kd.int .i64) 2 wc w.heap.size (fun k_ => some k_ ≠ ((.slice Ao9 t2600.length co9) : Value).ownBlock ∧ some k_ ≠ ((.slice Ao10 t2601.length co10) : Value).ownBlock) (.slice Ao27 t2616.length co27) t2616) ∧ Aside0 (Below w.heap.size w wc))
         case first =>
          as_aux_lemma =>
          have H := HC25.out
          clear HC25
          by_cases c30 : t2621 = t2623
          · rw [if_pos c30] at H
            have c30b0 : (t2621 == t2623) = true := beq_iff_eq.mpr c30
            have c30b1 : (t2621 != t2623) = false := bne_eq_false_iff_eq.mpr c30
            clear c30
            (first | rw [c30b0] | (simp only [i64_w, i32_w]; rw [c30b0]) | rw [c30b2] | simp only [c30b2] | skip)
            have H' := Aside0.mk H
            clear H
            go_wp2
            go_meet
            case rel => exact ⟨_, ((t2620 != t2622)), (by first | rfl | (simp; done) | (simp [*]; done)), H', ⟨by have := HJ6.out; have := HJ16.out; first | omega | exact Nat.le_refl _⟩, ⟨by (with_reducible repeat (first | apply Kd.Q_alloc | apply Kd.Q_drewN | apply Kd.Q_drew)); exact HO_4.out⟩, ⟨by (with_reducible repeat (first | apply Kd.R_alloc | apply Kd.R_drewN | apply Kd.R_drew)); exact HO_5.out⟩, ⟨by (with_reducible repeat (first | apply Kd.Q_alloc | apply Kd.Q_drewN | apply Kd.Q_drew)); exact Kd.Q_mono HO2619.out (fun _ hk => ⟨hk.1.2, hk.2⟩)⟩, ⟨by repeat (first | (with_reducible first | exact HB.out | apply below_alloc | apply pw_below_drewN | apply below_drew1) | exact HB.out)⟩⟩
          · rw [if_neg c30] at H
            have c30b0 : (t2621 == t2623) = false := beq_eq_false_iff_ne.mpr c30
            have c30b1 : (t2621 != t2623) = true := bne_iff_ne.mpr c30
            (first | rw [c30b0] | (simp only [i64_w, i32_w]; rw [c30b0]) | rw [c30b2] | simp only [c30b2] | skip)
            have H' := Aside0.mk H
            clear H
            go_wp2
            go_meet
            case rel => exact ⟨_, (true), (by first | rfl | (simp; done) | (simp [*]; done)), H', ⟨by have := HJ6.out; have := HJ16.out; first | omega | exact Nat.le_refl _⟩, ⟨by (with_reducible repeat (first | apply Kd.Q_alloc | apply Kd.Q_drewN | apply Kd.Q_drew)); exact HO_4.out⟩, ⟨by (with_reducible repeat (first | apply Kd.R_alloc | apply Kd.R_drewN | apply Kd.R_drew)); exact HO_5.out⟩, ⟨by (with_reducible repeat (first | apply Kd.Q_alloc | apply Kd.Q_drewN | apply Kd.Q_drew)); exact Kd.Q_mono HO2619.out (fun _ hk => ⟨hk.1.2, hk.2⟩)⟩, ⟨by repeat (first | (with_reducible first | exact HB.out | apply below_alloc | apply pw_below_drewN | apply below_drew1) | exact HB.out)⟩⟩
         case rest =>
         as_aux_lemma =>
         clear HC25
         try clear c1
         try clear c2
         try clear p2
         try clear c3
         try clear c6
         try clear c10
         try clear c11
         try clear c12
         try clear c13
         try clear c13b0
         try clear c13b1
         try clear c13b2
         try clear c14
         try clear c20
         try clear c20b0
         try clear c20b1
         try clear c20b2
         try clear c21
         try clear c30
         try clear c30b0
         try clear c30b1
         try clear c30b2
         try clear p2
         obtain ⟨kq, x129_24, rfl, HA, HJ24, HO_4, HO_5, HO_16, HB⟩ := hcut
         cases kq with
         | zero => exact absurd HA.out (by simp [laws_FnSolutions.j2])
         | succ kj24 =>
          have H := HA.out
          clear HA
          simp only [laws_FnSolutions.j2] at H
          by_cases c31 : x129_24 = true
          · subst c31
            have H1 : (some false) = some r := by rw [if_pos rfl] at H; exact H
            clear H
            have H := H1
            clear H1
            obtain rfl := Option.some.inj H
            go_wp2
            go_ret
            exact ⟨by first | rfl | (simp [errW_none, errW_some] <;> rfl) | (simp [*, errW_none, errW_some] <;> rfl), by repeat (first | (with_reducible first | exact HB.out | apply below_alloc | apply pw_below_drewN | apply below_drew1) | exact HB.out)⟩
          · replace c31 := Bool.eq_false_iff.mpr c31
            subst c31
            have H1 : ((spec_DrawValueCounts.f l0).bind fun bt2624 => ((impl_ValueCounts.f kj24 bt2624.1 bt2624.2.1 bt2624.2.2).bind fun bt2627 => ((spec_ValueCounts.f kj24 bt2624.1 bt2624.2.1 bt2624.2.2).bind fun bt2631 => (if bt2627.2 = bt2631.2 then ((laws_likeInts.f kj24 bt2627.1 bt2631.1).bind fun t2635 => (laws_FnSolutions.j3 kj24 l0 t2599 t2600 t2601 t2607 t2608 t2611 t2612 t2615 t2616 t2617 t2620 t2621 bt2624.1 bt2627.1 bt2627.2 (!t2635))) else (laws_FnSolutions.j3 kj24 l0 t2599 t2600 t2601 t2607 t2608 t2611 t2612 t2615 t2616 t2617 t2620 t2621 bt2624.1 bt2627.1 bt2627.2 true))))) = some r := by rw [if_neg (show ¬ (false = true) by decide)] at H; exact H
            clear H
            have H := H1
            clear H1
            replace H := Option.bind_eq_some_iff.mp H
            obtain ⟨⟨t2624, t2625, t2626⟩, A320, H⟩ := H
            replace H : ((impl_ValueCounts.f kj24 t2624 t2625 t2626).bind fun bt2627 => ((spec_ValueCounts.f kj24 t2624 t2625 t2626).bind fun bt2631 => (if bt2627.2 = bt2631.2 then ((laws_likeInts.f kj24 bt2627.1 bt2631.1).bind fun t2635 => (laws_FnSolutions.j3 kj24 l0 t2599 t2600 t2601 t2607 t2608 t2611 t2612 t2615 t2616 t2617 t2620 t2621 t2624 bt2627.1 bt2627.2 (!t2635))) else (laws_FnSolutions.j3 kj24 l0 t2599 t2600 t2601 t2607 t2608 t2611 t2612 t2615 t2616 t2617 t2620 t2621 t2624 bt2627.1 bt2627.2 true)))) = some r := H
            have A32 := Aside0.mk A320
            clear A320
            replace H := Option.bind_eq_some_iff.mp H
            obtain ⟨⟨t2627, t2628⟩, A330, H⟩ := H
            replace H : ((spec_ValueCounts.f kj24 t2624 t2625 t2626).bind fun bt2631 => (if t2628 = bt2631.2 then ((laws_likeInts.f kj24 t2627 bt2631.1).bind fun t2635 => (laws_FnSolutions.j3 kj24 l0 t2599 t2600 t2601 t2607 t2608 t2611 t2612 t2615 t2616 t2617 t2620 t2621 t2624 t2627 t2628 (!t2635))) else (laws_FnSolutions.j3 kj24 l0 t2599 t2600 t2601 t2607 t2608 t2611 t2612 t2615 t2616 t2617 t2620 t2621 t2624 t2627 t2628 true))) = some r := H
            have A33 := Aside0.mk A330
            clear A330
            replace H := Option.bind_eq_some_iff.mp H
            obtain ⟨⟨t2631, t2632⟩, A340, H⟩ := H
            replace H : (if t2628 = t2632 then ((laws_likeInts.f kj24 t2627 t2631).bind fun t2635 => (laws_FnSolutions.j3 kj24 l0 t2599 t2600 t2601 t2607 t2608 t2611 t2612 t2615 t2616 t2617 t2620 t2621 t2624 t2627 t2628 (!t2635))) else (laws_FnSolutions.j3 kj24 l0 t2599 t2600 t2601 t2607 t2608 t2611 t2612 t2615 t2616 t2617 t2620 t2621 t2624 t2627 t2628 true)) = some r := H
            have A34 := Aside0.mk A340
            clear A340
            have HC35 := Aside0.mk H
            clear H
            go_upto_region 20 with (first | ((with_reducible refine gate_callee (f := 122) rfl ?_); refine goesL_ (some 132) rfl rfl Try.func122 (by kernel_rfl) rfl #[.slice A0 l0.length c0] rfl (by (try simp only [List.map_toArray, List.map_cons, List.map_nil]); first | done | rfl | (simp only [List.length_drop, List.length_take]; rfl)) ?_; (with_reducible refine (spec_DrawValueCounts.calls _ _ l0 t2624 t2625 t2626 _ ?side1 ?side2 A32.out).mono ?_); (case side1 => repeat (first | exact (Kd.C_below HR0.out HB.out) | (with_reducible refine Kd.C_alloc ?_ _) | (with_reducible refine Kd.C_drewN ?_ _) | (with_reducible refine Kd.C_drew ?_))); (case side2 => exact HC0.out); rintro e w36 ⟨rfl, hb⟩; refine ⟨_, rfl, ?_⟩; have n0_ := Aside0.mk (Kd.Q_below (by (with_reducible repeat (first | apply Kd.Q_alloc | apply Kd.Q_drewN | apply Kd.Q_drew)); exact HO_4.out) hb); have n1_ := Aside0.mk (Kd.R_below (by (with_reducible repeat (first | apply Kd.R_alloc | apply Kd.R_drewN | apply Kd.R_drew)); exact HO_5.out) hb); have n2_ := Aside0.mk (Kd.Q_below (by (with_reducible repeat (first | apply Kd.Q_alloc | apply Kd.Q_drewN | apply Kd.Q_drew)); exact HO_16.out) hb); have n3_ := Aside0.mk (below_step (by repeat (first | (with_reducible first | exact HB.out | apply below_alloc | apply pw_below_drewN | apply below_drew1) | exact HB.out)) hb); clear HO_4; clear HO_5; clear HO_16; clear HB; have HO_4 := n0_; have HO_5 := n1_; have HO_16 := n2_; have HB := n3_; clear n0_ n1_ n2_ n3_; (try clear hb); (try clear hb2); (try clear hk); (try clear hi)) | ((with_reducible refine gate_callee (f := 123) rfl ?_); refine goesL_ (some 140) rfl rfl Try.func123 (by kernel_rfl) rfl #[.int .i64 t2624, .int .i64 t2625, .int .i64 t2626] rfl (by (try simp only [List.map_toArray, List.map_cons, List.map_nil]); first | done | rfl | (simp only [List.length_drop, List.length_take]; rfl)) ?_; (with_reducible refine (impl_ValueCounts.calls kj24 t2624 t2625 t2626 t2627 t2628 _ A33.out).mono ?_); rintro e w37 ⟨v2629, rfl, ho0, hb⟩; refine ⟨_, rfl, ?_⟩; have n0_ := Aside0.mk (Kd.Q_elder' (by (with_reducible repeat (first | apply Kd.Q_alloc | apply Kd.Q_drewN | apply Kd.Q_drew)); exact HO_4.out) (Kd.R_base ho0) hb); have n1_ := Aside0.mk (Kd.R_elder' (by (with_reducible repeat (first | apply Kd.R_alloc | apply Kd.R_drewN | apply Kd.R_drew)); exact HO_5.out) (Kd.R_base ho0) hb); have n2_ := Aside0.mk (Kd.Q_elder' (by (with_reducible repeat (first | apply Kd.Q_alloc | apply Kd.Q_drewN | apply Kd.Q_drew)); exact HO_16.out) (Kd.R_base ho0) hb); have n3_ := Aside0.mk (Kd.R_lower (Kd.R_new' (Kd.R_new' (Kd.R_new' ho0 (Kd.Q_lt (by (with_reducible repeat (first | apply Kd.Q_alloc | apply Kd.Q_drewN | apply Kd.Q_drew)); exact HO_4.out))) (Kd.R_lt (by (with_reducible repeat (first | apply Kd.R_alloc | apply Kd.R_drewN | apply Kd.R_drew)); exact HO_5.out))) (Kd.Q_lt (by (with_reducible repeat (first | apply Kd.Q_alloc | apply Kd.Q_drewN | apply Kd.Q_drew)); exact HO_16.out))) (below_size (by repeat (first | (with_reducible first | exact HB.out | apply below_alloc | apply pw_below_drewN | apply below_drew1) | exact HB.out)))); have n4_ := Aside0.mk (below_step (by repeat (first | (with_reducible first | exact HB.out | apply below_alloc | apply pw_below_drewN | apply below_drew1) | exact HB.out)) hb); clear HO_4; clear HO_5; clear HO_16; clear HB; have HO_4 := n0_; have HO_5 := n1_; have HO_16 := n2_; have HO2630 := n3_; have HB := n4_; clear n0_ n1_ n2_ n3_ n4_; (try clear hb); (try clear hb2); (try clear hk); (try clear hi); (try clear ho0)) | ((with_reducible refine gate_callee (f := 124) rfl ?_); refine goesL_ (some 147) rfl rfl Try.func124 (by kernel_rfl) rfl #[.int .i64 t2624, .int .i64 t2625, .int .i64 t2626] rfl (by (try simp only [List.map_toArray, List.map_cons, List.map_nil]); first | done | rfl | (simp only [List.length_drop, List.length_take]; rfl)) ?_; (with_reducible refine (spec_ValueCounts.calls kj24 t2624 t2625 t2626 t2631 t2632 _ A34.out).mono ?_); rintro e w38 ⟨v2633, rfl, ho0, hb⟩; refine ⟨_, rfl, ?_⟩; have n0_ := Aside0.mk (Kd.Q_elder' (by (with_reducible repeat (first | apply Kd.Q_alloc | apply Kd.Q_drewN | apply Kd.Q_drew)); exact HO_4.out) (Kd.R_base ho0) hb); have n1_ := Aside0.mk (Kd.R_elder' (by (with_reducible repeat (first | apply Kd.R_alloc | apply Kd.R_drewN | apply Kd.R_drew)); exact HO_5.out) (Kd.R_base ho0) hb); have n2_ := Aside0.mk (Kd.Q_elder' (by (with_reducible repeat (first | apply Kd.Q_alloc | apply Kd.Q_drewN | apply Kd.Q_drew)); exact HO_16.out) (Kd.R_base ho0) hb); have n3_ := Aside0.mk (Kd.R_elder' (by (with_reducible repeat (first | apply Kd.R_alloc | apply Kd.R_drewN | apply Kd.R_drew)); exact HO2630.out) (Kd.R_base ho0) hb); have n4_ := Aside0.mk (Kd.R_lower (Kd.R_new' (Kd.R_new' (Kd.R_new' (Kd.R_new' ho0 (Kd.Q_lt (by (with_reducible repeat (first | apply Kd.Q_alloc | apply Kd.Q_drewN | apply Kd.Q_drew)); exact HO_4.out))) (Kd.R_lt (by (with_reducible repeat (first | apply Kd.R_alloc | apply Kd.R_drewN | apply Kd.R_drew)); exact HO_5.out))) (Kd.Q_lt (by (with_reducible repeat (first | apply Kd.Q_alloc | apply Kd.Q_drewN | apply Kd.Q_drew)); exact HO_16.out))) (Kd.R_lt (by (with_reducible repeat (first | apply Kd.R_alloc | apply Kd.R_drewN | apply Kd.R_drew)); exact HO2630.out))) (below_size (by repeat (first | (with_reducible first | exact HB.out | apply below_alloc | apply pw_below_drewN | apply below_drew1) | exact HB.out)))); have n5_ := Aside0.mk (below_step (by repeat (first | (with_reducible first | exact HB.out | apply below_alloc | apply pw_below_drewN | apply below_drew1) | exact HB.out)) hb); clear HO_4; clear HO_5; clear HO_16; clear HO2630; clear HB; have HO_4 := n0_; have HO_5 := n1_; have HO_16 := n2_; have HO2630 := n3_; have HO2634 := n4_; have HB := n5_; clear n0_ n1_ n2_ n3_ n4_ n5_; (try clear hb); (try clear hb2); (try clear hk); (try clear hi); (try clear ho0)))
            (try simp only [Act.put, List.setIfInBounds_toArray, List.set_cons_zero, List.set_cons_succ])
            go_cut [158] (fun v158 wc => ∃ (kq : Nat) (x158_34 : Bool), v158 = .bool x158_34 ∧ Aside0 (laws_FnSolutions.j3 kq l0 t2599 t2600 t2601 t2607 t2608 t2611 t2612 t2615 t2616 t2617 t2620 t2621 t2624 t2627 t2628 x158_34 = some r) ∧ Aside0 (kq ≤ kj24) ∧ Aside0 (Kd.Q (Kd.int .i64) 2 wc w.heap.size (fun k_ => some k_ ≠ ((.slice Ao10 t2601.length co10) : Value).ownBlock ∧ some k_ ≠ ((.slice Ao27 t2616.length co27) : Value).ownBlock ∧ some k_ ≠ (v2629 : Value).ownBlock) (.slice Ao9 t2600.length co9) t2600) ∧ Aside0 (Kd.R (Kd.int .i64) 2 wc w.heap.size (fun k_ => some k_ ≠ ((.slice Ao9 t2600.length co9) : Value).ownBlock ∧ some k_ ≠ ((.slice Ao27 t2616.length co27) : Value).ownBlock ∧ some k_ ≠ (v2629 : Value).ownBlock) (.slice Ao10 t2601.length co10) t2601) ∧ Aside0 (Kd.Q (Kd.int .i64) 2 wc w.heap.size (fun k_ => some k_ ≠ ((.slice Ao9 t2600.length co9) : Value).ownBlock ∧ some k_ ≠ ((.slice Ao10 t2601.length co10) : Value).ownBlock ∧ some k_ ≠ (v2629 : Value).ownBlock) (.slice Ao27 t2616.length co27) t2616) ∧ Aside0 (Kd.R (Kd.int .i64) 2 wc w.heap.size (fun k_ => some k_ ≠ ((.slice Ao9 t2600.length co9) : Value).ownBlock ∧ some k_ ≠ ((.slice Ao10 t2601.length co10) : Value).ownBlock ∧ some k_ ≠ ((.slice Ao27 t2616.length co27) : Value).ownBlock) v2629 t2627) ∧ Aside0 (Below w.heap.size w wc))
            case first =>
             as_aux_lemma =>
             have H := HC35.out
             clear HC35
             by_cases c39 : t2628 = t2632
             · rw [if_pos c39] at H
               have c39b0 : (t2628 == t2632) = true := beq_iff_eq.mpr c39
               have c39b1 : (t2628 != t2632) = false := bne_eq_false_iff_eq.mpr c39
               clear c39
               (first | rw [c39b0] | (simp only [i64_w, i32_w]; rw [c39b0]) | rw [c39b2] | simp only [c39b2] | skip)
               replace H := Option.bind_eq_some_iff.mp H
               obtain ⟨t2635, A400, H⟩ := H
               replace H : (laws_FnSolutions.j3 kj24 l0 t2599 t2600 t2601 t2607 t2608 t2611 t2612 t2615 t2616 t2617 t2620 t2621 t2624 t2627 t2628 (!t2635)) = some r := H
               have A40 := Aside0.mk A400
               clear A400
               have H' := Aside0.mk H
               clear H
               obtain ⟨Ao41, co41, eo41⟩ := Kd.R_slice HO2630.out
               subst eo41
               obtain ⟨Ao42, co42, eo42⟩ := Kd.R_slice HO2634.out
               subst eo42
               go_wp2_with (first | (go_at_call 16; (with_reducible refine (laws_likeInts.calls kj24 _ _ t2627 _ _ t2631 t2635 _ ?side1 ?side2 ?side3 ?side4 A40.out).mono ?_); (case side1 => repeat (first | exact (Kd.R_reads' HO2630.out).2.2 | (with_reducible refine Kd.C_alloc ?_ _) | (with_reducible refine Kd.C_drewN ?_ _) | (with_reducible refine Kd.C_drew ?_))); (case side2 => exact (Kd.R_reads' HO2630.out).2.1); (case side3 => repeat (first | exact (Kd.R_reads' HO2634.out).2.2 | (with_reducible refine Kd.C_alloc ?_ _) | (with_reducible refine Kd.C_drewN ?_ _) | (with_reducible refine Kd.C_drew ?_))); (case side4 => exact (Kd.R_reads' HO2634.out).2.1); rintro e w' ⟨rfl, ⟨nd, rfl⟩⟩))
               go_meet
               case rel => exact ⟨_, (!t2635), (by first | rfl | (simp; done) | (simp [*]; done)), H', ⟨by have := HJ6.out; have := HJ16.out; have := HJ24.out; first | omega | exact Nat.le_refl _⟩, ⟨by (with_reducible repeat (first | apply Kd.Q_alloc | apply Kd.Q_drewN | apply Kd.Q_drew)); exact Kd.Q_mono HO_4.out (fun _ hk => ⟨hk.1.1.1, ⟨hk.1.1.2, hk.1.2⟩⟩)⟩, ⟨by (with_reducible repeat (first | apply Kd.R_alloc | apply Kd.R_drewN | apply Kd.R_drew)); exact Kd.R_mono HO_5.out (fun _ hk => ⟨hk.1.1.1, ⟨hk.1.1.2, hk.1.2⟩⟩)⟩, ⟨by (with_reducible repeat (first | apply Kd.Q_alloc | apply Kd.Q_drewN | apply Kd.Q_drew)); exact Kd.Q_mono HO_16.out (fun _ hk => ⟨hk.1.1.1, ⟨hk.1.1.2, hk.1.2⟩⟩)⟩, ⟨by (with_reducible repeat (first | apply Kd.R_alloc | apply Kd.R_drewN | apply Kd.R_drew)); exact Kd.R_mono HO2630.out (fun _ hk => ⟨hk.1.1.1.2, ⟨hk.1.1.2, hk.1.2⟩⟩)⟩, ⟨by repeat (first | (with_reducible first | exact HB.out | apply below_alloc | apply pw_below_drewN | apply below_drew1) | exact HB.out)⟩⟩
             · rw [if_neg c39] at H
               have c39b0 : (t2628 == t2632) = false := beq_eq_false_iff_ne.mpr c39
               have c39b1 : (t2628 != t2632) = true := bne_iff_ne.mpr c39
               (first | rw [c39b0] | (simp only [i64_w, i32_w]; rw [c39b0]) | rw [c39b2] | simp only [c39b2] | skip)
               have H' := Aside0.mk H
               clear H
               go_wp2
               go_meet
               case rel => exact ⟨_, (true), (by first | rfl | (simp; done) | (simp [*]; done)), H', ⟨by have := HJ6.out; have := HJ16.out; have := HJ24.out; first | omega | exact Nat.le_refl _⟩, ⟨by (with_reducible repeat (first | apply Kd.Q_alloc | apply Kd.Q_drewN | apply Kd.Q_drew)); exact Kd.Q_mono HO_4.out (fun _ hk => ⟨hk.1.1.1, ⟨hk.1.1.2, hk.1.2⟩⟩)⟩, ⟨by (with_reducible repeat (first | apply Kd.R_alloc | apply Kd.R_drewN | apply Kd.R_drew)); exact Kd.R_mono HO_5.out (fun _ hk => ⟨hk.1.1.1, ⟨hk.1.1.2, hk.1.2⟩⟩)⟩, ⟨by (with_reducible repeat (first | apply Kd.Q_alloc | apply Kd.Q_drewN | apply Kd.Q_drew)); exact Kd.Q_mono HO_16.out (fun _ hk => ⟨hk.1.1.1, ⟨hk.1.1.2, hk.1.2⟩⟩)⟩, ⟨by (with_reducible repeat (first | apply Kd.R_alloc | apply Kd.R_drewN | apply Kd.R_drew)); exact Kd.R_mono HO2630.out (fun _ hk => ⟨hk.1.1.1.2, ⟨hk.1.1.2, hk.1.2⟩⟩)⟩, ⟨by repeat (first | (with_reducible first | exact HB.out | apply below_alloc | apply pw_below_drewN | apply below_drew1) | exact HB.out)⟩⟩
            case rest =>
            as_aux_lemma =>
            clear HC35
            try clear c1
            try clear c2
            try clear p2
            try clear c3
            try clear c6
            try clear c10
            try clear c11
            try clear c12
            try clear c13
            try clear c13b0
            try clear c13b1
            try clear c13b2
            try clear c14
            try clear c20
            try clear c20b0
            try clear c20b1
            try clear c20b2
            try clear c21
            try clear c30
            try clear c30b0
            try clear c30b1
            try clear c30b2
            try clear c31
            try clear c39
            try clear c39b0
            try clear c39b1
            try clear c39b2
            try clear p2
            obtain ⟨kq, x158_34, rfl, HA, HJ34, HO_4, HO_5, HO_16, HO_25, HB⟩ := hcut
            cases kq with
            | zero => exact absurd HA.out (by simp [laws_FnSolutions.j3])
            | succ kj34 =>
             have H := HA.out
             clear HA
             simp only [laws_FnSolutions.j3] at H
             by_cases c43 : x158_34 = true
             · subst c43
               have H1 : (some false) = some r := by rw [if_pos rfl] at H; exact H
               clear H
               have H := H1
               clear H1
               obtain rfl := Option.some.inj H
               go_wp2
               go_ret
               exact ⟨by first | rfl | (simp [errW_none, errW_some] <;> rfl) | (simp [*, errW_none, errW_some] <;> rfl), by repeat (first | (with_reducible first | exact HB.out | apply below_alloc | apply pw_below_drewN | apply below_drew1) | exact HB.out)⟩
             · replace c43 := Bool.eq_false_iff.mpr c43
               subst c43
               have H1 : ((spec_DrawPowersOf.f l0).bind fun bt2636 => ((impl_PowersOf.f kj34 bt2636.1 bt2636.2).bind fun bt2638 => ((spec_PowersOf.f kj34 bt2636.1 bt2636.2).bind fun bt2642 => (if bt2638.2 = bt2642.2 then ((laws_likeInts.f kj34 bt2638.1 bt2642.1).bind fun t2646 => (laws_FnSolutions.j4 kj34 t2599 t2600 t2601 t2607 t2608 t2611 t2612 t2615 t2616 t2617 t2620 t2621 t2624 t2627 t2628 bt2638.1 bt2638.2 (!t2646))) else (laws_FnSolutions.j4 kj34 t2599 t2600 t2601 t2607 t2608 t2611 t2612 t2615 t2616 t2617 t2620 t2621 t2624 t2627 t2628 bt2638.1 bt2638.2 true))))) = some r := by rw [if_neg (show ¬ (false = true) by decide)] at H; exact H
               clear H
               have H := H1
               clear H1
               replace H := Option.bind_eq_some_iff.mp H
               obtain ⟨⟨t2636, t2637⟩, A440, H⟩ := H
               replace H : ((impl_PowersOf.f kj34 t2636 t2637).bind fun bt2638 => ((spec_PowersOf.f kj34 t2636 t2637).bind fun bt2642 => (if bt2638.2 = bt2642.2 then ((laws_likeInts.f kj34 bt2638.1 bt2642.1).bind fun t2646 => (laws_FnSolutions.j4 kj34 t2599 t2600 t2601 t2607 t2608 t2611 t2612 t2615 t2616 t2617 t2620 t2621 t2624 t2627 t2628 bt2638.1 bt2638.2 (!t2646))) else (laws_FnSolutions.j4 kj34 t2599 t2600 t2601 t2607 t2608 t2611 t2612 t2615 t2616 t2617 t2620 t2621 t2624 t2627 t2628 bt2638.1 bt2638.2 true)))) = some r := H
               have A44 := Aside0.mk A440
               clear A440
               replace H := Option.bind_eq_some_iff.mp H
               obtain ⟨⟨t2638, t2639⟩, A450, H⟩ := H
               replace H : ((spec_PowersOf.f kj34 t2636 t2637).bind fun bt2642 => (if t2639 = bt2642.2 then ((laws_likeInts.f kj34 t2638 bt2642.1).bind fun t2646 => (laws_FnSolutions.j4 kj34 t2599 t2600 t2601 t2607 t2608 t2611 t2612 t2615 t2616 t2617 t2620 t2621 t2624 t2627 t2628 t2638 t2639 (!t2646))) else (laws_FnSolutions.j4 kj34 t2599 t2600 t2601 t2607 t2608 t2611 t2612 t2615 t2616 t2617 t2620 t2621 t2624 t2627 t2628 t2638 t2639 true))) = some r := H
               have A45 := Aside0.mk A450
               clear A450
               replace H := Option.bind_eq_some_iff.mp H
               obtain ⟨⟨t2642, t2643⟩, A460, H⟩ := H
               replace H : (if t2639 = t2643 then ((laws_likeInts.f kj34 t2638 t2642).bind fun t2646 => (laws_FnSolutions.j4 kj34 t2599 t2600 t2601 t2607 t2608 t2611 t2612 t2615 t2616 t2617 t2620 t2621 t2624 t2627 t2628 t2638 t2639 (!t2646))) else (laws_FnSolutions.j4 kj34 t2599 t2600 t2601 t2607 t2608 t2611 t2612 t2615 t2616 t2617 t2620 t2621 t2624 t2627 t2628 t2638 t2639 true)) = some r := H
               have A46 := Aside0.mk A460
               clear A460
               have HC47 := Aside0.mk H
               clear H
               go_upto_region 25 with (first | ((with_reducible refine gate_callee (f := 125) rfl ?_); refine goesL_ (some 161) rfl rfl Try.func125 (by kernel_rfl) rfl #[.slice A0 l0.length c0] rfl (by (try simp only [List.map_toArray, List.map_cons, List.map_nil]); first | done | rfl | (simp only [List.length_drop, List.length_take]; rfl)) ?_; (with_reducible refine (spec_DrawPowersOf.calls _ _ l0 t2636 t2637 _ ?side1 ?side2 A44.out).mono ?_); (case side1 => repeat (first | exact (Kd.C_below HR0.out HB.out) | (with_reducible refine Kd.C_alloc ?_ _) | (with_reducible refine Kd.C_drewN ?_ _) | (with_reducible refine Kd.C_drew ?_))); (case side2 => exact HC0.out); rintro e w48 ⟨rfl, hb⟩; refine ⟨_, rfl, ?_⟩; have n0_ := Aside0.mk (Kd.Q_below (by (with_reducible repeat (first | apply Kd.Q_alloc | apply Kd.Q_drewN | apply Kd.Q_drew)); exact HO_4.out) hb); have n1_ := Aside0.mk (Kd.R_below (by (with_reducible repeat (first | apply Kd.R_alloc | apply Kd.R_drewN | apply Kd.R_drew)); exact HO_5.out) hb); have n2_ := Aside0.mk (Kd.Q_below (by (with_reducible repeat (first | apply Kd.Q_alloc | apply Kd.Q_drewN | apply Kd.Q_drew)); exact HO_16.out) hb); have n3_ := Aside0.mk (Kd.R_below (by (with_reducible repeat (first | apply Kd.R_alloc | apply Kd.R_drewN | apply Kd.R_drew)); exact HO_25.out) hb); have n4_ := Aside0.mk (below_step (by repeat (first | (with_reducible first | exact HB.out | apply below_alloc | apply pw_below_drewN | apply below_drew1) | exact HB.out)) hb); clear HO_4; clear HO_5; clear HO_16; clear HO_25; clear HB; have HO_4 := n0_; have HO_5 := n1_; have HO_16 := n2_; have HO_25 := n3_; have HB := n4_; clear n0_ n1_ n2_ n3_ n4_; (try clear hb); (try clear hb2); (try clear hk); (try clear hi)) | ((with_reducible refine gate_callee (f := 126) rfl ?_); refine goesL_ (some 167) rfl rfl Try.func126 (by kernel_rfl) rfl #[.int .i64 t2636, .int .i64 t2637] rfl (by (try simp only [List.map_toArray, List.map_cons, List.map_nil]); first | done | rfl | (simp only [List.length_drop, List.length_take]; rfl)) ?_; (with_reducible refine (impl_PowersOf.calls kj34 t2636 t2637 t2638 t2639 _ A45.out).mono ?_); rintro e w49 ⟨v2640, rfl, ho0, hb⟩; refine ⟨_, rfl, ?_⟩; have n0_ := Aside0.mk (Kd.Q_elder' (by (with_reducible repeat (first | apply Kd.Q_alloc | apply Kd.Q_drewN | apply Kd.Q_drew)); exact HO_4.out) (Kd.R_base ho0) hb); have n1_ := Aside0.mk (Kd.R_elder' (by (with_reducible repeat (first | apply Kd.R_alloc | apply Kd.R_drewN | apply Kd.R_drew)); exact HO_5.out) (Kd.R_base ho0) hb); have n2_ := Aside0.mk (Kd.Q_elder' (by (with_reducible repeat (first | apply Kd.Q_alloc | apply Kd.Q_drewN | apply Kd.Q_drew)); exact HO_16.out) (Kd.R_base ho0) hb); have n3_ := Aside0.mk (Kd.R_elder' (by (with_reducible repeat (first | apply Kd.R_alloc | apply Kd.R_drewN | apply Kd.R_drew)); exact HO_25.out) (Kd.R_base ho0) hb); have n4_ := Aside0.mk (Kd.R_lower (Kd.R_new' (Kd.R_new' (Kd.R_new' (Kd.R_new' ho0 (Kd.Q_lt (by (with_reducible repeat (first | apply Kd.Q_alloc | apply Kd.Q_drewN | apply Kd.Q_drew)); exact HO_4.out))) (Kd.R_lt (by (with_reducible repeat (first | apply Kd.R_alloc | apply Kd.R_drewN | apply Kd.R_drew)); exact HO_5.out))) (Kd.Q_lt (by (with_reducible repeat (first | apply Kd.Q_alloc | apply Kd.Q_drewN | apply Kd.Q_drew)); exact HO_16.out))) (Kd.R_lt (by (with_reducible repeat (first | apply Kd.R_alloc | apply Kd.R_drewN | apply Kd.R_drew)); exact HO_25.out))) (below_size (by repeat (first | (with_reducible first | exact HB.out | apply below_alloc | apply pw_below_drewN | apply below_drew1) | exact HB.out)))); have n5_ := Aside0.mk (below_step (by repeat (first | (with_reducible first | exact HB.out | apply below_alloc | apply pw_below_drewN | apply below_drew1) | exact HB.out)) hb); clear HO_4; clear HO_5; clear HO_16; clear HO_25; clear HB; have HO_4 := n0_; have HO_5 := n1_; have HO_16 := n2_; have HO_25 := n3_; have HO2641 := n4_; have HB := n5_; clear n0_ n1_ n2_ n3_ n4_ n5_; (try clear hb); (try clear hb2); (try clear hk); (try clear hi); (try clear ho0)) | ((with_reducible refine gate_callee (f := 127) rfl ?_); refine goesL_ (some 173) rfl rfl Try.func127 (by kernel_rfl) rfl #[.int .i64 t2636, .int .i64 t2637] rfl (by (try simp only [List.map_toArray, List.map_cons, List.map_nil]); first | done | rfl | (simp only [List.length_drop, List.length_take]; rfl)) ?_; (with_reducible refine (spec_PowersOf.calls kj34 t2636 t2637 t2642 t2643 _ A46.out).mono ?_); rintro e w50 ⟨v2644, rfl, ho0, hb⟩; refine ⟨_, rfl, ?_⟩; have n0_ := Aside0.mk (Kd.Q_elder' (by (with_reducible repeat (first | apply Kd.Q_alloc | apply Kd.Q_drewN | apply Kd.Q_drew)); exact HO_4.out) (Kd.R_base ho0) hb); have n1_ := Aside0.mk (Kd.R_elder' (by (with_reducible repeat (first | apply Kd.R_alloc | apply Kd.R_drewN | apply Kd.R_drew)); exact HO_5.out) (Kd.R_base ho0) hb); have n2_ := Aside0.mk (Kd.Q_elder' (by (with_reducible repeat (first | apply Kd.Q_alloc | apply Kd.Q_drewN | apply Kd.Q_drew)); exact HO_16.out) (Kd.R_base ho0) hb); have n3_ := Aside0.mk (Kd.R_elder' (by (with_reducible repeat (first | apply Kd.R_alloc | apply Kd.R_drewN | apply Kd.R_drew)); exact HO_25.out) (Kd.R_base ho0) hb); have n4_ := Aside0.mk (Kd.R_elder' (by (with_reducible repeat (first | apply Kd.R_alloc | apply Kd.R_drewN | apply Kd.R_drew)); exact HO2641.out) (Kd.R_base ho0) hb); have n5_ := Aside0.mk (Kd.R_lower (Kd.R_new' (Kd.R_new' (Kd.R_new' (Kd.R_new' (Kd.R_new' ho0 (Kd.Q_lt (by (with_reducible repeat (first | apply Kd.Q_alloc | apply Kd.Q_drewN | apply Kd.Q_drew)); exact HO_4.out))) (Kd.R_lt (by (with_reducible repeat (first | apply Kd.R_alloc | apply Kd.R_drewN | apply Kd.R_drew)); exact HO_5.out))) (Kd.Q_lt (by (with_reducible repeat (first | apply Kd.Q_alloc | apply Kd.Q_drewN | apply Kd.Q_drew)); exact HO_16.out))) (Kd.R_lt (by (with_reducible repeat (first | apply Kd.R_alloc | apply Kd.R_drewN | apply Kd.R_drew)); exact HO_25.out))) (Kd.R_lt (by (with_reducible repeat (first | apply Kd.R_alloc | apply Kd.R_drewN | apply Kd.R_drew)); exact HO2641.out))) (below_size (by repeat (first | (with_reducible first | exact HB.out | apply below_alloc | apply pw_below_drewN | apply below_drew1) | exact HB.out)))); have n6_ := Aside0.mk (below_step (by repeat (first | (with_reducible first | exact HB.out | apply below_alloc | apply pw_below_drewN | apply below_drew1) | exact HB.out)) hb); clear HO_4; clear HO_5; clear HO_16; clear HO_25; clear HO2641; clear HB; have HO_4 := n0_; have HO_5 := n1_; have HO_16 := n2_; have HO_25 := n3_; have HO2641 := n4_; have HO2645 := n5_; have HB := n6_; clear n0_ n1_ n2_ n3_ n4_ n5_ n6_; (try clear hb); (try clear hb2); (try clear hk); (try clear hi); (try clear ho0)))
               (try simp only [Act.put, List.setIfInBounds_toArray, List.set_cons_zero, List.set_cons_succ])
               go_cut [184] (fun v184 wc => ∃ (kq : Nat) (x184_46 : Bool), v184 = .bool x184_46 ∧ Aside0 (laws_FnSolutions.j4 kq t2599 t2600 t2601 t2607 t2608 t2611 t2612 t2615 t2616 t2617 t2620 t2621 t2624 t2627 t2628 t2638 t2639 x184_46 = some r) ∧ Aside0 (kq ≤ kj34) ∧ Aside0 (Kd.Q (Kd.int .i64) 2 wc w.heap.size (fun k_ => some k_ ≠ ((.slice Ao10 t2601.length co10) : Value).ownBlock ∧ some k_ ≠ ((.slice Ao27 t2616.length co27) : Value).ownBlock ∧ some k_ ≠ (v2629 : Value).ownBlock ∧ some k_ ≠ (v2640 : Value).ownBlock) (.slice Ao9 t2600.length co9) t2600) ∧ Aside0 (Kd.R (Kd.int .i64) 2 wc w.heap.size (fun k_ => some k_ ≠ ((.slice Ao9 t2600.length co9) : Value).ownBlock ∧ some k_ ≠ ((.slice Ao27 t2616.length co27) : Value).ownBlock ∧ some k_ ≠ (v2629 : Value).ownBlock ∧ some k_ ≠ (v2640 : Value).ownBlock) (.slice Ao10 t2601.length co10) t2601) ∧ Aside0 (Kd.Q (Kd.int .i64) 2 wc w.heap.size (fun k_ => some k_ ≠ ((.slice Ao9 t2600.length co9) : Value).ownBlock ∧ some k_ ≠ ((.slice Ao10 t2601.length co10) : Value).ownBlock ∧ some k_ ≠ (v2629 : Value).ownBlock ∧ some k_ ≠ (v2640 : Value).ownBlock) (.slice Ao27 t2616.length co27) t2616) ∧ Aside0 (Kd.R (Kd.int .i64) 2 wc w.heap.size (fun k_ => some k_ ≠ ((.slice Ao9 t2600.length co9) : Value).ownBlock ∧ some k_ ≠ ((.slice Ao10 t2601.length co10) : Value).ownBlock ∧ some k_ ≠ ((.slice Ao27 t2616.length co27) : Value).ownBlock ∧ some k_ ≠ (v2640 : Value).ownBlock) v2629 t2627) ∧ Aside0 (Kd.R (Kd.int .i64) 2 wc w.heap.size (fun k_ => some k_ ≠ ((.slice Ao9 t2600.length co9) : Value).ownBlock ∧ some k_ ≠ ((.slice Ao10 t2601.length co10) : Value).ownBlock ∧ some k_ ≠ ((.slice Ao27 t2616.length co27) : Value).ownBlock ∧ some k_ ≠ (v2629 : Value).ownBlock) v2640 t2638) ∧ Aside0 (Below w.heap.size w wc))
               case first =>
                as_aux_lemma =>
                have H := HC47.out
                clear HC47
                by_cases c51 : t2639 = t2643
                · rw [if_pos c51] at H
                  have c51b0 : (t2639 == t2643) = true := beq_iff_eq.mpr c51
                  have c51b1 : (t2639 != t2643) = false := bne_eq_false_iff_eq.mpr c51
                  clear c51
                  (first | rw [c51b0] | (simp only [i64_w, i32_w]; rw [c51b0]) | rw [c51b2] | simp only [c51b2] | skip)
                  replace H := Option.bind_eq_some_iff.mp H
                  obtain ⟨t2646, A520, H⟩ := H
                  replace H : (laws_FnSolutions.j4 kj34 t2599 t2600 t2601 t2607 t2608 t2611 t2612 t2615 t2616 t2617 t2620 t2621 t2624 t2627 t2628 t2638 t2639 (!t2646)) = some r := H
                  have A52 := Aside0.mk A520
                  clear A520
                  have H' := Aside0.mk H
                  clear H
                  obtain ⟨Ao53, co53, eo53⟩ := Kd.R_slice HO2641.out
                  subst eo53
                  obtain ⟨Ao54, co54, eo54⟩ := Kd.R_slice HO2645.out
                  subst eo54
                  go_wp2_with (first | (go_at_call 16; (with_reducible refine (laws_likeInts.calls kj34 _ _ t2638 _ _ t2642 t2646 _ ?side1 ?side2 ?side3 ?side4 A52.out).mono ?_); (case side1 => repeat (first | exact (Kd.R_reads' HO2641.out).2.2 | (with_reducible refine Kd.C_alloc ?_ _) | (with_reducible refine Kd.C_drewN ?_ _) | (with_reducible refine Kd.C_drew ?_))); (case side2 => exact (Kd.R_reads' HO2641.out).2.1); (case side3 => repeat (first | exact (Kd.R_reads' HO2645.out).2.2 | (with_reducible refine Kd.C_alloc ?_ _) | (with_reducible refine Kd.C_drewN ?_ _) | (with_reducible refine Kd.C_drew ?_))); (case side4 => exact (Kd.R_reads' HO2645.out).2.1); rintro e w' ⟨rfl, ⟨nd, rfl⟩⟩))
                  go_meet
                  case rel => exact ⟨_, (!t2646), (by first | rfl | (simp; done) | (simp [*]; done)), H', ⟨by have := HJ6.out; have := HJ16.out; have := HJ24.out; have := HJ34.out; first | omega | exact Nat.le_refl _⟩, ⟨by (with_reducible repeat (first | apply Kd.Q_alloc | apply Kd.Q_drewN | apply Kd.Q_drew)); exact Kd.Q_mono HO_4.out (fun _ hk => ⟨hk.1.1.1, ⟨hk.1.1.2.1, ⟨hk.1.1.2.2, hk.1.2⟩⟩⟩)⟩, ⟨by (with_reducible repeat (first | apply Kd.R_alloc | apply Kd.R_drewN | apply Kd.R_drew)); exact Kd.R_mono HO_5.out (fun _ hk => ⟨hk.1.1.1, ⟨hk.1.1.2.1, ⟨hk.1.1.2.2, hk.1.2⟩⟩⟩)⟩, ⟨by (with_reducible repeat (first | apply Kd.Q_alloc | apply Kd.Q_drewN | apply Kd.Q_drew)); exact Kd.Q_mono HO_16.out (fun _ hk => ⟨hk.1.1.1, ⟨hk.1.1.2.1, ⟨hk.1.1.2.2, hk.1.2⟩⟩⟩)⟩, ⟨by (with_reducible repeat (first | apply Kd.R_alloc | apply Kd.R_drewN | apply Kd.R_drew)); exact Kd.R_mono HO_25.out (fun _ hk => ⟨hk.1.1.1, ⟨hk.1.1.2.1, ⟨hk.1.1.2.2, hk.1.2⟩⟩⟩)⟩, ⟨by (with_reducible repeat (first | apply Kd.R_alloc | apply Kd.R_drewN | apply Kd.R_drew)); exact Kd.R_mono HO2641.out (fun _ hk => ⟨hk.1.1.1.1.2, ⟨hk.1.1.1.2, ⟨hk.1.1.2, hk.1.2⟩⟩⟩)⟩, ⟨by repeat (first | (with_reducible first | exact HB.out | apply below_alloc | apply pw_below_drewN | apply below_drew1) | exact HB.out)⟩⟩
                · rw [if_neg c51] at H
                  have c51b0 : (t2639 == t2643) = false := beq_eq_false_iff_ne.mpr c51
                  have c51b1 : (t2639 != t2643) = true := bne_iff_ne.mpr c51
                  (first | rw [c51b0] | (simp only [i64_w, i32_w]; rw [c51b0]) | rw [c51b2] | simp only [c51b2] | skip)
                  have H' := Aside0.mk H
                  clear H
                  go_wp2
                  go_meet
                  case rel => exact ⟨_, (true), (by first | rfl | (simp; done) | (simp [*]; done)), H', ⟨by have := HJ6.out; have := HJ16.out; have := HJ24.out; have := HJ34.out; first | omega | exact Nat.le_refl _⟩, ⟨by (with_reducible repeat (first | apply Kd.Q_alloc | apply Kd.Q_drewN | apply Kd.Q_drew)); exact Kd.Q_mono HO_4.out (fun _ hk => ⟨hk.1.1.1, ⟨hk.1.1.2.1, ⟨hk.1.1.2.2, hk.1.2⟩⟩⟩)⟩, ⟨by (with_reducible repeat (first | apply Kd.R_alloc | apply Kd.R_drewN | apply Kd.R_drew)); exact Kd.R_mono HO_5.out (fun _ hk => ⟨hk.1.1.1, ⟨hk.1.1.2.1, ⟨hk.1.1.2.2, hk.1.2⟩⟩⟩)⟩, ⟨by (with_reducible repeat (first | apply Kd.Q_alloc | apply Kd.Q_drewN | apply Kd.Q_drew)); exact Kd.Q_mono HO_16.out (fun _ hk => ⟨hk.1.1.1, ⟨hk.1.1.2.1, ⟨hk.1.1.2.2, hk.1.2⟩⟩⟩)⟩, ⟨by (with_reducible repeat (first | apply Kd.R_alloc | apply Kd.R_drewN | apply Kd.R_drew)); exact Kd.R_mono HO_25.out (fun _ hk => ⟨hk.1.1.1, ⟨hk.1.1.2.1, ⟨hk.1.1.2.2, hk.1.2⟩⟩⟩)⟩, ⟨by (with_reducible repeat (first | apply Kd.R_alloc | apply Kd.R_drewN | apply Kd.R_drew)); exact Kd.R_mono HO2641.out (fun _ hk => ⟨hk.1.1.1.1.2, ⟨hk.1.1.1.2, ⟨hk.1.1.2, hk.1.2⟩⟩⟩)⟩, ⟨by repeat (first | (with_reducible first | exact HB.out | apply below_alloc | apply pw_below_drewN | apply below_drew1) | exact HB.out)⟩⟩
               case rest =>
               as_aux_lemma =>
               clear HC47
               try clear c1
               try clear c2
               try clear p2
               try clear c3
               try clear c4
               try clear c5
               try clear c6
               try clear c10
               try clear c11
               try clear c12
               try clear c13
               try clear c13b0
               try clear c13b1
               try clear c13b2
               try clear c14
               try clear c20
               try clear c20b0
               try clear c20b1
               try clear c20b2
               try clear c21
               try clear c30
               try clear c30b0
               try clear c30b1
               try clear c30b2
               try clear c31
               try clear c39
               try clear c39b0
               try clear c39b1
               try clear c39b2
               try clear c43
               try clear c51
               try clear c51b0
               try clear c51b1
               try clear c51b2
               try clear p2
               obtain ⟨kq, x184_46, rfl, HA, HJ46, HO_4, HO_5, HO_16, HO_25, HO_31, HB⟩ := hcut
               cases kq with
               | zero => exact absurd HA.out (by simp [laws_FnSolutions.j4])
               | succ kj46 =>
                have H := HA.out
                clear HA
                simp only [laws_FnSolutions.j4] at H
                by_cases c55 : x184_46 = true
                · subst c55
                  have H1 : (some false) = some r := by rw [if_pos rfl] at H; exact H
                  clear H
                  have H := H1
                  clear H1
                  obtain rfl := Option.some.inj H
                  go_wp2
                  go_ret
                  exact ⟨by first | rfl | (simp [errW_none, errW_some] <;> rfl) | (simp [*, errW_none, errW_some] <;> rfl), by repeat (first | (with_reducible first | exact HB.out | apply below_alloc | apply pw_below_drewN | apply below_drew1) | exact HB.out)⟩
                · replace c55 := Bool.eq_false_iff.mpr c55
                  subst c55
                  have H1 : (if t2628 = 0 then ((laws_sum.f kj46 t2627).bind fun t2647 => (if t2647 = t2624 then (if 0 < (t2627.length : Int) then (laws_FnSolutions.j5 kj46 t2599 t2600 t2601 t2607 t2608 t2611 t2612 t2615 t2616 t2617 t2620 t2621 t2638 t2639 ((rd t2627 0) != 1)) else (none)) else (laws_FnSolutions.j5 kj46 t2599 t2600 t2601 t2607 t2608 t2611 t2612 t2615 t2616 t2617 t2620 t2621 t2638 t2639 true))) else (laws_FnSolutions.j5 kj46 t2599 t2600 t2601 t2607 t2608 t2611 t2612 t2615 t2616 t2617 t2620 t2621 t2638 t2639 false)) = some r := by rw [if_neg (show ¬ (false = true) by decide)] at H; exact H
                  clear H
                  have H := H1
                  clear H1
                  have HC56 := Aside0.mk H
                  clear H
                  go_upto_region 27 with (fail)
                  go_cut [198] (fun v198 wc => ∃ (kq : Nat) (x198_55 : Bool), v198 = .bool x198_55 ∧ Aside0 (laws_FnSolutions.j5 kq t2599 t2600 t2601 t2607 t2608 t2611 t2612 t2615 t2616 t2617 t2620 t2621 t2638 t2639 x198_55 = some r) ∧ Aside0 (kq ≤ kj46) ∧ Aside0 (Kd.Q (Kd.int .i64) 2 wc w.heap.size (fun k_ => some k_ ≠ ((.slice Ao10 t2601.length co10) : Value).ownBlock ∧ some k_ ≠ ((.slice Ao27 t2616.length co27) : Value).ownBlock ∧ some k_ ≠ (v2640 : Value).ownBlock) (.slice Ao9 t2600.length co9) t2600) ∧ Aside0 (Kd.R (Kd.int .i64) 2 wc w.heap.size (fun k_ => some k_ ≠ ((.slice Ao9 t2600.length co9) : Value).ownBlock ∧ some k_ ≠ ((.slice Ao27 t2616.length co27) : Value).ownBlock ∧ some k_ ≠ (v2640 : Value).ownBlock) (.slice Ao10 t2601.length co10) t2601) ∧ Aside0 (Kd.Q (Kd.int .i64) 2 wc w.heap.size (fun k_ => some k_ ≠ ((.slice Ao9 t2600.length co9) : Value).ownBlock ∧ some k_ ≠ ((.slice Ao10 t2601.length co10) : Value).ownBlock ∧ some k_ ≠ (v2640 : Value).ownBlock) (.slice Ao27 t2616.length co27) t2616) ∧ Aside0 (Kd.R (Kd.int .i64) 2 wc w.heap.size (fun k_ => some k_ ≠ ((.slice Ao9 t2600.length co9) : Value).ownBlock ∧ some k_ ≠ ((.slice Ao10 t2601.length co10) : Value).ownBlock ∧ some k_ ≠ ((.slice Ao27 t2616.length co27) : Value).ownBlock) v2640 t2638) ∧ Aside0 (Below w.heap.size w wc))
                  case first =>
                   as_aux_lemma =>
                   have H := HC56.out
                   clear HC56
                   by_cases c57 : t2628 = 0
                   · rw [if_pos c57] at H
                     have c57b0 : (t2628 == 0) = true := beq_iff_eq.mpr c57
                     have c57b1 : (t2628 != 0) = false := bne_eq_false_iff_eq.mpr c57
                     clear c57
                     (first | rw [c57b0] | (simp only [i64_w, i32_w]; rw [c57b0]) | rw [c57b2] | simp only [c57b2] | skip)
                     replace H := Option.bind_eq_some_iff.mp H
                     obtain ⟨t2647, A580, H⟩ := H
                     replace H : (if t2647 = t2624 then (if 0 < (t2627.length : Int) then (laws_FnSolutions.j5 kj46 t2599 t2600 t2601 t2607 t2608 t2611 t2612 t2615 t2616 t2617 t2620 t2621 t2638 t2639 ((rd t2627 0) != 1)) else (none)) else (laws_FnSolutions.j5 kj46 t2599 t2600 t2601 t2607 t2608 t2611 t2612 t2615 t2616 t2617 t2620 t2621 t2638 t2639 true)) = some r := H
                     have A58 := Aside0.mk A580
                     clear A580
                     by_cases c59 : t2647 = t2624
                     · rw [if_pos c59] at H
                       have c59b0 : (t2647 == t2624) = true := beq_iff_eq.mpr c59
                       have c59b1 : (t2647 != t2624) = false := bne_eq_false_iff_eq.mpr c59
                       clear c59
                       by_cases c60 : 0 < (t2627.length : Int)
                       · rw [if_pos c60] at H
                         have c60b0 : decide (0 < (t2627.length : Int)) = true := decide_eq_true c60
                         have c60b1 : decide (0 < t2627.length) = true := decide_eq_true (by omega)
                         clear c60
                         have H' := Aside0.mk H
                         clear H
                         obtain ⟨Ao61, co61, eo61⟩ := Kd.R_slice HO_25.out
                         subst eo61
                         go_wp2_with (first | (go_at_call 30; (with_reducible refine (laws_sum.calls kj46 _ _ t2627 t2647 _ ?side1 ?side2 A58.out).mono ?_); (case side1 => repeat (first | exact (Kd.R_reads' HO_25.out).2.2 | (with_reducible refine Kd.C_alloc ?_ _) | (with_reducible refine Kd.C_drewN ?_ _) | (with_reducible refine Kd.C_drew ?_))); (case side2 => exact (Kd.R_reads' HO_25.out).2.1); rintro e w' ⟨rfl, ⟨nd, rfl⟩⟩; have p2648 : 0 ≤ (0 : Int) := (by omega); have q2648 : 0 < (t2627.length : Int) := of_decide_eq_true (by first | (with_reducible assumption) | assumption); obtain ⟨ad2648, e2648, hx2648_0⟩ := Kd.at_int (Kd.R_reads' HO_25.out).2.2 0 p2648 q2648; cases e2648; have qi2648 : (0 < t2627.length) = True := eq_true (by omega); (try rw [show ((0 : Int)).toNat = 0 from rfl] at hx2648_0); (try rw [Addr.add_zero'] at hx2648_0); replace p2648 := eq_true p2648; replace q2648 := eq_true q2648))
                         go_meet
                         case rel => exact ⟨_, (((rd t2627 0) != 1)), (by first | rfl | (simp; done) | (simp [*]; done)), H', ⟨by have := HJ6.out; have := HJ16.out; have := HJ24.out; have := HJ34.out; have := HJ46.out; first | omega | exact Nat.le_refl _⟩, ⟨by (with_reducible repeat (first | apply Kd.Q_alloc | apply Kd.Q_drewN | apply Kd.Q_drew)); exact Kd.Q_mono HO_4.out (fun _ hk => ⟨hk.1, ⟨hk.2.1, hk.2.2.2⟩⟩)⟩, ⟨by (with_reducible repeat (first | apply Kd.R_alloc | apply Kd.R_drewN | apply Kd.R_drew)); exact Kd.R_mono HO_5.out (fun _ hk => ⟨hk.1, ⟨hk.2.1, hk.2.2.2⟩⟩)⟩, ⟨by (with_reducible repeat (first | apply Kd.Q_alloc | apply Kd.Q_drewN | apply Kd.Q_drew)); exact Kd.Q_mono HO_16.out (fun _ hk => ⟨hk.1, ⟨hk.2.1, hk.2.2.2⟩⟩)⟩, ⟨by (with_reducible repeat (first | apply Kd.R_alloc | apply Kd.R_drewN | apply Kd.R_drew)); exact Kd.R_mono HO_31.out (fun _ hk => ⟨hk.1, ⟨hk.2.1, hk.2.2.1⟩⟩)⟩, ⟨by repeat (first | (with_reducible first | exact HB.out | apply below_alloc | apply pw_below_drewN | apply below_drew1) | exact HB.out)⟩⟩
                       · rw [if_neg c60] at H
                         exact absurd H (by simp)
                     · rw [if_neg c59] at H
                       have c59b0 : (t2647 == t2624) = false := beq_eq_false_iff_ne.mpr c59
                       have c59b1 : (t2647 != t2624) = true := bne_iff_ne.mpr c59
                       have H' := Aside0.mk H
                       clear H
                       obtain ⟨Ao62, co62, eo62⟩ := Kd.R_slice HO_25.out
                       subst eo62
                       go_wp2_with (first | (go_at_call 30; (with_reducible refine (laws_sum.calls kj46 _ _ t2627 t2647 _ ?side1 ?side2 A58.out).mono ?_); (case side1 => repeat (first | exact (Kd.R_reads' HO_25.out).2.2 | (with_reducible refine Kd.C_alloc ?_ _) | (with_reducible refine Kd.C_drewN ?_ _) | (with_reducible refine Kd.C_drew ?_))); (case side2 => exact (Kd.R_reads' HO_25.out).2.1); rintro e w' ⟨rfl, ⟨nd, rfl⟩⟩))
                       go_meet
                       case rel => exact ⟨_, (true), (by first | rfl | (simp; done) | (simp [*]; done)), H', ⟨by have := HJ6.out; have := HJ16.out; have := HJ24.out; have := HJ34.out; have := HJ46.out; first | omega | exact Nat.le_refl _⟩, ⟨by (with_reducible repeat (first | apply Kd.Q_alloc | apply Kd.Q_drewN | apply Kd.Q_drew)); exact Kd.Q_mono HO_4.out (fun _ hk => ⟨hk.1, ⟨hk.2.1, hk.2.2.2⟩⟩)⟩, ⟨by (with_reducible repeat (first | apply Kd.R_alloc | apply Kd.R_drewN | apply Kd.R_drew)); exact Kd.R_mono HO_5.out (fun _ hk => ⟨hk.1, ⟨hk.2.1, hk.2.2.2⟩⟩)⟩, ⟨by (with_reducible repeat (first | apply Kd.Q_alloc | apply Kd.Q_drewN | apply Kd.Q_drew)); exact Kd.Q_mono HO_16.out (fun _ hk => ⟨hk.1, ⟨hk.2.1, hk.2.2.2⟩⟩)⟩, ⟨by (with_reducible repeat (first | apply Kd.R_alloc | apply Kd.R_drewN | apply Kd.R_drew)); exact Kd.R_mono HO_31.out (fun _ hk => ⟨hk.1, ⟨hk.2.1, hk.2.2.1⟩⟩)⟩, ⟨by repeat (first | (with_reducible first | exact HB.out | apply below_alloc | apply pw_below_drewN | apply below_drew1) | exact HB.out)⟩⟩
                   · rw [if_neg c57] at H
                     have c57b0 : (t2628 == 0) = false := beq_eq_false_iff_ne.mpr c57
                     have c57b1 : (t2628 != 0) = true := bne_iff_ne.mpr c57
                     (first | rw [c57b0] | (simp only [i64_w, i32_w]; rw [c57b0]) | rw [c57b2] | simp only [c57b2] | skip)
                     have H' := Aside0.mk H
                     clear H
                     go_wp2
                     go_meet
                     case rel => exact ⟨_, (false), (by first | rfl | (simp; done) | (simp [*]; done)), H', ⟨by have := HJ6.out; have := HJ16.out; have := HJ24.out; have := HJ34.out; have := HJ46.out; first | omega | exact Nat.le_refl _⟩, ⟨by (with_reducible repeat (first | apply Kd.Q_alloc | apply Kd.Q_drewN | apply Kd.Q_drew)); exact Kd.Q_mono HO_4.out (fun _ hk => ⟨hk.1, ⟨hk.2.1, hk.2.2.2⟩⟩)⟩, ⟨by (with_reducible repeat (first | apply Kd.R_alloc | apply Kd.R_drewN | apply Kd.R_drew)); exact Kd.R_mono HO_5.out (fun _ hk => ⟨hk.1, ⟨hk.2.1, hk.2.2.2⟩⟩)⟩, ⟨by (with_reducible repeat (first | apply Kd.Q_alloc | apply Kd.Q_drewN | apply Kd.Q_drew)); exact Kd.Q_mono HO_16.out (fun _ hk => ⟨hk.1, ⟨hk.2.1, hk.2.2.2⟩⟩)⟩, ⟨by (with_reducible repeat (first | apply Kd.R_alloc | apply Kd.R_drewN | apply Kd.R_drew)); exact Kd.R_mono HO_31.out (fun _ hk => ⟨hk.1, ⟨hk.2.1, hk.2.2.1⟩⟩)⟩, ⟨by repeat (first | (with_reducible first | exact HB.out | apply below_alloc | apply pw_below_drewN | apply below_drew1) | exact HB.out)⟩⟩
                  case rest =>
                  as_aux_lemma =>
                  clear HC56
                  try clear c1
                  try clear c2
                  try clear p2
                  try clear q2
                  try clear hx2
                  try clear qi2
                  try clear c3
                  try clear c4
                  try clear c5
                  try clear c6
                  try clear c10
                  try clear c11
                  try clear c12
                  try clear c13
                  try clear c13b0
                  try clear c13b1
                  try clear c13b2
                  try clear c14
                  try clear c20
                  try clear c20b0
                  try clear c20b1
                  try clear c20b2
                  try clear c21
                  try clear p26
                  try clear q26
                  try clear hx26
                  try clear qi26
                  try clear c30
                  try clear c30b0
                  try clear c30b1
                  try clear c30b2
                  try clear c31
                  try clear c39
                  try clear c39b0
                  try clear c39b1
                  try clear c39b2
                  try clear c43
                  try clear c51
                  try clear c51b0
                  try clear c51b1
                  try clear c51b2
                  try clear c55
                  try clear c57
                  try clear c57b0
                  try clear c57b1
                  try clear c57b2
                  try clear c59
                  try clear c59b0
                  try clear c59b1
                  try clear c60
                  try clear c60b0
                  try clear c60b1
                  try clear c61
                  try clear hx2648_0
                  try clear p2
                  try clear p2648
                  try clear q2648
                  obtain ⟨kq, x198_55, rfl, HA, HJ55, HO_4, HO_5, HO_16, HO_31, HB⟩ := hcut
                  cases kq with
                  | zero => exact absurd HA.out (by simp [laws_FnSolutions.j5])
                  | succ kj55 =>
                   have H := HA.out
                   clear HA
                   simp only [laws_FnSolutions.j5] at H
                   by_cases c63 : x198_55 = true
                   · subst c63
                     have H1 : (some false) = some r := by rw [if_pos rfl] at H; exact H
                     clear H
                     have H := H1
                     clear H1
                     obtain rfl := Option.some.inj H
                     go_wp2
                     go_ret
                     exact ⟨by first | rfl | (simp [errW_none, errW_some] <;> rfl) | (simp [*, errW_none, errW_some] <;> rfl), by repeat (first | (with_reducible first | exact HB.out | apply below_alloc | apply pw_below_drewN | apply below_drew1) | exact HB.out)⟩
                   · replace c63 := Bool.eq_false_iff.mpr c63
                     subst c63
                     have H1 : (if t2621 = 0 then (laws_FnSolutions.l0 kj55 t2599 t2600 t2601 t2607 t2608 t2611 t2612 t2615 t2616 t2617 t2620 t2638 t2639 (([] : List Int)) 0) else (laws_FnSolutions.j7 kj55 t2599 t2600 t2601 t2607 t2608 t2611 t2612 t2638 t2639)) = some r := by rw [if_neg (show ¬ (false = true) by decide)] at H; exact H
                     clear H
                     have H := H1
                     clear H1
                     have HC64 := Aside0.mk H
                     clear H
                     go_upto_if 200 with (fail)
                     go_cut [] (fun wc => ∃ (kq : Nat), Aside0 (laws_FnSolutions.j7 kq t2599 t2600 t2601 t2607 t2608 t2611 t2612 t2638 t2639 = some r) ∧ Aside0 (kq ≤ kj55) ∧ Aside0 (Kd.Q (Kd.int .i64) 2 wc w.heap.size (fun k_ => some k_ ≠ ((.slice Ao10 t2601.length co10) : Value).ownBlock ∧ some k_ ≠ (v2640 : Value).ownBlock) (.slice Ao9 t2600.length co9) t2600) ∧ Aside0 (Kd.R (Kd.int .i64) 2 wc w.heap.size (fun k_ => some k_ ≠ ((.slice Ao9 t2600.length co9) : Value).ownBlock ∧ some k_ ≠ (v2640 : Value).ownBlock) (.slice Ao10 t2601.length co10) t2601) ∧ Aside0 (Kd.R (Kd.int .i64) 2 wc w.heap.size (fun k_ => some k_ ≠ ((.slice Ao9 t2600.length co9) : Value).ownBlock ∧ some k_ ≠ ((.slice Ao10 t2601.length co10) : Value).ownBlock) v2640 t2638) ∧ Aside0 (Below w.heap.size w wc))
                     case first =>
                      as_aux_lemma =>
                      have H := HC64.out
                      clear HC64
                      by_cases c65 : t2621 = 0
                      · rw [if_pos c65] at H
                        have c65b0 : (t2621 == 0) = true := beq_iff_eq.mpr c65
                        have c65b1 : (t2621 != 0) = false := bne_eq_false_iff_eq.mpr c65
                        clear c65
                        (first | rw [c65b0] | (simp only [i64_w, i32_w]; rw [c65b0]) | rw [c65b2] | simp only [c65b2] | skip)
                        obtain ⟨y2649, hy2649⟩ : ∃ y_ : List Int, y_ = (([] : List Int)) := ⟨_, rfl⟩
                        replace H : (laws_FnSolutions.l0 kj55 t2599 t2600 t2601 t2607 t2608 t2611 t2612 t2615 t2616 t2617 t2620 t2638 t2639 y2649 0) = some r := by first | (rw [hy2649]; with_reducible exact H) | (have H2_ := (Option.bind_some _ _).symm.trans H; rw [hy2649]; with_reducible exact H2_) | (have H2_ := (Option.bind_some _ _).symm.trans H; with_reducible exact H2_) | with_reducible exact H | (rw [hy2649]; exact H) | exact H
                        have Ny2649 := Aside0.mk hy2649
                        clear hy2649
                        have H' := Aside0.mk H
                        clear H
                        go_wp2_with (first | ((with_reducible refine gate_dst (N := 201) rfl ?_); (try (refine gate_guard (by rfl) ?_; dsimp only)); refine Kd.R_lit (Kd.int .i64) _ 2 ?hg (N := 201) ?hd (xs := ([] : List Int)) (inner := []) (ok := fun _ => True) (okp := fun _ => True) ?hr ?hp (fun _ hk => hk) trivial (Below.refl _ _) (Nat.le_refl _) (by simp) ?_; (case hd => rfl); (case hg => rfl); (case hr => first | (go_simp; done) | (go_simp; rfl)); (case hp => exact (Reps.none _ _)); intro v2650 w66 ho67 hb hg_ hnew_; clear hg_ hnew_; (first | rw [← Ny2649.out] at ho67 | (simp only [Int.reduceToNat] at ho67; rw [← Ny2649.out] at ho67)); have n0_ := Aside0.mk (Kd.Q_elder' (by (with_reducible repeat (first | apply Kd.Q_alloc | apply Kd.Q_drewN | apply Kd.Q_drew)); exact HO_4.out) (Kd.R_base ho67) hb); have n1_ := Aside0.mk (Kd.R_elder' (by (with_reducible repeat (first | apply Kd.R_alloc | apply Kd.R_drewN | apply Kd.R_drew)); exact HO_5.out) (Kd.R_base ho67) hb); have n2_ := Aside0.mk (Kd.Q_elder' (by (with_reducible repeat (first | apply Kd.Q_alloc | apply Kd.Q_drewN | apply Kd.Q_drew)); exact HO_16.out) (Kd.R_base ho67) hb); have n3_ := Aside0.mk (Kd.R_elder' (by (with_reducible repeat (first | apply Kd.R_alloc | apply Kd.R_drewN | apply Kd.R_drew)); exact HO_31.out) (Kd.R_base ho67) hb); have n4_ := Aside0.mk (Kd.R_lower (Kd.R_new' (Kd.R_new' (Kd.R_new' (Kd.R_new' ho67 (Kd.Q_lt (by (with_reducible repeat (first | apply Kd.Q_alloc | apply Kd.Q_drewN | apply Kd.Q_drew)); exact HO_4.out))) (Kd.R_lt (by (with_reducible repeat (first | apply Kd.R_alloc | apply Kd.R_drewN | apply Kd.R_drew)); exact HO_5.out))) (Kd.Q_lt (by (with_reducible repeat (first | apply Kd.Q_alloc | apply Kd.Q_drewN | apply Kd.Q_drew)); exact HO_16.out))) (Kd.R_lt (by (with_reducible repeat (first | apply Kd.R_alloc | apply Kd.R_drewN | apply Kd.R_drew)); exact HO_31.out))) (below_size (by repeat (first | (with_reducible first | exact HB.out | apply below_alloc | apply pw_below_drewN | apply below_drew1) | exact HB.out)))); have n5_ := Aside0.mk (below_step (by repeat (first | (with_reducible first | exact HB.out | apply below_alloc | apply pw_below_drewN | apply below_drew1) | exact HB.out)) hb); clear HO_4; clear HO_5; clear HO_16; clear HO_31; clear HB; have HO_4 := n0_; have HO_5 := n1_; have HO_16 := n2_; have HO_31 := n3_; have HO2651 := n4_; have HB := n5_; clear n0_ n1_ n2_ n3_ n4_ n5_; clear hb ho67))
                        go_loopg [35, 36] kj55 (fun kq v35 v36 w' => ∃ (x35_7 : List Int) (x36_7 : Int), v36 = .int .i64 x36_7 ∧ Aside0 (laws_FnSolutions.l0 kq t2599 t2600 t2601 t2607 t2608 t2611 t2612 t2615 t2616 t2617 t2620 t2638 t2639 x35_7 x36_7 = some r) ∧ Aside0 (kq ≤ kj55) ∧ Aside0 (Kd.Q (Kd.int .i64) 2 w' w.heap.size (fun k_ => some k_ ≠ ((.slice Ao10 t2601.length co10) : Value).ownBlock ∧ some k_ ≠ ((.slice Ao27 t2616.length co27) : Value).ownBlock ∧ some k_ ≠ (v2640 : Value).ownBlock ∧ some k_ ≠ (v35 : Value).ownBlock) (.slice Ao9 t2600.length co9) t2600) ∧ Aside0 (Kd.R (Kd.int .i64) 2 w' w.heap.size (fun k_ => some k_ ≠ ((.slice Ao9 t2600.length co9) : Value).ownBlock ∧ some k_ ≠ ((.slice Ao27 t2616.length co27) : Value).ownBlock ∧ some k_ ≠ (v2640 : Value).ownBlock ∧ some k_ ≠ (v35 : Value).ownBlock) (.slice Ao10 t2601.length co10) t2601) ∧ Aside0 (Kd.Q (Kd.int .i64) 2 w' w.heap.size (fun k_ => some k_ ≠ ((.slice Ao9 t2600.length co9) : Value).ownBlock ∧ some k_ ≠ ((.slice Ao10 t2601.length co10) : Value).ownBlock ∧ some k_ ≠ (v2640 : Value).ownBlock ∧ some k_ ≠ (v35 : Value).ownBlock) (.slice Ao27 t2616.length co27) t2616) ∧ Aside0 (Kd.R (Kd.int .i64) 2 w' w.heap.size (fun k_ => some k_ ≠ ((.slice Ao9 t2600.length co9) : Value).ownBlock ∧ some k_ ≠ ((.slice Ao10 t2601.length co10) : Value).ownBlock ∧ some k_ ≠ ((.slice Ao27 t2616.length co27) : Value).ownBlock ∧ some k_ ≠ (v35 : Value).ownBlock) v2640 t2638) ∧ Aside0 (Kd.R (Kd.int .i64) 2 w' w.heap.size (fun k_ => some k_ ≠ ((.slice Ao9 t2600.length co9) : Value).ownBlock ∧ some k_ ≠ ((.slice Ao10 t2601.length co10) : Value).ownBlock ∧ some k_ ≠ ((.slice Ao27 t2616.length co27) : Value).ownBlock ∧ some k_ ≠ (v2640 : Value).ownBlock) v35 x35_7) ∧ Aside0 (Below w.heap.size w w'))
                        case atStart => exact ⟨(y2649), (0), (by first | rfl | (simp; done) | (simp [*]; done)), H', ⟨Nat.le_refl _⟩, ⟨by (with_reducible repeat (first | apply Kd.Q_alloc | apply Kd.Q_drewN | apply Kd.Q_drew)); exact Kd.Q_mono HO_4.out (fun _ hk => ⟨hk.1.1, ⟨hk.1.2.1, ⟨hk.1.2.2, hk.2⟩⟩⟩)⟩, ⟨by (with_reducible repeat (first | apply Kd.R_alloc | apply Kd.R_drewN | apply Kd.R_drew)); exact Kd.R_mono HO_5.out (fun _ hk => ⟨hk.1.1, ⟨hk.1.2.1, ⟨hk.1.2.2, hk.2⟩⟩⟩)⟩, ⟨by (with_reducible repeat (first | apply Kd.Q_alloc | apply Kd.Q_drewN | apply Kd.Q_drew)); exact Kd.Q_mono HO_16.out (fun _ hk => ⟨hk.1.1, ⟨hk.1.2.1, ⟨hk.1.2.2, hk.2⟩⟩⟩)⟩, ⟨by (with_reducible repeat (first | apply Kd.R_alloc | apply Kd.R_drewN | apply Kd.R_drew)); exact Kd.R_mono HO_31.out (fun _ hk => ⟨hk.1.1, ⟨hk.1.2.1, ⟨hk.1.2.2, hk.2⟩⟩⟩)⟩, ⟨by (with_reducible repeat (first | apply Kd.R_alloc | apply Kd.R_drewN | apply Kd.R_drew)); exact Kd.R_mono HO2651.out (fun _ hk => ⟨hk.1.1.1.2, ⟨hk.1.1.2, ⟨hk.1.2, hk.2⟩⟩⟩)⟩, ⟨by repeat (first | (with_reducible first | exact HB.out | apply below_alloc | apply pw_below_drewN | apply below_drew1) | exact HB.out)⟩⟩
                        case round =>
                        clear H'
                        try clear c1
                        try clear c2
                        try clear p2
                        try clear q2
                        try clear hx2
                        try clear qi2
                        try clear c3
                        try clear c4
                        try clear c5
                        try clear c6
                        try clear c10
                        try clear c11
                        try clear c12
                        try clear c13
                        try clear c13b0
                        try clear c13b1
                        try clear c13b2
                        try clear c14
                        try clear c20
                        try clear c20b0
                        try clear c20b1
                        try clear c20b2
                        try clear c21
                        try clear p26
                        try clear q26
                        try clear hx26
                        try clear qi26
                        try clear c30
                        try clear c30b0
                        try clear c30b1
                        try clear c30b2
                        try clear c31
                        try clear c39
                        try clear c39b0
                        try clear c39b1
                        try clear c39b2
                        try clear c43
                        try clear c51
                        try clear c51b0
                        try clear c51b1
                        try clear c51b2
                        try clear c55
                        try clear c57
                        try clear c57b0
                        try clear c57b1
                        try clear c57b2
                        try clear c59
                        try clear c59b0
                        try clear c59b1
                        try clear c60
                        try clear c60b0
                        try clear c60b1
                        try clear c61
                        try clear c63
                        try clear c65
                        try clear c65b0
                        try clear c65b1
                        try clear c65b2
                        try clear hx2648_0
                        try clear p2
                        try clear p26
                        try clear p2648
                        try clear q2
                        try clear q26
                        try clear q2648
                        obtain ⟨x35_7, x36_7, rfl, HA, HK7, HO_4, HO_5, HO_16, HO_31, HO_35, HB⟩ := hrel
                        cases gk with
                        | zero => exact absurd HA.out (by simp [laws_FnSolutions.l0])
                        | succ k7 =>
                         have H := HA.out
                         clear HA
                         simp only [laws_FnSolutions.l0] at H
                         by_cases c68 : x36_7 < (t2616.length : Int)
                         · rw [if_pos c68] at H
                           have c68b0 : decide (x36_7 < (t2616.length : Int)) = true := decide_eq_true c68
                           clear c68
                           by_cases c69 : x35_7.length < 17592186044416
                           · rw [if_pos c69] at H
                             have LMc69 := Aside0.mk c69
                             clear c69
                             obtain ⟨y2652, hy2652⟩ : ∃ y_ : List Int, y_ = (x35_7 ++ [2]) := ⟨_, rfl⟩
                             replace H : (laws_FnSolutions.l0 k7 t2599 t2600 t2601 t2607 t2608 t2611 t2612 t2615 t2616 t2617 t2620 t2638 t2639 y2652 (wrap64 (x36_7 + 1))) = some r := by first | (rw [hy2652]; with_reducible exact H) | (have H2_ := (Option.bind_some _ _).symm.trans H; rw [hy2652]; with_reducible exact H2_) | (have H2_ := (Option.bind_some _ _).symm.trans H; with_reducible exact H2_) | with_reducible exact H | (rw [hy2652]; exact H) | exact H
                             have Ny2652 := Aside0.mk hy2652
                             clear hy2652
                             have H' := Aside0.mk H
                             clear H
                             go_wp2_with (first | ((with_reducible refine gate_builtin (b := .append) (xs := #[.tmp 208, .tmp 209]) rfl ?_); (try (refine gate_guard (by rfl) ?_; dsimp only)); at_builtin; refine Kd.R_append (Kd.int .i64) (w0 := w) w.heap.size rfl (.tmp 208) (.tmp 209) 24 2 (.int .i64 0) 8 rfl Try.underlying24 info2 rfl (by decide) (by omega) u35 x35_7 2 [.int .i64 2] (fun k_ => some k_ ≠ (.slice Ao9 t2600.length co9 : Value).ownBlock ∧ some k_ ≠ (.slice Ao10 t2601.length co10 : Value).ownBlock ∧ some k_ ≠ (.slice Ao27 t2616.length co27 : Value).ownBlock ∧ some k_ ≠ (v2640 : Value).ownBlock) (fun _ => False) rfl rfl ?aP (fun _ hk => hk.elim) ?aF ?aO ?aB ?aS ?aL ?_; (case aP => exact rfl); (case aB => exact (by repeat (first | (with_reducible first | exact HB.out | apply below_alloc | apply pw_below_drewN | apply below_drew1) | exact HB.out))); (case aF => exact (fun k_ hk => ⟨Kd.fresh' (Kd.Q_lt (by (with_reducible repeat (first | apply Kd.Q_alloc | apply Kd.Q_drewN | apply Kd.Q_drew)); exact HO_4.out)) k_ hk, Kd.fresh' (Kd.R_lt (by (with_reducible repeat (first | apply Kd.R_alloc | apply Kd.R_drewN | apply Kd.R_drew)); exact HO_5.out)) k_ hk, Kd.fresh' (Kd.Q_lt (by (with_reducible repeat (first | apply Kd.Q_alloc | apply Kd.Q_drewN | apply Kd.Q_drew)); exact HO_16.out)) k_ hk, Kd.fresh' (Kd.R_lt (by (with_reducible repeat (first | apply Kd.R_alloc | apply Kd.R_drewN | apply Kd.R_drew)); exact HO_31.out)) k_ hk⟩)); (case aO => exact (by (with_reducible repeat (first | apply Kd.R_alloc | apply Kd.R_drewN | apply Kd.R_drew)); exact HO_35.out)); (case aS => exact (below_size (by repeat (first | (with_reducible first | exact HB.out | apply below_alloc | apply pw_below_drewN | apply below_drew1) | exact HB.out)))); (case aL => have := LMc69.out; omega); intro v2653 w70 ho hb hg hat; rw [← Ny2652.out] at ho; have n0_ := Aside0.mk (Kd.Q_after (ok := (fun k_ => some k_ ≠ (.slice Ao10 t2601.length co10 : Value).ownBlock ∧ some k_ ≠ (.slice Ao27 t2616.length co27 : Value).ownBlock ∧ some k_ ≠ (v2640 : Value).ownBlock)) (by (with_reducible repeat (first | apply Kd.Q_alloc | apply Kd.Q_drewN | apply Kd.Q_drew)); exact Kd.Q_mono HO_4.out (fun _ hk => ⟨⟨hk.1, ⟨hk.2.1, hk.2.2.1⟩⟩, hk.2.2.2⟩)) hg hat); have n1_ := Aside0.mk (Kd.R_after (ok := (fun k_ => some k_ ≠ (.slice Ao9 t2600.length co9 : Value).ownBlock ∧ some k_ ≠ (.slice Ao27 t2616.length co27 : Value).ownBlock ∧ some k_ ≠ (v2640 : Value).ownBlock)) (by (with_reducible repeat (first | apply Kd.R_alloc | apply Kd.R_drewN | apply Kd.R_drew)); exact Kd.R_mono HO_5.out (fun _ hk => ⟨⟨hk.1, ⟨hk.2.1, hk.2.2.1⟩⟩, hk.2.2.2⟩)) hg hat); have n2_ := Aside0.mk (Kd.Q_after (ok := (fun k_ => some k_ ≠ (.slice Ao9 t2600.length co9 : Value).ownBlock ∧ some k_ ≠ (.slice Ao10 t2601.length co10 : Value).ownBlock ∧ some k_ ≠ (v2640 : Value).ownBlock)) (by (with_reducible repeat (first | apply Kd.Q_alloc | apply Kd.Q_drewN | apply Kd.Q_drew)); exact Kd.Q_mono HO_16.out (fun _ hk => ⟨⟨hk.1, ⟨hk.2.1, hk.2.2.1⟩⟩, hk.2.2.2⟩)) hg hat); have n3_ := Aside0.mk (Kd.R_after (ok := (fun k_ => some k_ ≠ (.slice Ao9 t2600.length co9 : Value).ownBlock ∧ some k_ ≠ (.slice Ao10 t2601.length co10 : Value).ownBlock ∧ some k_ ≠ (.slice Ao27 t2616.length co27 : Value).ownBlock)) (by (with_reducible repeat (first | apply Kd.R_alloc | apply Kd.R_drewN | apply Kd.R_drew)); exact Kd.R_mono HO_31.out (fun _ hk => ⟨⟨hk.1, ⟨hk.2.1, hk.2.2.1⟩⟩, hk.2.2.2⟩)) hg hat); have n4_ := Aside0.mk (hb); have n5_ := Aside0.mk (ho); clear HO_4; clear HO_5; clear HO_16; clear HO_31; clear HB; clear HO_35; have HO_4 := n0_; have HO_5 := n1_; have HO_16 := n2_; have HO_31 := n3_; have HB := n4_; have HO2654 := n5_; clear n0_ n1_ n2_ n3_ n4_ n5_; clear ho hb hg hat))
                             go_roundg k7
                             case measure => have := HJ6.out; have := HJ16.out; have := HJ24.out; have := HJ34.out; have := HJ46.out; have := HJ55.out; have := HK7.out; omega
                             case rel => exact ⟨(y2652), (wrap64 (x36_7 + 1)), (by first | rfl | (simp; done) | (simp [*]; done)), H', ⟨by have := HJ6.out; have := HJ16.out; have := HJ24.out; have := HJ34.out; have := HJ46.out; have := HJ55.out; have := HK7.out; omega⟩, ⟨by (with_reducible repeat (first | apply Kd.Q_alloc | apply Kd.Q_drewN | apply Kd.Q_drew)); exact Kd.Q_mono HO_4.out (fun _ hk => ⟨hk.1.1, ⟨hk.1.2.1, ⟨hk.1.2.2, hk.2⟩⟩⟩)⟩, ⟨by (with_reducible repeat (first | apply Kd.R_alloc | apply Kd.R_drewN | apply Kd.R_drew)); exact Kd.R_mono HO_5.out (fun _ hk => ⟨hk.1.1, ⟨hk.1.2.1, ⟨hk.1.2.2, hk.2⟩⟩⟩)⟩, ⟨by (with_reducible repeat (first | apply Kd.Q_alloc | apply Kd.Q_drewN | apply Kd.Q_drew)); exact Kd.Q_mono HO_16.out (fun _ hk => ⟨hk.1.1, ⟨hk.1.2.1, ⟨hk.1.2.2, hk.2⟩⟩⟩)⟩, ⟨by (with_reducible repeat (first | apply Kd.R_alloc | apply Kd.R_drewN | apply Kd.R_drew)); exact Kd.R_mono HO_31.out (fun _ hk => ⟨hk.1.1, ⟨hk.1.2.1, ⟨hk.1.2.2, hk.2⟩⟩⟩)⟩, ⟨by (with_reducible repeat (first | apply Kd.R_alloc | apply Kd.R_drewN | apply Kd.R_drew)); exact HO2654.out⟩, ⟨by repeat (first | (with_reducible first | exact HB.out | apply below_alloc | apply pw_below_drewN | apply below_drew1) | exact HB.out)⟩⟩
                           · rw [if_neg c69] at H
                             exact absurd H (by simp)
                         · rw [if_neg c68] at H
                           have c68b0 : decide (x36_7 < (t2616.length : Int)) = false := decide_eq_false c68
                           clear c68
                           replace H := Option.bind_eq_some_iff.mp H
                           obtain ⟨⟨t2655, t2656⟩, A710, H⟩ := H
                           replace H : (if t2656 = 0 then (if t2655 = t2620 then (laws_FnSolutions.j7 k7 t2599 t2600 t2601 t2607 t2608 t2611 t2612 t2638 t2639) else (some false)) else (some false)) = some r := H
                           have A71 := Aside0.mk A710
                           clear A710
                           by_cases c72 : t2656 = 0
                           · rw [if_pos c72] at H
                             have c72b0 : (t2656 == 0) = true := beq_iff_eq.mpr c72
                             have c72b1 : (t2656 != 0) = false := bne_eq_false_iff_eq.mpr c72
                             clear c72
                             by_cases c73 : t2655 = t2620
                             · rw [if_pos c73] at H
                               have c73b0 : (t2655 == t2620) = true := beq_iff_eq.mpr c73
                               have c73b1 : (t2655 != t2620) = false := bne_eq_false_iff_eq.mpr c73
                               clear c73
                               have H' := Aside0.mk H
                               clear H
                               obtain ⟨Ao74, co74, eo74⟩ := Kd.R_slice HO_35.out
                               subst eo74
                               go_wp2_with (first | ((with_reducible refine gate_callee (f := 61) rfl ?_); refine goesL_ (some 216) rfl rfl Try.func61 (by kernel_rfl) rfl #[.int .i64 t2615, .slice Ao27 t2616.length co27, .slice Ao74 x35_7.length co74, .int .i64 t2617] rfl (by (try simp only [List.map_toArray, List.map_cons, List.map_nil]); first | done | rfl | (simp only [List.length_drop, List.length_take]; rfl)) ?_; (with_reducible refine (impl_CountSolutions.calls k7 t2615 _ _ t2616 _ _ x35_7 t2617 t2655 t2656 _ ?side1 ?side2 ?side3 ?side4 A71.out).mono ?_); (case side1 => repeat (first | exact (Kd.Q_reads' HO_16.out).2.2 | (with_reducible refine Kd.C_alloc ?_ _) | (with_reducible refine Kd.C_drewN ?_ _) | (with_reducible refine Kd.C_drew ?_))); (case side2 => exact (Kd.Q_reads' HO_16.out).2.1); (case side3 => repeat (first | exact (Kd.R_reads' HO_35.out).2.2 | (with_reducible refine Kd.C_alloc ?_ _) | (with_reducible refine Kd.C_drewN ?_ _) | (with_reducible refine Kd.C_drew ?_))); (case side4 => exact (Kd.R_reads' HO_35.out).2.1); rintro e w75 ⟨rfl, hb⟩; refine ⟨_, rfl, ?_⟩; have n0_ := Aside0.mk (Kd.Q_below (by (with_reducible repeat (first | apply Kd.Q_alloc | apply Kd.Q_drewN | apply Kd.Q_drew)); exact HO_4.out) hb); have n1_ := Aside0.mk (Kd.R_below (by (with_reducible repeat (first | apply Kd.R_alloc | apply Kd.R_drewN | apply Kd.R_drew)); exact HO_5.out) hb); have n2_ := Aside0.mk (Kd.Q_below (by (with_reducible repeat (first | apply Kd.Q_alloc | apply Kd.Q_drewN | apply Kd.Q_drew)); exact HO_16.out) hb); have n3_ := Aside0.mk (Kd.R_below (by (with_reducible repeat (first | apply Kd.R_alloc | apply Kd.R_drewN | apply Kd.R_drew)); exact HO_31.out) hb); have n4_ := Aside0.mk (Kd.R_below (by (with_reducible repeat (first | apply Kd.R_alloc | apply Kd.R_drewN | apply Kd.R_drew)); exact HO_35.out) hb); have n5_ := Aside0.mk (below_step (by repeat (first | (with_reducible first | exact HB.out | apply below_alloc | apply pw_below_drewN | apply below_drew1) | exact HB.out)) hb); clear HO_4; clear HO_5; clear HO_16; clear HO_31; clear HO_35; clear HB; have HO_4 := n0_; have HO_5 := n1_; have HO_16 := n2_; have HO_31 := n3_; have HO_35 := n4_; have HB := n5_; clear n0_ n1_ n2_ n3_ n4_ n5_; (try clear hb); (try clear hb2); (try clear hk); (try clear hi)))
                               go_meet
                               case rel => exact ⟨_, H', ⟨by have := HJ6.out; have := HJ16.out; have := HJ24.out; have := HJ34.out; have := HJ46.out; have := HJ55.out; have := HK7.out; first | omega | exact Nat.le_refl _⟩, ⟨by (with_reducible repeat (first | apply Kd.Q_alloc | apply Kd.Q_drewN | apply Kd.Q_drew)); exact Kd.Q_mono HO_4.out (fun _ hk => ⟨hk.1, hk.2.2.1⟩)⟩, ⟨by (with_reducible repeat (first | apply Kd.R_alloc | apply Kd.R_drewN | apply Kd.R_drew)); exact Kd.R_mono HO_5.out (fun _ hk => ⟨hk.1, hk.2.2.1⟩)⟩, ⟨by (with_reducible repeat (first | apply Kd.R_alloc | apply Kd.R_drewN | apply Kd.R_drew)); exact Kd.R_mono HO_31.out (fun _ hk => ⟨hk.1, hk.2.1⟩)⟩, ⟨by repeat (first | (with_reducible first | exact HB.out | apply below_alloc | apply pw_below_drewN | apply below_drew1) | exact HB.out)⟩⟩
                             · rw [if_neg c73] at H
                               have c73b0 : (t2655 == t2620) = false := beq_eq_false_iff_ne.mpr c73
                               have c73b1 : (t2655 != t2620) = true := bne_iff_ne.mpr c73
                               obtain rfl := Option.some.inj H
                               obtain ⟨Ao76, co76, eo76⟩ := Kd.R_slice HO_35.out
                               subst eo76
                               go_wp2_with (first | ((with_reducible refine gate_callee (f := 61) rfl ?_); refine goesL_ (some 216) rfl rfl Try.func61 (by kernel_rfl) rfl #[.int .i64 t2615, .slice Ao27 t2616.length co27, .slice Ao76 x35_7.length co76, .int .i64 t2617] rfl (by (try simp only [List.map_toArray, List.map_cons, List.map_nil]); first | done | rfl | (simp only [List.length_drop, List.length_take]; rfl)) ?_; (with_reducible refine (impl_CountSolutions.calls k7 t2615 _ _ t2616 _ _ x35_7 t2617 t2655 t2656 _ ?side1 ?side2 ?side3 ?side4 A71.out).mono ?_); (case side1 => repeat (first | exact (Kd.Q_reads' HO_16.out).2.2 | (with_reducible refine Kd.C_alloc ?_ _) | (with_reducible refine Kd.C_drewN ?_ _) | (with_reducible refine Kd.C_drew ?_))); (case side2 => exact (Kd.Q_reads' HO_16.out).2.1); (case side3 => repeat (first | exact (Kd.R_reads' HO_35.out).2.2 | (with_reducible refine Kd.C_alloc ?_ _) | (with_reducible refine Kd.C_drewN ?_ _) | (with_reducible refine Kd.C_drew ?_))); (case side4 => exact (Kd.R_reads' HO_35.out).2.1); rintro e w77 ⟨rfl, hb⟩; refine ⟨_, rfl, ?_⟩; have n0_ := Aside0.mk (Kd.Q_below (by (with_reducible repeat (first | apply Kd.Q_alloc | apply Kd.Q_drewN | apply Kd.Q_drew)); exact HO_4.out) hb); have n1_ := Aside0.mk (Kd.R_below (by (with_reducible repeat (first | apply Kd.R_alloc | apply Kd.R_drewN | apply Kd.R_drew)); exact HO_5.out) hb); have n2_ := Aside0.mk (Kd.Q_below (by (with_reducible repeat (first | apply Kd.Q_alloc | apply Kd.Q_drewN | apply Kd.Q_drew)); exact HO_16.out) hb); have n3_ := Aside0.mk (Kd.R_below (by (with_reducible repeat (first | apply Kd.R_alloc | apply Kd.R_drewN | apply Kd.R_drew)); exact HO_31.out) hb); have n4_ := Aside0.mk (Kd.R_below (by (with_reducible repeat (first | apply Kd.R_alloc | apply Kd.R_drewN | apply Kd.R_drew)); exact HO_35.out) hb); have n5_ := Aside0.mk (below_step (by repeat (first | (with_reducible first | exact HB.out | apply below_alloc | apply pw_below_drewN | apply below_drew1) | exact HB.out)) hb); clear HO_4; clear HO_5; clear HO_16; clear HO_31; clear HO_35; clear HB; have HO_4 := n0_; have HO_5 := n1_; have HO_16 := n2_; have HO_31 := n3_; have HO_35 := n4_; have HB := n5_; clear n0_ n1_ n2_ n3_ n4_ n5_; (try clear hb); (try clear hb2); (try clear hk); (try clear hi)))
                               go_ret
                               exact ⟨by first | rfl | (simp [errW_none, errW_some] <;> rfl) | (simp [*, errW_none, errW_some] <;> rfl), by repeat (first | (with_reducible first | exact HB.out | apply below_alloc | apply pw_below_drewN | apply below_drew1) | exact HB.out)⟩
                           · rw [if_neg c72] at H
                             have c72b0 : (t2656 == 0) = false := beq_eq_false_iff_ne.mpr c72
                             have c72b1 : (t2656 != 0) = true := bne_iff_ne.mpr c72
                             obtain rfl := Option.some.inj H
                             obtain ⟨Ao78, co78, eo78⟩ := Kd.R_slice HO_35.out
                             subst eo78
                             go_wp2_with (first | ((with_reducible refine gate_callee (f := 61) rfl ?_); refine goesL_ (some 216) rfl rfl Try.func61 (by kernel_rfl) rfl #[.int .i64 t2615, .slice Ao27 t2616.length co27, .slice Ao78 x35_7.length co78, .int .i64 t2617] rfl (by (try simp only [List.map_toArray, List.map_cons, List.map_nil]); first | done | rfl | (simp only [List.length_drop, List.length_take]; rfl)) ?_; (with_reducible refine (impl_CountSolutions.calls k7 t2615 _ _ t2616 _ _ x35_7 t2617 t2655 t2656 _ ?side1 ?side2 ?side3 ?side4 A71.out).mono ?_); (case side1 => repeat (first | exact (Kd.Q_reads' HO_16.out).2.2 | (with_reducible refine Kd.C_alloc ?_ _) | (with_reducible refine Kd.C_drewN ?_ _) | (with_reducible refine Kd.C_drew ?_))); (case side2 => exact (Kd.Q_reads' HO_16.out).2.1); (case side3 => repeat (first | exact (Kd.R_reads' HO_35.out).2.2 | (with_reducible refine Kd.C_alloc ?_ _) | (with_reducible refine Kd.C_drewN ?_ _) | (with_reducible refine Kd.C_drew ?_))); (case side4 => exact (Kd.R_reads' HO_35.out).2.1); rintro e w79 ⟨rfl, hb⟩; refine ⟨_, rfl, ?_⟩; have n0_ := Aside0.mk (Kd.Q_below (by (with_reducible repeat (first | apply Kd.Q_alloc | apply Kd.Q_drewN | apply Kd.Q_drew)); exact HO_4.out) hb); have n1_ := Aside0.mk (Kd.R_below (by (with_reducible repeat (first | apply Kd.R_alloc | apply Kd.R_drewN | apply Kd.R_drew)); exact HO_5.out) hb); have n2_ := Aside0.mk (Kd.Q_below (by (with_reducible repeat (first | apply Kd.Q_alloc | apply Kd.Q_drewN | apply Kd.Q_drew)); exact HO_16.out) hb); have n3_ := Aside0.mk (Kd.R_below (by (with_reducible repeat (first | apply Kd.R_alloc | apply Kd.R_drewN | apply Kd.R_drew)); exact HO_31.out) hb); have n4_ := Aside0.mk (Kd.R_below (by (with_reducible repeat (first | apply Kd.R_alloc | apply Kd.R_drewN | apply Kd.R_drew)); exact HO_35.out) hb); have n5_ := Aside0.mk (below_step (by repeat (first | (with_reducible first | exact HB.out | apply below_alloc | apply pw_below_drewN | apply below_drew1) | exact HB.out)) hb); clear HO_4; clear HO_5; clear HO_16; clear HO_31; clear HO_35; clear HB; have HO_4 := n0_; have HO_5 := n1_; have HO_16 := n2_; have HO_31 := n3_; have HO_35 := n4_; have HB := n5_; clear n0_ n1_ n2_ n3_ n4_ n5_; (try clear hb); (try clear hb2); (try clear hk); (try clear hi)))
                             go_ret
                             exact ⟨by first | rfl | (simp [errW_none, errW_some] <;> rfl) | (simp [*, errW_none, errW_some] <;> rfl), by repeat (first | (with_reducible first | exact HB.out | apply below_alloc | apply pw_below_drewN | apply below_drew1) | exact HB.out)⟩
                      · rw [if_neg c65] at H
                        have c65b0 : (t2621 == 0) = false := beq_eq_false_iff_ne.mpr c65
                        have c65b1 : (t2621 != 0) = true := bne_iff_ne.mpr c65
                        (first | rw [c65b0] | (simp only [i64_w, i32_w]; rw [c65b0]) | rw [c65b2] | simp only [c65b2] | skip)
                        have H' := Aside0.mk H
                        clear H
                        go_wp2
                        go_meet
                        case rel => exact ⟨_, H', ⟨by have := HJ6.out; have := HJ16.out; have := HJ24.out; have := HJ34.out; have := HJ46.out; have := HJ55.out; first | omega | exact Nat.le_refl _⟩, ⟨by (with_reducible repeat (first | apply Kd.Q_alloc | apply Kd.Q_drewN | apply Kd.Q_drew)); exact Kd.Q_mono HO_4.out (fun _ hk => ⟨hk.1, hk.2.2⟩)⟩, ⟨by (with_reducible repeat (first | apply Kd.R_alloc | apply Kd.R_drewN | apply Kd.R_drew)); exact Kd.R_mono HO_5.out (fun _ hk => ⟨hk.1, hk.2.2⟩)⟩, ⟨by (with_reducible repeat (first | apply Kd.R_alloc | apply Kd.R_drewN | apply Kd.R_drew)); exact Kd.R_mono HO_31.out (fun _ hk => ⟨hk.1, hk.2.1⟩)⟩, ⟨by repeat (first | (with_reducible first | exact HB.out | apply below_alloc | apply pw_below_drewN | apply below_drew1) | exact HB.out)⟩⟩
                     case rest =>
                     as_aux_lemma =>
                     clear HC64
                     try clear c1
                     try clear c2
                     try clear p2
                     try clear q2
                     try clear hx2
                     try clear qi2
                     try clear c3
                     try clear c4
                     try clear c5
                     try clear c6
                     try clear p6
                     try clear c7
                     try clear c10
                     try clear c11
                     try clear c12
                     try clear c13
                     try clear c13b0
                     try clear c13b1
                     try clear c13b2
                     try clear c14
                     try clear c20
                     try clear c20b0
                     try clear c20b1
                     try clear c20b2
                     try clear c21
                     try clear p26
                     try clear q26
                     try clear hx26
                     try clear qi26
                     try clear c30
                     try clear c30b0
                     try clear c30b1
                     try clear c30b2
                     try clear c31
                     try clear c39
                     try clear c39b0
                     try clear c39b1
                     try clear c39b2
                     try clear c43
                     try clear c51
                     try clear c51b0
                     try clear c51b1
                     try clear c51b2
                     try clear c55
                     try clear c57
                     try clear c57b0
                     try clear c57b1
                     try clear c57b2
                     try clear c59
                     try clear c59b0
                     try clear c59b1
                     try clear c60
                     try clear c60b0
                     try clear c60b1
                     try clear c61
                     try clear c63
                     try clear p64
                     try clear c65
                     try clear c65b0
                     try clear c65b1
                     try clear c65b2
                     try clear c68
                     try clear c68b0
                     try clear c69
                     try clear c72
                     try clear c72b0
                     try clear c72b1
                     try clear c73
                     try clear c73b0
                     try clear c73b1
                     try clear hx2648_0
                     try clear p2
                     try clear p26
                     try clear p2648
                     try clear q2
                     try clear q26
                     try clear q2648
                     obtain ⟨kq, HA, HJ63, HO_4, HO_5, HO_31, HB⟩ := hcut
                     cases kq with
                     | zero => exact absurd HA.out (by simp [laws_FnSolutions.j7])
                     | succ kj63 =>
                      have H := HA.out
                      clear HA
                      simp only [laws_FnSolutions.j7] at H
                      have HC80 := Aside0.mk H
                      clear H
                      go_upto_region 38 with (fail)
                      go_cut [244] (fun v244 wc => ∃ (kq : Nat) (x244_79 : Bool), v244 = .bool x244_79 ∧ Aside0 (laws_FnSolutions.j8 kq t2599 t2600 t2601 t2607 t2608 t2611 t2612 x244_79 = some r) ∧ Aside0 (kq ≤ kj63) ∧ Aside0 (Kd.Q (Kd.int .i64) 2 wc w.heap.size (fun k_ => some k_ ≠ ((.slice Ao10 t2601.length co10) : Value).ownBlock) (.slice Ao9 t2600.length co9) t2600) ∧ Aside0 (Kd.R (Kd.int .i64) 2 wc w.heap.size (fun k_ => some k_ ≠ ((.slice Ao9 t2600.length co9) : Value).ownBlock) (.slice Ao10 t2601.length co10) t2601) ∧ Aside0 (Below w.heap.size w wc))
                      case first =>
                       as_aux_lemma =>
                       have H := HC80.out
                       clear HC80
                       by_cases c81 : t2639 = 0
                       · rw [if_pos c81] at H
                         have c81b0 : (t2639 == 0) = true := beq_iff_eq.mpr c81
                         have c81b1 : (t2639 != 0) = false := bne_eq_false_iff_eq.mpr c81
                         clear c81
                         (first | rw [c81b0] | (simp only [i64_w, i32_w]; rw [c81b0]) | rw [c81b2] | simp only [c81b2] | skip)
                         by_cases c82 : (t2638.length : Int) < 2
                         · rw [if_pos c82] at H
                           have c82b0 : decide ((t2638.length : Int) < 2) = true := decide_eq_true c82
                           have c82b1 : decide (t2638.length < 2) = true := decide_eq_true (by omega)
                           clear c82
                           have H' := Aside0.mk H
                           clear H
                           obtain ⟨Ao83, co83, eo83⟩ := Kd.R_slice HO_31.out
                           subst eo83
                           go_wp2
                           go_meet
                           case rel => exact ⟨_, (true), (by first | rfl | (simp; done) | (simp [*]; done)), H', ⟨by have := HJ6.out; have := HJ16.out; have := HJ24.out; have := HJ34.out; have := HJ46.out; have := HJ55.out; have := HJ63.out; first | omega | exact Nat.le_refl _⟩, ⟨by (with_reducible repeat (first | apply Kd.Q_alloc | apply Kd.Q_drewN | apply Kd.Q_drew)); exact Kd.Q_mono HO_4.out (fun _ hk => hk.1)⟩, ⟨by (with_reducible repeat (first | apply Kd.R_alloc | apply Kd.R_drewN | apply Kd.R_drew)); exact Kd.R_mono HO_5.out (fun _ hk => hk.1)⟩, ⟨by repeat (first | (with_reducible first | exact HB.out | apply below_alloc | apply pw_below_drewN | apply below_drew1) | exact HB.out)⟩⟩
                         · rw [if_neg c82] at H
                           have c82b0 : decide ((t2638.length : Int) < 2) = false := decide_eq_false c82
                           have c82b1 : decide (t2638.length < 2) = false := decide_eq_false (by omega)
                           clear c82
                           by_cases c84 : 0 < (t2638.length : Int)
                           · rw [if_pos c84] at H
                             have c84b0 : decide (0 < (t2638.length : Int)) = true := decide_eq_true c84
                             have c84b1 : decide (0 < t2638.length) = true := decide_eq_true (by omega)
                             clear c84
                             by_cases c85 : (rd t2638 0) = 0
                             · rw [if_pos c85] at H
                               have c85b0 : ((rd t2638 0) == 0) = true := beq_iff_eq.mpr c85
                               have c85b1 : ((rd t2638 0) != 0) = false := bne_eq_false_iff_eq.mpr c85
                               clear c85
                               by_cases c86 : 1 < (t2638.length : Int)
                               · rw [if_pos c86] at H
                                 have c86b0 : decide (1 < (t2638.length : Int)) = true := decide_eq_true c86
                                 have c86b1 : decide (1 < t2638.length) = true := decide_eq_true (by omega)
                                 clear c86
                                 have H' := Aside0.mk H
                                 clear H
                                 obtain ⟨Ao87, co87, eo87⟩ := Kd.R_slice HO_31.out
                                 subst eo87
                                 have p2657 : 0 ≤ (0 : Int) := (by omega)
                                 have q2657 : 0 < (t2638.length : Int) := of_decide_eq_true (by first | (with_reducible assumption) | assumption)
                                 obtain ⟨ad2657, e2657, hx2657_0⟩ := Kd.at_int (Kd.R_reads' HO_31.out).2.2 0 p2657 q2657
                                 cases e2657
                                 have qi2657 : (0 < t2638.length) = True := eq_true (by omega)
                                 (try rw [show ((0 : Int)).toNat = 0 from rfl] at hx2657_0)
                                 (try rw [Addr.add_zero'] at hx2657_0)
                                 replace p2657 := eq_true p2657
                                 replace q2657 := eq_true q2657
                                 have p2658 : 0 ≤ (1 : Int) := (by omega)
                                 have q2658 : 1 < (t2638.length : Int) := of_decide_eq_true (by first | (with_reducible assumption) | assumption)
                                 obtain ⟨ad2658, e2658, hx2658_0⟩ := Kd.at_int (Kd.R_reads' HO_31.out).2.2 1 p2658 q2658
                                 obtain rfl : ad2657 = ad2658 := (by injection e2658)
                                 (try simp only [show (1 : Int).toNat = 1 from rfl, Nat.reduceMul, Nat.reduceEqDiff, Go.Addr.add, ↓reduceIte] at hx2658_0)
                                 have qi2658 : (1 < t2638.length) = True := eq_true (by omega)
                                 (try rw [show ((1 : Int)).toNat = 1 from rfl] at hx2658_0)
                                 replace p2658 := eq_true p2658
                                 replace q2658 := eq_true q2658
                                 go_wp2
                                 go_meet
                                 case rel => exact ⟨_, (((rd t2638 1) != 1)), (by first | rfl | (simp; done) | (simp [*]; done)), H', ⟨by have := HJ6.out; have := HJ16.out; have := HJ24.out; have := HJ34.out; have := HJ46.out; have := HJ55.out; have := HJ63.out; first | omega | exact Nat.le_refl _⟩, ⟨by (with_reducible repeat (first | apply Kd.Q_alloc | apply Kd.Q_drewN | apply Kd.Q_drew)); exact Kd.Q_mono HO_4.out (fun _ hk => hk.1)⟩, ⟨by (with_reducible repeat (first | apply Kd.R_alloc | apply Kd.R_drewN | apply Kd.R_drew)); exact Kd.R_mono HO_5.out (fun _ hk => hk.1)⟩, ⟨by repeat (first | (with_reducible first | exact HB.out | apply below_alloc | apply pw_below_drewN | apply below_drew1) | exact HB.out)⟩⟩
                               · rw [if_neg c86] at H
                                 exact absurd H (by simp)
                             · rw [if_neg c85] at H
                               have c85b0 : ((rd t2638 0) == 0) = false := beq_eq_false_iff_ne.mpr c85
                               have c85b1 : ((rd t2638 0) != 0) = true := bne_iff_ne.mpr c85
                               have H' := Aside0.mk H
                               clear H
                               obtain ⟨Ao88, co88, eo88⟩ := Kd.R_slice HO_31.out
                               subst eo88
                               have p2657 : 0 ≤ (0 : Int) := (by omega)
                               have q2657 : 0 < (t2638.length : Int) := of_decide_eq_true (by first | (with_reducible assumption) | assumption)
                               obtain ⟨ad2657, e2657, hx2657_0⟩ := Kd.at_int (Kd.R_reads' HO_31.out).2.2 0 p2657 q2657
                               cases e2657
                               have qi2657 : (0 < t2638.length) = True := eq_true (by omega)
                               (try rw [show ((0 : Int)).toNat = 0 from rfl] at hx2657_0)
                               (try rw [Addr.add_zero'] at hx2657_0)
                               replace p2657 := eq_true p2657
                               replace q2657 := eq_true q2657
                               go_wp2
                               go_meet
                               case rel => exact ⟨_, (true), (by first | rfl | (simp; done) | (simp [*]; done)), H', ⟨by have := HJ6.out; have := HJ16.out; have := HJ24.out; have := HJ34.out; have := HJ46.out; have := HJ55.out; have := HJ63.out; first | omega | exact Nat.le_refl _⟩, ⟨by (with_reducible repeat (first | apply Kd.Q_alloc | apply Kd.Q_drewN | apply Kd.Q_drew)); exact Kd.Q_mono HO_4.out (fun _ hk => hk.1)⟩, ⟨by (with_reducible repeat (first | apply Kd.R_alloc | apply Kd.R_drewN | apply Kd.R_drew)); exact Kd.R_mono HO_5.out (fun _ hk => hk.1)⟩, ⟨by repeat (first | (with_reducible first | exact HB.out | apply below_alloc | apply pw_below_drewN | apply below_drew1) | exact HB.out)⟩⟩
                           · rw [if_neg c84] at H
                             exact absurd H (by simp)
                       · rw [if_neg c81] at H
                         have c81b0 : (t2639 == 0) = false := beq_eq_false_iff_ne.mpr c81
                         have c81b1 : (t2639 != 0) = true := bne_iff_ne.mpr c81
                         (first | rw [c81b0] | (simp only [i64_w, i32_w]; rw [c81b0]) | rw [c81b2] | simp only [c81b2] | skip)
                         have H' := Aside0.mk H
                         clear H
                         go_wp2
                         go_meet
                         case rel => exact ⟨_, (false), (by first | rfl | (simp; done) | (simp [*]; done)), H', ⟨by have := HJ6.out; have := HJ16.out; have := HJ24.out; have := HJ34.out; have := HJ46.out; have := HJ55.out; have := HJ63.out; first | omega | exact Nat.le_refl _⟩, ⟨by (with_reducible repeat (first | apply Kd.Q_alloc | apply Kd.Q_drewN | apply Kd.Q_drew)); exact Kd.Q_mono HO_4.out (fun _ hk => hk.1)⟩, ⟨by (with_reducible repeat (first | apply Kd.R_alloc | apply Kd.R_drewN | apply Kd.R_drew)); exact Kd.R_mono HO_5.out (fun _ hk => hk.1)⟩, ⟨by repeat (first | (with_reducible first | exact HB.out | apply below_alloc | apply pw_below_drewN | apply below_drew1) | exact HB.out)⟩⟩
                      case rest =>
                      as_aux_lemma =>
                      clear HC80
                      try clear c1
                      try clear c2
                      try clear p2
                      try clear q2
                      try clear hx2
                      try clear qi2
                      try clear c3
                      try clear c4
                      try clear c5
                      try clear c6
                      try clear p6
                      try clear c7
                      try clear c8
                      try clear c10
                      try clear c11
                      try clear c12
                      try clear c13
                      try clear c13b0
                      try clear c13b1
                      try clear c13b2
                      try clear c14
                      try clear c20
                      try clear c20b0
                      try clear c20b1
                      try clear c20b2
                      try clear c21
                      try clear p26
                      try clear q26
                      try clear hx26
                      try clear qi26
                      try clear c30
                      try clear c30b0
                      try clear c30b1
                      try clear c30b2
                      try clear c31
                      try clear c39
                      try clear c39b0
                      try clear c39b1
                      try clear c39b2
                      try clear c43
                      try clear c51
                      try clear c51b0
                      try clear c51b1
                      try clear c51b2
                      try clear c55
                      try clear c57
                      try clear c57b0
                      try clear c57b1
                      try clear c57b2
                      try clear c59
                      try clear c59b0
                      try clear c59b1
                      try clear c60
                      try clear c60b0
                      try clear c60b1
                      try clear c61
                      try clear c63
                      try clear p64
                      try clear c65
                      try clear c65b0
                      try clear c65b1
                      try clear c65b2
                      try clear c68
                      try clear c68b0
                      try clear c69
                      try clear c72
                      try clear c72b0
                      try clear c72b1
                      try clear c73
                      try clear c73b0
                      try clear c73b1
                      try clear c81
                      try clear c81b0
                      try clear c81b1
                      try clear c81b2
                      try clear c82
                      try clear c82b0
                      try clear c82b1
                      try clear c84
                      try clear c84b0
                      try clear c84b1
                      try clear c85
                      try clear c85b0
                      try clear c85b1
                      try clear c86
                      try clear c86b0
                      try clear c86b1
                      try clear hx2648_0
                      try clear hx2657_0
                      try clear hx2658_0
                      try clear p2
                      try clear p26
                      try clear p2648
                      try clear p2657
                      try clear p2658
                      try clear p6
                      try clear p64
                      try clear q2
                      try clear q26
                      try clear q2648
                      try clear q2657
                      try clear q2658
                      obtain ⟨kq, x244_79, rfl, HA, HJ79, HO_4, HO_5, HB⟩ := hcut
                      cases kq with
                      | zero => exact absurd HA.out (by simp [laws_FnSolutions.j8])
                      | succ kj79 =>
                       have H := HA.out
                       clear HA
                       simp only [laws_FnSolutions.j8] at H
                       by_cases c89 : x244_79 = true
                       · subst c89
                         have H1 : (some false) = some r := by rw [if_pos rfl] at H; exact H
                         clear H
                         have H := H1
                         clear H1
                         obtain rfl := Option.some.inj H
                         go_wp2
                         go_ret
                         exact ⟨by first | rfl | (simp [errW_none, errW_some] <;> rfl) | (simp [*, errW_none, errW_some] <;> rfl), by repeat (first | (with_reducible first | exact HB.out | apply below_alloc | apply pw_below_drewN | apply below_drew1) | exact HB.out)⟩
                       · replace c89 := Bool.eq_false_iff.mpr c89
                         subst c89
                         have H1 : (if t2608 = 0 then (if t2612 = 0 then (laws_FnSolutions.j9 kj79 t2599 t2600 t2601 t2607 (decide (t2611 > t2607))) else (laws_FnSolutions.j9 kj79 t2599 t2600 t2601 t2607 true)) else (if t2612 = t2608 then (some (t2607 == 0)) else (some false))) = some r := by rw [if_neg (show ¬ (false = true) by decide)] at H; exact H
                         clear H
                         have H := H1
                         clear H1
                         by_cases c90 : t2608 = 0
                         · rw [if_pos c90] at H
                           have c90b0 : (t2608 == 0) = true := beq_iff_eq.mpr c90
                           have c90b1 : (t2608 != 0) = false := bne_eq_false_iff_eq.mpr c90
                           clear c90
                           have HC91 := Aside0.mk H
                           clear H
                           go_upto_region 42 with (fail)
                           go_cut [260] (fun v260 wc => ∃ (kq : Nat) (x260_90 : Bool), v260 = .bool x260_90 ∧ Aside0 (laws_FnSolutions.j9 kq t2599 t2600 t2601 t2607 x260_90 = some r) ∧ Aside0 (kq ≤ kj79) ∧ Aside0 (Kd.Q (Kd.int .i64) 2 wc w.heap.size (fun k_ => some k_ ≠ ((.slice Ao10 t2601.length co10) : Value).ownBlock) (.slice Ao9 t2600.length co9) t2600) ∧ Aside0 (Kd.R (Kd.int .i64) 2 wc w.heap.size (fun k_ => some k_ ≠ ((.slice Ao9 t2600.length co9) : Value).ownBlock) (.slice Ao10 t2601.length co10) t2601) ∧ Aside0 (Below w.heap.size w wc))
                           case first =>
                            as_aux_lemma =>
                            have H := HC91.out
                            clear HC91
                            by_cases c92 : t2612 = 0
                            · rw [if_pos c92] at H
                              have c92b0 : (t2612 == 0) = true := beq_iff_eq.mpr c92
                              have c92b1 : (t2612 != 0) = false := bne_eq_false_iff_eq.mpr c92
                              clear c92
                              (first | rw [c92b0] | (simp only [i64_w, i32_w]; rw [c92b0]) | rw [c92b2] | simp only [c92b2] | skip)
                              have H' := Aside0.mk H
                              clear H
                              go_wp2
                              go_meet
                              case rel => exact ⟨_, (decide (t2611 > t2607)), (by first | rfl | (simp; done) | (simp [*]; done)), H', ⟨by have := HJ6.out; have := HJ16.out; have := HJ24.out; have := HJ34.out; have := HJ46.out; have := HJ55.out; have := HJ63.out; have := HJ79.out; first | omega | exact Nat.le_refl _⟩, ⟨by (with_reducible repeat (first | apply Kd.Q_alloc | apply Kd.Q_drewN | apply Kd.Q_drew)); exact HO_4.out⟩, ⟨by (with_reducible repeat (first | apply Kd.R_alloc | apply Kd.R_drewN | apply Kd.R_drew)); exact HO_5.out⟩, ⟨by repeat (first | (with_reducible first | exact HB.out | apply below_alloc | apply pw_below_drewN | apply below_drew1) | exact HB.out)⟩⟩
                            · rw [if_neg c92] at H
                              have c92b0 : (t2612 == 0) = false := beq_eq_false_iff_ne.mpr c92
                              have c92b1 : (t2612 != 0) = true := bne_iff_ne.mpr c92
                              (first | rw [c92b0] | (simp only [i64_w, i32_w]; rw [c92b0]) | rw [c92b2] | simp only [c92b2] | skip)
                              have H' := Aside0.mk H
                              clear H
                              go_wp2
                              go_meet
                              case rel => exact ⟨_, (true), (by first | rfl | (simp; done) | (simp [*]; done)), H', ⟨by have := HJ6.out; have := HJ16.out; have := HJ24.out; have := HJ34.out; have := HJ46.out; have := HJ55.out; have := HJ63.out; have := HJ79.out; first | omega | exact Nat.le_refl _⟩, ⟨by (with_reducible repeat (first | apply Kd.Q_alloc | apply Kd.Q_drewN | apply Kd.Q_drew)); exact HO_4.out⟩, ⟨by (with_reducible repeat (first | apply Kd.R_alloc | apply Kd.R_drewN | apply Kd.R_drew)); exact HO_5.out⟩, ⟨by repeat (first | (with_reducible first | exact HB.out | apply below_alloc | apply pw_below_drewN | apply below_drew1) | exact HB.out)⟩⟩
                           case rest =>
                           as_aux_lemma =>
                           clear HC91
                           try clear c1
                           try clear c2
                           try clear p2
                           try clear q2
                           try clear hx2
                           try clear qi2
                           try clear c3
                           try clear c4
                           try clear c5
                           try clear c6
                           try clear p6
                           try clear c7
                           try clear c8
                           try clear c9
                           try clear c10
                           try clear c11
                           try clear c12
                           try clear c13
                           try clear c13b0
                           try clear c13b1
                           try clear c13b2
                           try clear c14
                           try clear c20
                           try clear c20b0
                           try clear c20b1
                           try clear c20b2
                           try clear c21
                           try clear p26
                           try clear q26
                           try clear hx26
                           try clear qi26
                           try clear c30
                           try clear c30b0
                           try clear c30b1
                           try clear c30b2
                           try clear c31
                           try clear c39
                           try clear c39b0
                           try clear c39b1
                           try clear c39b2
                           try clear c43
                           try clear c51
                           try clear c51b0
                           try clear c51b1
                           try clear c51b2
                           try clear c55
                           try clear c57
                           try clear c57b0
                           try clear c57b1
                           try clear c57b2
                           try clear c59
                           try clear c59b0
                           try clear c59b1
                           try clear c60
                           try clear c60b0
                           try clear c60b1
                           try clear c61
                           try clear c63
                           try clear p64
                           try clear c65
                           try clear c65b0
                           try clear c65b1
                           try clear c65b2
                           try clear c68
                           try clear c68b0
                           try clear c69
                           try clear c72
                           try clear c72b0
                           try clear c72b1
                           try clear c73
                           try clear c73b0
                           try clear c73b1
                           try clear c81
                           try clear c81b0
                           try clear c81b1
                           try clear c81b2
                           try clear c82
                           try clear c82b0
                           try clear c82b1
                           try clear c84
                           try clear c84b0
                           try clear c84b1
                           try clear c85
                           try clear c85b0
                           try clear c85b1
                           try clear c86
                           try clear c86b0
                           try clear c86b1
                           try clear c89
                           try clear c90
                           try clear c90b0
                           try clear c90b1
                           try clear c92
                           try clear c92b0
                           try clear c92b1
                           try clear c92b2
                           try clear hx2648_0
                           try clear hx2657_0
                           try clear hx2658_0
                           try clear p2
                           try clear p26
                           try clear p2648
                           try clear p2657
                           try clear p2658
                           try clear p6
                           try clear p64
                           try clear q2
                           try clear q26
                           try clear q2648
                           try clear q2657
                           try clear q2658
                           obtain ⟨kq, x260_90, rfl, HA, HJ90, HO_4, HO_5, HB⟩ := hcut
                           cases kq with
                           | zero => exact absurd HA.out (by simp [laws_FnSolutions.j9])
                           | succ kj90 =>
                            have H := HA.out
                            clear HA
                            simp only [laws_FnSolutions.j9] at H
                            by_cases c93 : x260_90 = true
                            · subst c93
                              have H1 : (some false) = some r := by rw [if_pos rfl] at H; exact H
                              clear H
                              have H := H1
                              clear H1
                              obtain rfl := Option.some.inj H
                              go_wp2
                              go_ret
                              exact ⟨by first | rfl | (simp [errW_none, errW_some] <;> rfl) | (simp [*, errW_none, errW_some] <;> rfl), by repeat (first | (with_reducible first | exact HB.out | apply below_alloc | apply pw_below_drewN | apply below_drew1) | exact HB.out)⟩
                            · replace c93 := Bool.eq_false_iff.mpr c93
                              subst c93
                              have H1 : (laws_FnSolutions.l1 kj90 t2599 t2600 t2601 t2607 0 1 0) = some r := by rw [if_neg (show ¬ (false = true) by decide)] at H; exact H
                              clear H
                              have H := H1
                              clear H1
                              have H' := Aside0.mk H
                              clear H
                              go_wp2
                              go_loopg [40, 41] kj90 (fun kq v40 v41 w' => ∃ (x40_10 : Int) (x41_10 : Int), v40 = .int .i64 x40_10 ∧ v41 = .int .i64 x41_10 ∧ Aside0 (laws_FnSolutions.l1 kq t2599 t2600 t2601 t2607 0 x40_10 x41_10 = some r) ∧ Aside0 (kq ≤ kj90) ∧ Aside0 (Kd.Q (Kd.int .i64) 2 w' w.heap.size (fun k_ => some k_ ≠ ((.slice Ao10 t2601.length co10) : Value).ownBlock) (.slice Ao9 t2600.length co9) t2600) ∧ Aside0 (Kd.R (Kd.int .i64) 2 w' w.heap.size (fun k_ => some k_ ≠ ((.slice Ao9 t2600.length co9) : Value).ownBlock) (.slice Ao10 t2601.length co10) t2601) ∧ Aside0 (Below w.heap.size w w'))
                              case atStart => exact ⟨(1), (0), (by first | rfl | (simp; done) | (simp [*]; done)), (by first | rfl | (simp; done) | (simp [*]; done)), H', ⟨Nat.le_refl _⟩, ⟨by (with_reducible repeat (first | apply Kd.Q_alloc | apply Kd.Q_drewN | apply Kd.Q_drew)); exact HO_4.out⟩, ⟨by (with_reducible repeat (first | apply Kd.R_alloc | apply Kd.R_drewN | apply Kd.R_drew)); exact HO_5.out⟩, ⟨by repeat (first | (with_reducible first | exact HB.out | apply below_alloc | apply pw_below_drewN | apply below_drew1) | exact HB.out)⟩⟩
                              case round =>
                              clear H'
                              try clear c1
                              try clear c2
                              try clear p2
                              try clear q2
                              try clear hx2
                              try clear qi2
                              try clear c3
                              try clear c4
                              try clear c5
                              try clear c6
                              try clear p6
                              try clear c7
                              try clear c8
                              try clear c9
                              try clear c10
                              try clear c11
                              try clear c12
                              try clear c13
                              try clear c13b0
                              try clear c13b1
                              try clear c13b2
                              try clear c14
                              try clear c20
                              try clear c20b0
                              try clear c20b1
                              try clear c20b2
                              try clear c21
                              try clear p26
                              try clear q26
                              try clear hx26
                              try clear qi26
                              try clear c30
                              try clear c30b0
                              try clear c30b1
                              try clear c30b2
                              try clear c31
                              try clear c39
                              try clear c39b0
                              try clear c39b1
                              try clear c39b2
                              try clear c43
                              try clear c51
                              try clear c51b0
                              try clear c51b1
                              try clear c51b2
                              try clear c55
                              try clear c57
                              try clear c57b0
                              try clear c57b1
                              try clear c57b2
                              try clear c59
                              try clear c59b0
                              try clear c59b1
                              try clear c60
                              try clear c60b0
                              try clear c60b1
                              try clear c61
                              try clear c63
                              try clear p64
                              try clear c65
                              try clear c65b0
                              try clear c65b1
                              try clear c65b2
                              try clear c68
                              try clear c68b0
                              try clear c69
                              try clear c72
                              try clear c72b0
                              try clear c72b1
                              try clear c73
                              try clear c73b0
                              try clear c73b1
                              try clear c81
                              try clear c81b0
                              try clear c81b1
                              try clear c81b2
                              try clear c82
                              try clear c82b0
                              try clear c82b1
                              try clear c84
                              try clear c84b0
                              try clear c84b1
                              try clear c85
                              try clear c85b0
                              try clear c85b1
                              try clear c86
                              try clear c86b0
                              try clear c86b1
                              try clear c89
                              try clear c90
                              try clear c90b0
                              try clear c90b1
                              try clear c92
                              try clear c92b0
                              try clear c92b1
                              try clear c92b2
                              try clear c93
                              try clear hx2648_0
                              try clear hx2657_0
                              try clear hx2658_0
                              try clear p2
                              try clear p26
                              try clear p2648
                              try clear p2657
                              try clear p2658
                              try clear p6
                              try clear p64
                              try clear q2
                              try clear q26
                              try clear q2648
                              try clear q2657
                              try clear q2658
                              obtain ⟨x40_10, x41_10, rfl, rfl, HA, HK10, HO_4, HO_5, HB⟩ := hrel
                              cases gk with
                              | zero => exact absurd HA.out (by simp [laws_FnSolutions.l1])
                              | succ k10 =>
                               have H := HA.out
                               clear HA
                               simp only [laws_FnSolutions.l1] at H
                               by_cases c94 : x41_10 < (t2600.length : Int)
                               · rw [if_pos c94] at H
                                 have c94b0 : decide (x41_10 < (t2600.length : Int)) = true := decide_eq_true c94
                                 clear c94
                                 have H' := Aside0.mk H
                                 clear H
                                 go_wp2
                                 go_roundg k10
                                 case measure => have := HJ6.out; have := HJ16.out; have := HJ24.out; have := HJ34.out; have := HJ46.out; have := HJ55.out; have := HJ63.out; have := HJ79.out; have := HJ90.out; have := HK10.out; omega
                                 case rel => exact ⟨(wrap64 (x40_10 * t2599)), (wrap64 (x41_10 + 1)), (by first | rfl | (simp; done) | (simp [*]; done)), (by first | rfl | (simp; done) | (simp [*]; done)), H', ⟨by have := HJ6.out; have := HJ16.out; have := HJ24.out; have := HJ34.out; have := HJ46.out; have := HJ55.out; have := HJ63.out; have := HJ79.out; have := HJ90.out; have := HK10.out; omega⟩, ⟨by (with_reducible repeat (first | apply Kd.Q_alloc | apply Kd.Q_drewN | apply Kd.Q_drew)); exact HO_4.out⟩, ⟨by (with_reducible repeat (first | apply Kd.R_alloc | apply Kd.R_drewN | apply Kd.R_drew)); exact HO_5.out⟩, ⟨by repeat (first | (with_reducible first | exact HB.out | apply below_alloc | apply pw_below_drewN | apply below_drew1) | exact HB.out)⟩⟩
                               · rw [if_neg c94] at H
                                 have c94b0 : decide (x41_10 < (t2600.length : Int)) = false := decide_eq_false c94
                                 clear c94
                                 by_cases c95 : (t2600.length : Int) > 2
                                 · rw [if_pos c95] at H
                                   have c95b0 : decide (2 < (t2600.length : Int)) = true := decide_eq_true c95
                                   have c95b1 : decide (2 < t2600.length) = true := decide_eq_true (by omega)
                                   clear c95
                                   obtain rfl := Option.some.inj H
                                   go_wp2
                                   go_ret
                                   exact ⟨by first | rfl | (simp [errW_none, errW_some] <;> rfl) | (simp [*, errW_none, errW_some] <;> rfl), by repeat (first | (with_reducible first | exact HB.out | apply below_alloc | apply pw_below_drewN | apply below_drew1) | exact HB.out)⟩
                                 · rw [if_neg c95] at H
                                   have c95b0 : decide (2 < (t2600.length : Int)) = false := decide_eq_false c95
                                   have c95b1 : decide (2 < t2600.length) = false := decide_eq_false (by omega)
                                   clear c95
                                   have H' := Aside0.mk H
                                   clear H
                                   go_wp2
                                   go_loopg [39, 42] k10 (fun kq v39 v42 w' => ∃ (x39_11 : Int) (x42_11 : Int), v39 = .int .i64 x39_11 ∧ v42 = .int .i64 x42_11 ∧ Aside0 (laws_FnSolutions.l2 kq t2599 t2600 t2601 x39_11 x40_10 x42_11 = some r) ∧ Aside0 (kq ≤ k10) ∧ Aside0 (Kd.Q (Kd.int .i64) 2 w' w.heap.size (fun k_ => some k_ ≠ ((.slice Ao10 t2601.length co10) : Value).ownBlock) (.slice Ao9 t2600.length co9) t2600) ∧ Aside0 (Kd.R (Kd.int .i64) 2 w' w.heap.size (fun k_ => some k_ ≠ ((.slice Ao9 t2600.length co9) : Value).ownBlock) (.slice Ao10 t2601.length co10) t2601) ∧ Aside0 (Below w.heap.size w w'))
                                   case atStart => exact ⟨(0), (0), (by first | rfl | (simp; done) | (simp [*]; done)), (by first | rfl | (simp; done) | (simp [*]; done)), H', ⟨Nat.le_refl _⟩, ⟨by (with_reducible repeat (first | apply Kd.Q_alloc | apply Kd.Q_drewN | apply Kd.Q_drew)); exact HO_4.out⟩, ⟨by (with_reducible repeat (first | apply Kd.R_alloc | apply Kd.R_drewN | apply Kd.R_drew)); exact HO_5.out⟩, ⟨by repeat (first | (with_reducible first | exact HB.out | apply below_alloc | apply pw_below_drewN | apply below_drew1) | exact HB.out)⟩⟩
                                   case round =>
                                   clear H'
                                   try clear c1
                                   try clear c2
                                   try clear p2
                                   try clear q2
                                   try clear hx2
                                   try clear qi2
                                   try clear c3
                                   try clear c4
                                   try clear c5
                                   try clear c6
                                   try clear p6
                                   try clear c7
                                   try clear c8
                                   try clear c9
                                   try clear c10
                                   try clear c11
                                   try clear c12
                                   try clear c13
                                   try clear c13b0
                                   try clear c13b1
                                   try clear c13b2
                                   try clear c14
                                   try clear c20
                                   try clear c20b0
                                   try clear c20b1
                                   try clear c20b2
                                   try clear c21
                                   try clear p26
                                   try clear q26
                                   try clear hx26
                                   try clear qi26
                                   try clear c30
                                   try clear c30b0
                                   try clear c30b1
                                   try clear c30b2
                                   try clear c31
                                   try clear c39
                                   try clear c39b0
                                   try clear c39b1
                                   try clear c39b2
                                   try clear c43
                                   try clear c51
                                   try clear c51b0
                                   try clear c51b1
                                   try clear c51b2
                                   try clear c55
                                   try clear c57
                                   try clear c57b0
                                   try clear c57b1
                                   try clear c57b2
                                   try clear c59
                                   try clear c59b0
                                   try clear c59b1
                                   try clear c60
                                   try clear c60b0
                                   try clear c60b1
                                   try clear c61
                                   try clear c63
                                   try clear p64
                                   try clear c65
                                   try clear c65b0
                                   try clear c65b1
                                   try clear c65b2
                                   try clear c68
                                   try clear c68b0
                                   try clear c69
                                   try clear c72
                                   try clear c72b0
                                   try clear c72b1
                                   try clear c73
                                   try clear c73b0
                                   try clear c73b1
                                   try clear c81
                                   try clear c81b0
                                   try clear c81b1
                                   try clear c81b2
                                   try clear c82
                                   try clear c82b0
                                   try clear c82b1
                                   try clear c84
                                   try clear c84b0
                                   try clear c84b1
                                   try clear c85
                                   try clear c85b0
                                   try clear c85b1
                                   try clear c86
                                   try clear c86b0
                                   try clear c86b1
                                   try clear c89
                                   try clear c90
                                   try clear c90b0
                                   try clear c90b1
                                   try clear c92
                                   try clear c92b0
                                   try clear c92b1
                                   try clear c92b2
                                   try clear c93
                                   try clear c94
                                   try clear c94b0
                                   try clear c95
                                   try clear c95b0
                                   try clear c95b1
                                   try clear hx2648_0
                                   try clear hx2657_0
                                   try clear hx2658_0
                                   try clear p2
                                   try clear p26
                                   try clear p2648
                                   try clear p2657
                                   try clear p2658
                                   try clear p6
                                   try clear p64
                                   try clear q2
                                   try clear q26
                                   try clear q2648
                                   try clear q2657
                                   try clear q2658
                                   obtain ⟨x39_11, x42_11, rfl, rfl, HA, HK11, HO_4, HO_5, HB⟩ := hrel
                                   cases gk with
                                   | zero => exact absurd HA.out (by simp [laws_FnSolutions.l2])
                                   | succ k11 =>
                                    have H := HA.out
                                    clear HA
                                    simp only [laws_FnSolutions.l2] at H
                                    by_cases c96 : x42_11 < t2599
                                    · rw [if_pos c96] at H
                                      have c96b0 : decide (x42_11 < t2599) = true := decide_eq_true c96
                                      clear c96
                                      replace H := Option.bind_eq_some_iff.mp H
                                      obtain ⟨⟨t2659, t2660⟩, A970, H⟩ := H
                                      replace H : (if t2660 = 0 then (laws_FnSolutions.l2 k11 t2599 t2600 t2601 (wrap64 (x39_11 + t2659)) x40_10 (wrap64 (x42_11 + 1))) else (some false)) = some r := H
                                      have A97 := Aside0.mk A970
                                      clear A970
                                      by_cases c98 : t2660 = 0
                                      · rw [if_pos c98] at H
                                        have c98b0 : (t2660 == 0) = true := beq_iff_eq.mpr c98
                                        have c98b1 : (t2660 != 0) = false := bne_eq_false_iff_eq.mpr c98
                                        clear c98
                                        have H' := Aside0.mk H
                                        clear H
                                        go_wp2_with (first | ((with_reducible refine gate_callee (f := 61) rfl ?_); refine goesL_ (some 286) rfl rfl Try.func61 (by kernel_rfl) rfl #[.int .i64 t2599, .slice Ao9 t2600.length co9, .slice Ao10 t2601.length co10, .int .i64 x42_11] rfl (by (try simp only [List.map_toArray, List.map_cons, List.map_nil]); first | done | rfl | (simp only [List.length_drop, List.length_take]; rfl)) ?_; (with_reducible refine (impl_CountSolutions.calls k11 t2599 _ _ t2600 _ _ t2601 x42_11 t2659 t2660 _ ?side1 ?side2 ?side3 ?side4 A97.out).mono ?_); (case side1 => repeat (first | exact (Kd.Q_reads' HO_4.out).2.2 | (with_reducible refine Kd.C_alloc ?_ _) | (with_reducible refine Kd.C_drewN ?_ _) | (with_reducible refine Kd.C_drew ?_))); (case side2 => exact (Kd.Q_reads' HO_4.out).2.1); (case side3 => repeat (first | exact (Kd.R_reads' HO_5.out).2.2 | (with_reducible refine Kd.C_alloc ?_ _) | (with_reducible refine Kd.C_drewN ?_ _) | (with_reducible refine Kd.C_drew ?_))); (case side4 => exact (Kd.R_reads' HO_5.out).2.1); rintro e w99 ⟨rfl, hb⟩; refine ⟨_, rfl, ?_⟩; have n0_ := Aside0.mk (Kd.Q_below (by (with_reducible repeat (first | apply Kd.Q_alloc | apply Kd.Q_drewN | apply Kd.Q_drew)); exact HO_4.out) hb); have n1_ := Aside0.mk (Kd.R_below (by (with_reducible repeat (first | apply Kd.R_alloc | apply Kd.R_drewN | apply Kd.R_drew)); exact HO_5.out) hb); have n2_ := Aside0.mk (below_step (by repeat (first | (with_reducible first | exact HB.out | apply below_alloc | apply pw_below_drewN | apply below_drew1) | exact HB.out)) hb); clear HO_4; clear HO_5; clear HB; have HO_4 := n0_; have HO_5 := n1_; have HB := n2_; clear n0_ n1_ n2_; (try clear hb); (try clear hb2); (try clear hk); (try clear hi)))
                                        go_roundg k11
                                        case measure => have := HJ6.out; have := HJ16.out; have := HJ24.out; have := HJ34.out; have := HJ46.out; have := HJ55.out; have := HJ63.out; have := HJ79.out; have := HJ90.out; have := HK10.out; have := HK11.out; omega
                                        case rel => exact ⟨(wrap64 (x39_11 + t2659)), (wrap64 (x42_11 + 1)), (by first | rfl | (simp; done) | (simp [*]; done)), (by first | rfl | (simp; done) | (simp [*]; done)), H', ⟨by have := HJ6.out; have := HJ16.out; have := HJ24.out; have := HJ34.out; have := HJ46.out; have := HJ55.out; have := HJ63.out; have := HJ79.out; have := HJ90.out; have := HK10.out; have := HK11.out; omega⟩, ⟨by (with_reducible repeat (first | apply Kd.Q_alloc | apply Kd.Q_drewN | apply Kd.Q_drew)); exact HO_4.out⟩, ⟨by (with_reducible repeat (first | apply Kd.R_alloc | apply Kd.R_drewN | apply Kd.R_drew)); exact HO_5.out⟩, ⟨by repeat (first | (with_reducible first | exact HB.out | apply below_alloc | apply pw_below_drewN | apply below_drew1) | exact HB.out)⟩⟩
                                      · rw [if_neg c98] at H
                                        have c98b0 : (t2660 == 0) = false := beq_eq_false_iff_ne.mpr c98
                                        have c98b1 : (t2660 != 0) = true := bne_iff_ne.mpr c98
                                        obtain rfl := Option.some.inj H
                                        go_wp2_with (first | ((with_reducible refine gate_callee (f := 61) rfl ?_); refine goesL_ (some 286) rfl rfl Try.func61 (by kernel_rfl) rfl #[.int .i64 t2599, .slice Ao9 t2600.length co9, .slice Ao10 t2601.length co10, .int .i64 x42_11] rfl (by (try simp only [List.map_toArray, List.map_cons, List.map_nil]); first | done | rfl | (simp only [List.length_drop, List.length_take]; rfl)) ?_; (with_reducible refine (impl_CountSolutions.calls k11 t2599 _ _ t2600 _ _ t2601 x42_11 t2659 t2660 _ ?side1 ?side2 ?side3 ?side4 A97.out).mono ?_); (case side1 => repeat (first | exact (Kd.Q_reads' HO_4.out).2.2 | (with_reducible refine Kd.C_alloc ?_ _) | (with_reducible refine Kd.C_drewN ?_ _) | (with_reducible refine Kd.C_drew ?_))); (case side2 => exact (Kd.Q_reads' HO_4.out).2.1); (case side3 => repeat (first | exact (Kd.R_reads' HO_5.out).2.2 | (with_reducible refine Kd.C_alloc ?_ _) | (with_reducible refine Kd.C_drewN ?_ _) | (with_reducible refine Kd.C_drew ?_))); (case side4 => exact (Kd.R_reads' HO_5.out).2.1); rintro e w100 ⟨rfl, hb⟩; refine ⟨_, rfl, ?_⟩; have n0_ := Aside0.mk (Kd.Q_below (by (with_reducible repeat (first | apply Kd.Q_alloc | apply Kd.Q_drewN | apply Kd.Q_drew)); exact HO_4.out) hb); have n1_ := Aside0.mk (Kd.R_below (by (with_reducible repeat (first | apply Kd.R_alloc | apply Kd.R_drewN | apply Kd.R_drew)); exact HO_5.out) hb); have n2_ := Aside0.mk (below_step (by repeat (first | (with_reducible first | exact HB.out | apply below_alloc | apply pw_below_drewN | apply below_drew1) | exact HB.out)) hb); clear HO_4; clear HO_5; clear HB; have HO_4 := n0_; have HO_5 := n1_; have HB := n2_; clear n0_ n1_ n2_; (try clear hb); (try clear hb2); (try clear hk); (try clear hi)))
                                        go_ret
                                        exact ⟨by first | rfl | (simp [errW_none, errW_some] <;> rfl) | (simp [*, errW_none, errW_some] <;> rfl), by repeat (first | (with_reducible first | exact HB.out | apply below_alloc | apply pw_below_drewN | apply below_drew1) | exact HB.out)⟩
                                    · rw [if_neg c96] at H
                                      have c96b0 : decide (x42_11 < t2599) = false := decide_eq_false c96
                                      clear c96
                                      obtain rfl := Option.some.inj H
                                      go_wp2
                                      go_ret
                                      exact ⟨by first | rfl | (simp [errW_none, errW_some] <;> rfl) | (simp [*, errW_none, errW_some] <;> rfl), by repeat (first | (with_reducible first | exact HB.out | apply below_alloc | apply pw_below_drewN | apply below_drew1) | exact HB.out)⟩
                         · rw [if_neg c90] at H
                           have c90b0 : (t2608 == 0) = false := beq_eq_false_iff_ne.mpr c90
                           have c90b1 : (t2608 != 0) = true := bne_iff_ne.mpr c90
                           by_cases c101 : t2612 = t2608
                           · rw [if_pos c101] at H
                             have c101b0 : (t2612 == t2608) = true := beq_iff_eq.mpr c101
                             have c101b1 : (t2612 != t2608) = false := bne_eq_false_iff_eq.mpr c101
                             clear c101
                             obtain rfl := Option.some.inj H
                             go_wp2
                             go_ret
                             exact ⟨by first | rfl | (simp [errW_none, errW_some] <;> rfl) | (simp [*, errW_none, errW_some] <;> rfl), by repeat (first | (with_reducible first | exact HB.out | apply below_alloc | apply pw_below_drewN | apply below_drew1) | exact HB.out)⟩
                           · rw [if_neg c101] at H
                             have c101b0 : (t2612 == t2608) = false := beq_eq_false_iff_ne.mpr c101
                             have c101b1 : (t2612 != t2608) = true := bne_iff_ne.mpr c101
                             obtain rfl := Option.some.inj H
                             go_wp2
                             go_ret
                             exact ⟨by first | rfl | (simp [errW_none, errW_some] <;> rfl) | (simp [*, errW_none, errW_some] <;> rfl), by repeat (first | (with_reducible first | exact HB.out | apply below_alloc | apply pw_below_drewN | apply below_drew1) | exact HB.out)⟩
theorem laws_FnSolutions.walk (P : laws_FnSolutions.Pure) (a0 : Option Addr) (len0 cap0 : Nat) (z0 : List Int) (w : World) (w0 : (a0 = none ∧ len0 = 0 ∧ cap0 = 0 ∧ z0 = []) ∨ ∃ x, a0 = some x ∧ len0 ≤ cap0 ∧ cap0 ≤ maxLen ∧ z0.length = cap0 ∧ (∀ i, i < z0.length → w.cell? (x.add i) = some (.int .u8 (z0.getD i 0))) ∧ ∀ n ∈ z0, (Lit.int .u8 n).wf = true) (y0 : len0 * 1 ≤ 140737488351232) :
   Calls Try.prog 10 #[.slice a0 len0 cap0] w fun e w' => e = .returned (.bool true) ∧ Below w.heap.size w w' := by
 obtain ⟨l0, rfl, hr0, hm0, hw0, hc0⟩ := ReadsInt.ofRowC w0
 obtain ⟨k, h⟩ := P l0 hm0 y0 hw0
 refine (laws_FnSolutions.calls k _ _ l0 true w (Kd.C_of_reads (d := (0 : Int)) (h1 := fun _ => rfl) hr0) hc0 h).mono ?_
 rintro e w' ⟨rfl, hd⟩
 exact ⟨rfl, hd⟩
end Go.Proofs.Ytmjfaagifijmlaa.P
