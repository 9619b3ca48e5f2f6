/- This text was put together by a session out of texts that its own programs and the print tool wrote. -/
import Derived.Test.YtphlgajlebgnbaaK1
import Derived.Test.YtphlgajlebgnbaaK5
import Derived.Test.YtphlgajlebgnbaaK4
import Derived.IntWalk
import Derived.Laws.EntriesVeiled
import Derived.Test.YtphlgajlebgnbaaK3
set_option linter.unusedVariables false
set_option linter.unusedSimpArgs false
namespace Go.Proofs.Ytphlgajlebgnbaa.P
open Go.RowKit Go.Proofs.YtphlgajlebgnbaaW.PrintWords Go.Proofs.YtphlgajlebgnbaaW.PrintLast Go.Proofs.YtphlgajlebgnbaaW.PrintMore
attribute [local go_sem] max2_int min2_int max_two min_two max_three min_three max_four min_four   -- for this text's walks alone
set_option linter.unusedVariables false
set_option linter.unusedSimpArgs false
/-! ### impl_solutions: function 49 -/
mutual
def impl_solutions.l0 : Nat → Int → List Int → Int → Int → List Int → List Int → Int → Int → Option (Int)
 | 0, _, _, _, _, _, _, _, _ => none
 | k + 1, x0, x2, x3, x4, x11, x23, x24, x25 => if x25 < x24 then (if 0 ≤ x25 then (if x25 < (x23.length : Int) then (if 0 ≤ x0 then (if (x0 : Int).toNat ≤ 35184372088832 then (if x25 < (x2.length : Int) then ((impl_valueCounts.f k x0 (rd x23 x25) (rd x2 x25) x4).bind fun t512 => (impl_solutions.l1 k x0 x2 x3 x4 x11 (List.replicate (x0 : Int).toNat 0) x23 x24 x25 t512 (t512.length : Int) 0)) else (none)) else (none)) else (none)) else (none)) else (none)) else (if 0 ≤ x3 then (if x3 < (x11.length : Int) then (some (rd x11 x3)) else (none)) else (none))
def impl_solutions.l1 : Nat → Int → List Int → Int → Int → List Int → List Int → List Int → Int → Int → List Int → Int → Int → Option (Int)
 | 0, _, _, _, _, _, _, _, _, _, _, _, _ => none
 | k + 1, x0, x2, x3, x4, x11, x14, x23, x24, x25, x39, x40, x41 => if x41 < x40 then (if 0 ≤ x41 then (if x41 < (x39.length : Int) then (impl_solutions.l2 k x0 x2 x3 x4 x11 x14 x41 (rd x39 x41) x23 x24 x25 x39 x40 x41 x11 (x11.length : Int) 0) else (none)) else (none)) else (impl_solutions.l0 k x0 x2 x3 x4 x14 x23 x24 (wrap64 (x25 + 1)))
def impl_solutions.l2 : Nat → Int → List Int → Int → Int → List Int → List Int → Int → Int → List Int → Int → Int → List Int → Int → Int → List Int → Int → Int → Option (Int)
 | 0, _, _, _, _, _, _, _, _, _, _, _, _, _, _, _, _, _ => none
 | k + 1, x0, x2, x3, x4, x11, x14, x15, x16, x23, x24, x25, x39, x40, x41, x46, x47, x48 => if x48 < x47 then (if 0 ≤ x48 then (if x48 < (x46.length : Int) then (if x0 = 0 then (none) else (if 0 ≤ (Int.tmod (wrap64 (x48 + x15)) x0) then (if (Int.tmod (wrap64 (x48 + x15)) x0) < (x14.length : Int) then (impl_solutions.l2 k x0 x2 x3 x4 x11 (x14.set ((Int.tmod (wrap64 (x48 + x15)) x0) : Int).toNat (wrap64 ((rd x14 (Int.tmod (wrap64 (x48 + x15)) x0)) + (wrap64 (x16 * (rd x46 x48)))))) x15 x16 x23 x24 x25 x39 x40 x41 x46 x47 (wrap64 (x48 + 1))) else (none)) else (none))) else (none)) else (none)) else (impl_solutions.l1 k x0 x2 x3 x4 x11 x14 x23 x24 x25 x39 x40 (wrap64 (x41 + 1)))
end
def impl_solutions.f (k : Nat) (a0 : Int) (l1 : List Int) (l2 : List Int) (a3 : Int) (a4 : Int) : Option (Int) := if 0 ≤ a0 then (if (a0 : Int).toNat ≤ 35184372088832 then ((some (List.replicate (a0 : Int).toNat 0 : List Int)).bind fun y502 => (if 0 < (y502.length : Int) then (impl_solutions.l0 k a0 l2 a3 a4 (y502.set (0 : Int).toNat 1) l1 (l1.length : Int) 0) else (none))) else (none)) else (none)
theorem impl_solutions.mono_l : ∀ k, (∀ y0 y1 y2 y3 y4 y5 y6 y7, LeO (impl_solutions.l0 k y0 y1 y2 y3 y4 y5 y6 y7) (impl_solutions.l0 (k + 1) y0 y1 y2 y3 y4 y5 y6 y7)) ∧ (∀ y0 y1 y2 y3 y4 y5 y6 y7 y8 y9 y10 y11, LeO (impl_solutions.l1 k y0 y1 y2 y3 y4 y5 y6 y7 y8 y9 y10 y11) (impl_solutions.l1 (k + 1) y0 y1 y2 y3 y4 y5 y6 y7 y8 y9 y10 y11)) ∧ (∀ y0 y1 y2 y3 y4 y5 y6 y7 y8 y9 y10 y11 y12 y13 y14 y15 y16, LeO (impl_solutions.l2 k y0 y1 y2 y3 y4 y5 y6 y7 y8 y9 y10 y11 y12 y13 y14 y15 y16) (impl_solutions.l2 (k + 1) y0 y1 y2 y3 y4 y5 y6 y7 y8 y9 y10 y11 y12 y13 y14 y15 y16))
 | 0 => ⟨fun _ _ _ _ _ _ _ _ r h => by simp [impl_solutions.l0] at h, fun _ _ _ _ _ _ _ _ _ _ _ _ r h => by simp [impl_solutions.l1] at h, fun _ _ _ _ _ _ _ _ _ _ _ _ _ _ _ _ _ r h => by simp [impl_solutions.l2] at h⟩
 | k + 1 => by
  obtain ⟨ih0, ih1, ih2⟩ := impl_solutions.mono_l k
  refine ⟨?_, ?_, ?_⟩
  · intro y0 y1 y2 y3 y4 y5 y6 y7
    unfold impl_solutions.l0
    repeat' first
    | (with_reducible exact ih0 _ _ _ _ _ _ _ _)
    | (with_reducible exact ih1 _ _ _ _ _ _ _ _ _ _ _ _)
    | (with_reducible exact ih2 _ _ _ _ _ _ _ _ _ _ _ _ _ _ _ _ _)
    | (with_reducible exact impl_valueCounts.mono _ _ _ _ _)
    | (with_reducible exact LeO.refl _)
    | (with_reducible exact LeO.none _)
    | (with_reducible refine LeO.ite ?_ ?_)
    | (with_reducible refine LeO.bind ?_ (fun _ => ?_))
    | exact ih0 _ _ _ _ _ _ _ _
    | exact ih1 _ _ _ _ _ _ _ _ _ _ _ _
    | exact ih2 _ _ _ _ _ _ _ _ _ _ _ _ _ _ _ _ _
    | exact impl_valueCounts.mono _ _ _ _ _
    | exact LeO.none _
    | refine LeO.ite ?_ ?_
    | refine LeO.bind ?_ (fun _ => ?_)
  · intro y0 y1 y2 y3 y4 y5 y6 y7 y8 y9 y10 y11
    unfold impl_solutions.l1
    repeat' first
    | (with_reducible exact ih0 _ _ _ _ _ _ _ _)
    | (with_reducible exact ih1 _ _ _ _ _ _ _ _ _ _ _ _)
    | (with_reducible exact ih2 _ _ _ _ _ _ _ _ _ _ _ _ _ _ _ _ _)
    | (with_reducible exact impl_valueCounts.mono _ _ _ _ _)
    | (with_reducible exact LeO.refl _)
    | (with_reducible exact LeO.none _)
    | (with_reducible refine LeO.ite ?_ ?_)
    | (with_reducible refine LeO.bind ?_ (fun _ => ?_))
    | exact ih0 _ _ _ _ _ _ _ _
    | exact ih1 _ _ _ _ _ _ _ _ _ _ _ _
    | exact ih2 _ _ _ _ _ _ _ _ _ _ _ _ _ _ _ _ _
    | exact impl_valueCounts.mono _ _ _ _ _
    | exact LeO.none _
    | refine LeO.ite ?_ ?_
    | refine LeO.bind ?_ (fun _ => ?_)
  · intro y0 y1 y2 y3 y4 y5 y6 y7 y8 y9 y10 y11 y12 y13 y14 y15 y16
    unfold impl_solutions.l2
    repeat' first
    | (with_reducible exact ih0 _ _ _ _ _ _ _ _)
    | (with_reducible exact ih1 _ _ _ _ _ _ _ _ _ _ _ _)
    | (with_reducible exact ih2 _ _ _ _ _ _ _ _ _ _ _ _ _ _ _ _ _)
    | (with_reducible exact impl_valueCounts.mono _ _ _ _ _)
    | (with_reducible exact LeO.refl _)
    | (with_reducible exact LeO.none _)
    | (with_reducible refine LeO.ite ?_ ?_)
    | (with_reducible refine LeO.bind ?_ (fun _ => ?_))
    | exact ih0 _ _ _ _ _ _ _ _
    | exact ih1 _ _ _ _ _ _ _ _ _ _ _ _
    | exact ih2 _ _ _ _ _ _ _ _ _ _ _ _ _ _ _ _ _
    | exact impl_valueCounts.mono _ _ _ _ _
    | exact LeO.none _
    | refine LeO.ite ?_ ?_
    | refine LeO.bind ?_ (fun _ => ?_)
theorem impl_solutions.mono : ∀ a0 a1 a2 a3 a4 k, LeO (impl_solutions.f k a0 a1 a2 a3 a4) (impl_solutions.f (k + 1) a0 a1 a2 a3 a4) := by
 intro a0 a1 a2 a3 a4 k
 obtain ⟨ih0, ih1, ih2⟩ := impl_solutions.mono_l k
 unfold impl_solutions.f
 repeat' first
  | (with_reducible exact ih0 _ _ _ _ _ _ _ _)
  | (with_reducible exact ih1 _ _ _ _ _ _ _ _ _ _ _ _)
  | (with_reducible exact ih2 _ _ _ _ _ _ _ _ _ _ _ _ _ _ _ _ _)
  | (with_reducible exact impl_valueCounts.mono _ _ _ _ _)
  | (with_reducible exact LeO.refl _)
  | (with_reducible exact LeO.none _)
  | (with_reducible refine LeO.ite ?_ ?_)
  | (with_reducible refine LeO.bind ?_ (fun _ => ?_))
  | exact ih0 _ _ _ _ _ _ _ _
  | exact ih1 _ _ _ _ _ _ _ _ _ _ _ _
  | exact ih2 _ _ _ _ _ _ _ _ _ _ _ _ _ _ _ _ _
  | exact impl_valueCounts.mono _ _ _ _ _
  | exact LeO.none _
  | refine LeO.ite ?_ ?_
  | refine LeO.bind ?_ (fun _ => ?_)
set_option maxHeartbeats 8000000 in
set_option maxRecDepth 100000 in
theorem impl_solutions.calls (k : Nat) (a0 : Int) (A1 : Option Addr) (c1 : Nat) (l1 : List Int) (A2 : Option Addr) (c2 : Nat) (l2 : List Int) (a3 : Int) (a4 : Int) (r : Int) (w : World) (hr1 : Kd.C (Kd.int .i64) w A1 l1.length l1) (hc1 : l1.length ≤ c1) (hr2 : Kd.C (Kd.int .i64) w A2 l2.length l2) (hc2 : l2.length ≤ c2) (h : impl_solutions.f k a0 l1 l2 a3 a4 = some r) :
   Calls Try.prog 49 #[.int .i64 a0, .slice A1 l1.length c1, .slice A2 l2.length c2, .int .i64 a3, .int .i64 a4] w fun e w' => e = .returned (.int .i64 r) ∧ Below w.heap.size w w' := by
 have HR1 := Aside0.mk hr1
 have HC1 := Aside0.mk hc1
 clear hr1 hc1
 have HR2 := Aside0.mk hr2
 have HC2 := Aside0.mk hc2
 clear hr2 hc2
 have HB := Aside0.mk (Below.refl w.heap.size w)
 have H : (if 0 ≤ a0 then (if (a0 : Int).toNat ≤ 35184372088832 then ((some (List.replicate (a0 : Int).toNat 0 : List Int)).bind fun y502 => (if 0 < (y502.length : Int) then (impl_solutions.l0 k a0 l2 a3 a4 (y502.set (0 : Int).toNat 1) l1 (l1.length : Int) 0) else (none))) else (none)) else (none)) = some r := h
 clear h
 by_cases c6 : 0 ≤ a0
 · rw [if_pos c6] at H
   have c6b0 := eq_true c6
   have c6b1 : decide (0 ≤ a0) = true := decide_eq_true c6
   clear c6
   by_cases c7 : (a0 : Int).toNat ≤ 35184372088832
   · rw [if_pos c7] at H
     have c7b0 := eq_true c7
     have c7b1 : decide ((a0 : Int).toNat ≤ 35184372088832) = true := decide_eq_true c7
     clear c7
     obtain ⟨y502, hy502⟩ : ∃ y_ : List Int, y_ = (List.replicate (a0 : Int).toNat 0) := ⟨_, rfl⟩
     replace H : (if 0 < (y502.length : Int) then (impl_solutions.l0 k a0 l2 a3 a4 (y502.set (0 : Int).toNat 1) l1 (l1.length : Int) 0) else (none)) = some r := by first | (rw [hy502]; with_reducible exact H) | (have H2_ := (Option.bind_some _ _).symm.trans H; rw [hy502]; with_reducible exact H2_) | (have H2_ := (Option.bind_some _ _).symm.trans H; with_reducible exact H2_) | with_reducible exact H | (rw [hy502]; exact H) | exact H
     have Ny502 := Aside0.mk hy502
     clear hy502
     by_cases c8 : 0 < (y502.length : Int)
     · rw [if_pos c8] at H
       have c8b0 : decide (0 < (y502.length : Int)) = true := decide_eq_true c8
       have c8b1 : decide (0 < y502.length) = true := decide_eq_true (by omega)
       clear c8
       obtain ⟨y505, hy505⟩ : ∃ y_ : List Int, y_ = (y502.set (0 : Int).toNat 1) := ⟨_, rfl⟩
       replace H : (impl_solutions.l0 k a0 l2 a3 a4 y505 l1 (l1.length : Int) 0) = some r := by first | (rw [hy505]; with_reducible exact H) | (have H2_ := (Option.bind_some _ _).symm.trans H; rw [hy505]; with_reducible exact H2_) | (have H2_ := (Option.bind_some _ _).symm.trans H; with_reducible exact H2_) | with_reducible exact H | (rw [hy505]; exact H) | exact H
       have Ny505 := Aside0.mk hy505
       clear hy505
       have H' := Aside0.mk H
       clear H
       go_enter Try.func49, Try.ntmps49
       go_wp2_with (first | ((with_reducible refine gate_dst (N := 20) rfl ?_); refine Kd.R_make (Kd.int .i64) _ 2 rfl (N := 20) rfl 29 _ _ rfl a0 rfl rfl Try.underlying29 (.int .i64 0) 8 info2 rfl (by decide) (by omega) 0 (ok := fun _ => True) (okp := fun _ => True) rfl (fun _ hk => hk) trivial (of_decide_eq_true (by first | (with_reducible assumption) | assumption)) (Nat.le_trans (Nat.mul_le_mul_right _ (of_decide_eq_true (by first | (with_reducible assumption) | assumption) : a0.toNat ≤ 35184372088832)) (by omega)) (Below.refl _ _) (Nat.le_refl _) ?_; intro v503 w10 ho11 hb hg_ hnew_; clear hg_ hnew_; (first | rw [← Ny502.out] at ho11 | (simp only [Int.reduceToNat] at ho11; rw [← Ny502.out] at ho11)); have n0_ := Aside0.mk (Kd.R_lower ho11 (below_size (by repeat (first | (with_reducible first | exact HB.out | apply below_alloc | apply pw_below_drewN | apply below_drew1) | exact HB.out)))); have n1_ := Aside0.mk (below_step (by repeat (first | (with_reducible first | exact HB.out | apply below_alloc | apply pw_below_drewN | apply below_drew1) | exact HB.out)) hb); clear HB; have HO504 := n0_; have HB := n1_; clear n0_ n1_; clear hb ho11; have p9 : 0 ≤ (0 : Int) := (by omega); have q9 : (0 : Int) < ((y502.length : Int) : Int) := of_decide_eq_true (by first | (with_reducible assumption) | assumption); have qi9 : (0 < y502.length) = True := eq_true (by omega); obtain ⟨go9, co9, eo9, gb9, gl9, cl9, HG9⟩ := Kd.R_form HO504.out (by omega); (first | cases eo9 | (injection eo9 with ea_ en_ ec_; (first | subst ea_ | (injection ea_ with ea_; subst ea_)); subst ec_; clear en_)); have GB9 := Aside0.mk gb9; have GG9 := Aside0.mk HG9; clear gb9 gl9 HG9; obtain ⟨hx9_0, hf9_0⟩ := Kd.R_celln 0 HO504.out (0 : Int) p9 q9; (try rw [show ((0 : Int)).toNat = 0 from rfl] at hx9_0); (try simp only [Nat.reduceMul, Nat.zero_mul, Nat.zero_add, Nat.reduceAdd] at hx9_0); (try rw [show ((0 : Int)).toNat = 0 from rfl] at hf9_0); (try simp only [Nat.reduceMul, Nat.zero_mul, Nat.zero_add, Nat.reduceAdd] at hf9_0); replace p9 := eq_true p9; replace q9 := eq_true q9; obtain ⟨hy12_, hz12_⟩ := Kd.R_celln 0 HO504.out (0 : Int) (by omega) (of_decide_eq_true (by first | (with_reducible assumption) | assumption)); (try simp only [Int.reduceToNat, Int.toNat_zero, Int.toNat_ofNat, Nat.reduceMul, Nat.zero_mul, Nat.zero_add] at hy12_ hz12_); (try rw [show ((0 : Int)).toNat = 0 from rfl] at hy12_); (try rw [show ((0 : Int)).toNat = 0 from rfl] at hz12_); have HP12 := Kd.R_putg HO504.out (0 : Int) 1) | ((with_reducible refine gate_store (t := 2) (p := 22) rfl ?_); refine store_event (t := 2) (p := 22) (v := ?vo_w13) (w1 := (w10.setCell ⟨go9, (0 : Int).toNat, none⟩ (.int .i64 1))) ?hg ?ho ?hn ?hr ?_; (case ho => rfl); (case hg => rfl); (case hn => rfl); (case hr => first | (go_simp; done) | (go_simp; rfl)); intro w13 hw; have hg : w10.grownBy w13 (some go9) := (by rw [hw]; exact HP12.2); have hp_ : Kd.R (Kd.int .i64) 2 w13 w.heap.size (fun _ => True) (.slice (some ⟨go9, 0, none⟩) y502.length co9) y505 := (by rw [hw, Ny505.out]; exact HP12.1); clear HP12; have n0_ := Aside0.mk (hp_); have n1_ := Aside0.mk ((by rw [hw]; exact below_set (HB.out) GB9.out : Below w.heap.size w w13)); clear HO504; clear HB; have HO504 := n0_; have HB := n1_; clear n0_ n1_; clear hg hw hp_))
       go_loopg [11, 25] k (fun kq v11 v25 w' => ∃ (x11_1 : List Int) (x25_1 : Int), v25 = .int .i64 x25_1 ∧ Aside0 (impl_solutions.l0 kq a0 l2 a3 a4 x11_1 l1 (l1.length : Int) x25_1 = some r) ∧ Aside0 (kq ≤ k) ∧ Aside0 (Kd.R (Kd.int .i64) 2 w' w.heap.size (fun _ => True) v11 x11_1) ∧ Aside0 (Below w.heap.size w w'))
       case atStart => exact ⟨(y505), (0), (by first | rfl | (simp; done) | (simp [*]; done)), H', ⟨Nat.le_refl _⟩, ⟨by (with_reducible repeat (first | apply Kd.R_alloc | apply Kd.R_drewN | apply Kd.R_drew)); exact HO504.out⟩, ⟨by repeat (first | (with_reducible first | exact HB.out | apply below_alloc | apply pw_below_drewN | apply below_drew1) | exact HB.out)⟩⟩
       case round =>
       clear H'
       try clear c1
       try clear c2
       try clear p2
       try clear c4
       try clear c6
       try clear c6b0
       try clear c6b1
       try clear c7
       try clear c7b0
       try clear c7b1
       try clear c8
       try clear c8b0
       try clear c8b1
       try clear p9
       try clear q9
       try clear hx9
       try clear qi9
       try clear hf9
       try clear hx9_0
       try clear p9
       try clear q9
       obtain ⟨x11_1, x25_1, rfl, HA, HK1, HO_11, HB⟩ := hrel
       cases gk with
       | zero => exact absurd HA.out (by simp [impl_solutions.l0])
       | succ k1 =>
        have H := HA.out
        clear HA
        simp only [impl_solutions.l0] at H
        by_cases c14 : x25_1 < (l1.length : Int)
        · rw [if_pos c14] at H
          have c14b0 : decide (x25_1 < (l1.length : Int)) = true := decide_eq_true c14
          clear c14
          by_cases c15 : 0 ≤ x25_1
          · rw [if_pos c15] at H
            have c15b0 : decide (0 ≤ x25_1) = true := decide_eq_true c15
            clear c15
            by_cases c16 : x25_1 < (l1.length : Int)
            · rw [if_pos c16] at H
              have c16b0 : decide (x25_1 < (l1.length : Int)) = true := decide_eq_true c16
              clear c16
              by_cases c17 : 0 ≤ a0
              · rw [if_pos c17] at H
                have c17b0 := eq_true c17
                have c17b1 : decide (0 ≤ a0) = true := decide_eq_true c17
                clear c17
                by_cases c18 : (a0 : Int).toNat ≤ 35184372088832
                · rw [if_pos c18] at H
                  have c18b0 := eq_true c18
                  have c18b1 : decide ((a0 : Int).toNat ≤ 35184372088832) = true := decide_eq_true c18
                  clear c18
                  obtain ⟨y508, hy508⟩ : ∃ y_ : List Int, y_ = (List.replicate (a0 : Int).toNat 0) := ⟨_, rfl⟩
                  replace H : (if x25_1 < (l2.length : Int) then ((impl_valueCounts.f k1 a0 (rd l1 x25_1) (rd l2 x25_1) a4).bind fun t512 => (impl_solutions.l1 k1 a0 l2 a3 a4 x11_1 y508 l1 (l1.length : Int) x25_1 t512 (t512.length : Int) 0)) else (none)) = some r := by first | (rw [hy508]; with_reducible exact H) | (have H2_ := (Option.bind_some _ _).symm.trans H; rw [hy508]; with_reducible exact H2_) | (have H2_ := (Option.bind_some _ _).symm.trans H; with_reducible exact H2_) | with_reducible exact H | (rw [hy508]; exact H) | exact H
                  have Ny508 := Aside0.mk hy508
                  clear hy508
                  by_cases c19 : x25_1 < (l2.length : Int)
                  · rw [if_pos c19] at H
                    have c19b0 : decide (x25_1 < (l2.length : Int)) = true := decide_eq_true c19
                    clear c19
                    replace H := Option.bind_eq_some_iff.mp H
                    obtain ⟨t512, A200, H⟩ := H
                    replace H : (impl_solutions.l1 k1 a0 l2 a3 a4 x11_1 y508 l1 (l1.length : Int) x25_1 t512 (t512.length : Int) 0) = some r := H
                    have A20 := Aside0.mk A200
                    clear A200
                    have H' := Aside0.mk H
                    clear H
                    have p507 : 0 ≤ (x25_1 : Int) := of_decide_eq_true (by first | (with_reducible assumption) | assumption)
                    have q507 : x25_1 < (l1.length : Int) := of_decide_eq_true (by first | (with_reducible assumption) | assumption)
                    obtain ⟨ad507, e507, hx507_0⟩ := Kd.at_int HR1.out x25_1 p507 q507
                    cases e507
                    replace hx507_0 := (HB.out.cell (World.block_lt_of_cell? _ _ hx507_0)).trans hx507_0
                    replace p507 := eq_true p507
                    replace q507 := eq_true q507
                    go_wp2_with (first | ((with_reducible refine gate_dst (N := 31) rfl ?_); refine Kd.R_make (Kd.int .i64) _ 2 rfl (N := 31) rfl 29 _ _ rfl a0 rfl rfl Try.underlying29 (.int .i64 0) 8 info2 rfl (by decide) (by omega) 0 (ok := fun _ => True) (okp := fun _ => True) rfl (fun _ hk => hk) trivial (of_decide_eq_true (by first | (with_reducible assumption) | assumption)) (Nat.le_trans (Nat.mul_le_mul_right _ (of_decide_eq_true (by first | (with_reducible assumption) | assumption) : a0.toNat ≤ 35184372088832)) (by omega)) (Below.refl _ _) (Nat.le_refl _) ?_; intro v509 w21 ho22 hb hg_ hnew_; clear hg_ hnew_; (first | rw [← Ny508.out] at ho22 | (simp only [Int.reduceToNat] at ho22; rw [← Ny508.out] at ho22)); have n0_ := Aside0.mk (Kd.R_elder' (by (with_reducible repeat (first | apply Kd.R_alloc | apply Kd.R_drewN | apply Kd.R_drew)); exact HO_11.out) (Kd.R_base ho22) hb); have n1_ := Aside0.mk (Kd.R_lower (Kd.R_new' ho22 (Kd.R_lt (by (with_reducible repeat (first | apply Kd.R_alloc | apply Kd.R_drewN | apply Kd.R_drew)); exact HO_11.out))) (below_size (by repeat (first | (with_reducible first | exact HB.out | apply below_alloc | apply pw_below_drewN | apply below_drew1) | exact HB.out)))); have n2_ := Aside0.mk (below_step (by repeat (first | (with_reducible first | exact HB.out | apply below_alloc | apply pw_below_drewN | apply below_drew1) | exact HB.out)) hb); clear HO_11; clear HB; have HO_11 := n0_; have HO510 := n1_; have HB := n2_; clear n0_ n1_ n2_; clear hb ho22; have p511 : 0 ≤ (x25_1 : Int) := of_decide_eq_true (by first | (with_reducible assumption) | assumption); have q511 : x25_1 < (l2.length : Int) := of_decide_eq_true (by first | (with_reducible assumption) | assumption); obtain ⟨ad511, e511, hx511_0⟩ := Kd.at_int HR2.out x25_1 p511 q511; cases e511; replace hx511_0 := (HB.out.cell (World.block_lt_of_cell? _ _ hx511_0)).trans hx511_0; replace p511 := eq_true p511; replace q511 := eq_true q511) | ((with_reducible refine gate_callee (f := 40) rfl ?_); refine goesL_ (some 39) rfl rfl Try.func40 (by kernel_rfl) rfl #[.int .i64 a0, .int .i64 (rd l1 x25_1), .int .i64 (rd l2 x25_1), .int .i64 a4] rfl (by (try simp only [List.map_toArray, List.map_cons, List.map_nil]); first | done | rfl | (simp only [List.length_drop, List.length_take]; rfl)) ?_; (with_reducible refine (impl_valueCounts.calls k1 a0 (rd l1 x25_1) (rd l2 x25_1) a4 t512 _ A20.out).mono ?_); rintro e w23 ⟨v513, rfl, ho0, hb⟩; refine ⟨_, rfl, ?_⟩; have n0_ := Aside0.mk (Kd.R_elder' (by (with_reducible repeat (first | apply Kd.R_alloc | apply Kd.R_drewN | apply Kd.R_drew)); exact HO_11.out) (Kd.R_base ho0) hb); have n1_ := Aside0.mk (Kd.R_elder' (by (with_reducible repeat (first | apply Kd.R_alloc | apply Kd.R_drewN | apply Kd.R_drew)); exact HO510.out) (Kd.R_base ho0) hb); have n2_ := Aside0.mk (Kd.R_lower (Kd.R_new' (Kd.R_new' ho0 (Kd.R_lt (by (with_reducible repeat (first | apply Kd.R_alloc | apply Kd.R_drewN | apply Kd.R_drew)); exact HO_11.out))) (Kd.R_lt (by (with_reducible repeat (first | apply Kd.R_alloc | apply Kd.R_drewN | apply Kd.R_drew)); exact HO510.out))) (below_size (by repeat (first | (with_reducible first | exact HB.out | apply below_alloc | apply pw_below_drewN | apply below_drew1) | exact HB.out)))); have n3_ := Aside0.mk (below_step (by repeat (first | (with_reducible first | exact HB.out | apply below_alloc | apply pw_below_drewN | apply below_drew1) | exact HB.out)) hb); clear HO_11; clear HO510; clear HB; have HO_11 := n0_; have HO510 := n1_; have HO514 := n2_; have HB := n3_; clear n0_ n1_ n2_ n3_; (try clear hb); (try clear hb2); (try clear hk); (try clear hi); (try clear ho0); obtain ⟨Ao24, co24, eo24⟩ := Kd.R_slice HO514.out; subst eo24))
                    go_loopg [41] k1 (fun kq v41 w' => ∃ (x14_2 : List Int) (x41_2 : Int), v41 = .int .i64 x41_2 ∧ Aside0 (impl_solutions.l1 kq a0 l2 a3 a4 x11_1 x14_2 l1 (l1.length : Int) x25_1 t512 (t512.length : Int) x41_2 = some r) ∧ Aside0 (kq ≤ k1) ∧ Aside0 (Kd.R (Kd.int .i64) 2 w' w.heap.size (fun k_ => some k_ ≠ (v509 : Value).ownBlock ∧ some k_ ≠ ((.slice Ao24 t512.length co24) : Value).ownBlock) u11 x11_1) ∧ Aside0 (Kd.R (Kd.int .i64) 2 w' w.heap.size (fun k_ => some k_ ≠ (u11 : Value).ownBlock ∧ some k_ ≠ ((.slice Ao24 t512.length co24) : Value).ownBlock) v509 x14_2) ∧ Aside0 (Kd.R (Kd.int .i64) 2 w' w.heap.size (fun k_ => some k_ ≠ (u11 : Value).ownBlock ∧ some k_ ≠ (v509 : Value).ownBlock) (.slice Ao24 t512.length co24) t512) ∧ Aside0 (Below w.heap.size w w'))
                    case atStart => exact ⟨(y508), (0), (by first | rfl | (simp; done) | (simp [*]; done)), H', ⟨Nat.le_refl _⟩, ⟨by (with_reducible repeat (first | apply Kd.R_alloc | apply Kd.R_drewN | apply Kd.R_drew)); exact Kd.R_mono HO_11.out (fun _ hk => ⟨hk.1.2, hk.2⟩)⟩, ⟨by (with_reducible repeat (first | apply Kd.R_alloc | apply Kd.R_drewN | apply Kd.R_drew)); exact Kd.R_mono HO510.out (fun _ hk => ⟨hk.1.2, hk.2⟩)⟩, ⟨by (with_reducible repeat (first | apply Kd.R_alloc | apply Kd.R_drewN | apply Kd.R_drew)); exact Kd.R_mono HO514.out (fun _ hk => ⟨hk.1.2, hk.2⟩)⟩, ⟨by repeat (first | (with_reducible first | exact HB.out | apply below_alloc | apply pw_below_drewN | apply below_drew1) | exact HB.out)⟩⟩
                    case round =>
                    clear H'
                    try clear c1
                    try clear c2
                    try clear p2
                    try clear c4
                    try clear p5
                    try clear q5
                    try clear hx5
                    try clear c6
                    try clear c6b0
                    try clear c6b1
                    try clear c7
                    try clear c7b0
                    try clear c7b1
                    try clear c8
                    try clear c8b0
                    try clear c8b1
                    try clear p9
                    try clear q9
                    try clear hx9
                    try clear qi9
                    try clear hf9
                    try clear c14
                    try clear c14b0
                    try clear c15
                    try clear c15b0
                    try clear c16
                    try clear c16b0
                    try clear c17
                    try clear c17b0
                    try clear c17b1
                    try clear c18
                    try clear c18b0
                    try clear c18b1
                    try clear c19
                    try clear c19b0
                    try clear hx507_0
                    try clear hx511_0
                    try clear hx9_0
                    try clear p2
                    try clear p507
                    try clear p511
                    try clear p9
                    try clear q507
                    try clear q511
                    try clear q9
                    obtain ⟨x14_2, x41_2, rfl, HA, HK2, HO_11, HO_14, HO_39, HB⟩ := hrel
                    cases gk with
                    | zero => exact absurd HA.out (by simp [impl_solutions.l1])
                    | succ k2 =>
                     have H := HA.out
                     clear HA
                     simp only [impl_solutions.l1] at H
                     by_cases c25 : x41_2 < (t512.length : Int)
                     · rw [if_pos c25] at H
                       have c25b0 : decide (x41_2 < (t512.length : Int)) = true := decide_eq_true c25
                       clear c25
                       by_cases c26 : 0 ≤ x41_2
                       · rw [if_pos c26] at H
                         have c26b0 : decide (0 ≤ x41_2) = true := decide_eq_true c26
                         clear c26
                         by_cases c27 : x41_2 < (t512.length : Int)
                         · rw [if_pos c27] at H
                           have c27b0 : decide (x41_2 < (t512.length : Int)) = true := decide_eq_true c27
                           clear c27
                           have H' := Aside0.mk H
                           clear H
                           have p515 : 0 ≤ (x41_2 : Int) := of_decide_eq_true (by first | (with_reducible assumption) | assumption)
                           have q515 : x41_2 < (t512.length : Int) := of_decide_eq_true (by first | (with_reducible assumption) | assumption)
                           obtain ⟨ad515, e515, hx515_0⟩ := Kd.at_int (Kd.R_reads' HO_39.out).2.2 x41_2 p515 q515
                           cases e515
                           replace p515 := eq_true p515
                           replace q515 := eq_true q515
                           obtain ⟨Ao28, co28, eo28⟩ := Kd.R_slice HO_11.out
                           subst eo28
                           go_wp2
                           go_loopg [48] k2 (fun kq v48 w' => ∃ (x14_3 : List Int) (x48_3 : Int), v48 = .int .i64 x48_3 ∧ Aside0 (impl_solutions.l2 kq a0 l2 a3 a4 x11_1 x14_3 x41_2 (rd t512 x41_2) l1 (l1.length : Int) x25_1 t512 (t512.length : Int) x41_2 x11_1 (x11_1.length : Int) x48_3 = some r) ∧ Aside0 (kq ≤ k2) ∧ Aside0 (Kd.R (Kd.int .i64) 2 w' w.heap.size (fun k_ => some k_ ≠ (v509 : Value).ownBlock ∧ some k_ ≠ ((.slice (some ad515) t512.length co24) : Value).ownBlock) (.slice Ao28 x11_1.length co28) x11_1) ∧ Aside0 (Kd.R (Kd.int .i64) 2 w' w.heap.size (fun k_ => some k_ ≠ ((.slice Ao28 x11_1.length co28) : Value).ownBlock ∧ some k_ ≠ ((.slice (some ad515) t512.length co24) : Value).ownBlock ∧ some k_ ≠ ((.slice Ao28 x11_1.length co28) : Value).ownBlock) v509 x14_3) ∧ Aside0 (Kd.R (Kd.int .i64) 2 w' w.heap.size (fun k_ => some k_ ≠ ((.slice Ao28 x11_1.length co28) : Value).ownBlock ∧ some k_ ≠ (v509 : Value).ownBlock ∧ some k_ ≠ ((.slice Ao28 x11_1.length co28) : Value).ownBlock) (.slice (some ad515) t512.length co24) t512) ∧ Aside0 (Kd.R (Kd.int .i64) 2 w' w.heap.size (fun k_ => some k_ ≠ (v509 : Value).ownBlock ∧ some k_ ≠ ((.slice (some ad515) t512.length co24) : Value).ownBlock) (.slice Ao28 x11_1.length co28) x11_1) ∧ Aside0 (Below w.heap.size w w'))
                           case atStart => exact ⟨(x14_2), (0), (by first | rfl | (simp; done) | (simp [*]; done)), H', ⟨Nat.le_refl _⟩, ⟨by (with_reducible repeat (first | apply Kd.R_alloc | apply Kd.R_drewN | apply Kd.R_drew)); exact HO_11.out⟩, ⟨by (with_reducible repeat (first | apply Kd.R_alloc | apply Kd.R_drewN | apply Kd.R_drew)); exact Kd.R_mono HO_14.out (fun _ hk => ⟨hk.1, ⟨hk.2, hk.1⟩⟩)⟩, ⟨by (with_reducible repeat (first | apply Kd.R_alloc | apply Kd.R_drewN | apply Kd.R_drew)); exact Kd.R_mono HO_39.out (fun _ hk => ⟨hk.1, ⟨hk.2, hk.1⟩⟩)⟩, ⟨by (with_reducible repeat (first | apply Kd.R_alloc | apply Kd.R_drewN | apply Kd.R_drew)); exact HO_11.out⟩, ⟨by repeat (first | (with_reducible first | exact HB.out | apply below_alloc | apply pw_below_drewN | apply below_drew1) | exact HB.out)⟩⟩
                           case round =>
                           clear H'
                           try clear c1
                           try clear c2
                           try clear p2
                           try clear c4
                           try clear p5
                           try clear q5
                           try clear hx5
                           try clear c6
                           try clear c6b0
                           try clear c6b1
                           try clear c7
                           try clear c7b0
                           try clear c7b1
                           try clear c8
                           try clear c8b0
                           try clear c8b1
                           try clear p9
                           try clear q9
                           try clear hx9
                           try clear qi9
                           try clear hf9
                           try clear c14
                           try clear c14b0
                           try clear c15
                           try clear c15b0
                           try clear c16
                           try clear c16b0
                           try clear c17
                           try clear c17b0
                           try clear c17b1
                           try clear c18
                           try clear c18b0
                           try clear c18b1
                           try clear c19
                           try clear c19b0
                           try clear c25
                           try clear c25b0
                           try clear c26
                           try clear c26b0
                           try clear c27
                           try clear c27b0
                           try clear hx507_0
                           try clear hx511_0
                           try clear hx515_0
                           try clear hx9_0
                           try clear p2
                           try clear p5
                           try clear p507
                           try clear p511
                           try clear p515
                           try clear p9
                           try clear q5
                           try clear q507
                           try clear q511
                           try clear q515
                           try clear q9
                           obtain ⟨x14_3, x48_3, rfl, HA, HK3, HO_11, HO_14, HO_39, HO_46, HB⟩ := hrel
                           cases gk with
                           | zero => exact absurd HA.out (by simp [impl_solutions.l2])
                           | succ k3 =>
                            have H := HA.out
                            clear HA
                            simp only [impl_solutions.l2] at H
                            by_cases c29 : x48_3 < (x11_1.length : Int)
                            · rw [if_pos c29] at H
                              have c29b0 : decide (x48_3 < (x11_1.length : Int)) = true := decide_eq_true c29
                              clear c29
                              by_cases c30 : 0 ≤ x48_3
                              · rw [if_pos c30] at H
                                have c30b0 : decide (0 ≤ x48_3) = true := decide_eq_true c30
                                clear c30
                                by_cases c31 : x48_3 < (x11_1.length : Int)
                                · rw [if_pos c31] at H
                                  have c31b0 : decide (x48_3 < (x11_1.length : Int)) = true := decide_eq_true c31
                                  clear c31
                                  by_cases c32 : a0 = 0
                                  · rw [if_pos c32] at H
                                    exact absurd H (by simp)
                                  · rw [if_neg c32] at H
                                    have c32b0 : (a0 == 0) = false := beq_eq_false_iff_ne.mpr c32
                                    have c32b1 : (a0 != 0) = true := bne_iff_ne.mpr c32
                                    obtain ⟨ji33, hji33⟩ : ∃ j_ : Int, (Int.tmod (wrap64 (x48_3 + x41_2)) a0) = j_ := ⟨_, rfl⟩
                                    replace H : (if 0 ≤ (ji33) then (if (ji33) < (x14_3.length : Int) then (impl_solutions.l2 k3 a0 l2 a3 a4 x11_1 (x14_3.set ((ji33) : Int).toNat (wrap64 ((rd x14_3 (ji33)) + (wrap64 ((rd t512 x41_2) * (rd x11_1 x48_3)))))) x41_2 (rd t512 x41_2) l1 (l1.length : Int) x25_1 t512 (t512.length : Int) x41_2 x11_1 (x11_1.length : Int) (wrap64 (x48_3 + 1))) else (none)) else (none)) = some r := by first | (rw [hji33] at H; exact H) | (simp only [hji33] at H ⊢; exact H)
                                    by_cases c34 : 0 ≤ (ji33)
                                    · rw [if_pos c34] at H
                                      have c34b0 : decide (0 ≤ (ji33)) = true := decide_eq_true c34
                                      clear c34
                                      by_cases c35 : (ji33) < (x14_3.length : Int)
                                      · rw [if_pos c35] at H
                                        have c35b0 : decide ((ji33) < (x14_3.length : Int)) = true := decide_eq_true c35
                                        clear c35
                                        obtain ⟨y518, hy518⟩ : ∃ y_ : List Int, y_ = (x14_3.set ((ji33) : Int).toNat (wrap64 ((rd x14_3 (ji33)) + (wrap64 ((rd t512 x41_2) * (rd x11_1 x48_3)))))) := ⟨_, rfl⟩
                                        replace H : (impl_solutions.l2 k3 a0 l2 a3 a4 x11_1 y518 x41_2 (rd t512 x41_2) l1 (l1.length : Int) x25_1 t512 (t512.length : Int) x41_2 x11_1 (x11_1.length : Int) (wrap64 (x48_3 + 1))) = some r := by first | (rw [hy518]; with_reducible exact H) | (have H2_ := (Option.bind_some _ _).symm.trans H; rw [hy518]; with_reducible exact H2_) | (have H2_ := (Option.bind_some _ _).symm.trans H; with_reducible exact H2_) | with_reducible exact H | (rw [hy518]; exact H) | exact H
                                        have Ny518 := Aside0.mk hy518
                                        clear hy518
                                        have H' := Aside0.mk H
                                        clear H
                                        have p516 : 0 ≤ (x48_3 : Int) := of_decide_eq_true (by first | (with_reducible assumption) | assumption)
                                        have q516 : x48_3 < (x11_1.length : Int) := of_decide_eq_true (by first | (with_reducible assumption) | assumption)
                                        obtain ⟨ad516, e516, hx516_0⟩ := Kd.at_int (Kd.R_reads' HO_46.out).2.2 x48_3 p516 q516
                                        cases e516
                                        replace p516 := eq_true p516
                                        replace q516 := eq_true q516
                                        obtain ⟨Ao37, co37, eo37⟩ := Kd.R_slice HO_14.out
                                        subst eo37
                                        have p517 : 0 ≤ ((ji33) : Int) := of_decide_eq_true (by first | (with_reducible assumption) | assumption)
                                        have q517 : (ji33) < (x14_3.length : Int) := of_decide_eq_true (by first | (with_reducible assumption) | assumption)
                                        obtain ⟨ad517, e517, hx517_0⟩ := Kd.at_int (Kd.R_reads' HO_14.out).2.2 (ji33) p517 q517
                                        cases e517
                                        replace p517 := eq_true p517
                                        replace q517 := eq_true q517
                                        have p36 : 0 ≤ ((ji33) : Int) := of_decide_eq_true (by first | (with_reducible assumption) | assumption)
                                        have q36 : ((ji33) : Int) < ((x14_3.length : Int) : Int) := of_decide_eq_true (by first | (with_reducible assumption) | assumption)
                                        obtain ⟨go36, co36, eo36, gb36, gl36, cl36, HG36⟩ := Kd.R_form HO_14.out (by omega)
                                        (first | cases eo36 | (injection eo36 with ea_ en_ ec_; (first | subst ea_ | (injection ea_ with ea_; subst ea_)); subst ec_; clear en_))
                                        have GB36 := Aside0.mk gb36
                                        have GG36 := Aside0.mk HG36
                                        clear gb36 gl36 HG36
                                        (first | simp only [add_plain] at hx517_0 | skip)
                                        obtain ⟨hx36_0, hf36_0⟩ := Kd.R_celln 0 HO_14.out ((ji33) : Int) p36 q36
                                        replace p36 := eq_true p36
                                        replace q36 := eq_true q36
                                        have HP38 := Kd.R_putg HO_14.out ((ji33) : Int) (wrap64 ((rd x14_3 (ji33)) + (wrap64 ((rd t512 x41_2) * (rd x11_1 x48_3)))))
                                        go_wp2_with (first | ((with_reducible refine gate_store (t := 2) (p := 65) rfl ?_); refine store_event (t := 2) (p := 65) (v := ?vo_w39) (w1 := (wr.setCell ⟨go36, ((ji33) : Int).toNat, none⟩ (.int .i64 (wrap64 ((rd x14_3 (ji33)) + (wrap64 ((rd t512 x41_2) * (rd x11_1 x48_3)))))))) ?hg ?ho ?hn ?hr ?_; (case ho => rfl); (case hg => rfl); (case hn => rfl); (case hr => first | (go_simp; done) | (go_simp; rfl)); intro w39 hw; have hg : wr.grownBy w39 (some go36) := (by rw [hw]; exact HP38.2); have hp_ : Kd.R (Kd.int .i64) 2 w39 w.heap.size (fun k_ => some k_ ≠ (.slice (some ad516) x11_1.length co28 : Value).ownBlock ∧ some k_ ≠ (.slice (some ad515) t512.length co24 : Value).ownBlock ∧ some k_ ≠ (.slice (some ad516) x11_1.length co28 : Value).ownBlock) (.slice (some ⟨go36, 0, none⟩) x14_3.length co37) y518 := (by rw [hw, Ny518.out]; exact HP38.1); clear HP38; have n0_ := Aside0.mk (Kd.R_after (v := (.slice (some ⟨go36, 0, none⟩) x14_3.length co37)) (v1 := (.slice (some ⟨go36, 0, none⟩) x14_3.length co37)) (ok := (fun k_ => some k_ ≠ (.slice (some ad515) t512.length co24 : Value).ownBlock)) (by (with_reducible repeat (first | apply Kd.R_alloc | apply Kd.R_drewN | apply Kd.R_drew)); exact Kd.R_mono HO_11.out (fun _ hk => ⟨hk.2, hk.1⟩)) hg (.inl rfl)); have n1_ := Aside0.mk (hp_); have n2_ := Aside0.mk (Kd.R_after (v := (.slice (some ⟨go36, 0, none⟩) x14_3.length co37)) (v1 := (.slice (some ⟨go36, 0, none⟩) x14_3.length co37)) (ok := (fun k_ => some k_ ≠ (.slice (some ad516) x11_1.length co28 : Value).ownBlock ∧ some k_ ≠ (.slice (some ad516) x11_1.length co28 : Value).ownBlock)) (by (with_reducible repeat (first | apply Kd.R_alloc | apply Kd.R_drewN | apply Kd.R_drew)); exact Kd.R_mono HO_39.out (fun _ hk => ⟨⟨hk.1, hk.2.2⟩, hk.2.1⟩)) hg (.inl rfl)); have n3_ := Aside0.mk (Kd.R_after (v := (.slice (some ⟨go36, 0, none⟩) x14_3.length co37)) (v1 := (.slice (some ⟨go36, 0, none⟩) x14_3.length co37)) (ok := (fun k_ => some k_ ≠ (.slice (some ad515) t512.length co24 : Value).ownBlock)) (by (with_reducible repeat (first | apply Kd.R_alloc | apply Kd.R_drewN | apply Kd.R_drew)); exact Kd.R_mono HO_46.out (fun _ hk => ⟨hk.2, hk.1⟩)) hg (.inl rfl)); have n4_ := Aside0.mk ((by rw [hw]; exact below_set (HB.out) GB36.out : Below w.heap.size w w39)); clear HO_11; clear HO_14; clear HO_39; clear HO_46; clear HB; have HO_11 := n0_; have HO_14 := n1_; have HO_39 := n2_; have HO_46 := n3_; have HB := n4_; clear n0_ n1_ n2_ n3_ n4_; clear hg hw hp_))
                                        go_roundg k3
                                        case measure => have := HK1.out; have := HK2.out; have := HK3.out; omega
                                        case rel => exact ⟨(y518), (wrap64 (x48_3 + 1)), (by first | rfl | (simp; done) | (simp [*]; done)), H', ⟨by have := HK1.out; have := HK2.out; have := HK3.out; omega⟩, ⟨by (with_reducible repeat (first | apply Kd.R_alloc | apply Kd.R_drewN | apply Kd.R_drew)); exact Kd.R_mono HO_11.out (fun _ hk => ⟨hk.2, hk.1⟩)⟩, ⟨by (with_reducible repeat (first | apply Kd.R_alloc | apply Kd.R_drewN | apply Kd.R_drew)); exact HO_14.out⟩, ⟨by (with_reducible repeat (first | apply Kd.R_alloc | apply Kd.R_drewN | apply Kd.R_drew)); exact Kd.R_mono HO_39.out (fun _ hk => ⟨hk.1.1, ⟨hk.2, hk.1.2⟩⟩)⟩, ⟨by (with_reducible repeat (first | apply Kd.R_alloc | apply Kd.R_drewN | apply Kd.R_drew)); exact Kd.R_mono HO_46.out (fun _ hk => ⟨hk.2, hk.1⟩)⟩, ⟨by repeat (first | (with_reducible first | exact HB.out | apply below_alloc | apply pw_below_drewN | apply below_drew1) | exact HB.out)⟩⟩
                                      · rw [if_neg c35] at H
                                        exact absurd H (by simp)
                                    · rw [if_neg c34] at H
                                      exact absurd H (by simp)
                                · rw [if_neg c31] at H
                                  exact absurd H (by simp)
                              · rw [if_neg c30] at H
                                exact absurd H (by simp)
                            · rw [if_neg c29] at H
                              have c29b0 : decide (x48_3 < (x11_1.length : Int)) = false := decide_eq_false c29
                              clear c29
                              have H' := Aside0.mk H
                              clear H
                              go_wp2
                              go_roundg k3
                              case measure => have := HK1.out; have := HK2.out; have := HK3.out; omega
                              case rel => exact ⟨(x14_3), (wrap64 (x41_2 + 1)), (by first | rfl | (simp; done) | (simp [*]; done)), H', ⟨by have := HK1.out; have := HK2.out; have := HK3.out; omega⟩, ⟨by (with_reducible repeat (first | apply Kd.R_alloc | apply Kd.R_drewN | apply Kd.R_drew)); exact HO_11.out⟩, ⟨by (with_reducible repeat (first | apply Kd.R_alloc | apply Kd.R_drewN | apply Kd.R_drew)); exact Kd.R_mono HO_14.out (fun _ hk => ⟨hk.1, hk.2.1⟩)⟩, ⟨by (with_reducible repeat (first | apply Kd.R_alloc | apply Kd.R_drewN | apply Kd.R_drew)); exact Kd.R_mono HO_39.out (fun _ hk => ⟨hk.1, hk.2.1⟩)⟩, ⟨by repeat (first | (with_reducible first | exact HB.out | apply below_alloc | apply pw_below_drewN | apply below_drew1) | exact HB.out)⟩⟩
                         · rw [if_neg c27] at H
                           exact absurd H (by simp)
                       · rw [if_neg c26] at H
                         exact absurd H (by simp)
                     · rw [if_neg c25] at H
                       have c25b0 : decide (x41_2 < (t512.length : Int)) = false := decide_eq_false c25
                       clear c25
                       have H' := Aside0.mk H
                       clear H
                       go_wp2
                       go_roundg k2
                       case measure => have := HK1.out; have := HK2.out; omega
                       case rel => exact ⟨(x14_2), (wrap64 (x25_1 + 1)), (by first | rfl | (simp; done) | (simp [*]; done)), H', ⟨by have := HK1.out; have := HK2.out; omega⟩, ⟨by (with_reducible repeat (first | apply Kd.R_alloc | apply Kd.R_drewN | apply Kd.R_drew)); exact Kd.R_mono HO_14.out (fun _ hk => trivial)⟩, ⟨by repeat (first | (with_reducible first | exact HB.out | apply below_alloc | apply pw_below_drewN | apply below_drew1) | exact HB.out)⟩⟩
                  · rw [if_neg c19] at H
                    exact absurd H (by simp)
                · rw [if_neg c18] at H
                  exact absurd H (by simp)
              · rw [if_neg c17] at H
                exact absurd H (by simp)
            · rw [if_neg c16] at H
              exact absurd H (by simp)
          · rw [if_neg c15] at H
            exact absurd H (by simp)
        · rw [if_neg c14] at H
          have c14b0 : decide (x25_1 < (l1.length : Int)) = false := decide_eq_false c14
          clear c14
          by_cases c40 : 0 ≤ a3
          · rw [if_pos c40] at H
            have c40b0 : decide (0 ≤ a3) = true := decide_eq_true c40
            clear c40
            by_cases c41 : a3 < (x11_1.length : Int)
            · rw [if_pos c41] at H
              have c41b0 : decide (a3 < (x11_1.length : Int)) = true := decide_eq_true c41
              clear c41
              obtain rfl := Option.some.inj H
              obtain ⟨Ao42, co42, eo42⟩ := Kd.R_slice HO_11.out
              subst eo42
              have p506 : 0 ≤ (a3 : Int) := of_decide_eq_true (by first | (with_reducible assumption) | assumption)
              have q506 : a3 < (x11_1.length : Int) := of_decide_eq_true (by first | (with_reducible assumption) | assumption)
              obtain ⟨ad506, e506, hx506_0⟩ := Kd.at_int (Kd.R_reads' HO_11.out).2.2 a3 p506 q506
              cases e506
              replace p506 := eq_true p506
              replace q506 := eq_true q506
              go_wp2
              go_ret
              exact ⟨by first | rfl | (simp [errW_none, errW_some] <;> rfl) | (simp [*, errW_none, errW_some] <;> rfl), by repeat (first | (with_reducible first | exact HB.out | apply below_alloc | apply pw_below_drewN | apply below_drew1) | exact HB.out)⟩
            · rw [if_neg c41] at H
              exact absurd H (by simp)
          · rw [if_neg c40] at H
            exact absurd H (by simp)
     · rw [if_neg c8] at H
       exact absurd H (by simp)
   · rw [if_neg c7] at H
     exact absurd H (by simp)
 · rw [if_neg c6] at H
   exact absurd H (by simp)
end Go.Proofs.Ytphlgajlebgnbaa.P
namespace Go.Proofs.Ytphlgajlebgnbaa.P
open Go.RowKit Go.Proofs.YtphlgajlebgnbaaW.PrintWords Go.Proofs.YtphlgajlebgnbaaW.PrintLast Go.Proofs.YtphlgajlebgnbaaW.PrintMore
attribute [local go_sem] max2_int min2_int max_two min_two max_three min_three max_four min_four   -- for this text's walks alone
set_option linter.unusedVariables false
set_option linter.unusedSimpArgs false
/-! ### impl_CountSolutions: function 24 -/
def impl_CountSolutions.f (k : Nat) (a0 : Int) (l1 : List Int) (l2 : List Int) (a3 : Int) : Option (Int × Int) := (impl_isEquation.f k a0 l1 l2 a3).bind fun t519 => (if t519 = true then ((impl_solutions.f k a0 l1 l2 a3 0).bind fun t520 => (some (t520, 0))) else (some (0, 2)))
theorem impl_CountSolutions.mono : ∀ a0 a1 a2 a3 k, LeO (impl_CountSolutions.f k a0 a1 a2 a3) (impl_CountSolutions.f (k + 1) a0 a1 a2 a3) := by
 intro a0 a1 a2 a3 k
 unfold impl_CountSolutions.f
 repeat' first
  | (with_reducible exact impl_isEquation.mono _ _ _ _ _)
  | (with_reducible exact impl_solutions.mono _ _ _ _ _ _)
  | (with_reducible exact LeO.refl _)
  | (with_reducible exact LeO.none _)
  | (with_reducible refine LeO.ite ?_ ?_)
  | (with_reducible refine LeO.bind ?_ (fun _ => ?_))
  | exact impl_isEquation.mono _ _ _ _ _
  | exact impl_solutions.mono _ _ _ _ _ _
  | exact LeO.none _
  | refine LeO.ite ?_ ?_
  | refine LeO.bind ?_ (fun _ => ?_)
set_option maxHeartbeats 8000000 in
set_option maxRecDepth 100000 in
theorem impl_CountSolutions.calls (k : Nat) (a0 : Int) (A1 : Option Addr) (c1 : Nat) (l1 : List Int) (A2 : Option Addr) (c2 : Nat) (l2 : List Int) (a3 : Int) (r1 : Int) (r2 : Int) (w : World) (hr1 : Kd.C (Kd.int .i64) w A1 l1.length l1) (hc1 : l1.length ≤ c1) (hr2 : Kd.C (Kd.int .i64) w A2 l2.length l2) (hc2 : l2.length ≤ c2) (h : impl_CountSolutions.f k a0 l1 l2 a3 = some (r1, r2)) :
   Calls Try.prog 24 #[.int .i64 a0, .slice A1 l1.length c1, .slice A2 l2.length c2, .int .i64 a3] w fun e w' => e = .returned (.tuple #[.int .i64 r1, .int .i64 r2]) ∧ Below w.heap.size w w' := by
 have HR1 := Aside0.mk hr1
 have HC1 := Aside0.mk hc1
 clear hr1 hc1
 have HR2 := Aside0.mk hr2
 have HC2 := Aside0.mk hc2
 clear hr2 hc2
 have HB := Aside0.mk (Below.refl w.heap.size w)
 have H : ((impl_isEquation.f k a0 l1 l2 a3).bind fun t519 => (if t519 = true then ((impl_solutions.f k a0 l1 l2 a3 0).bind fun t520 => (some (t520, 0))) else (some (0, 2)))) = some (r1, r2) := h
 clear h
 replace H := Option.bind_eq_some_iff.mp H
 obtain ⟨t519, A50, H⟩ := H
 replace H : (if t519 = true then ((impl_solutions.f k a0 l1 l2 a3 0).bind fun t520 => (some (t520, 0))) else (some (0, 2))) = some (r1, r2) := H
 have A5 := Aside0.mk A50
 clear A50
 by_cases c6 : t519 = true
 · subst c6
   have H1 : ((impl_solutions.f k a0 l1 l2 a3 0).bind fun t520 => (some (t520, 0))) = some (r1, r2) := by rw [if_pos rfl] at H; exact H
   clear H
   have H := H1
   clear H1
   replace H := Option.bind_eq_some_iff.mp H
   obtain ⟨t520, A70, H⟩ := H
   replace H : (some (t520, 0)) = some (r1, r2) := H
   have A7 := Aside0.mk A70
   clear A70
   simp only [Option.some.injEq, Prod.mk.injEq] at H
   obtain ⟨rfl, rfl⟩ := H
   go_enter Try.func24, Try.ntmps24
   go_wp2_with (first | ((with_reducible refine gate_callee (f := 48) rfl ?_); refine goesL_ (some 14) rfl rfl Try.func48 (by kernel_rfl) rfl #[.int .i64 a0, .slice A1 l1.length c1, .slice A2 l2.length c2, .int .i64 a3] rfl (by (try simp only [List.map_toArray, List.map_cons, List.map_nil]); first | done | rfl | (simp only [List.length_drop, List.length_take]; rfl)) ?_; (with_reducible refine (impl_isEquation.calls k a0 _ _ l1 _ _ l2 a3 true _ ?side1 ?side2 ?side3 ?side4 A5.out).mono ?_); (case side1 => repeat (first | exact HR1.out | (with_reducible refine Kd.C_alloc ?_ _) | (with_reducible refine Kd.C_drewN ?_ _) | (with_reducible refine Kd.C_drew ?_))); (case side2 => exact HC1.out); (case side3 => repeat (first | exact HR2.out | (with_reducible refine Kd.C_alloc ?_ _) | (with_reducible refine Kd.C_drewN ?_ _) | (with_reducible refine Kd.C_drew ?_))); (case side4 => exact HC2.out); rintro e w' ⟨rfl, ⟨nd, rfl⟩⟩; refine ⟨_, rfl, ?_⟩) | ((with_reducible refine gate_callee (f := 49) rfl ?_); refine goesL_ (some 20) rfl rfl Try.func49 (by kernel_rfl) rfl #[.int .i64 a0, .slice A1 l1.length c1, .slice A2 l2.length c2, .int .i64 a3, .int .i64 0] rfl (by (try simp only [List.map_toArray, List.map_cons, List.map_nil]); first | done | rfl | (simp only [List.length_drop, List.length_take]; rfl)) ?_; (with_reducible refine (impl_solutions.calls k a0 _ _ l1 _ _ l2 a3 0 t520 _ ?side1 ?side2 ?side3 ?side4 A7.out).mono ?_); (case side1 => repeat (first | exact HR1.out | (with_reducible refine Kd.C_alloc ?_ _) | (with_reducible refine Kd.C_drewN ?_ _) | (with_reducible refine Kd.C_drew ?_))); (case side2 => exact HC1.out); (case side3 => repeat (first | exact HR2.out | (with_reducible refine Kd.C_alloc ?_ _) | (with_reducible refine Kd.C_drewN ?_ _) | (with_reducible refine Kd.C_drew ?_))); (case side4 => exact HC2.out); rintro e w8 ⟨rfl, hb⟩; refine ⟨_, rfl, ?_⟩; have n0_ := Aside0.mk (below_step (by repeat (first | (with_reducible first | exact HB.out | apply below_alloc | apply pw_below_drewN | apply below_drew1) | exact HB.out)) hb); clear HB; have HB := n0_; clear n0_; (try clear hb); (try clear hb2); (try clear hk); (try clear hi)))
   go_ret2
   exact ⟨by first | rfl | (simp [errW_none, errW_some] <;> rfl) | (simp [*, errW_none, errW_some] <;> rfl), by repeat (first | (with_reducible first | exact HB.out | apply below_alloc | apply pw_below_drewN | apply below_drew1) | exact HB.out)⟩
 · replace c6 := Bool.eq_false_iff.mpr c6
   subst c6
   have H1 : (some (0, 2)) = some (r1, r2) := by rw [if_neg (show ¬ (false = true) by decide)] at H; exact H
   clear H
   have H := H1
   clear H1
   simp only [Option.some.injEq, Prod.mk.injEq] at H
   obtain ⟨rfl, rfl⟩ := H
   go_enter Try.func24, Try.ntmps24
   go_wp2_with (first | ((with_reducible refine gate_callee (f := 48) rfl ?_); refine goesL_ (some 14) rfl rfl Try.func48 (by kernel_rfl) rfl #[.int .i64 a0, .slice A1 l1.length c1, .slice A2 l2.length c2, .int .i64 a3] rfl (by (try simp only [List.map_toArray, List.map_cons, List.map_nil]); first | done | rfl | (simp only [List.length_drop, List.length_take]; rfl)) ?_; (with_reducible refine (impl_isEquation.calls k a0 _ _ l1 _ _ l2 a3 false _ ?side1 ?side2 ?side3 ?side4 A5.out).mono ?_); (case side1 => repeat (first | exact HR1.out | (with_reducible refine Kd.C_alloc ?_ _) | (with_reducible refine Kd.C_drewN ?_ _) | (with_reducible refine Kd.C_drew ?_))); (case side2 => exact HC1.out); (case side3 => repeat (first | exact HR2.out | (with_reducible refine Kd.C_alloc ?_ _) | (with_reducible refine Kd.C_drewN ?_ _) | (with_reducible refine Kd.C_drew ?_))); (case side4 => exact HC2.out); rintro e w' ⟨rfl, ⟨nd, rfl⟩⟩; refine ⟨_, rfl, ?_⟩))
   go_ret2
   exact ⟨by first | rfl | (simp [errW_none, errW_some] <;> rfl) | (simp [*, errW_none, errW_some] <;> rfl), by repeat (first | (with_reducible first | exact HB.out | apply below_alloc | apply pw_below_drewN | apply below_drew1) | exact HB.out)⟩
end Go.Proofs.Ytphlgajlebgnbaa.P
namespace Go.Proofs.Ytphlgajlebgnbaa.P
open Go.RowKit Go.Proofs.YtphlgajlebgnbaaW.PrintWords Go.Proofs.YtphlgajlebgnbaaW.PrintLast Go.Proofs.YtphlgajlebgnbaaW.PrintMore
attribute [local go_sem] max2_int min2_int max_two min_two max_three min_three max_four min_four   -- for this text's walks alone
set_option linter.unusedVariables false
set_option linter.unusedSimpArgs false
/-! ### impl_valueAt: function 41 -/
def impl_valueAt.l0 : Nat → List Int → Int → Int → Int → Int → Option (Int)
 | 0, _, _, _, _, _ => none
 | k + 1, x0, x1, x2, x7, x8 => if x8 ≥ 0 then (if 0 ≤ x8 then (if x8 < (x0.length : Int) then (if x2 = 0 then (none) else ((impl_around.f (wrap64 ((wrap64 (x7 * x1)) + (Int.tmod (rd x0 x8) x2))) x2).bind fun t280 => (impl_valueAt.l0 k x0 x1 x2 t280 (wrap64 (x8 - 1))))) else (none)) else (none)) else (some x7)
def impl_valueAt.f (k : Nat) (l0 : List Int) (a1 : Int) (a2 : Int) : Option (Int) := impl_valueAt.l0 k l0 a1 a2 0 (wrap64 ((l0.length : Int) - 1))
theorem impl_valueAt.mono_l : ∀ k, (∀ y0 y1 y2 y3 y4, LeO (impl_valueAt.l0 k y0 y1 y2 y3 y4) (impl_valueAt.l0 (k + 1) y0 y1 y2 y3 y4))
 | 0 => fun _ _ _ _ _ r h => by simp [impl_valueAt.l0] at h
 | k + 1 => by
  have ih0 := impl_valueAt.mono_l k
  · intro y0 y1 y2 y3 y4
    unfold impl_valueAt.l0
    repeat' first
    | (with_reducible exact ih0 _ _ _ _ _)
    | (with_reducible exact LeO.refl _)
    | (with_reducible exact LeO.none _)
    | (with_reducible refine LeO.ite ?_ ?_)
    | (with_reducible refine LeO.bind ?_ (fun _ => ?_))
    | exact ih0 _ _ _ _ _
    | exact LeO.none _
    | refine LeO.ite ?_ ?_
    | refine LeO.bind ?_ (fun _ => ?_)
theorem impl_valueAt.mono : ∀ a0 a1 a2 k, LeO (impl_valueAt.f k a0 a1 a2) (impl_valueAt.f (k + 1) a0 a1 a2) := by
 intro a0 a1 a2 k
 have ih0 := impl_valueAt.mono_l k
 unfold impl_valueAt.f
 repeat' first
  | (with_reducible exact ih0 _ _ _ _ _)
  | (with_reducible exact LeO.refl _)
  | (with_reducible exact LeO.none _)
  | (with_reducible refine LeO.ite ?_ ?_)
  | (with_reducible refine LeO.bind ?_ (fun _ => ?_))
  | exact ih0 _ _ _ _ _
  | exact LeO.none _
  | refine LeO.ite ?_ ?_
  | refine LeO.bind ?_ (fun _ => ?_)
set_option maxHeartbeats 8000000 in
set_option maxRecDepth 100000 in
theorem impl_valueAt.calls (k : Nat) (A0 : Option Addr) (c0 : Nat) (l0 : List Int) (a1 : Int) (a2 : Int) (r : Int) (w : World) (hr0 : Kd.C (Kd.int .i64) w A0 l0.length l0) (hc0 : l0.length ≤ c0) (h : impl_valueAt.f k l0 a1 a2 = some r) :
   Calls Try.prog 41 #[.slice A0 l0.length c0, .int .i64 a1, .int .i64 a2] w fun e w' => e = .returned (.int .i64 r) ∧ Drawn0 w w' := by
 have HR0 := Aside0.mk hr0
 have HC0 := Aside0.mk hc0
 clear hr0 hc0
 have H : (impl_valueAt.l0 k l0 a1 a2 0 (wrap64 ((l0.length : Int) - 1))) = some r := h
 clear h
 have H' := Aside0.mk H
 clear H
 go_enter Try.func41, Try.ntmps41
 go_wp2
 go_loopg [7, 8] k (fun kq v7 v8 w' => ∃ (x7_1 : Int) (x8_1 : Int), v7 = .int .i64 x7_1 ∧ v8 = .int .i64 x8_1 ∧ Aside0 (impl_valueAt.l0 kq l0 a1 a2 x7_1 x8_1 = some r) ∧ Aside0 (kq ≤ k) ∧ Drawn0 w w')
 case atStart => exact ⟨(0), (wrap64 ((l0.length : Int) - 1)), (by first | rfl | (simp; done) | (simp [*]; done)), (by first | rfl | (simp; done) | (simp [*]; done)), H', ⟨Nat.le_refl _⟩, by repeat (first | exact Drawn0.refl _ | apply Drawn0.step)⟩
 case round =>
 clear H'
 try clear p2
 obtain ⟨x7_1, x8_1, rfl, rfl, HA, HK1, ⟨m1, rfl⟩⟩ := hrel
 cases gk with
 | zero => exact absurd HA.out (by simp [impl_valueAt.l0])
 | succ k1 =>
  have H := HA.out
  clear HA
  simp only [impl_valueAt.l0] at H
  by_cases c4 : x8_1 ≥ 0
  · rw [if_pos c4] at H
    have c4b0 : decide (0 ≤ x8_1) = true := decide_eq_true c4
    clear c4
    by_cases c5 : 0 ≤ x8_1
    · rw [if_pos c5] at H
      have c5b0 : decide (0 ≤ x8_1) = true := decide_eq_true c5
      clear c5
      by_cases c6 : x8_1 < (l0.length : Int)
      · rw [if_pos c6] at H
        have c6b0 : decide (x8_1 < (l0.length : Int)) = true := decide_eq_true c6
        clear c6
        by_cases c7 : a2 = 0
        · rw [if_pos c7] at H
          exact absurd H (by simp)
        · rw [if_neg c7] at H
          have c7b0 : (a2 == 0) = false := beq_eq_false_iff_ne.mpr c7
          have c7b1 : (a2 != 0) = true := bne_iff_ne.mpr c7
          replace H := Option.bind_eq_some_iff.mp H
          obtain ⟨t280, A80, H⟩ := H
          replace H : (impl_valueAt.l0 k1 l0 a1 a2 t280 (wrap64 (x8_1 - 1))) = some r := H
          have A8 := Aside0.mk A80
          clear A80
          have H' := Aside0.mk H
          clear H
          have p279 : 0 ≤ (x8_1 : Int) := of_decide_eq_true (by first | (with_reducible assumption) | assumption)
          have q279 : x8_1 < (l0.length : Int) := of_decide_eq_true (by first | (with_reducible assumption) | assumption)
          obtain ⟨ad279, e279, hx279_0⟩ := Kd.at_int HR0.out x8_1 p279 q279
          cases e279
          replace p279 := eq_true p279
          replace q279 := eq_true q279
          go_wp2_with (first | ((with_reducible refine gate_callee (f := 56) rfl ?_); refine goesL_ (some 27) rfl rfl Try.func56 (by kernel_rfl) rfl #[.int .i64 (wrap64 ((wrap64 (x7_1 * a1)) + (Int.tmod (rd l0 x8_1) a2))), .int .i64 a2] rfl (by (try simp only [List.map_toArray, List.map_cons, List.map_nil]); first | done | rfl | (simp only [List.length_drop, List.length_take]; rfl)) ?_; (with_reducible refine (impl_around.calls (wrap64 ((wrap64 (x7_1 * a1)) + (Int.tmod (rd l0 x8_1) a2))) a2 t280 _ A8.out).mono ?_); rintro e w' ⟨rfl, ⟨nd, rfl⟩⟩; refine ⟨_, rfl, ?_⟩))
          go_roundg k1
          case measure => have := HK1.out; omega
          case rel => exact ⟨(t280), (wrap64 (x8_1 - 1)), (by first | rfl | (simp; done) | (simp [*]; done)), (by first | rfl | (simp; done) | (simp [*]; done)), H', ⟨by have := HK1.out; omega⟩, by repeat (first | exact Drawn0.refl _ | apply Drawn0.step)⟩
      · rw [if_neg c6] at H
        exact absurd H (by simp)
    · rw [if_neg c5] at H
      exact absurd H (by simp)
  · rw [if_neg c4] at H
    have c4b0 : decide (0 ≤ x8_1) = false := decide_eq_false c4
    clear c4
    obtain rfl := Option.some.inj H
    go_wp2
    go_ret
    exact ⟨by first | rfl | (simp; done) | (simp [*]; done), by repeat (first | exact Drawn0.refl _ | apply Drawn0.step)⟩
end Go.Proofs.Ytphlgajlebgnbaa.P
/-! Points above a polynomial. -/
namespace Go.Proofs.Ytphlgajlebgnbaa.P
open Go.RowKit Go.Proofs.YtphlgajlebgnbaaW.PrintWords Go.Proofs.YtphlgajlebgnbaaW.PrintLast Go.Proofs.YtphlgajlebgnbaaW.PrintMore
set_option linter.unusedVariables false
set_option linter.unusedSimpArgs false
theorem spot_none {w : World} {a : Addr} {v : Value} (h : w.cell? a = some v) : a = ⟨a.block, a.off, none⟩ := by
  obtain ⟨b, o, s⟩ := a
  cases s with
  | none => rfl
  | some s => unfold World.cell? at h; simp at h; split at h <;> cases h
/-! ### impl_PointsAbove: function 14 -/
def aboveTo (k : Nat) (cs l : List Int) (p : Int) : Nat → Option Int
  | 0 => some 0
  | n + 1 => (aboveTo k cs l p n).bind fun s => (impl_valueAt.f k l (n : Int) p).bind fun v => if 0 ≤ v ∧ v < cs.length ∧ 0 ≤ s ∧ s ≤ 1000000 ∧ 0 ≤ rd cs v ∧ rd cs v ≤ 1000000 then some (s + rd cs v) else none
def inAll (p : Int) (x : Int) : Bool := decide (0 ≤ x) && decide (x ≤ p - 1)
def impl_PointsAbove.f (k : Nat) (a0 a1 : Int) (l2 : List Int) : Option (Int × Int) :=
  (impl_isPrime.f k a0).bind fun b => if b = true then
    (if 1 ≤ a1 ∧ a1 ≤ 60 ∧ 1 ≤ l2.length ∧ l2.length ≤ 8 then (if 2 ≤ a0 ∧ a0 ≤ 1000 then (if l2.all (inAll a0) = true then (impl_valueCounts.f k a0 1 a1 0).bind fun cs => (aboveTo k cs l2 a0 a0.toNat).bind fun s => some (s, 0) else some (0, 2)) else none)
     else (if l2.length ≤ 1000000 then some (0, 2) else none)) else some (0, 2)
theorem aboveTo.mono (k : Nat) (cs l : List Int) (p : Int) : ∀ n, LeO (aboveTo k cs l p n) (aboveTo (k + 1) cs l p n)
  | 0 => LeO.refl _
  | n + 1 => LeO.bind (aboveTo.mono k cs l p n) (fun _ => LeO.bind (impl_valueAt.mono _ _ _ _) (fun _ => LeO.refl _))
theorem impl_PointsAbove.mono : ∀ a0 a1 l2 k, LeO (impl_PointsAbove.f k a0 a1 l2) (impl_PointsAbove.f (k + 1) a0 a1 l2) := fun a0 a1 l2 k =>
  LeO.bind (impl_isPrime.mono _ _) (fun _ => LeO.ite (LeO.ite (LeO.ite (LeO.ite (LeO.bind (impl_valueCounts.mono _ _ _ _ _) (fun _ => LeO.bind (aboveTo.mono _ _ _ _ _) (fun _ => LeO.refl _))) (LeO.refl _)) (LeO.refl _)) (LeO.refl _)) (LeO.refl _))
theorem aboveTo_at (k : Nat) (cs l : List Int) (p : Int) : ∀ n s, aboveTo k cs l p n = some s → ∀ j, j < n → ∃ sj v, aboveTo k cs l p j = some sj ∧ impl_valueAt.f k l (j : Int) p = some v ∧ 0 ≤ v ∧ v < cs.length ∧ 0 ≤ sj ∧ sj ≤ 1000000 ∧ 0 ≤ rd cs v ∧ rd cs v ≤ 1000000 ∧ aboveTo k cs l p (j + 1) = some (sj + rd cs v)
  | 0, s, _, j, hj => by omega
  | n + 1, s, h, j, hj => by
    have h0 := h
    simp only [aboveTo] at h
    obtain ⟨s1, h1, h⟩ := Option.bind_eq_some_iff.mp h
    by_cases e : j = n
    · subst e
      obtain ⟨v, h2, h⟩ := Option.bind_eq_some_iff.mp h
      have hc : 0 ≤ v ∧ v < cs.length ∧ 0 ≤ s1 ∧ s1 ≤ 1000000 ∧ 0 ≤ rd cs v ∧ rd cs v ≤ 1000000 := by
        split at h
        · assumption
        · cases h
      rw [if_pos hc] at h
      exact ⟨s1, v, h1, h2, hc.1, hc.2.1, hc.2.2.1, hc.2.2.2.1, hc.2.2.2.2.1, hc.2.2.2.2.2, h0.trans h.symm⟩
    · exact aboveTo_at k cs l p n s1 h1 j (by omega)
set_option maxHeartbeats 400000 in
theorem inAll_at (w : World) (B : Nat) (p : Int) (hp0 : 2 ≤ p) (hp1 : p ≤ 1000) (hB : B < w.heap.size) (hc : w.cell? ⟨B, 0, none⟩ = some (.int .i64 p)) :
    PredAt Try.prog 39 #[.pointer (some ⟨B, 0, none⟩)] (Value.int .i64) (fun x => !inAll p x) w := fun W x hb => by
  have hc' : W.cell? ⟨B, 0, none⟩ = some (.int .i64 p) := (hb.cell (p := ⟨B, 0, none⟩) hB).trans hc
  have hw : impl_within.f x 0 (p - 1) = some (inAll p x) := by
    unfold impl_within.f inAll
    by_cases h : 0 ≤ x <;> simp [h]
  have HW := Aside0.mk hw
  clear hw hb hc hB
  show FnGives Try.prog 39 #[.pointer (some ⟨B, 0, none⟩)] #[.int .i64 x] (.bool (!(inAll p x))) W
  generalize inAll p x = b at HW ⊢
  unfold FnGives
  go_enter Try.func39, Try.ntmps39
  go_wp2_with (go_at_call 37; refine (impl_within.calls _ _ _ _ _ HW.out).mono ?_; rintro e w' ⟨rfl, hd⟩)
  obtain ⟨n, rfl⟩ := hd.out
  go_ret
  exact ⟨rfl, n, rfl⟩
theorem below_drewN2 {B : Nat} {w W : World} (h : Below B w W) (n : Nat) : Below B w (W.drewN n) := ⟨h.os, h.tape, h.output, h.size, h.block⟩
set_option maxHeartbeats 1000000 in
set_option maxRecDepth 100000 in
theorem impl_PointsAbove.calls (k : Nat) (a0 : Int) (a1 : Int) (A2 : Option Addr) (c2 : Nat) (l2 : List Int) (r1 : Int) (r2 : Int) (w : World) (hr2 : Kd.C (Kd.int .i64) w A2 l2.length l2) (hc2 : l2.length ≤ c2) (h : impl_PointsAbove.f k a0 a1 l2 = some (r1, r2)) :
    Calls Try.prog 14 #[.int .i64 a0, .int .i64 a1, .slice A2 l2.length c2] w fun e w' => e = .returned (.tuple #[.int .i64 r1, .int .i64 r2]) ∧ Below w.heap.size w w' := by
  unfold impl_PointsAbove.f at h
  obtain ⟨b, hb, h⟩ := Option.bind_eq_some_iff.mp h
  have HP := Aside0.mk hb
  have HB0 := Aside0.mk (below_alloc (Below.refl w.heap.size w) (.cells #[.int .i64 a0] 2))
  clear hb
  cases b with
  | false =>
    simp only [Bool.false_eq_true, if_false, Option.some.injEq, Prod.mk.injEq] at h
    obtain ⟨rfl, rfl⟩ := h
    clear hr2
    go_enter Try.func14, Try.ntmps14
    go_wp2_with (go_at_call 36; refine (impl_isPrime.calls _ _ _ _ HP.out).mono ?_; rintro e w' ⟨rfl, hd⟩)
    obtain ⟨n, rfl⟩ := hd.out
    go_wp2
    go_ret2
    exact ⟨rfl, below_drewN2 HB0.out n⟩
  | true =>
    simp only [if_true] at h
    obtain ⟨e1, he1⟩ : ∃ e1 : Bool, e1 = (decide (1 ≤ a1) && decide (a1 ≤ 60)) := ⟨_, rfl⟩
    have HE := Aside0.mk (show impl_isExponent.f a1 = some e1 by
      unfold impl_isExponent.f impl_within.f
      rw [he1]
      by_cases hh : 1 ≤ a1 <;> simp [hh])
    cases e1 with
    | false =>
      rw [if_neg (by simp at he1; omega)] at h
      have hh : (0 : Int) = r1 ∧ (2 : Int) = r2 := by
        split at h
        · simpa using h
        · cases h
      obtain ⟨rfl, rfl⟩ := hh
      clear hr2 h he1
      go_enter Try.func14, Try.ntmps14
      go_wp2_with (first | (go_at_call 36; refine (impl_isPrime.calls _ _ _ _ HP.out).mono ?_; rintro e w' ⟨rfl, hd⟩; obtain ⟨n, rfl⟩ := hd.out) | (go_at_call 30; refine (impl_isExponent.calls _ _ _ HE.out).mono ?_; rintro e w' ⟨rfl, hd2⟩; obtain ⟨n2, rfl⟩ := hd2.out))
      go_ret2
      exact ⟨rfl, by first | exact below_drewN2 (below_drewN2 HB0.out _) _ | exact below_drewN2 HB0.out _⟩
    | true =>
      have he2 : 1 ≤ a1 ∧ a1 ≤ 60 := by simpa using he1.symm
      obtain ⟨e2, he3⟩ : ∃ e2 : Bool, e2 = (decide (1 ≤ (l2.length : Int)) && decide ((l2.length : Int) ≤ 8)) := ⟨_, rfl⟩
      have HL := Aside0.mk (show impl_within.f (l2.length : Int) 1 8 = some e2 by
        unfold impl_within.f
        rw [he3]
        by_cases hh : 1 ≤ (l2.length : Int) <;> simp [hh])
      have hbig : l2.length ≤ 1000000 := by
        rcases Nat.lt_or_ge 1000000 l2.length with hh | hh
        · rw [if_neg (by omega), if_neg (by omega)] at h; cases h
        · exact hh
      clear he1
      cases e2 with
      | false =>
        have hn : ¬ (1 ≤ l2.length ∧ l2.length ≤ 8) := by
          intro hh
          have : (decide (1 ≤ (l2.length : Int)) && decide ((l2.length : Int) ≤ 8)) = true := by simp; omega
          rw [this] at he3; cases he3
        rw [if_neg (by omega), if_pos hbig] at h
        simp only [Option.some.injEq, Prod.mk.injEq] at h
        obtain ⟨rfl, rfl⟩ := h
        clear hr2 he3 he2 hn
        go_enter Try.func14, Try.ntmps14
        go_wp2_with (first | (go_at_call 36; refine (impl_isPrime.calls _ _ _ _ HP.out).mono ?_; rintro e w' ⟨rfl, hd⟩; obtain ⟨n, rfl⟩ := hd.out) | (go_at_call 30; refine (impl_isExponent.calls _ _ _ HE.out).mono ?_; rintro e w' ⟨rfl, hd2⟩; obtain ⟨n2, rfl⟩ := hd2.out) | (go_at_call 37; refine (impl_within.calls _ _ _ _ _ HL.out).mono ?_; rintro e w' ⟨rfl, hd3⟩; obtain ⟨n3, rfl⟩ := hd3.out))
        go_ret2
        exact ⟨rfl, by first | exact below_drewN2 (below_drewN2 (below_drewN2 HB0.out _) _) _ | exact below_drewN2 (below_drewN2 HB0.out _) _ | exact below_drewN2 HB0.out _⟩
      | true =>
        have hn : 1 ≤ l2.length ∧ l2.length ≤ 8 := by
          have : (decide (1 ≤ (l2.length : Int)) && decide ((l2.length : Int) ≤ 8)) = true := he3.symm
          simp at this; omega
        rw [if_pos (by omega)] at h
        have hp : 2 ≤ a0 ∧ a0 ≤ 1000 := by
          by_cases hh : 2 ≤ a0 ∧ a0 ≤ 1000
          · exact hh
          · rw [if_neg hh] at h; cases h
        rw [if_pos hp] at h
        clear he3 hbig
        obtain ⟨ad, rfl, hcells⟩ : ∃ ad, A2 = some ad ∧ ∀ j, j < l2.length → w.cell? ⟨ad.block, ad.off + j, none⟩ = some (.int .i64 l2[j]!) := by
          obtain ⟨ad, hA, h0⟩ := Kd.at_int hr2 0 (by omega) (by omega)
          refine ⟨ad, hA, fun j hj => ?_⟩
          obtain ⟨ad', hA', h1⟩ := Kd.at_int hr2 (j : Int) (by omega) (by omega)
          rw [hA] at hA'
          obtain rfl := Option.some.inj hA'
          have hs : ad = ⟨ad.block, ad.off, none⟩ := spot_none h0
          have e1 : ad.add (j : Int).toNat = ⟨ad.block, ad.off + j, none⟩ := by
            rw [Int.toNat_natCast]
            unfold Addr.add
            by_cases hj0 : j = 0
            · subst hj0; simpa using hs
            · rw [if_neg hj0]
          rw [e1] at h1
          rw [h1]
          simp [rd, hj]
        have hfor : ∀ W : World, Below (w.alloc (.cells #[.int .i64 a0] 2)).heap.size (w.alloc (.cells #[.int .i64 a0] 2)) W → Calls Try.prog 38 #[.slice (some ad) l2.length c2, .func (.func 39) #[] #[.pointer (some ⟨w.heap.size, 0, none⟩)]] W fun e w' => e = .returned (.bool !(l2.all (inAll a0))) ∧ ∃ q, w' = W.drewN q := by
          intro W hW
          have hs : ad = ⟨ad.block, ad.off, none⟩ := by
            obtain ⟨ad', hA', h1⟩ := Kd.at_int hr2 0 (by omega) (by omega)
            obtain rfl := Option.some.inj hA'
            exact spot_none h1
          have hcon := Try.slices_ContainsFunc (Value.int .i64) (fun x => !inAll a0 x) 39 #[.pointer (some ⟨w.heap.size, 0, none⟩)] (enters_of Try.func39 (by kernel_rfl) rfl) ad.block ad.off l2.length c2 l2 W
            ((inAll_at (w.alloc (.cells #[.int .i64 a0] 2)) w.heap.size a0 hp.1 hp.2 (by simp) (by simp)).later hW) (Nat.le_refl _) (by omega) (fun j hj => by
              have h1 := hcells j hj
              have h2 : (w.alloc (.cells #[.int .i64 a0] 2)).cell? ⟨ad.block, ad.off + j, none⟩ = some (.int .i64 l2[j]!) := pw_cell_below HB0.out h1
              exact pw_cell_below hW h2)
          rw [← hs, List.take_length] at hcon
          have e1 : (l2.any fun x => !inAll a0 x) = !(l2.all (inAll a0)) := by
            rw [List.not_all_eq_any_not]
          rw [e1] at hcon
          exact hcon
        have HCF := Aside0.mk hfor
        clear hfor hcells
        have HR2 := Aside0.mk hr2
        clear hr2
        obtain ⟨q, hq⟩ : ∃ q : Bool, q = l2.all (inAll a0) := ⟨_, rfl⟩
        rw [← hq] at HCF h
        clear hq
        cases q with
        | false =>
          simp only [Bool.false_eq_true, if_false, Option.some.injEq, Prod.mk.injEq] at h
          obtain ⟨rfl, rfl⟩ := h
          simp only [Bool.not_false] at HCF
          go_enter Try.func14, Try.ntmps14
          go_wp2_with (first | (go_at_call 36; refine (impl_isPrime.calls _ _ _ _ HP.out).mono ?_; rintro e w' ⟨rfl, hd⟩; obtain ⟨n, rfl⟩ := hd.out) | (go_at_call 30; refine (impl_isExponent.calls _ _ _ HE.out).mono ?_; rintro e w' ⟨rfl, hd2⟩; obtain ⟨n2, rfl⟩ := hd2.out) | (go_at_call 37; refine (impl_within.calls _ _ _ _ _ HL.out).mono ?_; rintro e w' ⟨rfl, hd3⟩; obtain ⟨n3, rfl⟩ := hd3.out) | (go_at_call 38; refine (HCF.out _ ?hb).mono ?_; (case hb => repeat (first | exact Below.refl _ _ | apply below_drewN2)); rintro e w' ⟨rfl, n4, rfl⟩))
          go_ret2
          exact ⟨rfl, by repeat (first | exact HB0.out | apply below_drewN2)⟩
        | true =>
          simp only [if_true] at h
          obtain ⟨cs, hcs, h⟩ := Option.bind_eq_some_iff.mp h
          obtain ⟨s, hs, h⟩ := Option.bind_eq_some_iff.mp h
          simp only [Option.some.injEq, Prod.mk.injEq] at h
          obtain ⟨rfl, rfl⟩ := h
          simp only [Bool.not_true] at HCF
          have HV := Aside0.mk hcs
          obtain ⟨p, rfl⟩ := Int.eq_ofNat_of_zero_le (show 0 ≤ a0 by omega)
          rw [Int.toNat_natCast] at hs
          have HS := Aside0.mk hs
          clear hcs hs
          go_enter Try.func14, Try.ntmps14
          go_wp2_with (first | (go_at_call 36; refine (impl_isPrime.calls _ _ _ _ HP.out).mono ?_; rintro e w' ⟨rfl, hd⟩; obtain ⟨n, rfl⟩ := hd.out) | (go_at_call 30; refine (impl_isExponent.calls _ _ _ HE.out).mono ?_; rintro e w' ⟨rfl, hd2⟩; obtain ⟨n2, rfl⟩ := hd2.out) | (go_at_call 37; refine (impl_within.calls _ _ _ _ _ HL.out).mono ?_; rintro e w' ⟨rfl, hd3⟩; obtain ⟨n3, rfl⟩ := hd3.out) | (go_at_call 38; refine (HCF.out _ ?hb).mono ?_; (case hb => repeat (first | exact Below.refl _ _ | apply below_drewN2)); rintro e w' ⟨rfl, n4, rfl⟩))
          clear HCF HE HL
          have HB1 := Aside0.mk (below_drewN2 HB0.out (n + n2 + n3 + n4))
          have hc0 : (w.alloc (.cells #[.int .i64 (p : Int)] 2)).cell? ⟨w.heap.size, 0, none⟩ = some (.int .i64 (p : Int)) := by simp
          refine (impl_valueCounts.calls _ _ _ _ _ _ _ HV.out).mono ?_
          rintro e W ⟨v, rfl, hR, hB⟩
          have HBW := Aside0.mk (show Below w.heap.size w W from HB1.out.trans (hB.mono (by simp)))
          obtain ⟨A, c, rfl, hlc, hC⟩ := Kd.R_reads hR
          have hcp : W.cell? ⟨w.heap.size, 0, none⟩ = some (.int .i64 (p : Int)) := pw_cell_below hB hc0
          clear hR hc0 hB HB0 HB1 hd hd2 hd3
          have HC := Aside0.mk hC
          clear hC
          go_wp2_with fail
          go_loopw [9, 34] (fun m i wr => ∃ (j : Nat) (sj : Int) (q : Nat), j ≤ p ∧ i = .int .i64 j ∧ m = .int .i64 sj ∧ Aside0 (aboveTo k cs l2 p j = some sj) ∧ wr = W.drewN q) (fun _ i _ => p - (intOf i).toNat)
          case atStart => exact ⟨0, 0, 0, Nat.zero_le _, rfl, rfl, ⟨rfl⟩, rfl⟩
          case round =>
            obtain ⟨j, sj, q, hj, rfl, rfl, HJ, rfl⟩ := hrel
            by_cases hlt : j < p
            · obtain ⟨sj', v, g1, g2, v0, v1, s0, s1, r0, r1, g3⟩ := aboveTo_at k cs l2 p p s HS.out j hlt
              obtain rfl : sj' = sj := Option.some.inj (g1.symm.trans HJ.out)
              have HVA := Aside0.mk g2
              have HN := Aside0.mk g3
              obtain ⟨x, hx⟩ : ∃ x, x = rd cs v := ⟨_, rfl⟩
              obtain ⟨cad, hca, hcell⟩ := Kd.at_int HC.out v v0 v1
              subst hca
              rw [← hx] at hcell r0 r1
              have HX := Aside0.mk hx
              clear hx g1 g2 g3
              go_wp2_with (go_at_call 41; refine (impl_valueAt.calls _ _ _ _ _ _ _ _ ?hk hc2 HVA.out).mono ?_; (case hk => exact Kd.C_below (Kd.C_below HR2.out HBW.out) (below_drewN2 (Below.refl _ _) _)); rintro e w' ⟨rfl, hd⟩; obtain ⟨q2, rfl⟩ := hd.out)
              go_roundw
              case rel => exact ⟨j + 1, sj' + x, _, by omega, by go_num, rfl, ⟨by rw [HX.out]; exact HN.out⟩, rfl⟩
              case measure => simp [intOf]; omega
            · obtain rfl : j = p := by omega
              have hsj : sj = s := Option.some.inj (HJ.out.symm.trans HS.out)
              have HSJ := Aside0.mk hsj
              clear hsj
              go_wp2
              go_ret2
              exact ⟨by first | rfl | (have e := HSJ.out; subst e; rfl), below_drewN2 HBW.out q⟩
end Go.Proofs.Ytphlgajlebgnbaa.P
namespace Go.Proofs.Ytphlgajlebgnbaa.P
open Go.RowKit Go.Proofs.YtphlgajlebgnbaaW.PrintWords Go.Proofs.YtphlgajlebgnbaaW.PrintLast Go.Proofs.YtphlgajlebgnbaaW.PrintMore
attribute [local go_sem] max2_int min2_int max_two min_two max_three min_three max_four min_four   -- for this text's walks alone
set_option linter.unusedVariables false
set_option linter.unusedSimpArgs false
/-! ### laws_FnCurves: function 3 -/
mutual
def laws_FnCurves.j0 : Nat → List Int → Int → Int → Int → Int → Bool → Option (Bool)
 | 0, _, _, _, _, _, _ => none
 | k + 1, x0, x3, x4, x5, x6, x73 => if x73 = true then (some false) else ((impl_CurveDefect.f k x3 x4).bind fun bt528 => ((spec_CurveDefect.f k x3 x4).bind fun bt530 => (if bt528.2 = bt530.2 then (laws_FnCurves.j1 k x0 x3 x4 x5 x6 bt528.1 bt528.2 (bt528.1 != bt530.1)) else (laws_FnCurves.j1 k x0 x3 x4 x5 x6 bt528.1 bt528.2 true))))
def laws_FnCurves.j1 : Nat → List Int → Int → Int → Int → Int → Int → Int → Bool → Option (Bool)
 | 0, _, _, _, _, _, _, _, _ => none
 | k + 1, x0, x3, x4, x5, x6, x9, x10, x93 => if x93 = true then (some false) else ((spec_DrawGenusOfCurve.f x0).bind fun t532 => ((impl_GenusOfCurve.f t532).bind fun bt533 => ((spec_GenusOfCurve.f t532).bind fun bt535 => (if bt533.2 = bt535.2 then (laws_FnCurves.j2 k x0 x3 x4 x5 x6 x9 x10 (bt533.1 != bt535.1)) else (laws_FnCurves.j2 k x0 x3 x4 x5 x6 x9 x10 true)))))
def laws_FnCurves.j2 : Nat → List Int → Int → Int → Int → Int → Int → Int → Bool → Option (Bool)
 | 0, _, _, _, _, _, _, _, _ => none
 | k + 1, x0, x3, x4, x5, x6, x9, x10, x113 => if x113 = true then (some false) else ((spec_DrawPointsAbove.f k x0).bind fun bt537 => ((impl_PointsAbove.f k bt537.1 bt537.2.1 bt537.2.2).bind fun bt542 => ((spec_PointsAbove.f k bt537.1 bt537.2.1 bt537.2.2).bind fun bt544 => (if bt542.2 = bt544.2 then (laws_FnCurves.j3 k x0 x3 x4 x5 x6 x9 x10 bt537.1 bt542.1 bt542.2 (bt542.1 != bt544.1)) else (laws_FnCurves.j3 k x0 x3 x4 x5 x6 x9 x10 bt537.1 bt542.1 bt542.2 true)))))
def laws_FnCurves.j3 : Nat → List Int → Int → Int → Int → Int → Int → Int → Int → Int → Int → Bool → Option (Bool)
 | 0, _, _, _, _, _, _, _, _, _, _, _ => none
 | k + 1, x0, x3, x4, x5, x6, x9, x10, x18, x21, x22, x141 => if x141 = true then (some false) else ((spec_DrawPowerNumber.f x0).bind fun bt546 => ((impl_PowerNumber.f k bt546.1 bt546.2).bind fun bt548 => ((spec_PowerNumber.f k bt546.1 bt546.2).bind fun bt550 => (if bt548.2 = bt550.2 then (laws_FnCurves.j4 k x0 x3 x4 x5 x6 x9 x10 x18 x21 x22 bt546.1 bt546.2 bt548.1 bt548.2 (bt548.1 != bt550.1)) else (laws_FnCurves.j4 k x0 x3 x4 x5 x6 x9 x10 x18 x21 x22 bt546.1 bt546.2 bt548.1 bt548.2 true)))))
def laws_FnCurves.j4 : Nat → List Int → Int → Int → Int → Int → Int → Int → Int → Int → Int → Int → Int → Int → Int → Bool → Option (Bool)
 | 0, _, _, _, _, _, _, _, _, _, _, _, _, _, _, _ => none
 | k + 1, x0, x3, x4, x5, x6, x9, x10, x18, x21, x22, x25, x26, x27, x28, x166 => if x166 = true then (some false) else ((spec_DrawLeastNoPower.f x0).bind fun bt552 => ((impl_LeastNoPower.f k bt552.1 bt552.2).bind fun bt554 => ((spec_LeastNoPower.f k bt552.1 bt552.2).bind fun bt556 => (if bt554.2 = bt556.2 then (laws_FnCurves.j5 k x3 x4 x5 x6 x9 x10 x18 x21 x22 x25 x26 x27 x28 bt552.1 bt552.2 bt554.1 bt554.2 (bt554.1 != bt556.1)) else (laws_FnCurves.j5 k x3 x4 x5 x6 x9 x10 x18 x21 x22 x25 x26 x27 x28 bt552.1 bt552.2 bt554.1 bt554.2 true)))))
def laws_FnCurves.j5 : Nat → Int → Int → Int → Int → Int → Int → Int → Int → Int → Int → Int → Int → Int → Int → Int → Int → Int → Bool → Option (Bool)
 | 0, _, _, _, _, _, _, _, _, _, _, _, _, _, _, _, _, _, _ => none
 | k + 1, x3, x4, x5, x6, x9, x10, x18, x21, x22, x25, x26, x27, x28, x31, x32, x33, x34, x191 => if x191 = true then (some false) else (if x34 = 0 then ((impl_PowersOf.f k x31 x32).bind fun bt558 => (if bt558.2 = 0 then (if x33 = 0 then (if (bt558.1.length : Int) = x31 then (laws_FnCurves.j6 k x3 x4 x5 x6 x9 x10 x18 x21 x22 x25 x26 x27 x28) else (some false)) else ((laws_hasInt.f k bt558.1 x33).bind fun t562 => (if t562 = true then (some false) else (laws_FnCurves.j6 k x3 x4 x5 x6 x9 x10 x18 x21 x22 x25 x26 x27 x28)))) else (some false))) else (laws_FnCurves.j6 k x3 x4 x5 x6 x9 x10 x18 x21 x22 x25 x26 x27 x28))
def laws_FnCurves.j6 : Nat → Int → Int → Int → Int → Int → Int → Int → Int → Int → Int → Int → Int → Int → Option (Bool)
 | 0, _, _, _, _, _, _, _, _, _, _, _, _, _ => none
 | k + 1, x3, x4, x5, x6, x9, x10, x18, x21, x22, x25, x26, x27, x28 => if x28 = 0 then (laws_FnCurves.j7 k x3 x4 x5 x6 x9 x10 x18 x21 x22 x25 x26 x27 (decide (x27 ≤ 4))) else (laws_FnCurves.j7 k x3 x4 x5 x6 x9 x10 x18 x21 x22 x25 x26 x27 false)
def laws_FnCurves.j7 : Nat → Int → Int → Int → Int → Int → Int → Int → Int → Int → Int → Int → Int → Bool → Option (Bool)
 | 0, _, _, _, _, _, _, _, _, _, _, _, _, _ => none
 | k + 1, x3, x4, x5, x6, x9, x10, x18, x21, x22, x25, x26, x27, x226 => if x226 = true then (laws_FnCurves.l0 k x3 x4 x5 x6 x9 x10 x18 x21 x22 x25 x26 x27 (([] : List Int)) (([] : List Int)) 0) else (laws_FnCurves.j10 k x3 x4 x5 x6 x9 x10 x18 x21 x22)
def laws_FnCurves.j10 : Nat → Int → Int → Int → Int → Int → Int → Int → Int → Int → Option (Bool)
 | 0, _, _, _, _, _, _, _, _, _ => none
 | k + 1, x3, x4, x5, x6, x9, x10, x18, x21, x22 => if x22 = 0 then (if x21 < 0 then (laws_FnCurves.j11 k x3 x4 x5 x6 x9 x10 true) else (laws_FnCurves.j11 k x3 x4 x5 x6 x9 x10 (decide (x21 > (wrap64 (x18 * x18)))))) else (laws_FnCurves.j11 k x3 x4 x5 x6 x9 x10 false)
def laws_FnCurves.j11 : Nat → Int → Int → Int → Int → Int → Int → Bool → Option (Bool)
 | 0, _, _, _, _, _, _, _ => none
 | k + 1, x3, x4, x5, x6, x9, x10, x272 => if x272 = true then (some false) else (if x6 = 0 then ((impl_GenusOfCurve.f x4).bind fun bt577 => (if x10 = 0 then (if bt577.2 = 0 then (if (wrap64 (x5 + x9)) = (wrap64 (x3 + 1)) then (some (decide ((wrap64 (x9 * x9)) ≤ (wrap64 ((wrap64 ((wrap64 (4 * bt577.1)) * bt577.1)) * x3))))) else (some false)) else (some false)) else (some false))) else (if x10 = x6 then (some (x5 == 0)) else (some false)))
def laws_FnCurves.l0 : Nat → Int → Int → Int → Int → Int → Int → Int → Int → Int → Int → Int → Int → List Int → List Int → Int → Option (Bool)
 | 0, _, _, _, _, _, _, _, _, _, _, _, _, _, _, _ => none
 | k + 1, x3, x4, x5, x6, x9, x10, x18, x21, x22, x25, x26, x27, x39, x40, x41 => if x41 < x27 then (if x39.length < 17592186044416 then (if x40.length < 17592186044416 then (laws_FnCurves.l0 k x3 x4 x5 x6 x9 x10 x18 x21 x22 x25 x26 x27 (x39 ++ [1]) (x40 ++ [x26]) (wrap64 (x41 + 1))) else (none)) else (none)) else (laws_FnCurves.l1 k x3 x4 x5 x6 x9 x10 x18 x21 x22 x25 x39 x40 0)
def laws_FnCurves.l1 : Nat → Int → Int → Int → Int → Int → Int → Int → Int → Int → Int → List Int → List Int → Int → Option (Bool)
 | 0, _, _, _, _, _, _, _, _, _, _, _, _, _ => none
 | k + 1, x3, x4, x5, x6, x9, x10, x18, x21, x22, x25, x39, x40, x42 => if x42 < x25 then ((impl_CountSolutions.f k x25 x39 x40 x42).bind fun bt575 => (if bt575.2 = 0 then (if bt575.1 < 1 then (some false) else (laws_FnCurves.l1 k x3 x4 x5 x6 x9 x10 x18 x21 x22 x25 x39 x40 (wrap64 (x42 + 1)))) else (some false))) else (laws_FnCurves.j10 k x3 x4 x5 x6 x9 x10 x18 x21 x22)
end
def laws_FnCurves.f (k : Nat) (l0 : List Int) : Option (Bool) := (laws_big.f l0).bind fun t521 => (if t521 = true then (some true) else ((spec_DrawCurvePoints.f l0).bind fun bt522 => ((impl_CurvePoints.f k bt522.1 bt522.2).bind fun bt524 => ((spec_CurvePoints.f k bt522.1 bt522.2).bind fun bt526 => (if bt524.2 = bt526.2 then (laws_FnCurves.j0 k l0 bt522.1 bt522.2 bt524.1 bt524.2 (bt524.1 != bt526.1)) else (laws_FnCurves.j0 k l0 bt522.1 bt522.2 bt524.1 bt524.2 true))))))
theorem laws_FnCurves.mono_l : ∀ k, (∀ y0 y1 y2 y3 y4 y5, LeO (laws_FnCurves.j0 k y0 y1 y2 y3 y4 y5) (laws_FnCurves.j0 (k + 1) y0 y1 y2 y3 y4 y5)) ∧ (∀ y0 y1 y2 y3 y4 y5 y6 y7, LeO (laws_FnCurves.j1 k y0 y1 y2 y3 y4 y5 y6 y7) (laws_FnCurves.j1 (k + 1) y0 y1 y2 y3 y4 y5 y6 y7)) ∧ (∀ y0 y1 y2 y3 y4 y5 y6 y7, LeO (laws_FnCurves.j2 k y0 y1 y2 y3 y4 y5 y6 y7) (laws_FnCurves.j2 (k + 1) y0 y1 y2 y3 y4 y5 y6 y7)) ∧ (∀ y0 y1 y2 y3 y4 y5 y6 y7 y8 y9 y10, LeO (laws_FnCurves.j3 k y0 y1 y2 y3 y4 y5 y6 y7 y8 y9 y10) (laws_FnCurves.j3 (k + 1) y0 y1 y2 y3 y4 y5 y6 y7 y8 y9 y10)) ∧ (∀ y0 y1 y2 y3 y4 y5 y6 y7 y8 y9 y10 y11 y12 y13 y14, LeO (laws_FnCurves.j4 k y0 y1 y2 y3 y4 y5 y6 y7 y8 y9 y10 y11 y12 y13 y14) (laws_FnCurves.j4 (k + 1) y0 y1 y2 y3 y4 y5 y6 y7 y8 y9 y10 y11 y12 y13 y14)) ∧ (∀ y0 y1 y2 y3 y4 y5 y6 y7 y8 y9 y10 y11 y12 y13 y14 y15 y16 y17, LeO (laws_FnCurves.j5 k y0 y1 y2 y3 y4 y5 y6 y7 y8 y9 y10 y11 y12 y13 y14 y15 y16 y17) (laws_FnCurves.j5 (k + 1) y0 y1 y2 y3 y4 y5 y6 y7 y8 y9 y10 y11 y12 y13 y14 y15 y16 y17)) ∧ (∀ y0 y1 y2 y3 y4 y5 y6 y7 y8 y9 y10 y11 y12, LeO (laws_FnCurves.j6 k y0 y1 y2 y3 y4 y5 y6 y7 y8 y9 y10 y11 y12) (laws_FnCurves.j6 (k + 1) y0 y1 y2 y3 y4 y5 y6 y7 y8 y9 y10 y11 y12)) ∧ (∀ y0 y1 y2 y3 y4 y5 y6 y7 y8 y9 y10 y11 y12, LeO (laws_FnCurves.j7 k y0 y1 y2 y3 y4 y5 y6 y7 y8 y9 y10 y11 y12) (laws_FnCurves.j7 (k + 1) y0 y1 y2 y3 y4 y5 y6 y7 y8 y9 y10 y11 y12)) ∧ (∀ y0 y1 y2 y3 y4 y5 y6 y7 y8, LeO (laws_FnCurves.j10 k y0 y1 y2 y3 y4 y5 y6 y7 y8) (laws_FnCurves.j10 (k + 1) y0 y1 y2 y3 y4 y5 y6 y7 y8)) ∧ (∀ y0 y1 y2 y3 y4 y5 y6, LeO (laws_FnCurves.j11 k y0 y1 y2 y3 y4 y5 y6) (laws_FnCurves.j11 (k + 1) y0 y1 y2 y3 y4 y5 y6)) ∧ (∀ y0 y1 y2 y3 y4 y5 y6 y7 y8 y9 y10 y11 y12 y13 y14, LeO (laws_FnCurves.l0 k y0 y1 y2 y3 y4 y5 y6 y7 y8 y9 y10 y11 y12 y13 y14) (laws_FnCurves.l0 (k + 1) y0 y1 y2 y3 y4 y5 y6 y7 y8 y9 y10 y11 y12 y13 y14)) ∧ (∀ y0 y1 y2 y3 y4 y5 y6 y7 y8 y9 y10 y11 y12, LeO (laws_FnCurves.l1 k y0 y1 y2 y3 y4 y5 y6 y7 y8 y9 y10 y11 y12) (laws_FnCurves.l1 (k + 1) y0 y1 y2 y3 y4 y5 y6 y7 y8 y9 y10 y11 y12))
 | 0 => ⟨fun _ _ _ _ _ _ r h => by simp [laws_FnCurves.j0] at h, fun _ _ _ _ _ _ _ _ r h => by simp [laws_FnCurves.j1] at h, fun _ _ _ _ _ _ _ _ r h => by simp [laws_FnCurves.j2] at h, fun _ _ _ _ _ _ _ _ _ _ _ r h => by simp [laws_FnCurves.j3] at h, fun _ _ _ _ _ _ _ _ _ _ _ _ _ _ _ r h => by simp [laws_FnCurves.j4] at h, fun _ _ _ _ _ _ _ _ _ _ _ _ _ _ _ _ _ _ r h => by simp [laws_FnCurves.j5] at h, fun _ _ _ _ _ _ _ _ _ _ _ _ _ r h => by simp [laws_FnCurves.j6] at h, fun _ _ _ _ _ _ _ _ _ _ _ _ _ r h => by simp [laws_FnCurves.j7] at h, fun _ _ _ _ _ _ _ _ _ r h => by simp [laws_FnCurves.j10] at h, fun _ _ _ _ _ _ _ r h => by simp [laws_FnCurves.j11] at h, fun _ _ _ _ _ _ _ _ _ _ _ _ _ _ _ r h => by simp [laws_FnCurves.l0] at h, fun _ _ _ _ _ _ _ _ _ _ _ _ _ r h => by simp [laws_FnCurves.l1] at h⟩
 | k + 1 => by
  obtain ⟨ih0, ih1, ih2, ih3, ih4, ih5, ih6, ih7, ih8, ih9, ih10, ih11⟩ := laws_FnCurves.mono_l k
  refine ⟨?_, ?_, ?_, ?_, ?_, ?_, ?_, ?_, ?_, ?_, ?_, ?_⟩
  · intro y0 y1 y2 y3 y4 y5
    unfold laws_FnCurves.j0
    repeat' first
    | (with_reducible exact ih0 _ _ _ _ _ _)
    | (with_reducible exact ih1 _ _ _ _ _ _ _ _)
    | (with_reducible exact ih2 _ _ _ _ _ _ _ _)
    | (with_reducible exact ih3 _ _ _ _ _ _ _ _ _ _ _)
    | (with_reducible exact ih4 _ _ _ _ _ _ _ _ _ _ _ _ _ _ _)
    | (with_reducible exact ih5 _ _ _ _ _ _ _ _ _ _ _ _ _ _ _ _ _ _)
    | (with_reducible exact ih6 _ _ _ _ _ _ _ _ _ _ _ _ _)
    | (with_reducible exact ih7 _ _ _ _ _ _ _ _ _ _ _ _ _)
    | (with_reducible exact ih8 _ _ _ _ _ _ _ _ _)
    | (with_reducible exact ih9 _ _ _ _ _ _ _)
    | (with_reducible exact ih10 _ _ _ _ _ _ _ _ _ _ _ _ _ _ _)
    | (with_reducible exact ih11 _ _ _ _ _ _ _ _ _ _ _ _ _)
    | (with_reducible exact impl_CountSolutions.mono _ _ _ _ _)
    | (with_reducible exact impl_CurveDefect.mono _ _ _)
    | (with_reducible exact impl_CurvePoints.mono _ _ _)
    | (with_reducible exact impl_LeastNoPower.mono _ _ _)
    | (with_reducible exact impl_PointsAbove.mono _ _ _ _)
    | (with_reducible exact impl_PowerNumber.mono _ _ _)
    | (with_reducible exact impl_PowersOf.mono _ _ _)
    | (with_reducible exact laws_hasInt.mono _ _ _)
    | (with_reducible exact spec_CurveDefect.mono _ _ _)
    | (with_reducible exact spec_CurvePoints.mono _ _ _)
    | (with_reducible exact spec_DrawPointsAbove.mono _ _)
    | (with_reducible exact spec_LeastNoPower.mono _ _ _)
    | (with_reducible exact spec_PointsAbove.mono _ _ _ _)
    | (with_reducible exact spec_PowerNumber.mono _ _ _)
    | (with_reducible exact LeO.refl _)
    | (with_reducible exact LeO.none _)
    | (with_reducible refine LeO.ite ?_ ?_)
    | (with_reducible refine LeO.bind ?_ (fun _ => ?_))
    | exact ih0 _ _ _ _ _ _
    | exact ih1 _ _ _ _ _ _ _ _
    | exact ih2 _ _ _ _ _ _ _ _
    | exact ih3 _ _ _ _ _ _ _ _ _ _ _
    | exact ih4 _ _ _ _ _ _ _ _ _ _ _ _ _ _ _
    | exact ih5 _ _ _ _ _ _ _ _ _ _ _ _ _ _ _ _ _ _
    | exact ih6 _ _ _ _ _ _ _ _ _ _ _ _ _
    | exact ih7 _ _ _ _ _ _ _ _ _ _ _ _ _
    | exact ih8 _ _ _ _ _ _ _ _ _
    | exact ih9 _ _ _ _ _ _ _
    | exact ih10 _ _ _ _ _ _ _ _ _ _ _ _ _ _ _
    | exact ih11 _ _ _ _ _ _ _ _ _ _ _ _ _
    | exact impl_CountSolutions.mono _ _ _ _ _
    | exact impl_CurveDefect.mono _ _ _
    | exact impl_CurvePoints.mono _ _ _
    | exact impl_LeastNoPower.mono _ _ _
    | exact impl_PointsAbove.mono _ _ _ _
    | exact impl_PowerNumber.mono _ _ _
    | exact impl_PowersOf.mono _ _ _
    | exact laws_hasInt.mono _ _ _
    | exact spec_CurveDefect.mono _ _ _
    | exact spec_CurvePoints.mono _ _ _
    | exact spec_DrawPointsAbove.mono _ _
    | exact spec_LeastNoPower.mono _ _ _
    | exact spec_PointsAbove.mono _ _ _ _
    | exact spec_PowerNumber.mono _ _ _
    | exact LeO.none _
    | refine LeO.ite ?_ ?_
    | refine LeO.bind ?_ (fun _ => ?_)
  · intro y0 y1 y2 y3 y4 y5 y6 y7
    unfold laws_FnCurves.j1
    repeat' first
    | (with_reducible exact ih0 _ _ _ _ _ _)
    | (with_reducible exact ih1 _ _ _ _ _ _ _ _)
    | (with_reducible exact ih2 _ _ _ _ _ _ _ _)
    | (with_reducible exact ih3 _ _ _ _ _ _ _ _ _ _ _)
    | (with_reducible exact ih4 _ _ _ _ _ _ _ _ _ _ _ _ _ _ _)
    | (with_reducible exact ih5 _ _ _ _ _ _ _ _ _ _ _ _ _ _ _ _ _ _)
    | (with_reducible exact ih6 _ _ _ _ _ _ _ _ _ _ _ _ _)
    | (with_reducible exact ih7 _ _ _ _ _ _ _ _ _ _ _ _ _)
    | (with_reducible exact ih8 _ _ _ _ _ _ _ _ _)
    | (with_reducible exact ih9 _ _ _ _ _ _ _)
    | (with_reducible exact ih10 _ _ _ _ _ _ _ _ _ _ _ _ _ _ _)
    | (with_reducible exact ih11 _ _ _ _ _ _ _ _ _ _ _ _ _)
    | (with_reducible exact impl_CountSolutions.mono _ _ _ _ _)
    | (with_reducible exact impl_CurveDefect.mono _ _ _)
    | (with_reducible exact impl_CurvePoints.mono _ _ _)
    | (with_reducible exact impl_LeastNoPower.mono _ _ _)
    | (with_reducible exact impl_PointsAbove.mono _ _ _ _)
    | (with_reducible exact impl_PowerNumber.mono _ _ _)
    | (with_reducible exact impl_PowersOf.mono _ _ _)
    | (with_reducible exact laws_hasInt.mono _ _ _)
    | (with_reducible exact spec_CurveDefect.mono _ _ _)
    | (with_reducible exact spec_CurvePoints.mono _ _ _)
    | (with_reducible exact spec_DrawPointsAbove.mono _ _)
    | (with_reducible exact spec_LeastNoPower.mono _ _ _)
    | (with_reducible exact spec_PointsAbove.mono _ _ _ _)
    | (with_reducible exact spec_PowerNumber.mono _ _ _)
    | (with_reducible exact LeO.refl _)
    | (with_reducible exact LeO.none _)
    | (with_reducible refine LeO.ite ?_ ?_)
    | (with_reducible refine LeO.bind ?_ (fun _ => ?_))
    | exact ih0 _ _ _ _ _ _
    | exact ih1 _ _ _ _ _ _ _ _
    | exact ih2 _ _ _ _ _ _ _ _
    | exact ih3 _ _ _ _ _ _ _ _ _ _ _
    | exact ih4 _ _ _ _ _ _ _ _ _ _ _ _ _ _ _
    | exact ih5 _ _ _ _ _ _ _ _ _ _ _ _ _ _ _ _ _ _
    | exact ih6 _ _ _ _ _ _ _ _ _ _ _ _ _
    | exact ih7 _ _ _ _ _ _ _ _ _ _ _ _ _
    | exact ih8 _ _ _ _ _ _ _ _ _
    | exact ih9 _ _ _ _ _ _ _
    | exact ih10 _ _ _ _ _ _ _ _ _ _ _ _ _ _ _
    | exact ih11 _ _ _ _ _ _ _ _ _ _ _ _ _
    | exact impl_CountSolutions.mono _ _ _ _ _
    | exact impl_CurveDefect.mono _ _ _
    | exact impl_CurvePoints.mono _ _ _
    | exact impl_LeastNoPower.mono _ _ _
    | exact impl_PointsAbove.mono _ _ _ _
    | exact impl_PowerNumber.mono _ _ _
    | exact impl_PowersOf.mono _ _ _
    | exact laws_hasInt.mono _ _ _
    | exact spec_CurveDefect.mono _ _ _
    | exact spec_CurvePoints.mono _ _ _
    | exact spec_DrawPointsAbove.mono _ _
    | exact spec_LeastNoPower.mono _ _ _
    | exact spec_PointsAbove.mono _ _ _ _
    | exact spec_PowerNumber.mono _ _ _
    | exact LeO.none _
    | refine LeO.ite ?_ ?_
    | refine LeO.bind ?_ (fun _ => ?_)
  · intro y0 y1 y2 y3 y4 y5 y6 y7
    unfold laws_FnCurves.j2
    repeat' first
    | (with_reducible exact ih0 _ _ _ _ _ _)
    | (with_reducible exact ih1 _ _ _ _ _ _ _ _)
    | (with_reducible exact ih2 _ _ _ _ _ _ _ _)
    | (with_reducible exact ih3 _ _ _ _ _ _ _ _ _ _ _)
    | (with_reducible exact ih4 _ _ _ _ _ _ _ _ _ _ _ _ _ _ _)
    | (with_reducible exact ih5 _ _ _ _ _ _ _ _ _ _ _ _ _ _ _ _ _ _)
    | (with_reducible exact ih6 _ _ _ _ _ _ _ _ _ _ _ _ _)
    | (with_reducible exact ih7 _ _ _ _ _ _ _ _ _ _ _ _ _)
    | (with_reducible exact ih8 _ _ _ _ _ _ _ _ _)
    | (with_reducible exact ih9 _ _ _ _ _ _ _)
    | (with_reducible exact ih10 _ _ _ _ _ _ _ _ _ _ _ _ _ _ _)
    | (with_reducible exact ih11 _ _ _ _ _ _ _ _ _ _ _ _ _)
    | (with_reducible exact impl_CountSolutions.mono _ _ _ _ _)
    | (with_reducible exact impl_CurveDefect.mono _ _ _)
    | (with_reducible exact impl_CurvePoints.mono _ _ _)
    | (with_reducible exact impl_LeastNoPower.mono _ _ _)
    | (with_reducible exact impl_PointsAbove.mono _ _ _ _)
    | (with_reducible exact impl_PowerNumber.mono _ _ _)
    | (with_reducible exact impl_PowersOf.mono _ _ _)
    | (with_reducible exact laws_hasInt.mono _ _ _)
    | (with_reducible exact spec_CurveDefect.mono _ _ _)
    | (with_reducible exact spec_CurvePoints.mono _ _ _)
    | (with_reducible exact spec_DrawPointsAbove.mono _ _)
    | (with_reducible exact spec_LeastNoPower.mono _ _ _)
    | (with_reducible exact spec_PointsAbove.mono _ _ _ _)
    | (with_reducible exact spec_PowerNumber.mono _ _ _)
    | (with_reducible exact LeO.refl _)
    | (with_reducible exact LeO.none _)
    | (with_reducible refine LeO.ite ?_ ?_)
    | (with_reducible refine LeO.bind ?_ (fun _ => ?_))
    | exact ih0 _ _ _ _ _ _
    | exact ih1 _ _ _ _ _ _ _ _
    | exact ih2 _ _ _ _ _ _ _ _
    | exact ih3 _ _ _ _ _ _ _ _ _ _ _
    | exact ih4 _ _ _ _ _ _ _ _ _ _ _ _ _ _ _
    | exact ih5 _ _ _ _ _ _ _ _ _ _ _ _ _ _ _ _ _ _
    | exact ih6 _ _ _ _ _ _ _ _ _ _ _ _ _
    | exact ih7 _ _ _ _ _ _ _ _ _ _ _ _ _
    | exact ih8 _ _ _ _ _ _ _ _ _
    | exact ih9 _ _ _ _ _ _ _
    | exact ih10 _ _ _ _ _ _ _ _ _ _ _ _ _ _ _
    | exact ih11 _ _ _ _ _ _ _ _ _ _ _ _ _
    | exact impl_CountSolutions.mono _ _ _ _ _
    | exact impl_CurveDefect.mono _ _ _
    | exact impl_CurvePoints.mono _ _ _
    | exact impl_LeastNoPower.mono _ _ _
    | exact impl_PointsAbove.mono _ _ _ _
    | exact impl_PowerNumber.mono _ _ _
    | exact impl_PowersOf.mono _ _ _
    | exact laws_hasInt.mono _ _ _
    | exact spec_CurveDefect.mono _ _ _
    | exact spec_CurvePoints.mono _ _ _
    | exact spec_DrawPointsAbove.mono _ _
    | exact spec_LeastNoPower.mono _ _ _
    | exact spec_PointsAbove.mono _ _ _ _
    | exact spec_PowerNumber.mono _ _ _
    | exact LeO.none _
    | refine LeO.ite ?_ ?_
    | refine LeO.bind ?_ (fun _ => ?_)
  · intro y0 y1 y2 y3 y4 y5 y6 y7 y8 y9 y10
    unfold laws_FnCurves.j3
    repeat' first
    | (with_reducible exact ih0 _ _ _ _ _ _)
    | (with_reducible exact ih1 _ _ _ _ _ _ _ _)
    | (with_reducible exact ih2 _ _ _ _ _ _ _ _)
    | (with_reducible exact ih3 _ _ _ _ _ _ _ _ _ _ _)
    | (with_reducible exact ih4 _ _ _ _ _ _ _ _ _ _ _ _ _ _ _)
    | (with_reducible exact ih5 _ _ _ _ _ _ _ _ _ _ _ _ _ _ _ _ _ _)
    | (with_reducible exact ih6 _ _ _ _ _ _ _ _ _ _ _ _ _)
    | (with_reducible exact ih7 _ _ _ _ _ _ _ _ _ _ _ _ _)
    | (with_reducible exact ih8 _ _ _ _ _ _ _ _ _)
    | (with_reducible exact ih9 _ _ _ _ _ _ _)
    | (with_reducible exact ih10 _ _ _ _ _ _ _ _ _ _ _ _ _ _ _)
    | (with_reducible exact ih11 _ _ _ _ _ _ _ _ _ _ _ _ _)
    | (with_reducible exact impl_CountSolutions.mono _ _ _ _ _)
    | (with_reducible exact impl_CurveDefect.mono _ _ _)
    | (with_reducible exact impl_CurvePoints.mono _ _ _)
    | (with_reducible exact impl_LeastNoPower.mono _ _ _)
    | (with_reducible exact impl_PointsAbove.mono _ _ _ _)
    | (with_reducible exact impl_PowerNumber.mono _ _ _)
    | (with_reducible exact impl_PowersOf.mono _ _ _)
    | (with_reducible exact laws_hasInt.mono _ _ _)
    | (with_reducible exact spec_CurveDefect.mono _ _ _)
    | (with_reducible exact spec_CurvePoints.mono _ _ _)
    | (with_reducible exact spec_DrawPointsAbove.mono _ _)
    | (with_reducible exact spec_LeastNoPower.mono _ _ _)
    | (with_reducible exact spec_PointsAbove.mono _ _ _ _)
    | (with_reducible exact spec_PowerNumber.mono _ _ _)
    | (with_reducible exact LeO.refl _)
    | (with_reducible exact LeO.none _)
    | (with_reducible refine LeO.ite ?_ ?_)
    | (with_reducible refine LeO.bind ?_ (fun _ => ?_))
    | exact ih0 _ _ _ _ _ _
    | exact ih1 _ _ _ _ _ _ _ _
    | exact ih2 _ _ _ _ _ _ _ _
    | exact ih3 _ _ _ _ _ _ _ _ _ _ _
    | exact ih4 _ _ _ _ _ _ _ _ _ _ _ _ _ _ _
    | exact ih5 _ _ _ _ _ _ _ _ _ _ _ _ _ _ _ _ _ _
    | exact ih6 _ _ _ _ _ _ _ _ _ _ _ _ _
    | exact ih7 _ _ _ _ _ _ _ _ _ _ _ _ _
    | exact ih8 _ _ _ _ _ _ _ _ _
    | exact ih9 _ _ _ _ _ _ _
    | exact ih10 _ _ _ _ _ _ _ _ _ _ _ _ _ _ _
    | exact ih11 _ _ _ _ _ _ _ _ _ _ _ _ _
    | exact impl_CountSolutions.mono _ _ _ _ _
    | exact impl_CurveDefect.mono _ _ _
    | exact impl_CurvePoints.mono _ _ _
    | exact impl_LeastNoPower.mono _ _ _
    | exact impl_PointsAbove.mono _ _ _ _
    | exact impl_PowerNumber.mono _ _ _
    | exact impl_PowersOf.mono _ _ _
    | exact laws_hasInt.mono _ _ _
    | exact spec_CurveDefect.mono _ _ _
    | exact spec_CurvePoints.mono _ _ _
    | exact spec_DrawPointsAbove.mono _ _
    | exact spec_LeastNoPower.mono _ _ _
    | exact spec_PointsAbove.mono _ _ _ _
    | exact spec_PowerNumber.mono _ _ _
    | exact LeO.none _
    | refine LeO.ite ?_ ?_
    | refine LeO.bind ?_ (fun _ => ?_)
  · intro y0 y1 y2 y3 y4 y5 y6 y7 y8 y9 y10 y11 y12 y13 y14
    unfold laws_FnCurves.j4
    repeat' first
    | (with_reducible exact ih0 _ _ _ _ _ _)
    | (with_reducible exact ih1 _ _ _ _ _ _ _ _)
    | (with_reducible exact ih2 _ _ _ _ _ _ _ _)
    | (with_reducible exact ih3 _ _ _ _ _ _ _ _ _ _ _)
    | (with_reducible exact ih4 _ _ _ _ _ _ _ _ _ _ _ _ _ _ _)
    | (with_reducible exact ih5 _ _ _ _ _ _ _ _ _ _ _ _ _ _ _ _ _ _)
    | (with_reducible exact ih6 _ _ _ _ _ _ _ _ _ _ _ _ _)
    | (with_reducible exact ih7 _ _ _ _ _ _ _ _ _ _ _ _ _)
    | (with_reducible exact ih8 _ _ _ _ _ _ _ _ _)
    | (with_reducible exact ih9 _ _ _ _ _ _ _)
    | (with_reducible exact ih10 _ _ _ _ _ _ _ _ _ _ _ _ _ _ _)
    | (with_reducible exact ih11 _ _ _ _ _ _ _ _ _ _ _ _ _)
    | (with_reducible exact impl_CountSolutions.mono _ _ _ _ _)
    | (with_reducible exact impl_CurveDefect.mono _ _ _)
    | (with_reducible exact impl_CurvePoints.mono _ _ _)
    | (with_reducible exact impl_LeastNoPower.mono _ _ _)
    | (with_reducible exact impl_PointsAbove.mono _ _ _ _)
    | (with_reducible exact impl_PowerNumber.mono _ _ _)
    | (with_reducible exact impl_PowersOf.mono _ _ _)
    | (with_reducible exact laws_hasInt.mono _ _ _)
    | (with_reducible exact spec_CurveDefect.mono _ _ _)
    | (with_reducible exact spec_CurvePoints.mono _ _ _)
    | (with_reducible exact spec_DrawPointsAbove.mono _ _)
    | (with_reducible exact spec_LeastNoPower.mono _ _ _)
    | (with_reducible exact spec_PointsAbove.mono _ _ _ _)
    | (with_reducible exact spec_PowerNumber.mono _ _ _)
    | (with_reducible exact LeO.refl _)
    | (with_reducible exact LeO.none _)
    | (with_reducible refine LeO.ite ?_ ?_)
    | (with_reducible refine LeO.bind ?_ (fun _ => ?_))
    | exact ih0 _ _ _ _ _ _
    | exact ih1 _ _ _ _ _ _ _ _
    | exact ih2 _ _ _ _ _ _ _ _
    | exact ih3 _ _ _ _ _ _ _ _ _ _ _
    | exact ih4 _ _ _ _ _ _ _ _ _ _ _ _ _ _ _
    | exact ih5 _ _ _ _ _ _ _ _ _ _ _ _ _ _ _ _ _ _
    | exact ih6 _ _ _ _ _ _ _ _ _ _ _ _ _
    | exact ih7 _ _ _ _ _ _ _ _ _ _ _ _ _
    | exact ih8 _ _ _ _ _ _ _ _ _
    | exact ih9 _ _ _ _ _ _ _
    | exact ih10 _ _ _ _ _ _ _ _ _ _ _ _ _ _ _
    | exact ih11 _ _ _ _ _ _ _ _ _ _ _ _ _
    | exact impl_CountSolutions.mono _ _ _ _ _
    | exact impl_CurveDefect.mono _ _ _
    | exact impl_CurvePoints.mono _ _ _
    | exact impl_LeastNoPower.mono _ _ _
    | exact impl_PointsAbove.mono _ _ _ _
    | exact impl_PowerNumber.mono _ _ _
    | exact impl_PowersOf.mono _ _ _
    | exact laws_hasInt.mono _ _ _
    | exact spec_CurveDefect.mono _ _ _
    | exact spec_CurvePoints.mono _ _ _
    | exact spec_DrawPointsAbove.mono _ _
    | exact spec_LeastNoPower.mono _ _ _
    | exact spec_PointsAbove.mono _ _ _ _
    | exact spec_PowerNumber.mono _ _ _
    | exact LeO.none _
    | refine LeO.ite ?_ ?_
    | refine LeO.bind ?_ (fun _ => ?_)
  · intro y0 y1 y2 y3 y4 y5 y6 y7 y8 y9 y10 y11 y12 y13 y14 y15 y16 y17
    unfold laws_FnCurves.j5
    repeat' first
    | (with_reducible exact ih0 _ _ _ _ _ _)
    | (with_reducible exact ih1 _ _ _ _ _ _ _ _)
    | (with_reducible exact ih2 _ _ _ _ _ _ _ _)
    | (with_reducible exact ih3 _ _ _ _ _ _ _ _ _ _ _)
    | (with_reducible exact ih4 _ _ _ _ _ _ _ _ _ _ _ _ _ _ _)
    | (with_reducible exact ih5 _ _ _ _ _ _ _ _ _ _ _ _ _ _ _ _ _ _)
    | (with_reducible exact ih6 _ _ _ _ _ _ _ _ _ _ _ _ _)
    | (with_reducible exact ih7 _ _ _ _ _ _ _ _ _ _ _ _ _)
    | (with_reducible exact ih8 _ _ _ _ _ _ _ _ _)
    | (with_reducible exact ih9 _ _ _ _ _ _ _)
    | (with_reducible exact ih10 _ _ _ _ _ _ _ _ _ _ _ _ _ _ _)
    | (with_reducible exact ih11 _ _ _ _ _ _ _ _ _ _ _ _ _)
    | (with_reducible exact impl_CountSolutions.mono _ _ _ _ _)
    | (with_reducible exact impl_CurveDefect.mono _ _ _)
    | (with_reducible exact impl_CurvePoints.mono _ _ _)
    | (with_reducible exact impl_LeastNoPower.mono _ _ _)
    | (with_reducible exact impl_PointsAbove.mono _ _ _ _)
    | (with_reducible exact impl_PowerNumber.mono _ _ _)
    | (with_reducible exact impl_PowersOf.mono _ _ _)
    | (with_reducible exact laws_hasInt.mono _ _ _)
    | (with_reducible exact spec_CurveDefect.mono _ _ _)
    | (with_reducible exact spec_CurvePoints.mono _ _ _)
    | (with_reducible exact spec_DrawPointsAbove.mono _ _)
    | (with_reducible exact spec_LeastNoPower.mono _ _ _)
    | (with_reducible exact spec_PointsAbove.mono _ _ _ _)
    | (with_reducible exact spec_PowerNumber.mono _ _ _)
    | (with_reducible exact LeO.refl _)
    | (with_reducible exact LeO.none _)
    | (with_reducible refine LeO.ite ?_ ?_)
    | (with_reducible refine LeO.bind ?_ (fun _ => ?_))
    | exact ih0 _ _ _ _ _ _
    | exact ih1 _ _ _ _ _ _ _ _
    | exact ih2 _ _ _ _ _ _ _ _
    | exact ih3 _ _ _ _ _ _ _ _ _ _ _
    | exact ih4 _ _ _ _ _ _ _ _ _ _ _ _ _ _ _
    | exact ih5 _ _ _ _ _ _ _ _ _ _ _ _ _ _ _ _ _ _
    | exact ih6 _ _ _ _ _ _ _ _ _ _ _ _ _
    | exact ih7 _ _ _ _ _ _ _ _ _ _ _ _ _
    | exact ih8 _ _ _ _ _ _ _ _ _
    | exact ih9 _ _ _ _ _ _ _
    | exact ih10 _ _ _ _ _ _ _ _ _ _ _ _ _ _ _
    | exact ih11 _ _ _ _ _ _ _ _ _ _ _ _ _
    | exact impl_CountSolutions.mono _ _ _ _ _
    | exact impl_CurveDefect.mono _ _ _
    | exact impl_CurvePoints.mono _ _ _
    | exact impl_LeastNoPower.mono _ _ _
    | exact impl_PointsAbove.mono _ _ _ _
    | exact impl_PowerNumber.mono _ _ _
    | exact impl_PowersOf.mono _ _ _
    | exact laws_hasInt.mono _ _ _
    | exact spec_CurveDefect.mono _ _ _
    | exact spec_CurvePoints.mono _ _ _
    | exact spec_DrawPointsAbove.mono _ _
    | exact spec_LeastNoPower.mono _ _ _
    | exact spec_PointsAbove.mono _ _ _ _
    | exact spec_PowerNumber.mono _ _ _
    | exact LeO.none _
    | refine LeO.ite ?_ ?_
    | refine LeO.bind ?_ (fun _ => ?_)
  · intro y0 y1 y2 y3 y4 y5 y6 y7 y8 y9 y10 y11 y12
    unfold laws_FnCurves.j6
    repeat' first
    | (with_reducible exact ih0 _ _ _ _ _ _)
    | (with_reducible exact ih1 _ _ _ _ _ _ _ _)
    | (with_reducible exact ih2 _ _ _ _ _ _ _ _)
    | (with_reducible exact ih3 _ _ _ _ _ _ _ _ _ _ _)
    | (with_reducible exact ih4 _ _ _ _ _ _ _ _ _ _ _ _ _ _ _)
    | (with_reducible exact ih5 _ _ _ _ _ _ _ _ _ _ _ _ _ _ _ _ _ _)
    | (with_reducible exact ih6 _ _ _ _ _ _ _ _ _ _ _ _ _)
    | (with_reducible exact ih7 _ _ _ _ _ _ _ _ _ _ _ _ _)
    | (with_reducible exact ih8 _ _ _ _ _ _ _ _ _)
    | (with_reducible exact ih9 _ _ _ _ _ _ _)
    | (with_reducible exact ih10 _ _ _ _ _ _ _ _ _ _ _ _ _ _ _)
    | (with_reducible exact ih11 _ _ _ _ _ _ _ _ _ _ _ _ _)
    | (with_reducible exact impl_CountSolutions.mono _ _ _ _ _)
    | (with_reducible exact impl_CurveDefect.mono _ _ _)
    | (with_reducible exact impl_CurvePoints.mono _ _ _)
    | (with_reducible exact impl_LeastNoPower.mono _ _ _)
    | (with_reducible exact impl_PointsAbove.mono _ _ _ _)
    | (with_reducible exact impl_PowerNumber.mono _ _ _)
    | (with_reducible exact impl_PowersOf.mono _ _ _)
    | (with_reducible exact laws_hasInt.mono _ _ _)
    | (with_reducible exact spec_CurveDefect.mono _ _ _)
    | (with_reducible exact spec_CurvePoints.mono _ _ _)
    | (with_reducible exact spec_DrawPointsAbove.mono _ _)
    | (with_reducible exact spec_LeastNoPower.mono _ _ _)
    | (with_reducible exact spec_PointsAbove.mono _ _ _ _)
    | (with_reducible exact spec_PowerNumber.mono _ _ _)
    | (with_reducible exact LeO.refl _)
    | (with_reducible exact LeO.none _)
    | (with_reducible refine LeO.ite ?_ ?_)
    | (with_reducible refine LeO.bind ?_ (fun _ => ?_))
    | exact ih0 _ _ _ _ _ _
    | exact ih1 _ _ _ _ _ _ _ _
    | exact ih2 _ _ _ _ _ _ _ _
    | exact ih3 _ _ _ _ _ _ _ _ _ _ _
    | exact ih4 _ _ _ _ _ _ _ _ _ _ _ _ _ _ _
    | exact ih5 _ _ _ _ _ _ _ _ _ _ _ _ _ _ _ _ _ _
    | exact ih6 _ _ _ _ _ _ _ _ _ _ _ _ _
    | exact ih7 _ _ _ _ _ _ _ _ _ _ _ _ _
    | exact ih8 _ _ _ _ _ _ _ _ _
    | exact ih9 _ _ _ _ _ _ _
    | exact ih10 _ _ _ _ _ _ _ _ _ _ _ _ _ _ _
    | exact ih11 _ _ _ _ _ _ _ _ _ _ _ _ _
    | exact impl_CountSolutions.mono _ _ _ _ _
    | exact impl_CurveDefect.mono _ _ _
    | exact impl_CurvePoints.mono _ _ _
    | exact impl_LeastNoPower.mono _ _ _
    | exact impl_PointsAbove.mono _ _ _ _
    | exact impl_PowerNumber.mono _ _ _
    | exact impl_PowersOf.mono _ _ _
    | exact laws_hasInt.mono _ _ _
    | exact spec_CurveDefect.mono _ _ _
    | exact spec_CurvePoints.mono _ _ _
    | exact spec_DrawPointsAbove.mono _ _
    | exact spec_LeastNoPower.mono _ _ _
    | exact spec_PointsAbove.mono _ _ _ _
    | exact spec_PowerNumber.mono _ _ _
    | exact LeO.none _
    | refine LeO.ite ?_ ?_
    | refine LeO.bind ?_ (fun _ => ?_)
  · intro y0 y1 y2 y3 y4 y5 y6 y7 y8 y9 y10 y11 y12
    unfold laws_FnCurves.j7
    repeat' first
    | (with_reducible exact ih0 _ _ _ _ _ _)
    | (with_reducible exact ih1 _ _ _ _ _ _ _ _)
    | (with_reducible exact ih2 _ _ _ _ _ _ _ _)
    | (with_reducible exact ih3 _ _ _ _ _ _ _ _ _ _ _)
    | (with_reducible exact ih4 _ _ _ _ _ _ _ _ _ _ _ _ _ _ _)
    | (with_reducible exact ih5 _ _ _ _ _ _ _ _ _ _ _ _ _ _ _ _ _ _)
    | (with_reducible exact ih6 _ _ _ _ _ _ _ _ _ _ _ _ _)
    | (with_reducible exact ih7 _ _ _ _ _ _ _ _ _ _ _ _ _)
    | (with_reducible exact ih8 _ _ _ _ _ _ _ _ _)
    | (with_reducible exact ih9 _ _ _ _ _ _ _)
    | (with_reducible exact ih10 _ _ _ _ _ _ _ _ _ _ _ _ _ _ _)
    | (with_reducible exact ih11 _ _ _ _ _ _ _ _ _ _ _ _ _)
    | (with_reducible exact impl_CountSolutions.mono _ _ _ _ _)
    | (with_reducible exact impl_CurveDefect.mono _ _ _)
    | (with_reducible exact impl_CurvePoints.mono _ _ _)
    | (with_reducible exact impl_LeastNoPower.mono _ _ _)
    | (with_reducible exact impl_PointsAbove.mono _ _ _ _)
    | (with_reducible exact impl_PowerNumber.mono _ _ _)
    | (with_reducible exact impl_PowersOf.mono _ _ _)
    | (with_reducible exact laws_hasInt.mono _ _ _)
    | (with_reducible exact spec_CurveDefect.mono _ _ _)
    | (with_reducible exact spec_CurvePoints.mono _ _ _)
    | (with_reducible exact spec_DrawPointsAbove.mono _ _)
    | (with_reducible exact spec_LeastNoPower.mono _ _ _)
    | (with_reducible exact spec_PointsAbove.mono _ _ _ _)
    | (with_reducible exact spec_PowerNumber.mono _ _ _)
    | (with_reducible exact LeO.refl _)
    | (with_reducible exact LeO.none _)
    | (with_reducible refine LeO.ite ?_ ?_)
    | (with_reducible refine LeO.bind ?_ (fun _ => ?_))
    | exact ih0 _ _ _ _ _ _
    | exact ih1 _ _ _ _ _ _ _ _
    | exact ih2 _ _ _ _ _ _ _ _
    | exact ih3 _ _ _ _ _ _ _ _ _ _ _
    | exact ih4 _ _ _ _ _ _ _ _ _ _ _ _ _ _ _
    | exact ih5 _ _ _ _ _ _ _ _ _ _ _ _ _ _ _ _ _ _
    | exact ih6 _ _ _ _ _ _ _ _ _ _ _ _ _
    | exact ih7 _ _ _ _ _ _ _ _ _ _ _ _ _
    | exact ih8 _ _ _ _ _ _ _ _ _
    | exact ih9 _ _ _ _ _ _ _
    | exact ih10 _ _ _ _ _ _ _ _ _ _ _ _ _ _ _
    | exact ih11 _ _ _ _ _ _ _ _ _ _ _ _ _
    | exact impl_CountSolutions.mono _ _ _ _ _
    | exact impl_CurveDefect.mono _ _ _
    | exact impl_CurvePoints.mono _ _ _
    | exact impl_LeastNoPower.mono _ _ _
    | exact impl_PointsAbove.mono _ _ _ _
    | exact impl_PowerNumber.mono _ _ _
    | exact impl_PowersOf.mono _ _ _
    | exact laws_hasInt.mono _ _ _
    | exact spec_CurveDefect.mono _ _ _
    | exact spec_CurvePoints.mono _ _ _
    | exact spec_DrawPointsAbove.mono _ _
    | exact spec_LeastNoPower.mono _ _ _
    | exact spec_PointsAbove.mono _ _ _ _
    | exact spec_PowerNumber.mono _ _ _
    | exact LeO.none _
    | refine LeO.ite ?_ ?_
    | refine LeO.bind ?_ (fun _ => ?_)
  · intro y0 y1 y2 y3 y4 y5 y6 y7 y8
    unfold laws_FnCurves.j10
    repeat' first
    | (with_reducible exact ih0 _ _ _ _ _ _)
    | (with_reducible exact ih1 _ _ _ _ _ _ _ _)
    | (with_reducible exact ih2 _ _ _ _ _ _ _ _)
    | (with_reducible exact ih3 _ _ _ _ _ _ _ _ _ _ _)
    | (with_reducible exact ih4 _ _ _ _ _ _ _ _ _ _ _ _ _ _ _)
    | (with_reducible exact ih5 _ _ _ _ _ _ _ _ _ _ _ _ _ _ _ _ _ _)
    | (with_reducible exact ih6 _ _ _ _ _ _ _ _ _ _ _ _ _)
    | (with_reducible exact ih7 _ _ _ _ _ _ _ _ _ _ _ _ _)
    | (with_reducible exact ih8 _ _ _ _ _ _ _ _ _)
    | (with_reducible exact ih9 _ _ _ _ _ _ _)
    | (with_reducible exact ih10 _ _ _ _ _ _ _ _ _ _ _ _ _ _ _)
    | (with_reducible exact ih11 _ _ _ _ _ _ _ _ _ _ _ _ _)
    | (with_reducible exact impl_CountSolutions.mono _ _ _ _ _)
    | (with_reducible exact impl_CurveDefect.mono _ _ _)
    | (with_reducible exact impl_CurvePoints.mono _ _ _)
    | (with_reducible exact impl_LeastNoPower.mono _ _ _)
    | (with_reducible exact impl_PointsAbove.mono _ _ _ _)
    | (with_reducible exact impl_PowerNumber.mono _ _ _)
    | (with_reducible exact impl_PowersOf.mono _ _ _)
    | (with_reducible exact laws_hasInt.mono _ _ _)
    | (with_reducible exact spec_CurveDefect.mono _ _ _)
    | (with_reducible exact spec_CurvePoints.mono _ _ _)
    | (with_reducible exact spec_DrawPointsAbove.mono _ _)
    | (with_reducible exact spec_LeastNoPower.mono _ _ _)
    | (with_reducible exact spec_PointsAbove.mono _ _ _ _)
    | (with_reducible exact spec_PowerNumber.mono _ _ _)
    | (with_reducible exact LeO.refl _)
    | (with_reducible exact LeO.none _)
    | (with_reducible refine LeO.ite ?_ ?_)
    | (with_reducible refine LeO.bind ?_ (fun _ => ?_))
    | exact ih0 _ _ _ _ _ _
    | exact ih1 _ _ _ _ _ _ _ _
    | exact ih2 _ _ _ _ _ _ _ _
    | exact ih3 _ _ _ _ _ _ _ _ _ _ _
    | exact ih4 _ _ _ _ _ _ _ _ _ _ _ _ _ _ _
    | exact ih5 _ _ _ _ _ _ _ _ _ _ _ _ _ _ _ _ _ _
    | exact ih6 _ _ _ _ _ _ _ _ _ _ _ _ _
    | exact ih7 _ _ _ _ _ _ _ _ _ _ _ _ _
    | exact ih8 _ _ _ _ _ _ _ _ _
    | exact ih9 _ _ _ _ _ _ _
    | exact ih10 _ _ _ _ _ _ _ _ _ _ _ _ _ _ _
    | exact ih11 _ _ _ _ _ _ _ _ _ _ _ _ _
    | exact impl_CountSolutions.mono _ _ _ _ _
    | exact impl_CurveDefect.mono _ _ _
    | exact impl_CurvePoints.mono _ _ _
    | exact impl_LeastNoPower.mono _ _ _
    | exact impl_PointsAbove.mono _ _ _ _
    | exact impl_PowerNumber.mono _ _ _
    | exact impl_PowersOf.mono _ _ _
    | exact laws_hasInt.mono _ _ _
    | exact spec_CurveDefect.mono _ _ _
    | exact spec_CurvePoints.mono _ _ _
    | exact spec_DrawPointsAbove.mono _ _
    | exact spec_LeastNoPower.mono _ _ _
    | exact spec_PointsAbove.mono _ _ _ _
    | exact spec_PowerNumber.mono _ _ _
    | exact LeO.none _
    | refine LeO.ite ?_ ?_
    | refine LeO.bind ?_ (fun _ => ?_)
  · intro y0 y1 y2 y3 y4 y5 y6
    unfold laws_FnCurves.j11
    repeat' first
    | (with_reducible exact ih0 _ _ _ _ _ _)
    | (with_reducible exact ih1 _ _ _ _ _ _ _ _)
    | (with_reducible exact ih2 _ _ _ _ _ _ _ _)
    | (with_reducible exact ih3 _ _ _ _ _ _ _ _ _ _ _)
    | (with_reducible exact ih4 _ _ _ _ _ _ _ _ _ _ _ _ _ _ _)
    | (with_reducible exact ih5 _ _ _ _ _ _ _ _ _ _ _ _ _ _ _ _ _ _)
    | (with_reducible exact ih6 _ _ _ _ _ _ _ _ _ _ _ _ _)
    | (with_reducible exact ih7 _ _ _ _ _ _ _ _ _ _ _ _ _)
    | (with_reducible exact ih8 _ _ _ _ _ _ _ _ _)
    | (with_reducible exact ih9 _ _ _ _ _ _ _)
    | (with_reducible exact ih10 _ _ _ _ _ _ _ _ _ _ _ _ _ _ _)
    | (with_reducible exact ih11 _ _ _ _ _ _ _ _ _ _ _ _ _)
    | (with_reducible exact impl_CountSolutions.mono _ _ _ _ _)
    | (with_reducible exact impl_CurveDefect.mono _ _ _)
    | (with_reducible exact impl_CurvePoints.mono _ _ _)
    | (with_reducible exact impl_LeastNoPower.mono _ _ _)
    | (with_reducible exact impl_PointsAbove.mono _ _ _ _)
    | (with_reducible exact impl_PowerNumber.mono _ _ _)
    | (with_reducible exact impl_PowersOf.mono _ _ _)
    | (with_reducible exact laws_hasInt.mono _ _ _)
    | (with_reducible exact spec_CurveDefect.mono _ _ _)
    | (with_reducible exact spec_CurvePoints.mono _ _ _)
    | (with_reducible exact spec_DrawPointsAbove.mono _ _)
    | (with_reducible exact spec_LeastNoPower.mono _ _ _)
    | (with_reducible exact spec_PointsAbove.mono _ _ _ _)
    | (with_reducible exact spec_PowerNumber.mono _ _ _)
    | (with_reducible exact LeO.refl _)
    | (with_reducible exact LeO.none _)
    | (with_reducible refine LeO.ite ?_ ?_)
    | (with_reducible refine LeO.bind ?_ (fun _ => ?_))
    | exact ih0 _ _ _ _ _ _
    | exact ih1 _ _ _ _ _ _ _ _
    | exact ih2 _ _ _ _ _ _ _ _
    | exact ih3 _ _ _ _ _ _ _ _ _ _ _
    | exact ih4 _ _ _ _ _ _ _ _ _ _ _ _ _ _ _
    | exact ih5 _ _ _ _ _ _ _ _ _ _ _ _ _ _ _ _ _ _
    | exact ih6 _ _ _ _ _ _ _ _ _ _ _ _ _
    | exact ih7 _ _ _ _ _ _ _ _ _ _ _ _ _
    | exact ih8 _ _ _ _ _ _ _ _ _
    | exact ih9 _ _ _ _ _ _ _
    | exact ih10 _ _ _ _ _ _ _ _ _ _ _ _ _ _ _
    | exact ih11 _ _ _ _ _ _ _ _ _ _ _ _ _
    | exact impl_CountSolutions.mono _ _ _ _ _
    | exact impl_CurveDefect.mono _ _ _
    | exact impl_CurvePoints.mono _ _ _
    | exact impl_LeastNoPower.mono _ _ _
    | exact impl_PointsAbove.mono _ _ _ _
    | exact impl_PowerNumber.mono _ _ _
    | exact impl_PowersOf.mono _ _ _
    | exact laws_hasInt.mono _ _ _
    | exact spec_CurveDefect.mono _ _ _
    | exact spec_CurvePoints.mono _ _ _
    | exact spec_DrawPointsAbove.mono _ _
    | exact spec_LeastNoPower.mono _ _ _
    | exact spec_PointsAbove.mono _ _ _ _
    | exact spec_PowerNumber.mono _ _ _
    | exact LeO.none _
    | refine LeO.ite ?_ ?_
    | refine LeO.bind ?_ (fun _ => ?_)
  · intro y0 y1 y2 y3 y4 y5 y6 y7 y8 y9 y10 y11 y12 y13 y14
    unfold laws_FnCurves.l0
    repeat' first
    | (with_reducible exact ih0 _ _ _ _ _ _)
    | (with_reducible exact ih1 _ _ _ _ _ _ _ _)
    | (with_reducible exact ih2 _ _ _ _ _ _ _ _)
    | (with_reducible exact ih3 _ _ _ _ _ _ _ _ _ _ _)
    | (with_reducible exact ih4 _ _ _ _ _ _ _ _ _ _ _ _ _ _ _)
    | (with_reducible exact ih5 _ _ _ _ _ _ _ _ _ _ _ _ _ _ _ _ _ _)
    | (with_reducible exact ih6 _ _ _ _ _ _ _ _ _ _ _ _ _)
    | (with_reducible exact ih7 _ _ _ _ _ _ _ _ _ _ _ _ _)
    | (with_reducible exact ih8 _ _ _ _ _ _ _ _ _)
    | (with_reducible exact ih9 _ _ _ _ _ _ _)
    | (with_reducible exact ih10 _ _ _ _ _ _ _ _ _ _ _ _ _ _ _)
    | (with_reducible exact ih11 _ _ _ _ _ _ _ _ _ _ _ _ _)
    | (with_reducible exact impl_CountSolutions.mono _ _ _ _ _)
    | (with_reducible exact impl_CurveDefect.mono _ _ _)
    | (with_reducible exact impl_CurvePoints.mono _ _ _)
    | (with_reducible exact impl_LeastNoPower.mono _ _ _)
    | (with_reducible exact impl_PointsAbove.mono _ _ _ _)
    | (with_reducible exact impl_PowerNumber.mono _ _ _)
    | (with_reducible exact impl_PowersOf.mono _ _ _)
    | (with_reducible exact laws_hasInt.mono _ _ _)
    | (with_reducible exact spec_CurveDefect.mono _ _ _)
    | (with_reducible exact spec_CurvePoints.mono _ _ _)
    | (with_reducible exact spec_DrawPointsAbove.mono _ _)
    | (with_reducible exact spec_LeastNoPower.mono _ _ _)
    | (with_reducible exact spec_PointsAbove.mono _ _ _ _)
    | (with_reducible exact spec_PowerNumber.mono _ _ _)
    | (with_reducible exact LeO.refl _)
    | (with_reducible exact LeO.none _)
    | (with_reducible refine LeO.ite ?_ ?_)
    | (with_reducible refine LeO.bind ?_ (fun _ => ?_))
    | exact ih0 _ _ _ _ _ _
    | exact ih1 _ _ _ _ _ _ _ _
    | exact ih2 _ _ _ _ _ _ _ _
    | exact ih3 _ _ _ _ _ _ _ _ _ _ _
    | exact ih4 _ _ _ _ _ _ _ _ _ _ _ _ _ _ _
    | exact ih5 _ _ _ _ _ _ _ _ _ _ _ _ _ _ _ _ _ _
    | exact ih6 _ _ _ _ _ _ _ _ _ _ _ _ _
    | exact ih7 _ _ _ _ _ _ _ _ _ _ _ _ _
    | exact ih8 _ _ _ _ _ _ _ _ _
    | exact ih9 _ _ _ _ _ _ _
    | exact ih10 _ _ _ _ _ _ _ _ _ _ _ _ _ _ _
    | exact ih11 _ _ _ _ _ _ _ _ _ _ _ _ _
    | exact impl_CountSolutions.mono _ _ _ _ _
    | exact impl_CurveDefect.mono _ _ _
    | exact impl_CurvePoints.mono _ _ _
    | exact impl_LeastNoPower.mono _ _ _
    | exact impl_PointsAbove.mono _ _ _ _
    | exact impl_PowerNumber.mono _ _ _
    | exact impl_PowersOf.mono _ _ _
    | exact laws_hasInt.mono _ _ _
    | exact spec_CurveDefect.mono _ _ _
    | exact spec_CurvePoints.mono _ _ _
    | exact spec_DrawPointsAbove.mono _ _
    | exact spec_LeastNoPower.mono _ _ _
    | exact spec_PointsAbove.mono _ _ _ _
    | exact spec_PowerNumber.mono _ _ _
    | exact LeO.none _
    | refine LeO.ite ?_ ?_
    | refine LeO.bind ?_ (fun _ => ?_)
  · intro y0 y1 y2 y3 y4 y5 y6 y7 y8 y9 y10 y11 y12
    unfold laws_FnCurves.l1
    repeat' first
    | (with_reducible exact ih0 _ _ _ _ _ _)
    | (with_reducible exact ih1 _ _ _ _ _ _ _ _)
    | (with_reducible exact ih2 _ _ _ _ _ _ _ _)
    | (with_reducible exact ih3 _ _ _ _ _ _ _ _ _ _ _)
    | (with_reducible exact ih4 _ _ _ _ _ _ _ _ _ _ _ _ _ _ _)
    | (with_reducible exact ih5 _ _ _ _ _ _ _ _ _ _ _ _ _ _ _ _ _ _)
    | (with_reducible exact ih6 _ _ _ _ _ _ _ _ _ _ _ _ _)
    | (with_reducible exact ih7 _ _ _ _ _ _ _ _ _ _ _ _ _)
    | (with_reducible exact ih8 _ _ _ _ _ _ _ _ _)
    | (with_reducible exact ih9 _ _ _ _ _ _ _)
    | (with_reducible exact ih10 _ _ _ _ _ _ _ _ _ _ _ _ _ _ _)
    | (with_reducible exact ih11 _ _ _ _ _ _ _ _ _ _ _ _ _)
    | (with_reducible exact impl_CountSolutions.mono _ _ _ _ _)
    | (with_reducible exact impl_CurveDefect.mono _ _ _)
    | (with_reducible exact impl_CurvePoints.mono _ _ _)
    | (with_reducible exact impl_LeastNoPower.mono _ _ _)
    | (with_reducible exact impl_PointsAbove.mono _ _ _ _)
    | (with_reducible exact impl_PowerNumber.mono _ _ _)
    | (with_reducible exact impl_PowersOf.mono _ _ _)
    | (with_reducible exact laws_hasInt.mono _ _ _)
    | (with_reducible exact spec_CurveDefect.mono _ _ _)
    | (with_reducible exact spec_CurvePoints.mono _ _ _)
    | (with_reducible exact spec_DrawPointsAbove.mono _ _)
    | (with_reducible exact spec_LeastNoPower.mono _ _ _)
    | (with_reducible exact spec_PointsAbove.mono _ _ _ _)
    | (with_reducible exact spec_PowerNumber.mono _ _ _)
    | (with_reducible exact LeO.refl _)
    | (with_reducible exact LeO.none _)
    | (with_reducible refine LeO.ite ?_ ?_)
    | (with_reducible refine LeO.bind ?_ (fun _ => ?_))
    | exact ih0 _ _ _ _ _ _
    | exact ih1 _ _ _ _ _ _ _ _
    | exact ih2 _ _ _ _ _ _ _ _
    | exact ih3 _ _ _ _ _ _ _ _ _ _ _
    | exact ih4 _ _ _ _ _ _ _ _ _ _ _ _ _ _ _
    | exact ih5 _ _ _ _ _ _ _ _ _ _ _ _ _ _ _ _ _ _
    | exact ih6 _ _ _ _ _ _ _ _ _ _ _ _ _
    | exact ih7 _ _ _ _ _ _ _ _ _ _ _ _ _
    | exact ih8 _ _ _ _ _ _ _ _ _
    | exact ih9 _ _ _ _ _ _ _
    | exact ih10 _ _ _ _ _ _ _ _ _ _ _ _ _ _ _
    | exact ih11 _ _ _ _ _ _ _ _ _ _ _ _ _
    | exact impl_CountSolutions.mono _ _ _ _ _
    | exact impl_CurveDefect.mono _ _ _
    | exact impl_CurvePoints.mono _ _ _
    | exact impl_LeastNoPower.mono _ _ _
    | exact impl_PointsAbove.mono _ _ _ _
    | exact impl_PowerNumber.mono _ _ _
    | exact impl_PowersOf.mono _ _ _
    | exact laws_hasInt.mono _ _ _
    | exact spec_CurveDefect.mono _ _ _
    | exact spec_CurvePoints.mono _ _ _
    | exact spec_DrawPointsAbove.mono _ _
    | exact spec_LeastNoPower.mono _ _ _
    | exact spec_PointsAbove.mono _ _ _ _
    | exact spec_PowerNumber.mono _ _ _
    | exact LeO.none _
    | refine LeO.ite ?_ ?_
    | refine LeO.bind ?_ (fun _ => ?_)
theorem laws_FnCurves.mono : ∀ a0 k, LeO (laws_FnCurves.f k a0) (laws_FnCurves.f (k + 1) a0) := by
 intro a0 k
 obtain ⟨ih0, ih1, ih2, ih3, ih4, ih5, ih6, ih7, ih8, ih9, ih10, ih11⟩ := laws_FnCurves.mono_l k
 unfold laws_FnCurves.f
 repeat' first
  | (with_reducible exact ih0 _ _ _ _ _ _)
  | (with_reducible exact ih1 _ _ _ _ _ _ _ _)
  | (with_reducible exact ih2 _ _ _ _ _ _ _ _)
  | (with_reducible exact ih3 _ _ _ _ _ _ _ _ _ _ _)
  | (with_reducible exact ih4 _ _ _ _ _ _ _ _ _ _ _ _ _ _ _)
  | (with_reducible exact ih5 _ _ _ _ _ _ _ _ _ _ _ _ _ _ _ _ _ _)
  | (with_reducible exact ih6 _ _ _ _ _ _ _ _ _ _ _ _ _)
  | (with_reducible exact ih7 _ _ _ _ _ _ _ _ _ _ _ _ _)
  | (with_reducible exact ih8 _ _ _ _ _ _ _ _ _)
  | (with_reducible exact ih9 _ _ _ _ _ _ _)
  | (with_reducible exact ih10 _ _ _ _ _ _ _ _ _ _ _ _ _ _ _)
  | (with_reducible exact ih11 _ _ _ _ _ _ _ _ _ _ _ _ _)
  | (with_reducible exact impl_CountSolutions.mono _ _ _ _ _)
  | (with_reducible exact impl_CurveDefect.mono _ _ _)
  | (with_reducible exact impl_CurvePoints.mono _ _ _)
  | (with_reducible exact impl_LeastNoPower.mono _ _ _)
  | (with_reducible exact impl_PointsAbove.mono _ _ _ _)
  | (with_reducible exact impl_PowerNumber.mono _ _ _)
  | (with_reducible exact impl_PowersOf.mono _ _ _)
  | (with_reducible exact laws_hasInt.mono _ _ _)
  | (with_reducible exact spec_CurveDefect.mono _ _ _)
  | (with_reducible exact spec_CurvePoints.mono _ _ _)
  | (with_reducible exact spec_DrawPointsAbove.mono _ _)
  | (with_reducible exact spec_LeastNoPower.mono _ _ _)
  | (with_reducible exact spec_PointsAbove.mono _ _ _ _)
  | (with_reducible exact spec_PowerNumber.mono _ _ _)
  | (with_reducible exact LeO.refl _)
  | (with_reducible exact LeO.none _)
  | (with_reducible refine LeO.ite ?_ ?_)
  | (with_reducible refine LeO.bind ?_ (fun _ => ?_))
  | exact ih0 _ _ _ _ _ _
  | exact ih1 _ _ _ _ _ _ _ _
  | exact ih2 _ _ _ _ _ _ _ _
  | exact ih3 _ _ _ _ _ _ _ _ _ _ _
  | exact ih4 _ _ _ _ _ _ _ _ _ _ _ _ _ _ _
  | exact ih5 _ _ _ _ _ _ _ _ _ _ _ _ _ _ _ _ _ _
  | exact ih6 _ _ _ _ _ _ _ _ _ _ _ _ _
  | exact ih7 _ _ _ _ _ _ _ _ _ _ _ _ _
  | exact ih8 _ _ _ _ _ _ _ _ _
  | exact ih9 _ _ _ _ _ _ _
  | exact ih10 _ _ _ _ _ _ _ _ _ _ _ _ _ _ _
  | exact ih11 _ _ _ _ _ _ _ _ _ _ _ _ _
  | exact impl_CountSolutions.mono _ _ _ _ _
  | exact impl_CurveDefect.mono _ _ _
  | exact impl_CurvePoints.mono _ _ _
  | exact impl_LeastNoPower.mono _ _ _
  | exact impl_PointsAbove.mono _ _ _ _
  | exact impl_PowerNumber.mono _ _ _
  | exact impl_PowersOf.mono _ _ _
  | exact laws_hasInt.mono _ _ _
  | exact spec_CurveDefect.mono _ _ _
  | exact spec_CurvePoints.mono _ _ _
  | exact spec_DrawPointsAbove.mono _ _
  | exact spec_LeastNoPower.mono _ _ _
  | exact spec_PointsAbove.mono _ _ _ _
  | exact spec_PowerNumber.mono _ _ _
  | exact LeO.none _
  | refine LeO.ite ?_ ?_
  | refine LeO.bind ?_ (fun _ => ?_)
def laws_FnCurves.Pure : Prop := ∀ (l0 : List Int), l0.length ≤ maxLen → l0.length * 1 ≤ 140737488351232 → (∀ x ∈ l0, (Lit.int .u8 x).wf = true) → ∃ k, laws_FnCurves.f k l0 = some true
end Go.Proofs.Ytphlgajlebgnbaa.P
