/- This text was put together by a session out of texts that its own programs and the print tool wrote. -/
import Derived.Test.YtmjfaagifijmlaaK2
import Derived.Test.YtmjfaagifijmlaaK5
import Derived.Laws.CopyOwn
import Derived.Deep.RegionLaw
import Derived.IntWalk
import Derived.Test.YtmjfaagifijmlaaK3
import Derived.Test.YtmjfaagifijmlaaK4
import Derived.Sort.OwnSortedInts
import Derived.Lib.SlicesCompact
set_option linter.unusedVariables false
set_option linter.unusedSimpArgs false
/-! Functions of the library that are told by hand. -/
namespace Go.Proofs.Ytmjfaagifijmlaa.P
open Go.RowKit Go.Proofs.YtmjfaagifijmlaaW.PrintWords Go.Proofs.YtmjfaagifijmlaaW.PrintLast Go.Proofs.YtmjfaagifijmlaaW.PrintMore
set_option linter.unusedVariables false
set_option linter.unusedSimpArgs false
/-! ### slices_Repeat_int64_int64: function 243 -/
def slices_Repeat_int64_int64.f (l0 : List Int) (a1 : Int) : Option (List Int) := if l0.length = 1 ∧ 0 ≤ a1 ∧ a1 ≤ 1000000 then some (List.replicate a1.toNat (l0.headD 0)) else none
/-- A row of m cells whose first k hold v, the others 0. -/
def repC (v : Int) (k m : Nat) : List Value := List.replicate k (.int .i64 v) ++ List.replicate (m - k) (.int .i64 0)
theorem repC_len (v : Int) (k m : Nat) (h : k ≤ m) : (repC v k m).length = m := by simp [repC]; omega
theorem repC_first (v : Int) (m : Nat) (h : 0 < m) : splice (repC v 0 m) 0 [.int .i64 v] = repC v 1 m := by
  obtain ⟨m, rfl⟩ : ∃ k, m = k + 1 := ⟨m - 1, by omega⟩
  simp [splice, repC]
theorem repC_next (v : Int) (k j m : Nat) (h : k + j ≤ m) : splice (repC v k m) k (List.replicate j (.int .i64 v)) = repC v (k + j) m := by
  unfold splice repC
  rw [List.take_append_of_le_length (by simp), List.take_of_length_le (by simp), ← List.append_assoc, List.replicate_append_replicate]
  congr 1
  rw [List.drop_append]
  simp
  omega
set_option maxHeartbeats 400000 in
set_option maxRecDepth 100000 in
theorem slices_Repeat_int64_int64.calls (A0 : Option Addr) (c0 : Nat) (l0 : List Int) (a1 : Int) (r : List Int) (w : World) (hr0 : Kd.C (Kd.int .i64) w A0 l0.length l0) (hc0 : l0.length ≤ c0) (h : slices_Repeat_int64_int64.f l0 a1 = some r) :
    Calls Try.prog 243 #[.slice A0 l0.length c0, .int .i64 a1] w fun e w' => ∃ v0_ : Value, e = .returned (v0_) ∧ Kd.R (Kd.int .i64) 2 w' w.heap.size (fun _ => True) v0_ r ∧ Below w.heap.size w w' := by
  unfold slices_Repeat_int64_int64.f at h
  have hcond : l0.length = 1 ∧ 0 ≤ a1 ∧ a1 ≤ 1000000 := by
    by_cases hh : l0.length = 1 ∧ 0 ≤ a1 ∧ a1 ≤ 1000000
    · exact hh
    · rw [if_neg hh] at h; cases h
  rw [if_pos hcond] at h
  obtain rfl := Option.some.inj h
  clear h
  obtain ⟨hl, h0, h1⟩ := hcond
  obtain ⟨m, rfl⟩ := Int.eq_ofNat_of_zero_le h0
  have hm : m ≤ 1000000 := by omega
  obtain ⟨v, rfl⟩ : ∃ v, l0 = [v] := by
    cases l0 with
    | nil => simp at hl
    | cons a t => cases t with
      | nil => exact ⟨a, rfl⟩
      | cons b t => simp at hl
  obtain ⟨ad, rfl, hcell⟩ := Kd.at_int hr0 0 (by omega) (by simp)
  have HC := Aside0.mk hcell
  clear hcell hr0 hc0 hl h0 h1
  have hsz2 : (Try.prog.info? 2).map (·.size) = some 1 := by kernel_rfl
  have hmul : ∀ w, Calls Try.prog 287 #[.int .u64 1, .int .u64 (m : Int)] w fun e w' => e = .returned (.tuple #[.int .u64 0, .int .u64 (m : Int)]) ∧ w = w' := fun w => by
    have h1 := Try.bits_Mul 1 m (by decide) (by omega) w
    refine h1.mono fun e w' he => ⟨?_, he.2.symm⟩
    rw [he.1]
    have e1 : 1 * m / 18446744073709551616 = 0 := by omega
    have e2 : 1 * m % 18446744073709551616 = m := by omega
    rw [e1, e2]; rfl
  have hmk := print_make (P := Try.prog) 24 2 .i64 8 Try.underlying24 info2 (by omega) m (by omega)
  have hcur : madeCells #[.int .i64 0] m = (repC v 0 m).toArray := Array.ext (by simp [repC, madeCells]) (fun i h1 h2 => by simp [repC, madeCells, Nat.mod_one])
  go_enter Try.func243, Try.ntmps243
  by_cases hp : 0 < m
  · have hsrc1 : ∀ j u, [Value.int .i64 v][j]? = some u → (w.alloc (.cells (repC v 0 m).toArray 2)).cell? (ad.add j) = some u := by
      intro j u hu
      cases j with
      | zero => simp at hu; subst hu; exact pw_cell_below (below_alloc (Below.refl _ _) _) HC.out
      | succ j => simp at hu
    have hmn : Nat.min 1 m = 1 := Nat.min_eq_left hp
    go_wp2_with (first | (go_at_call 287; refine (hmul _).mono ?_; rintro e w' ⟨rfl, rfl⟩) | (refine gate_dst (N := 33) rfl ?_; go_loud (refine wpList_copy_splice rfl (.tmp 31) (.tmp 32) 24 24 rfl 2 Try.underlying24 hsz2 (some ⟨w.heap.size, 0, none⟩) (some ad) m m 1 c0 rfl rfl w.heap.size 0 (repC v 0 m) 2 ?c1 [.int .i64 v] ?c8 ?c2 ?c3 ?c4 w.heap.size w ?c5 (Nat.le_refl _) ?_); go_loud (case c1 => exact heap_alloc_new w _); go_loud (case c8 => simp [hmn]); go_loud (case c2 => exact fun _ => ⟨rfl, ad, rfl, hsrc1⟩); go_loud (case c3 => rw [repC_len _ _ _ (Nat.zero_le _)]; show 0 + 1 ≤ m; omega); go_loud (case c4 => simp [Value.oneCell']); go_loud (case c5 => exact below_alloc (Below.refl _ _) _); intro w1 HG HB))
    have HG1 := Aside0.mk (show w1.heap[w.heap.size]? = some (.cells (repC v 1 m).toArray 2 (0, 0)) by rw [← repC_first v m hp]; exact HG.out)
    have HB1 := Aside0.mk HB
    clear HG HB hmk hmul hsrc1
    go_loopw [8] (fun n wr => ∃ k : Nat, n = .int .i64 k ∧ 1 ≤ k ∧ k ≤ m ∧ Aside0 (wr.heap[w.heap.size]? = some (.cells (repC v k m).toArray 2 (0, 0))) ∧ Aside0 (Below w.heap.size w wr)) (fun n _ => m - (intOf n).toNat)
    case atStart => exact ⟨1, rfl, Nat.le_refl _, hp, HG1, HB1⟩
    case round =>
      clear HG1 HB1
      obtain ⟨k, rfl, hk1, hkm, HG, HB⟩ := hrel
      by_cases hlt : k < m
      · obtain ⟨j, hj, hj1, hj2⟩ : ∃ j, j = min k (m - k) ∧ 1 ≤ j ∧ k + j ≤ m := ⟨_, rfl, by omega, by omega⟩
        have HJ := Aside0.mk hj
        clear hj
        go_wp2
        have hsum : IntKind.i64.wrap ((k : Int) + (j : Int)) = (k : Int) + (j : Int) := IntWalk.i64_in _ (by omega)
        have hne : ¬ m = k := by omega
        have hk0 : (0 : Int) ≤ (k : Int) := by omega
        have hkm' : (k : Int) ≤ (m : Int) := by omega
        have hsrc : ∀ i u, (List.replicate j (Value.int .i64 v))[i]? = some u → wr.drew.cell? ((⟨w.heap.size, 0, none⟩ : Addr).add i) = some u := by
          intro i u hu
          have hi : i < j := by
            rcases Nat.lt_or_ge i j with h | h
            · exact h
            · rw [List.getElem?_eq_none (by simpa using h)] at hu; cases hu
          rw [List.getElem?_replicate, if_pos hi] at hu
          cases hu
          rw [add_plain, blk_cell (blk_drew HG.out) i]
          have hik : i < k := by have := HJ.out; omega
          simp [repC, List.getElem?_append, hik]
        have hrun := run_copy_row (P := Try.prog) wr.drew 24 24 3 2 w.heap.size k (m - k) (m - k) ⟨w.heap.size, 0, none⟩ k m (repC v k m).toArray 2 (List.replicate j (.int .i64 v)) Try.underlying24 hsz2 (blk_drew HG.out) (by rw [List.length_replicate]; exact HJ.out) hsrc (by simp [repC_len _ _ _ hkm]; omega) (by intro u hu; rw [List.eq_of_mem_replicate hu]; rfl)
        rw [List.length_replicate] at hrun
        clear hsrc
        have HS := Aside0.mk (show (wr.drew.setRow w.heap.size (List.take k (repC v k m) ++ (List.replicate j (Value.int .i64 v) ++ List.drop (k + j) (repC v k m))).toArray).heap[w.heap.size]? = some (.cells (repC v (k + j) m).toArray 2 (0, 0)) by
          rw [setRow_heap wr.drew w.heap.size _ _ 2 _ (blk_drew HG.out)]
          rw [← repC_next v k j m hj2]
          simp [splice])
        have HB2 := Aside0.mk (below_setRow HB.out.drew (Nat.le_refl w.heap.size) (List.take k (repC v k m) ++ (List.replicate j (Value.int .i64 v) ++ List.drop (k + j) (repC v k m))).toArray)
        go_region
        go_roundw
        case rel => (repeat apply Exists.intro); exact ⟨⟨k + j, by go_num, by omega, hj2, HS, HB2⟩, rfl⟩
        case measure => simp [intOf]; omega
      · go_wp2
        have hkm' : k = m := by omega
        subst hkm'
        go_ret
        refine ⟨_, rfl, Kd.R_of_own ⟨by simp [encs], .inr ⟨_, k, (repC v k k).toArray, by simp, Nat.le_refl _, HG.out, by simp, by unfold maxLen; omega, by simp [repC_len], by simp [repC, encs]⟩⟩ (fun _ _ => trivial), HB.out⟩
  · obtain rfl : m = 0 := by omega
    replace hmul : ∀ w, Calls Try.prog 287 #[.int .u64 1, .int .u64 0] w fun e w' => e = .returned (.tuple #[.int .u64 0, .int .u64 0]) ∧ w = w' := hmul
    replace hmk : ∀ W : World, (Instr.makeSlice 24 (.int .i64 0) (.int .i64 0)).run Try.prog W = .ok (.slice (some ⟨W.heap.size, 0, none⟩) 0 0) (W.alloc (.cells #[] 2)) := fun W => by
      have h := hmk W
      have e : madeCells #[.int .i64 0] 0 = #[] := Array.eq_empty_of_size_eq_zero (by simp [madeCells])
      rw [e] at h
      exact h
    have hrun := fun W => run_copy_none (P := Try.prog) W 24 24 3 2 (some ⟨w.heap.size, 0, none⟩) (some ad) 0 0 1 c0 Try.underlying24 hsz2 rfl
    clear hcur
    go_wp2_with (first | (go_at_call 287; refine (hmul _).mono ?_; rintro e w' ⟨rfl, rfl⟩))
    have HB := Aside0.mk (below_alloc (Below.refl w.heap.size w) (.cells #[] 2))
    have HG := Aside0.mk (heap_alloc_new w (.cells #[] 2))
    obtain ⟨w1, hw1⟩ : ∃ w1, w1 = w.alloc (.cells #[] 2) := ⟨_, rfl⟩
    rw [← hw1] at HB HG ⊢
    clear hw1 hmk hmul hrun
    go_loopw [8] (fun n wr => n = .int .i64 0 ∧ wr = w1) (fun _ _ => 0)
    case atStart => exact ⟨rfl, rfl⟩
    case round =>
      obtain ⟨rfl, rfl⟩ := hrel
      go_wp2
      go_ret
      exact ⟨_, rfl, Kd.R_of_own ⟨by simp [encs], .inr ⟨_, 0, #[], rfl, Nat.le_refl _, HG.out, Nat.le_refl _, by simp [maxLen], rfl, by simp [encs]⟩⟩ (fun _ _ => trivial), HB.out⟩
/-! ### impl_differentPowers: function 250 -/
def compactL : List Int → List Int
  | [] => []
  | [x] => [x]
  | x :: y :: t => if x = y then compactL (y :: t) else x :: compactL (y :: t)
end Go.Proofs.Ytmjfaagifijmlaa.P
namespace Go.Proofs.Ytmjfaagifijmlaa.P
open Go.RowKit Go.Proofs.YtmjfaagifijmlaaW.PrintWords Go.Proofs.YtmjfaagifijmlaaW.PrintLast Go.Proofs.YtmjfaagifijmlaaW.PrintMore
attribute [local go_sem] max2_int min2_int max_two min_two max_three min_three max_four min_four   -- for this text's walks alone
set_option linter.unusedVariables false
set_option linter.unusedSimpArgs false
/-! ### impl_QuadricNumber: function 120 -/
def impl_QuadricNumber.f (k : Nat) (a0 : Int) (l1 : List Int) (a2 : Int) : Option (Int × Int) := (slices_Repeat_int64_int64.f (([2] : List Int)) (l1.length : Int)).bind fun t2398 => ((impl_CountSolutions.f k a0 l1 t2398 a2).bind fun bt2401 => (some (bt2401.1, bt2401.2)))
theorem impl_QuadricNumber.mono : ∀ a0 a1 a2 k, LeO (impl_QuadricNumber.f k a0 a1 a2) (impl_QuadricNumber.f (k + 1) a0 a1 a2) := by
 intro a0 a1 a2 k
 unfold impl_QuadricNumber.f
 repeat' first
  | (with_reducible exact impl_CountSolutions.mono _ _ _ _ _)
  | (with_reducible exact LeO.refl _)
  | (with_reducible exact LeO.none _)
  | (with_reducible refine LeO.ite ?_ ?_)
  | (with_reducible refine LeO.bind ?_ (fun _ => ?_))
  | exact impl_CountSolutions.mono _ _ _ _ _
  | exact LeO.none _
  | refine LeO.ite ?_ ?_
  | refine LeO.bind ?_ (fun _ => ?_)
set_option maxHeartbeats 8000000 in
set_option maxRecDepth 100000 in
theorem impl_QuadricNumber.calls (k : Nat) (a0 : Int) (A1 : Option Addr) (c1 : Nat) (l1 : List Int) (a2 : Int) (r1 : Int) (r2 : Int) (w : World) (hr1 : Kd.C (Kd.int .i64) w A1 l1.length l1) (hc1 : l1.length ≤ c1) (h : impl_QuadricNumber.f k a0 l1 a2 = some (r1, r2)) :
   Calls Try.prog 120 #[.int .i64 a0, .slice A1 l1.length c1, .int .i64 a2] w fun e w' => e = .returned (.tuple #[.int .i64 r1, .int .i64 r2]) ∧ Below w.heap.size w w' := by
 have HR1 := Aside0.mk hr1
 have HC1 := Aside0.mk hc1
 clear hr1 hc1
 have HB := Aside0.mk (Below.refl w.heap.size w)
 have H : ((slices_Repeat_int64_int64.f (([2] : List Int)) (l1.length : Int)).bind fun t2398 => ((impl_CountSolutions.f k a0 l1 t2398 a2).bind fun bt2401 => (some (bt2401.1, bt2401.2)))) = some (r1, r2) := h
 clear h
 obtain ⟨y2395, hy2395⟩ : ∃ y_ : List Int, y_ = (([2] : List Int)) := ⟨_, rfl⟩
 replace H : ((slices_Repeat_int64_int64.f y2395 (l1.length : Int)).bind fun t2398 => ((impl_CountSolutions.f k a0 l1 t2398 a2).bind fun bt2401 => (some (bt2401.1, bt2401.2)))) = some (r1, r2) := by first | (rw [hy2395]; with_reducible exact H) | (have H2_ := (Option.bind_some _ _).symm.trans H; rw [hy2395]; with_reducible exact H2_) | (have H2_ := (Option.bind_some _ _).symm.trans H; with_reducible exact H2_) | with_reducible exact H | (rw [hy2395]; exact H) | exact H
 have Ny2395 := Aside0.mk hy2395
 clear hy2395
 replace H := Option.bind_eq_some_iff.mp H
 obtain ⟨t2398, A40, H⟩ := H
 replace H : ((impl_CountSolutions.f k a0 l1 t2398 a2).bind fun bt2401 => (some (bt2401.1, bt2401.2))) = some (r1, r2) := H
 have A4 := Aside0.mk A40
 clear A40
 replace H := Option.bind_eq_some_iff.mp H
 obtain ⟨⟨t2401, t2402⟩, A50, H⟩ := H
 replace H : (some (t2401, t2402)) = some (r1, r2) := H
 have A5 := Aside0.mk A50
 clear A50
 simp only [Option.some.injEq, Prod.mk.injEq] at H
 obtain ⟨rfl, rfl⟩ := H
 go_enter Try.func120, Try.ntmps120
 go_wp2_with (first | ((with_reducible refine gate_dst (N := 10) rfl ?_); refine Kd.R_lit (Kd.int .i64) _ 2 ?hg (N := 10) ?hd (xs := ([2] : List Int)) (inner := [.int .i64 2]) (ok := fun _ => True) (okp := fun _ => True) ?hr ?hp (fun _ hk => hk) trivial (Below.refl _ _) (Nat.le_refl _) (by simp) ?_; (case hd => rfl); (case hg => rfl); (case hr => first | (go_simp; done) | (go_simp; rfl)); (case hp => exact (Reps.one (show Kd.M (Kd.int .i64) _ _ _ 2 [.int .i64 2] from rfl) (Reps.none _ _))); intro v2396 w6 ho7 hb hg_ hnew_; clear hg_ hnew_; (first | rw [← Ny2395.out] at ho7 | (simp only [Int.reduceToNat] at ho7; rw [← Ny2395.out] at ho7)); have n0_ := Aside0.mk (Kd.R_lower ho7 (below_size (by repeat (first | (with_reducible first | exact HB.out | apply below_alloc | apply pw_below_drewN | apply below_drew1) | exact HB.out)))); have n1_ := Aside0.mk (below_step (by repeat (first | (with_reducible first | exact HB.out | apply below_alloc | apply pw_below_drewN | apply below_drew1) | exact HB.out)) hb); clear HB; have HO2397 := n0_; have HB := n1_; clear n0_ n1_; clear hb ho7; obtain ⟨Ao8, co8, eo8⟩ := Kd.R_slice HO2397.out; subst eo8) | ((with_reducible refine gate_callee (f := 243) rfl ?_); refine goesL_ (some 13) rfl rfl Try.func243 (by kernel_rfl) rfl #[.slice Ao8 y2395.length co8, .int .i64 (l1.length : Int)] rfl (by (try simp only [List.map_toArray, List.map_cons, List.map_nil]); first | done | rfl | (simp only [List.length_drop, List.length_take]; rfl)) ?_; (with_reducible refine (slices_Repeat_int64_int64.calls _ _ y2395 (l1.length : Int) t2398 _ ?side1 ?side2 A4.out).mono ?_); (case side1 => repeat (first | exact (Kd.R_reads' HO2397.out).2.2 | (with_reducible refine Kd.C_alloc ?_ _) | (with_reducible refine Kd.C_drewN ?_ _) | (with_reducible refine Kd.C_drew ?_))); (case side2 => exact (Kd.R_reads' HO2397.out).2.1); rintro e w9 ⟨v2399, rfl, ho0, hb⟩; refine ⟨_, rfl, ?_⟩; have n0_ := Aside0.mk (Kd.R_elder' (by (with_reducible repeat (first | apply Kd.R_alloc | apply Kd.R_drewN | apply Kd.R_drew)); exact HO2397.out) (Kd.R_base ho0) hb); have n1_ := Aside0.mk (Kd.R_lower (Kd.R_new' ho0 (Kd.R_lt (by (with_reducible repeat (first | apply Kd.R_alloc | apply Kd.R_drewN | apply Kd.R_drew)); exact HO2397.out))) (below_size (by repeat (first | (with_reducible first | exact HB.out | apply below_alloc | apply pw_below_drewN | apply below_drew1) | exact HB.out)))); have n2_ := Aside0.mk (below_step (by repeat (first | (with_reducible first | exact HB.out | apply below_alloc | apply pw_below_drewN | apply below_drew1) | exact HB.out)) hb); clear HO2397; clear HB; have HO2397 := n0_; have HO2400 := n1_; have HB := n2_; clear n0_ n1_ n2_; (try clear hb); (try clear hb2); (try clear hk); (try clear hi); (try clear ho0); obtain ⟨Ao10, co10, eo10⟩ := Kd.R_slice HO2400.out; subst eo10) | ((with_reducible refine gate_callee (f := 61) rfl ?_); refine goesL_ (some 15) rfl rfl Try.func61 (by kernel_rfl) rfl #[.int .i64 a0, .slice A1 l1.length c1, .slice Ao10 t2398.length co10, .int .i64 a2] rfl (by (try simp only [List.map_toArray, List.map_cons, List.map_nil]); first | done | rfl | (simp only [List.length_drop, List.length_take]; rfl)) ?_; (with_reducible refine (impl_CountSolutions.calls k a0 _ _ l1 _ _ t2398 a2 t2401 t2402 _ ?side1 ?side2 ?side3 ?side4 A5.out).mono ?_); (case side1 => repeat (first | exact (Kd.C_below HR1.out HB.out) | (with_reducible refine Kd.C_alloc ?_ _) | (with_reducible refine Kd.C_drewN ?_ _) | (with_reducible refine Kd.C_drew ?_))); (case side2 => exact HC1.out); (case side3 => repeat (first | exact (Kd.R_reads' HO2400.out).2.2 | (with_reducible refine Kd.C_alloc ?_ _) | (with_reducible refine Kd.C_drewN ?_ _) | (with_reducible refine Kd.C_drew ?_))); (case side4 => exact (Kd.R_reads' HO2400.out).2.1); rintro e w11 ⟨rfl, hb⟩; refine ⟨_, rfl, ?_⟩; have n0_ := Aside0.mk (Kd.R_below (by (with_reducible repeat (first | apply Kd.R_alloc | apply Kd.R_drewN | apply Kd.R_drew)); exact HO2397.out) hb); have n1_ := Aside0.mk (Kd.R_below (by (with_reducible repeat (first | apply Kd.R_alloc | apply Kd.R_drewN | apply Kd.R_drew)); exact HO2400.out) hb); have n2_ := Aside0.mk (below_step (by repeat (first | (with_reducible first | exact HB.out | apply below_alloc | apply pw_below_drewN | apply below_drew1) | exact HB.out)) hb); clear HO2397; clear HO2400; clear HB; have HO2397 := n0_; have HO2400 := n1_; have HB := n2_; clear n0_ n1_ n2_; (try clear hb); (try clear hb2); (try clear hk); (try clear hi)))
 go_ret2
 exact ⟨by first | rfl | (simp [errW_none, errW_some] <;> rfl) | (simp [*, errW_none, errW_some] <;> rfl), by repeat (first | (with_reducible first | exact HB.out | apply below_alloc | apply pw_below_drewN | apply below_drew1) | exact HB.out)⟩
end Go.Proofs.Ytmjfaagifijmlaa.P
namespace Go.Proofs.Ytmjfaagifijmlaa.P
open Go.RowKit Go.Proofs.YtmjfaagifijmlaaW.PrintWords Go.Proofs.YtmjfaagifijmlaaW.PrintLast Go.Proofs.YtmjfaagifijmlaaW.PrintMore
attribute [local go_sem] max2_int min2_int max_two min_two max_three min_three max_four min_four   -- for this text's walks alone
set_option linter.unusedVariables false
set_option linter.unusedSimpArgs false
/-! ### spec_l08With: function 245 -/
def spec_l08With.f (l0 : List Int) : Option (Int × Int) := (spec_l01From.f l0).bind fun bt2404 => ((spec_l08Prime.f bt2404.1 bt2404.2.1 bt2404.2.2).bind fun bt2408 => ((spec_l01Near.f bt2404.1 bt2408.2.1 bt2408.2.2 60).bind fun bt2411 => ((spec_l01Pick.f bt2404.1 bt2411.2.1 bt2411.2.2 (([1, 2, 2, 3, 3, 4, 5, 6, bt2411.1] : List Int))).bind fun bt2417 => (some (bt2408.1, bt2417.1)))))
set_option maxHeartbeats 8000000 in
set_option maxRecDepth 100000 in
theorem spec_l08With.calls (A0 : Option Addr) (c0 : Nat) (l0 : List Int) (r1 : Int) (r2 : Int) (w : World) (hr0 : Kd.C (Kd.int .u8) w A0 l0.length l0) (hc0 : l0.length ≤ c0) (h : spec_l08With.f l0 = some (r1, r2)) :
   Calls Try.prog 245 #[.slice A0 l0.length c0] w fun e w' => e = .returned (.tuple #[.int .i64 r1, .int .i64 r2]) ∧ Below w.heap.size w w' := by
 have HR0 := Aside0.mk hr0
 have HC0 := Aside0.mk hc0
 clear hr0 hc0
 have HB := Aside0.mk (Below.refl w.heap.size w)
 have H : ((spec_l01From.f l0).bind fun bt2404 => ((spec_l08Prime.f bt2404.1 bt2404.2.1 bt2404.2.2).bind fun bt2408 => ((spec_l01Near.f bt2404.1 bt2408.2.1 bt2408.2.2 60).bind fun bt2411 => ((spec_l01Pick.f bt2404.1 bt2411.2.1 bt2411.2.2 (([1, 2, 2, 3, 3, 4, 5, 6, bt2411.1] : List Int))).bind fun bt2417 => (some (bt2408.1, bt2417.1)))))) = some (r1, r2) := h
 clear h
 replace H := Option.bind_eq_some_iff.mp H
 obtain ⟨⟨t2404, t2405, t2406⟩, A20, H⟩ := H
 replace H : ((spec_l08Prime.f t2404 t2405 t2406).bind fun bt2408 => ((spec_l01Near.f t2404 bt2408.2.1 bt2408.2.2 60).bind fun bt2411 => ((spec_l01Pick.f t2404 bt2411.2.1 bt2411.2.2 (([1, 2, 2, 3, 3, 4, 5, 6, bt2411.1] : List Int))).bind fun bt2417 => (some (bt2408.1, bt2417.1))))) = some (r1, r2) := H
 have A2 := Aside0.mk A20
 clear A20
 replace H := Option.bind_eq_some_iff.mp H
 obtain ⟨⟨t2408, t2409, t2410⟩, A30, H⟩ := H
 replace H : ((spec_l01Near.f t2404 t2409 t2410 60).bind fun bt2411 => ((spec_l01Pick.f t2404 bt2411.2.1 bt2411.2.2 (([1, 2, 2, 3, 3, 4, 5, 6, bt2411.1] : List Int))).bind fun bt2417 => (some (t2408, bt2417.1)))) = some (r1, r2) := H
 have A3 := Aside0.mk A30
 clear A30
 replace H := Option.bind_eq_some_iff.mp H
 obtain ⟨⟨t2411, t2412, t2413⟩, A40, H⟩ := H
 replace H : ((spec_l01Pick.f t2404 t2412 t2413 (([1, 2, 2, 3, 3, 4, 5, 6, t2411] : List Int))).bind fun bt2417 => (some (t2408, bt2417.1))) = some (r1, r2) := H
 have A4 := Aside0.mk A40
 clear A40
 obtain ⟨y2414, hy2414⟩ : ∃ y_ : List Int, y_ = (([1, 2, 2, 3, 3, 4, 5, 6, t2411] : List Int)) := ⟨_, rfl⟩
 replace H : ((spec_l01Pick.f t2404 t2412 t2413 y2414).bind fun bt2417 => (some (t2408, bt2417.1))) = some (r1, r2) := by first | (rw [hy2414]; with_reducible exact H) | (have H2_ := (Option.bind_some _ _).symm.trans H; rw [hy2414]; with_reducible exact H2_) | (have H2_ := (Option.bind_some _ _).symm.trans H; with_reducible exact H2_) | with_reducible exact H | (rw [hy2414]; exact H) | exact H
 have Ny2414 := Aside0.mk hy2414
 clear hy2414
 replace H := Option.bind_eq_some_iff.mp H
 obtain ⟨⟨t2417, t2418, t2419⟩, A50, H⟩ := H
 replace H : (some (t2408, t2417)) = some (r1, r2) := H
 have A5 := Aside0.mk A50
 clear A50
 simp only [Option.some.injEq, Prod.mk.injEq] at H
 obtain ⟨rfl, rfl⟩ := H
 go_enter Try.func245, Try.ntmps245
 go_wp2_with (first | ((with_reducible refine gate_callee (f := 133) rfl ?_); refine goesL_ (some 6) rfl rfl Try.func133 (by kernel_rfl) rfl #[.slice A0 l0.length c0] rfl (by (try simp only [List.map_toArray, List.map_cons, List.map_nil]); first | done | rfl | (simp only [List.length_drop, List.length_take]; rfl)) ?_; (with_reducible refine (spec_l01From.calls _ _ l0 t2404 t2405 t2406 w _ ?side1 ?side2 ?side3 A2.out).mono ?_); (case side1 => repeat (first | (with_reducible first | exact HB.out | apply below_alloc | apply pw_below_drewN | apply below_drew1) | exact HB.out)); (case side2 => exact HR0.out); (case side3 => exact HC0.out); rintro e w6 ⟨g2407, rfl, hi, hb, hb2⟩; refine ⟨_, rfl, ?_⟩; have n0_ := Aside0.mk (hb); have n1_ := Aside0.mk (hi); clear HB; have HB := n0_; have HI2407 := n1_; clear n0_ n1_; (try clear hb); (try clear hb2); (try clear hk); (try clear hi)) | ((with_reducible refine gate_callee (f := 286) rfl ?_); refine goesL_ (some 8) rfl rfl Try.func286 (by kernel_rfl) rfl #[.pointer (some ⟨g2407, 0, none⟩)] rfl (by (try simp only [List.map_toArray, List.map_cons, List.map_nil]); first | done | rfl | (simp only [List.length_drop, List.length_take]; rfl)) ?_; (with_reducible refine (spec_l08Prime.calls g2407 t2404 t2405 t2406 t2408 t2409 t2410 w _ ?side1 ?side2 A3.out).mono ?_); (case side1 => repeat (first | (with_reducible first | exact HI2407.out | apply IsS193.alloc | apply IsS193.drewN | apply IsS193.drew | apply IsS193.set_1 | apply IsS193.set_2) | exact HI2407.out)); (case side2 => repeat (first | (with_reducible first | exact HB.out | apply below_alloc | apply pw_below_drewN | apply below_drew1 | refine below_set ?_ (IsS193.ge HI2407.out)) | exact HB.out)); rintro e w7 ⟨rfl, hi, hb, hk⟩; refine ⟨_, rfl, ?_⟩; have n0_ := Aside0.mk (hb); have n1_ := Aside0.mk (hi); clear HB; clear HI2407; have HB := n0_; have HI2407 := n1_; clear n0_ n1_; (try clear hb); (try clear hb2); (try clear hk); (try clear hi)) | ((with_reducible refine gate_callee (f := 191) rfl ?_); refine goesL_ (some 11) rfl rfl Try.func191 (by kernel_rfl) rfl #[.pointer (some ⟨g2407, 0, none⟩), .int .i64 60] rfl (by (try simp only [List.map_toArray, List.map_cons, List.map_nil]); first | done | rfl | (simp only [List.length_drop, List.length_take]; rfl)) ?_; (with_reducible refine (spec_l01Near.calls g2407 t2404 t2409 t2410 60 t2411 t2412 t2413 w _ ?side1 ?side2 A4.out).mono ?_); (case side1 => repeat (first | (with_reducible first | exact HI2407.out | apply IsS193.alloc | apply IsS193.drewN | apply IsS193.drew | apply IsS193.set_1 | apply IsS193.set_2) | exact HI2407.out)); (case side2 => repeat (first | (with_reducible first | exact HB.out | apply below_alloc | apply pw_below_drewN | apply below_drew1 | refine below_set ?_ (IsS193.ge HI2407.out)) | exact HB.out)); rintro e w8 ⟨rfl, hi, hb, hk⟩; refine ⟨_, rfl, ?_⟩; have n0_ := Aside0.mk (hb); have n1_ := Aside0.mk (hi); clear HB; clear HI2407; have HB := n0_; have HI2407 := n1_; clear n0_ n1_; (try clear hb); (try clear hb2); (try clear hk); (try clear hi)) | ((with_reducible refine gate_dst (N := 12) rfl ?_); refine Kd.R_lit (Kd.int .i64) _ 2 ?hg (N := 12) ?hd (xs := ([1, 2, 2, 3, 3, 4, 5, 6, t2411] : List Int)) (inner := [.int .i64 1, .int .i64 2, .int .i64 2, .int .i64 3, .int .i64 3, .int .i64 4, .int .i64 5, .int .i64 6, .int .i64 t2411]) (ok := fun _ => True) (okp := fun _ => True) ?hr ?hp (fun _ hk => hk) trivial (Below.refl _ _) (Nat.le_refl _) (by simp) ?_; (case hd => rfl); (case hg => rfl); (case hr => first | (go_simp; done) | (go_simp; rfl)); (case hp => exact (Reps.one (show Kd.M (Kd.int .i64) _ _ _ 1 [.int .i64 1] from rfl) (Reps.one (show Kd.M (Kd.int .i64) _ _ _ 2 [.int .i64 2] from rfl) (Reps.one (show Kd.M (Kd.int .i64) _ _ _ 2 [.int .i64 2] from rfl) (Reps.one (show Kd.M (Kd.int .i64) _ _ _ 3 [.int .i64 3] from rfl) (Reps.one (show Kd.M (Kd.int .i64) _ _ _ 3 [.int .i64 3] from rfl) (Reps.one (show Kd.M (Kd.int .i64) _ _ _ 4 [.int .i64 4] from rfl) (Reps.one (show Kd.M (Kd.int .i64) _ _ _ 5 [.int .i64 5] from rfl) (Reps.one (show Kd.M (Kd.int .i64) _ _ _ 6 [.int .i64 6] from rfl) (Reps.one (show Kd.M (Kd.int .i64) _ _ _ t2411 [.int .i64 t2411] from rfl) (Reps.none _ _))))))))))); intro v2415 w9 ho10 hb hg_ hnew_; clear hg_ hnew_; (first | rw [← Ny2414.out] at ho10 | (simp only [Int.reduceToNat] at ho10; rw [← Ny2414.out] at ho10)); have n0_ := Aside0.mk (Kd.R_lower ho10 (below_size (by repeat (first | (with_reducible first | exact HB.out | apply below_alloc | apply pw_below_drewN | apply below_drew1 | refine below_set ?_ (IsS193.ge HI2407.out)) | exact HB.out)))); have n1_ := Aside0.mk (IsS193.below (by repeat (first | (with_reducible first | exact HI2407.out | apply IsS193.alloc | apply IsS193.drewN | apply IsS193.drew | apply IsS193.set_1 | apply IsS193.set_2) | exact HI2407.out)) hb); have n2_ := Aside0.mk (below_step (by repeat (first | (with_reducible first | exact HB.out | apply below_alloc | apply pw_below_drewN | apply below_drew1 | refine below_set ?_ (IsS193.ge HI2407.out)) | exact HB.out)) hb); clear HI2407; clear HB; have HO2416 := n0_; have HI2407 := n1_; have HB := n2_; clear n0_ n1_ n2_; clear hb ho10; obtain ⟨Ao11, co11, eo11⟩ := Kd.R_slice HO2416.out; subst eo11) | ((with_reducible refine gate_callee (f := 165) rfl ?_); refine goesL_ (some 13) rfl rfl Try.func165 (by kernel_rfl) rfl #[.pointer (some ⟨g2407, 0, none⟩), .slice Ao11 y2414.length co11] rfl (by (try simp only [List.map_toArray, List.map_cons, List.map_nil]); first | done | rfl | (simp only [List.length_drop, List.length_take]; rfl)) ?_; (with_reducible refine (spec_l01Pick.calls g2407 t2404 t2412 t2413 _ _ y2414 t2417 t2418 t2419 w _ ?side1 ?side2 ?side3 ?side4 ?side5 A5.out).mono ?_); (case side1 => repeat (first | (with_reducible first | exact HI2407.out | apply IsS193.alloc | apply IsS193.drewN | apply IsS193.drew | apply IsS193.set_1 | apply IsS193.set_2) | exact HI2407.out)); (case side2 => repeat (first | (with_reducible first | exact HB.out | apply below_alloc | apply pw_below_drewN | apply below_drew1 | refine below_set ?_ (IsS193.ge HI2407.out)) | exact HB.out)); (case side3 => repeat (first | exact (Kd.R_reads' HO2416.out).2.2 | (with_reducible refine Kd.C_alloc ?_ _) | (with_reducible refine Kd.C_drewN ?_ _) | (with_reducible refine Kd.C_drew ?_))); (case side4 => exact (Kd.R_reads' HO2416.out).2.1); (case side5 => exact far_slice (IsS193.own_ne HI2407.out HO2416.out (by decide))); rintro e w12 ⟨rfl, hi, hb, hk⟩; refine ⟨_, rfl, ?_⟩; have n0_ := Aside0.mk (Kd.R_mono (Kd.R_keep (IsS193.apart (show IsS193 w _ g2407 t2404 t2412 t2413 from by repeat (first | (with_reducible first | exact HI2407.out | apply IsS193.alloc | apply IsS193.drewN | apply IsS193.drew | apply IsS193.set_1 | apply IsS193.set_2) | exact HI2407.out)) (by (with_reducible repeat (first | apply Kd.R_alloc | apply Kd.R_drewN | apply Kd.R_drew)); exact HO2416.out) (by decide)) hk (fun _ h => h.2)) (fun _ h => h.1)); have n1_ := Aside0.mk (hb); have n2_ := Aside0.mk (hi); clear HO2416; clear HB; clear HI2407; have HO2416 := n0_; have HB := n1_; have HI2407 := n2_; clear n0_ n1_ n2_; (try clear hb); (try clear hb2); (try clear hk); (try clear hi)))
 go_ret2
 exact ⟨by first | rfl | (simp [errW_none, errW_some] <;> rfl) | (simp [*, errW_none, errW_some] <;> rfl), by repeat (first | (with_reducible first | exact HB.out | apply below_alloc | apply pw_below_drewN | apply below_drew1 | refine below_set ?_ (IsS193.ge HI2407.out)) | exact HB.out)⟩
end Go.Proofs.Ytmjfaagifijmlaa.P
namespace Go.Proofs.Ytmjfaagifijmlaa.P
open Go.RowKit Go.Proofs.YtmjfaagifijmlaaW.PrintWords Go.Proofs.YtmjfaagifijmlaaW.PrintLast Go.Proofs.YtmjfaagifijmlaaW.PrintMore
attribute [local go_sem] max2_int min2_int max_two min_two max_three min_three max_four min_four   -- for this text's walks alone
set_option linter.unusedVariables false
set_option linter.unusedSimpArgs false
/-! ### spec_DrawValueCounts: function 122 -/
def spec_DrawValueCounts.f (l0 : List Int) : Option (Int × Int × Int) := (spec_l08With.f l0).bind fun bt2420 => ((spec_l01From.f l0).bind fun bt2422 => ((spec_l01Next.f bt2422.1 bt2422.2.1 bt2422.2.2 (wrap64 (bt2420.1 + 1))).bind fun bt2426 => (some (bt2420.1, bt2426.1, bt2420.2))))
set_option maxHeartbeats 8000000 in
set_option maxRecDepth 100000 in
theorem spec_DrawValueCounts.calls (A0 : Option Addr) (c0 : Nat) (l0 : List Int) (r1 : Int) (r2 : Int) (r3 : Int) (w : World) (hr0 : Kd.C (Kd.int .u8) w A0 l0.length l0) (hc0 : l0.length ≤ c0) (h : spec_DrawValueCounts.f l0 = some (r1, r2, r3)) :
   Calls Try.prog 122 #[.slice A0 l0.length c0] w fun e w' => e = .returned (.tuple #[.int .i64 r1, .int .i64 r2, .int .i64 r3]) ∧ Below w.heap.size w w' := by
 have HR0 := Aside0.mk hr0
 have HC0 := Aside0.mk hc0
 clear hr0 hc0
 have HB := Aside0.mk (Below.refl w.heap.size w)
 have H : ((spec_l08With.f l0).bind fun bt2420 => ((spec_l01From.f l0).bind fun bt2422 => ((spec_l01Next.f bt2422.1 bt2422.2.1 bt2422.2.2 (wrap64 (bt2420.1 + 1))).bind fun bt2426 => (some (bt2420.1, bt2426.1, bt2420.2))))) = some (r1, r2, r3) := h
 clear h
 replace H := Option.bind_eq_some_iff.mp H
 obtain ⟨⟨t2420, t2421⟩, A20, H⟩ := H
 replace H : ((spec_l01From.f l0).bind fun bt2422 => ((spec_l01Next.f bt2422.1 bt2422.2.1 bt2422.2.2 (wrap64 (t2420 + 1))).bind fun bt2426 => (some (t2420, bt2426.1, t2421)))) = some (r1, r2, r3) := H
 have A2 := Aside0.mk A20
 clear A20
 replace H := Option.bind_eq_some_iff.mp H
 obtain ⟨⟨t2422, t2423, t2424⟩, A30, H⟩ := H
 replace H : ((spec_l01Next.f t2422 t2423 t2424 (wrap64 (t2420 + 1))).bind fun bt2426 => (some (t2420, bt2426.1, t2421))) = some (r1, r2, r3) := H
 have A3 := Aside0.mk A30
 clear A30
 replace H := Option.bind_eq_some_iff.mp H
 obtain ⟨⟨t2426, t2427, t2428⟩, A40, H⟩ := H
 replace H : (some (t2420, t2426, t2421)) = some (r1, r2, r3) := H
 have A4 := Aside0.mk A40
 clear A40
 simp only [Option.some.injEq, Prod.mk.injEq] at H
 obtain ⟨rfl, rfl, rfl⟩ := H
 go_enter Try.func122, Try.ntmps122
 go_wp2_with (first | ((with_reducible refine gate_callee (f := 245) rfl ?_); refine goesL_ (some 9) rfl rfl Try.func245 (by kernel_rfl) rfl #[.slice A0 l0.length c0] rfl (by (try simp only [List.map_toArray, List.map_cons, List.map_nil]); first | done | rfl | (simp only [List.length_drop, List.length_take]; rfl)) ?_; (with_reducible refine (spec_l08With.calls _ _ l0 t2420 t2421 _ ?side1 ?side2 A2.out).mono ?_); (case side1 => repeat (first | exact HR0.out | (with_reducible refine Kd.C_alloc ?_ _) | (with_reducible refine Kd.C_drewN ?_ _) | (with_reducible refine Kd.C_drew ?_))); (case side2 => exact HC0.out); rintro e w5 ⟨rfl, hb⟩; refine ⟨_, rfl, ?_⟩; have n0_ := Aside0.mk (below_step (by repeat (first | (with_reducible first | exact HB.out | apply below_alloc | apply pw_below_drewN | apply below_drew1) | exact HB.out)) hb); clear HB; have HB := n0_; clear n0_; (try clear hb); (try clear hb2); (try clear hk); (try clear hi)) | ((with_reducible refine gate_callee (f := 133) rfl ?_); refine goesL_ (some 14) rfl rfl Try.func133 (by kernel_rfl) rfl #[.slice A0 l0.length c0] rfl (by (try simp only [List.map_toArray, List.map_cons, List.map_nil]); first | done | rfl | (simp only [List.length_drop, List.length_take]; rfl)) ?_; (with_reducible refine (spec_l01From.calls _ _ l0 t2422 t2423 t2424 w _ ?side1 ?side2 ?side3 A3.out).mono ?_); (case side1 => repeat (first | (with_reducible first | exact HB.out | apply below_alloc | apply pw_below_drewN | apply below_drew1) | exact HB.out)); (case side2 => exact HR0.out); (case side3 => exact HC0.out); rintro e w6 ⟨g2425, rfl, hi, hb, hb2⟩; refine ⟨_, rfl, ?_⟩; have n0_ := Aside0.mk (hb); have n1_ := Aside0.mk (hi); clear HB; have HB := n0_; have HI2425 := n1_; clear n0_ n1_; (try clear hb); (try clear hb2); (try clear hk); (try clear hi)) | ((with_reducible refine gate_callee (f := 136) rfl ?_); refine goesL_ (some 17) rfl rfl Try.func136 (by kernel_rfl) rfl #[.pointer (some ⟨g2425, 0, none⟩), .int .i64 (wrap64 (t2420 + 1))] rfl (by (try simp only [List.map_toArray, List.map_cons, List.map_nil]); first | done | rfl | (simp only [List.length_drop, List.length_take]; rfl)) ?_; (with_reducible refine (spec_l01Next.calls g2425 t2422 t2423 t2424 (wrap64 (t2420 + 1)) t2426 t2427 t2428 w _ ?side1 ?side2 A4.out).mono ?_); (case side1 => repeat (first | (with_reducible first | exact HI2425.out | apply IsS193.alloc | apply IsS193.drewN | apply IsS193.drew | apply IsS193.set_1 | apply IsS193.set_2) | exact HI2425.out)); (case side2 => repeat (first | (with_reducible first | exact HB.out | apply below_alloc | apply pw_below_drewN | apply below_drew1 | refine below_set ?_ (IsS193.ge HI2425.out)) | exact HB.out)); rintro e w7 ⟨rfl, hi, hb, hk⟩; refine ⟨_, rfl, ?_⟩; have n0_ := Aside0.mk (hb); have n1_ := Aside0.mk (hi); clear HB; clear HI2425; have HB := n0_; have HI2425 := n1_; clear n0_ n1_; (try clear hb); (try clear hb2); (try clear hk); (try clear hi)))
 go_ret3
 exact ⟨by first | rfl | (simp [errW_none, errW_some] <;> rfl) | (simp [*, errW_none, errW_some] <;> rfl), by repeat (first | (with_reducible first | exact HB.out | apply below_alloc | apply pw_below_drewN | apply below_drew1 | refine below_set ?_ (IsS193.ge HI2425.out)) | exact HB.out)⟩
end Go.Proofs.Ytmjfaagifijmlaa.P
namespace Go.Proofs.Ytmjfaagifijmlaa.P
open Go.RowKit Go.Proofs.YtmjfaagifijmlaaW.PrintWords Go.Proofs.YtmjfaagifijmlaaW.PrintLast Go.Proofs.YtmjfaagifijmlaaW.PrintMore
attribute [local go_sem] max2_int min2_int max_two min_two max_three min_three max_four min_four   -- for this text's walks alone
set_option linter.unusedVariables false
set_option linter.unusedSimpArgs false
/-! ### impl_ValueCounts: function 123 -/
def impl_ValueCounts.f (k : Nat) (a0 : Int) (a1 : Int) (a2 : Int) : Option (List Int × Int) := (impl_isPrime.f k a0).bind fun t2429 => (if t2429 = true then ((impl_within.f a1 1 (wrap64 (a0 - 1))).bind fun t2430 => (if t2430 = true then ((impl_isExponent.f a2).bind fun t2431 => (if t2431 = true then ((impl_valueCounts.f k a0 a1 a2 0).bind fun t2432 => (some (t2432, 0))) else (some (([] : List Int), 2)))) else (some (([] : List Int), 2)))) else (some (([] : List Int), 2)))
theorem impl_ValueCounts.mono : ∀ a0 a1 a2 k, LeO (impl_ValueCounts.f k a0 a1 a2) (impl_ValueCounts.f (k + 1) a0 a1 a2) := by
 intro a0 a1 a2 k
 unfold impl_ValueCounts.f
 repeat' first
  | (with_reducible exact impl_isPrime.mono _ _)
  | (with_reducible exact impl_valueCounts.mono _ _ _ _ _)
  | (with_reducible exact LeO.refl _)
  | (with_reducible exact LeO.none _)
  | (with_reducible refine LeO.ite ?_ ?_)
  | (with_reducible refine LeO.bind ?_ (fun _ => ?_))
  | exact impl_isPrime.mono _ _
  | exact impl_valueCounts.mono _ _ _ _ _
  | exact LeO.none _
  | refine LeO.ite ?_ ?_
  | refine LeO.bind ?_ (fun _ => ?_)
set_option maxHeartbeats 8000000 in
set_option maxRecDepth 100000 in
theorem impl_ValueCounts.calls (k : Nat) (a0 : Int) (a1 : Int) (a2 : Int) (r1 : List Int) (r2 : Int) (w : World) (h : impl_ValueCounts.f k a0 a1 a2 = some (r1, r2)) :
   Calls Try.prog 123 #[.int .i64 a0, .int .i64 a1, .int .i64 a2] w fun e w' => ∃ v0_ : Value, e = .returned (.tuple #[v0_, .int .i64 r2]) ∧ Kd.R (Kd.int .i64) 2 w' w.heap.size (fun _ => True) v0_ r1 ∧ Below w.heap.size w w' := by
 have HB := Aside0.mk (Below.refl w.heap.size w)
 have H : ((impl_isPrime.f k a0).bind fun t2429 => (if t2429 = true then ((impl_within.f a1 1 (wrap64 (a0 - 1))).bind fun t2430 => (if t2430 = true then ((impl_isExponent.f a2).bind fun t2431 => (if t2431 = true then ((impl_valueCounts.f k a0 a1 a2 0).bind fun t2432 => (some (t2432, 0))) else (some (([] : List Int), 2)))) else (some (([] : List Int), 2)))) else (some (([] : List Int), 2)))) = some (r1, r2) := h
 clear h
 replace H := Option.bind_eq_some_iff.mp H
 obtain ⟨t2429, A40, H⟩ := H
 replace H : (if t2429 = true then ((impl_within.f a1 1 (wrap64 (a0 - 1))).bind fun t2430 => (if t2430 = true then ((impl_isExponent.f a2).bind fun t2431 => (if t2431 = true then ((impl_valueCounts.f k a0 a1 a2 0).bind fun t2432 => (some (t2432, 0))) else (some (([] : List Int), 2)))) else (some (([] : List Int), 2)))) else (some (([] : List Int), 2))) = some (r1, r2) := H
 have A4 := Aside0.mk A40
 clear A40
 by_cases c5 : t2429 = true
 · subst c5
   have H1 : ((impl_within.f a1 1 (wrap64 (a0 - 1))).bind fun t2430 => (if t2430 = true then ((impl_isExponent.f a2).bind fun t2431 => (if t2431 = true then ((impl_valueCounts.f k a0 a1 a2 0).bind fun t2432 => (some (t2432, 0))) else (some (([] : List Int), 2)))) else (some (([] : List Int), 2)))) = some (r1, r2) := by rw [if_pos rfl] at H; exact H
   clear H
   have H := H1
   clear H1
   replace H := Option.bind_eq_some_iff.mp H
   obtain ⟨t2430, A60, H⟩ := H
   replace H : (if t2430 = true then ((impl_isExponent.f a2).bind fun t2431 => (if t2431 = true then ((impl_valueCounts.f k a0 a1 a2 0).bind fun t2432 => (some (t2432, 0))) else (some (([] : List Int), 2)))) else (some (([] : List Int), 2))) = some (r1, r2) := H
   have A6 := Aside0.mk A60
   clear A60
   by_cases c7 : t2430 = true
   · subst c7
     have H1 : ((impl_isExponent.f a2).bind fun t2431 => (if t2431 = true then ((impl_valueCounts.f k a0 a1 a2 0).bind fun t2432 => (some (t2432, 0))) else (some (([] : List Int), 2)))) = some (r1, r2) := by rw [if_pos rfl] at H; exact H
     clear H
     have H := H1
     clear H1
     replace H := Option.bind_eq_some_iff.mp H
     obtain ⟨t2431, A80, H⟩ := H
     replace H : (if t2431 = true then ((impl_valueCounts.f k a0 a1 a2 0).bind fun t2432 => (some (t2432, 0))) else (some (([] : List Int), 2))) = some (r1, r2) := H
     have A8 := Aside0.mk A80
     clear A80
     by_cases c9 : t2431 = true
     · subst c9
       have H1 : ((impl_valueCounts.f k a0 a1 a2 0).bind fun t2432 => (some (t2432, 0))) = some (r1, r2) := by rw [if_pos rfl] at H; exact H
       clear H
       have H := H1
       clear H1
       replace H := Option.bind_eq_some_iff.mp H
       obtain ⟨t2432, A100, H⟩ := H
       replace H : (some (t2432, 0)) = some (r1, r2) := H
       have A10 := Aside0.mk A100
       clear A100
       simp only [Option.some.injEq, Prod.mk.injEq] at H
       obtain ⟨rfl, rfl⟩ := H
       go_enter Try.func123, Try.ntmps123
       go_wp2_with (first | ((with_reducible refine gate_callee (f := 173) rfl ?_); refine goesL_ (some 9) rfl rfl Try.func173 (by kernel_rfl) rfl #[.int .i64 a0] rfl (by (try simp only [List.map_toArray, List.map_cons, List.map_nil]); first | done | rfl | (simp only [List.length_drop, List.length_take]; rfl)) ?_; (with_reducible refine (impl_isPrime.calls k a0 true _ A4.out).mono ?_); rintro e w' ⟨rfl, ⟨nd, rfl⟩⟩; refine ⟨_, rfl, ?_⟩) | (go_at_call 174; (with_reducible refine (impl_within.calls a1 1 (wrap64 (a0 - 1)) true _ A6.out).mono ?_); rintro e w' ⟨rfl, ⟨nd, rfl⟩⟩) | (go_at_call 246; (with_reducible refine (impl_isExponent.calls a2 true _ A8.out).mono ?_); rintro e w' ⟨rfl, ⟨nd, rfl⟩⟩) | ((with_reducible refine gate_callee (f := 247) rfl ?_); refine goesL_ (some 26) rfl rfl Try.func247 (by kernel_rfl) rfl #[.int .i64 a0, .int .i64 a1, .int .i64 a2, .int .i64 0] rfl (by (try simp only [List.map_toArray, List.map_cons, List.map_nil]); first | done | rfl | (simp only [List.length_drop, List.length_take]; rfl)) ?_; (with_reducible refine (impl_valueCounts.calls k a0 a1 a2 0 t2432 _ A10.out).mono ?_); rintro e w11 ⟨v2433, rfl, ho0, hb⟩; refine ⟨_, rfl, ?_⟩; have n0_ := Aside0.mk (Kd.R_lower ho0 (below_size (by repeat (first | (with_reducible first | exact HB.out | apply below_alloc | apply pw_below_drewN | apply below_drew1) | exact HB.out)))); have n1_ := Aside0.mk (below_step (by repeat (first | (with_reducible first | exact HB.out | apply below_alloc | apply pw_below_drewN | apply below_drew1) | exact HB.out)) hb); clear HB; have HO2434 := n0_; have HB := n1_; clear n0_ n1_; (try clear hb); (try clear hb2); (try clear hk); (try clear hi); (try clear ho0)))
       go_ret2
       exact ⟨_, by first | rfl | (simp [errW_none, errW_some] <;> rfl) | (simp [*, errW_none, errW_some] <;> rfl), by (with_reducible repeat (first | apply Kd.R_alloc | apply Kd.R_drewN | apply Kd.R_drew)); exact HO2434.out, by repeat (first | (with_reducible first | exact HB.out | apply below_alloc | apply pw_below_drewN | apply below_drew1) | exact HB.out)⟩
     · replace c9 := Bool.eq_false_iff.mpr c9
       subst c9
       have H1 : (some (([] : List Int), 2)) = some (r1, r2) := by rw [if_neg (show ¬ (false = true) by decide)] at H; exact H
       clear H
       have H := H1
       clear H1
       simp only [Option.some.injEq, Prod.mk.injEq] at H
       obtain ⟨rfl, rfl⟩ := H
       go_enter Try.func123, Try.ntmps123
       go_wp2_with (first | ((with_reducible refine gate_callee (f := 173) rfl ?_); refine goesL_ (some 9) rfl rfl Try.func173 (by kernel_rfl) rfl #[.int .i64 a0] rfl (by (try simp only [List.map_toArray, List.map_cons, List.map_nil]); first | done | rfl | (simp only [List.length_drop, List.length_take]; rfl)) ?_; (with_reducible refine (impl_isPrime.calls k a0 true _ A4.out).mono ?_); rintro e w' ⟨rfl, ⟨nd, rfl⟩⟩; refine ⟨_, rfl, ?_⟩) | (go_at_call 174; (with_reducible refine (impl_within.calls a1 1 (wrap64 (a0 - 1)) true _ A6.out).mono ?_); rintro e w' ⟨rfl, ⟨nd, rfl⟩⟩) | (go_at_call 246; (with_reducible refine (impl_isExponent.calls a2 false _ A8.out).mono ?_); rintro e w' ⟨rfl, ⟨nd, rfl⟩⟩))
       go_ret2
       exact ⟨_, by first | rfl | (simp [errW_none, errW_some] <;> rfl) | (simp [*, errW_none, errW_some] <;> rfl), by first | exact Kd.R_nil _ _ _ _ _ | exact Kd.N_nil _ _ _ _ _ | exact Kd.V_nil _ _ _ _ _ | exact Kd.Q_nil _ _ _ _ _ | exact Kd.S_nil _ _ _ _ _, by repeat (first | (with_reducible first | exact HB.out | apply below_alloc | apply pw_below_drewN | apply below_drew1) | exact HB.out)⟩
   · replace c7 := Bool.eq_false_iff.mpr c7
     subst c7
     have H1 : (some (([] : List Int), 2)) = some (r1, r2) := by rw [if_neg (show ¬ (false = true) by decide)] at H; exact H
     clear H
     have H := H1
     clear H1
     simp only [Option.some.injEq, Prod.mk.injEq] at H
     obtain ⟨rfl, rfl⟩ := H
     go_enter Try.func123, Try.ntmps123
     go_wp2_with (first | ((with_reducible refine gate_callee (f := 173) rfl ?_); refine goesL_ (some 9) rfl rfl Try.func173 (by kernel_rfl) rfl #[.int .i64 a0] rfl (by (try simp only [List.map_toArray, List.map_cons, List.map_nil]); first | done | rfl | (simp only [List.length_drop, List.length_take]; rfl)) ?_; (with_reducible refine (impl_isPrime.calls k a0 true _ A4.out).mono ?_); rintro e w' ⟨rfl, ⟨nd, rfl⟩⟩; refine ⟨_, rfl, ?_⟩) | (go_at_call 174; (with_reducible refine (impl_within.calls a1 1 (wrap64 (a0 - 1)) false _ A6.out).mono ?_); rintro e w' ⟨rfl, ⟨nd, rfl⟩⟩))
     go_ret2
     exact ⟨_, by first | rfl | (simp [errW_none, errW_some] <;> rfl) | (simp [*, errW_none, errW_some] <;> rfl), by first | exact Kd.R_nil _ _ _ _ _ | exact Kd.N_nil _ _ _ _ _ | exact Kd.V_nil _ _ _ _ _ | exact Kd.Q_nil _ _ _ _ _ | exact Kd.S_nil _ _ _ _ _, by repeat (first | (with_reducible first | exact HB.out | apply below_alloc | apply pw_below_drewN | apply below_drew1) | exact HB.out)⟩
 · replace c5 := Bool.eq_false_iff.mpr c5
   subst c5
   have H1 : (some (([] : List Int), 2)) = some (r1, r2) := by rw [if_neg (show ¬ (false = true) by decide)] at H; exact H
   clear H
   have H := H1
   clear H1
   simp only [Option.some.injEq, Prod.mk.injEq] at H
   obtain ⟨rfl, rfl⟩ := H
   go_enter Try.func123, Try.ntmps123
   go_wp2_with (first | ((with_reducible refine gate_callee (f := 173) rfl ?_); refine goesL_ (some 9) rfl rfl Try.func173 (by kernel_rfl) rfl #[.int .i64 a0] rfl (by (try simp only [List.map_toArray, List.map_cons, List.map_nil]); first | done | rfl | (simp only [List.length_drop, List.length_take]; rfl)) ?_; (with_reducible refine (impl_isPrime.calls k a0 false _ A4.out).mono ?_); rintro e w' ⟨rfl, ⟨nd, rfl⟩⟩; refine ⟨_, rfl, ?_⟩))
   go_ret2
   exact ⟨_, by first | rfl | (simp [errW_none, errW_some] <;> rfl) | (simp [*, errW_none, errW_some] <;> rfl), by first | exact Kd.R_nil _ _ _ _ _ | exact Kd.N_nil _ _ _ _ _ | exact Kd.V_nil _ _ _ _ _ | exact Kd.Q_nil _ _ _ _ _ | exact Kd.S_nil _ _ _ _ _, by repeat (first | (with_reducible first | exact HB.out | apply below_alloc | apply pw_below_drewN | apply below_drew1) | exact HB.out)⟩
end Go.Proofs.Ytmjfaagifijmlaa.P
namespace Go.Proofs.Ytmjfaagifijmlaa.P
open Go.RowKit Go.Proofs.YtmjfaagifijmlaaW.PrintWords Go.Proofs.YtmjfaagifijmlaaW.PrintLast Go.Proofs.YtmjfaagifijmlaaW.PrintMore
attribute [local go_sem] max2_int min2_int max_two min_two max_three min_three max_four min_four   -- for this text's walks alone
set_option linter.unusedVariables false
set_option linter.unusedSimpArgs false
/-! ### spec_ValueCounts: function 124 -/
def spec_ValueCounts.j0 : Nat → Int → Int → Int → Int → Bool → Option (List Int × Int)
 | 0, _, _, _, _, _ => none
 | k + 1, x0, x1, x2, x8, x21 => if x21 = true then (some (([] : List Int), 2)) else (if x8 = 0 then ((spec_l08Values.f k x0 x1 x2).bind fun t2440 => (some (t2440, 0))) else (some (([] : List Int), x8)))
def spec_ValueCounts.f (k : Nat) (a0 : Int) (a1 : Int) (a2 : Int) : Option (List Int × Int) := (spec_l08Code.f k a0 (([a2] : List Int))).bind fun t2438 => (if t2438 = 0 then ((spec_l01In.f a1 1 (wrap64 (a0 - 1))).bind fun t2439 => (spec_ValueCounts.j0 k a0 a1 a2 t2438 (!t2439))) else (spec_ValueCounts.j0 k a0 a1 a2 t2438 false))
theorem spec_ValueCounts.mono_l : ∀ k, (∀ y0 y1 y2 y3 y4, LeO (spec_ValueCounts.j0 k y0 y1 y2 y3 y4) (spec_ValueCounts.j0 (k + 1) y0 y1 y2 y3 y4))
 | 0 => fun _ _ _ _ _ r h => by simp [spec_ValueCounts.j0] at h
 | k + 1 => by
  have ih0 := spec_ValueCounts.mono_l k
  · intro y0 y1 y2 y3 y4
    unfold spec_ValueCounts.j0
    repeat' first
    | (with_reducible exact ih0 _ _ _ _ _)
    | (with_reducible exact spec_l08Code.mono _ _ _)
    | (with_reducible exact spec_l08Values.mono _ _ _ _)
    | (with_reducible exact LeO.refl _)
    | (with_reducible exact LeO.none _)
    | (with_reducible refine LeO.ite ?_ ?_)
    | (with_reducible refine LeO.bind ?_ (fun _ => ?_))
    | exact ih0 _ _ _ _ _
    | exact spec_l08Code.mono _ _ _
    | exact spec_l08Values.mono _ _ _ _
    | exact LeO.none _
    | refine LeO.ite ?_ ?_
    | refine LeO.bind ?_ (fun _ => ?_)
theorem spec_ValueCounts.mono : ∀ a0 a1 a2 k, LeO (spec_ValueCounts.f k a0 a1 a2) (spec_ValueCounts.f (k + 1) a0 a1 a2) := by
 intro a0 a1 a2 k
 have ih0 := spec_ValueCounts.mono_l k
 unfold spec_ValueCounts.f
 repeat' first
  | (with_reducible exact ih0 _ _ _ _ _)
  | (with_reducible exact spec_l08Code.mono _ _ _)
  | (with_reducible exact spec_l08Values.mono _ _ _ _)
  | (with_reducible exact LeO.refl _)
  | (with_reducible exact LeO.none _)
  | (with_reducible refine LeO.ite ?_ ?_)
  | (with_reducible refine LeO.bind ?_ (fun _ => ?_))
  | exact ih0 _ _ _ _ _
  | exact spec_l08Code.mono _ _ _
  | exact spec_l08Values.mono _ _ _ _
  | exact LeO.none _
  | refine LeO.ite ?_ ?_
  | refine LeO.bind ?_ (fun _ => ?_)
set_option maxHeartbeats 8000000 in
set_option maxRecDepth 100000 in
theorem spec_ValueCounts.calls (k : Nat) (a0 : Int) (a1 : Int) (a2 : Int) (r1 : List Int) (r2 : Int) (w : World) (h : spec_ValueCounts.f k a0 a1 a2 = some (r1, r2)) :
   Calls Try.prog 124 #[.int .i64 a0, .int .i64 a1, .int .i64 a2] w fun e w' => ∃ v0_ : Value, e = .returned (.tuple #[v0_, .int .i64 r2]) ∧ Kd.R (Kd.int .i64) 2 w' w.heap.size (fun _ => True) v0_ r1 ∧ Below w.heap.size w w' := by
 have HB := Aside0.mk (Below.refl w.heap.size w)
 have H : ((spec_l08Code.f k a0 (([a2] : List Int))).bind fun t2438 => (if t2438 = 0 then ((spec_l01In.f a1 1 (wrap64 (a0 - 1))).bind fun t2439 => (spec_ValueCounts.j0 k a0 a1 a2 t2438 (!t2439))) else (spec_ValueCounts.j0 k a0 a1 a2 t2438 false))) = some (r1, r2) := h
 clear h
 obtain ⟨y2435, hy2435⟩ : ∃ y_ : List Int, y_ = (([a2] : List Int)) := ⟨_, rfl⟩
 replace H : ((spec_l08Code.f k a0 y2435).bind fun t2438 => (if t2438 = 0 then ((spec_l01In.f a1 1 (wrap64 (a0 - 1))).bind fun t2439 => (spec_ValueCounts.j0 k a0 a1 a2 t2438 (!t2439))) else (spec_ValueCounts.j0 k a0 a1 a2 t2438 false))) = some (r1, r2) := by first | (rw [hy2435]; with_reducible exact H) | (have H2_ := (Option.bind_some _ _).symm.trans H; rw [hy2435]; with_reducible exact H2_) | (have H2_ := (Option.bind_some _ _).symm.trans H; with_reducible exact H2_) | with_reducible exact H | (rw [hy2435]; exact H) | exact H
 have Ny2435 := Aside0.mk hy2435
 clear hy2435
 replace H := Option.bind_eq_some_iff.mp H
 obtain ⟨t2438, A40, H⟩ := H
 replace H : (if t2438 = 0 then ((spec_l01In.f a1 1 (wrap64 (a0 - 1))).bind fun t2439 => (spec_ValueCounts.j0 k a0 a1 a2 t2438 (!t2439))) else (spec_ValueCounts.j0 k a0 a1 a2 t2438 false)) = some (r1, r2) := H
 have A4 := Aside0.mk A40
 clear A40
 have HC5 := Aside0.mk H
 clear H
 go_enter Try.func124, Try.ntmps124
 go_upto_region 2 with (first | ((with_reducible refine gate_dst (N := 11) rfl ?_); refine Kd.R_lit (Kd.int .i64) _ 2 ?hg (N := 11) ?hd (xs := ([a2] : List Int)) (inner := [.int .i64 a2]) (ok := fun _ => True) (okp := fun _ => True) ?hr ?hp (fun _ hk => hk) trivial (Below.refl _ _) (Nat.le_refl _) (by simp) ?_; (case hd => rfl); (case hg => rfl); (case hr => first | (go_simp; done) | (go_simp; rfl)); (case hp => exact (Reps.one (show Kd.M (Kd.int .i64) _ _ _ a2 [.int .i64 a2] from rfl) (Reps.none _ _))); intro v2436 w6 ho7 hb hg_ hnew_; clear hg_ hnew_; (first | rw [← Ny2435.out] at ho7 | (simp only [Int.reduceToNat] at ho7; rw [← Ny2435.out] at ho7)); have n0_ := Aside0.mk (Kd.R_lower ho7 (below_size (by repeat (first | (with_reducible first | exact HB.out | apply below_alloc | apply pw_below_drewN | apply below_drew1) | exact HB.out)))); have n1_ := Aside0.mk (below_step (by repeat (first | (with_reducible first | exact HB.out | apply below_alloc | apply pw_below_drewN | apply below_drew1) | exact HB.out)) hb); clear HB; have HO2437 := n0_; have HB := n1_; clear n0_ n1_; clear hb ho7; obtain ⟨Ao8, co8, eo8⟩ := Kd.R_slice HO2437.out; subst eo8) | ((with_reducible refine gate_callee (f := 248) rfl ?_); refine goesL_ (some 12) rfl rfl Try.func248 (by kernel_rfl) rfl #[.int .i64 a0, .slice Ao8 y2435.length co8] rfl (by (try simp only [List.map_toArray, List.map_cons, List.map_nil]); first | done | rfl | (simp only [List.length_drop, List.length_take]; rfl)) ?_; (with_reducible refine (spec_l08Code.calls k a0 _ _ y2435 t2438 _ ?side1 ?side2 A4.out).mono ?_); (case side1 => repeat (first | exact (Kd.R_reads' HO2437.out).2.2 | (with_reducible refine Kd.C_alloc ?_ _) | (with_reducible refine Kd.C_drewN ?_ _) | (with_reducible refine Kd.C_drew ?_))); (case side2 => exact (Kd.R_reads' HO2437.out).2.1); rintro e w' ⟨rfl, ⟨nd, rfl⟩⟩; refine ⟨_, rfl, ?_⟩))
 (try simp only [Act.put, List.setIfInBounds_toArray, List.set_cons_zero, List.set_cons_succ])
 go_cut [21] (fun v21 wc => ∃ (kq : Nat) (x21_4 : Bool), v21 = .bool x21_4 ∧ Aside0 (spec_ValueCounts.j0 kq a0 a1 a2 t2438 x21_4 = some (r1, r2)) ∧ Aside0 (kq ≤ k) ∧ Aside0 (Below w.heap.size w wc))
 case first =>
  have H := HC5.out
  clear HC5
  by_cases c9 : t2438 = 0
  · rw [if_pos c9] at H
    have c9b0 : (t2438 == 0) = true := beq_iff_eq.mpr c9
    have c9b1 : (t2438 != 0) = false := bne_eq_false_iff_eq.mpr c9
    clear c9
    (first | rw [c9b0] | (simp only [i64_w, i32_w]; rw [c9b0]) | rw [c9b2] | simp only [c9b2] | skip)
    replace H := Option.bind_eq_some_iff.mp H
    obtain ⟨t2439, A100, H⟩ := H
    replace H : (spec_ValueCounts.j0 k a0 a1 a2 t2438 (!t2439)) = some (r1, r2) := H
    have A10 := Aside0.mk A100
    clear A100
    have H' := Aside0.mk H
    clear H
    go_wp2_with (first | (go_at_call 171; (with_reducible refine (spec_l01In.calls a1 1 (wrap64 (a0 - 1)) t2439 _ A10.out).mono ?_); rintro e w' ⟨rfl, ⟨nd, rfl⟩⟩))
    go_meet
    case rel => exact ⟨_, (!t2439), (by first | rfl | (simp; done) | (simp [*]; done)), H', ⟨by first | omega | exact Nat.le_refl _⟩, ⟨by repeat (first | (with_reducible first | exact HB.out | apply below_alloc | apply pw_below_drewN | apply below_drew1) | exact HB.out)⟩⟩
  · rw [if_neg c9] at H
    have c9b0 : (t2438 == 0) = false := beq_eq_false_iff_ne.mpr c9
    have c9b1 : (t2438 != 0) = true := bne_iff_ne.mpr c9
    (first | rw [c9b0] | (simp only [i64_w, i32_w]; rw [c9b0]) | rw [c9b2] | simp only [c9b2] | skip)
    have H' := Aside0.mk H
    clear H
    go_wp2
    go_meet
    case rel => exact ⟨_, (false), (by first | rfl | (simp; done) | (simp [*]; done)), H', ⟨by first | omega | exact Nat.le_refl _⟩, ⟨by repeat (first | (with_reducible first | exact HB.out | apply below_alloc | apply pw_below_drewN | apply below_drew1) | exact HB.out)⟩⟩
 case rest =>
 clear HC5
 try clear c1
 try clear c2
 try clear p2
 try clear p6
 try clear c9
 try clear c9b0
 try clear c9b1
 try clear c9b2
 obtain ⟨kq, x21_4, rfl, HA, HJ4, HB⟩ := hcut
 cases kq with
 | zero => exact absurd HA.out (by simp [spec_ValueCounts.j0])
 | succ kj4 =>
  have H := HA.out
  clear HA
  simp only [spec_ValueCounts.j0] at H
  by_cases c11 : x21_4 = true
  · subst c11
    have H1 : (some (([] : List Int), 2)) = some (r1, r2) := by rw [if_pos rfl] at H; exact H
    clear H
    have H := H1
    clear H1
    simp only [Option.some.injEq, Prod.mk.injEq] at H
    obtain ⟨rfl, rfl⟩ := H
    go_wp2
    go_ret2
    exact ⟨_, by first | rfl | (simp [errW_none, errW_some] <;> rfl) | (simp [*, errW_none, errW_some] <;> rfl), by first | exact Kd.R_nil _ _ _ _ _ | exact Kd.N_nil _ _ _ _ _ | exact Kd.V_nil _ _ _ _ _ | exact Kd.Q_nil _ _ _ _ _ | exact Kd.S_nil _ _ _ _ _, by repeat (first | (with_reducible first | exact HB.out | apply below_alloc | apply pw_below_drewN | apply below_drew1) | exact HB.out)⟩
  · replace c11 := Bool.eq_false_iff.mpr c11
    subst c11
    have H1 : (if t2438 = 0 then ((spec_l08Values.f kj4 a0 a1 a2).bind fun t2440 => (some (t2440, 0))) else (some (([] : List Int), t2438))) = some (r1, r2) := by rw [if_neg (show ¬ (false = true) by decide)] at H; exact H
    clear H
    have H := H1
    clear H1
    by_cases c12 : t2438 = 0
    · rw [if_pos c12] at H
      have c12b0 : (t2438 == 0) = true := beq_iff_eq.mpr c12
      have c12b1 : (t2438 != 0) = false := bne_eq_false_iff_eq.mpr c12
      clear c12
      replace H := Option.bind_eq_some_iff.mp H
      obtain ⟨t2440, A130, H⟩ := H
      replace H : (some (t2440, 0)) = some (r1, r2) := H
      have A13 := Aside0.mk A130
      clear A130
      simp only [Option.some.injEq, Prod.mk.injEq] at H
      obtain ⟨rfl, rfl⟩ := H
      go_wp2_with (first | ((with_reducible refine gate_callee (f := 249) rfl ?_); refine goesL_ (some 28) rfl rfl Try.func249 (by kernel_rfl) rfl #[.int .i64 a0, .int .i64 a1, .int .i64 a2] rfl (by (try simp only [List.map_toArray, List.map_cons, List.map_nil]); first | done | rfl | (simp only [List.length_drop, List.length_take]; rfl)) ?_; (with_reducible refine (spec_l08Values.calls kj4 a0 a1 a2 t2440 _ A13.out).mono ?_); rintro e w14 ⟨v2441, rfl, ho0, hb⟩; refine ⟨_, rfl, ?_⟩; have n0_ := Aside0.mk (Kd.R_lower ho0 (below_size (by repeat (first | (with_reducible first | exact HB.out | apply below_alloc | apply pw_below_drewN | apply below_drew1) | exact HB.out)))); have n1_ := Aside0.mk (below_step (by repeat (first | (with_reducible first | exact HB.out | apply below_alloc | apply pw_below_drewN | apply below_drew1) | exact HB.out)) hb); clear HB; have HO2442 := n0_; have HB := n1_; clear n0_ n1_; (try clear hb); (try clear hb2); (try clear hk); (try clear hi); (try clear ho0)))
      go_ret2
      exact ⟨_, by first | rfl | (simp [errW_none, errW_some] <;> rfl) | (simp [*, errW_none, errW_some] <;> rfl), by (with_reducible repeat (first | apply Kd.R_alloc | apply Kd.R_drewN | apply Kd.R_drew)); exact HO2442.out, by repeat (first | (with_reducible first | exact HB.out | apply below_alloc | apply pw_below_drewN | apply below_drew1) | exact HB.out)⟩
    · rw [if_neg c12] at H
      have c12b0 : (t2438 == 0) = false := beq_eq_false_iff_ne.mpr c12
      have c12b1 : (t2438 != 0) = true := bne_iff_ne.mpr c12
      simp only [Option.some.injEq, Prod.mk.injEq] at H
      obtain ⟨rfl, rfl⟩ := H
      go_wp2
      go_ret2
      exact ⟨_, by first | rfl | (simp [errW_none, errW_some] <;> rfl) | (simp [*, errW_none, errW_some] <;> rfl), by first | exact Kd.R_nil _ _ _ _ _ | exact Kd.N_nil _ _ _ _ _ | exact Kd.V_nil _ _ _ _ _ | exact Kd.Q_nil _ _ _ _ _ | exact Kd.S_nil _ _ _ _ _, by repeat (first | (with_reducible first | exact HB.out | apply below_alloc | apply pw_below_drewN | apply below_drew1) | exact HB.out)⟩
end Go.Proofs.Ytmjfaagifijmlaa.P
namespace Go.Proofs.Ytmjfaagifijmlaa.P
open Go.RowKit Go.Proofs.YtmjfaagifijmlaaW.PrintWords Go.Proofs.YtmjfaagifijmlaaW.PrintLast Go.Proofs.YtmjfaagifijmlaaW.PrintMore
attribute [local go_sem] max2_int min2_int max_two min_two max_three min_three max_four min_four   -- for this text's walks alone
set_option linter.unusedVariables false
set_option linter.unusedSimpArgs false
/-! ### spec_DrawPowersOf: function 125 -/
def spec_DrawPowersOf.f (l0 : List Int) : Option (Int × Int) := (spec_l08With.f l0).bind fun bt2443 => (some (bt2443.1, bt2443.2))
set_option maxHeartbeats 8000000 in
set_option maxRecDepth 100000 in
theorem spec_DrawPowersOf.calls (A0 : Option Addr) (c0 : Nat) (l0 : List Int) (r1 : Int) (r2 : Int) (w : World) (hr0 : Kd.C (Kd.int .u8) w A0 l0.length l0) (hc0 : l0.length ≤ c0) (h : spec_DrawPowersOf.f l0 = some (r1, r2)) :
   Calls Try.prog 125 #[.slice A0 l0.length c0] w fun e w' => e = .returned (.tuple #[.int .i64 r1, .int .i64 r2]) ∧ Below w.heap.size w w' := by
 have HR0 := Aside0.mk hr0
 have HC0 := Aside0.mk hc0
 clear hr0 hc0
 have HB := Aside0.mk (Below.refl w.heap.size w)
 have H : ((spec_l08With.f l0).bind fun bt2443 => (some (bt2443.1, bt2443.2))) = some (r1, r2) := h
 clear h
 replace H := Option.bind_eq_some_iff.mp H
 obtain ⟨⟨t2443, t2444⟩, A20, H⟩ := H
 replace H : (some (t2443, t2444)) = some (r1, r2) := H
 have A2 := Aside0.mk A20
 clear A20
 simp only [Option.some.injEq, Prod.mk.injEq] at H
 obtain ⟨rfl, rfl⟩ := H
 go_enter Try.func125, Try.ntmps125
 go_wp2_with (first | ((with_reducible refine gate_callee (f := 245) rfl ?_); refine goesL_ (some 5) rfl rfl Try.func245 (by kernel_rfl) rfl #[.slice A0 l0.length c0] rfl (by (try simp only [List.map_toArray, List.map_cons, List.map_nil]); first | done | rfl | (simp only [List.length_drop, List.length_take]; rfl)) ?_; (with_reducible refine (spec_l08With.calls _ _ l0 t2443 t2444 _ ?side1 ?side2 A2.out).mono ?_); (case side1 => repeat (first | exact HR0.out | (with_reducible refine Kd.C_alloc ?_ _) | (with_reducible refine Kd.C_drewN ?_ _) | (with_reducible refine Kd.C_drew ?_))); (case side2 => exact HC0.out); rintro e w3 ⟨rfl, hb⟩; refine ⟨_, rfl, ?_⟩; have n0_ := Aside0.mk (below_step (by repeat (first | (with_reducible first | exact HB.out | apply below_alloc | apply pw_below_drewN | apply below_drew1) | exact HB.out)) hb); clear HB; have HB := n0_; clear n0_; (try clear hb); (try clear hb2); (try clear hk); (try clear hi)))
 go_ret2
 exact ⟨by first | rfl | (simp [errW_none, errW_some] <;> rfl) | (simp [*, errW_none, errW_some] <;> rfl), by repeat (first | (with_reducible first | exact HB.out | apply below_alloc | apply pw_below_drewN | apply below_drew1) | exact HB.out)⟩
end Go.Proofs.Ytmjfaagifijmlaa.P
/-! The different powers: sorted, and each once. -/
namespace Go.Proofs.Ytmjfaagifijmlaa.P
open Go.Sort Go.Proofs Go.RowKit Go.Proofs.YtmjfaagifijmlaaW.PrintWords Go.Proofs.YtmjfaagifijmlaaW.PrintLast Go.Proofs.YtmjfaagifijmlaaW.PrintMore
set_option linter.unusedVariables false
set_option linter.unusedSimpArgs false
theorem grow_none (w : World) : grow w #[] = w := by
  obtain ⟨⟩ := w
  simp [grow]
/-! ### impl_differentPowers: function 250 -/
def sortedOnce (l : List Int) : List Int := Go.Lib.compactUpTo (l.mergeSort fun x y => decide (x ≤ y)).toArray (l.mergeSort fun x y => decide (x ≤ y)).toArray.size
def impl_differentPowers.f (k : Nat) (a0 : Int) (a1 : Int) : Option (List Int) := (impl_powersOf.f k a0 a1).bind fun l => if 0 < l.length ∧ l.length ≤ 1000000 then some (sortedOnce l) else none
theorem impl_differentPowers.mono : ∀ a0 a1 k, LeO (impl_differentPowers.f k a0 a1) (impl_differentPowers.f (k + 1) a0 a1) := fun a0 a1 k => LeO.bind (impl_powersOf.mono _ _ _) (fun _ => LeO.refl _)
set_option maxHeartbeats 400000 in
set_option maxRecDepth 100000 in
theorem impl_differentPowers.calls (k : Nat) (a0 : Int) (a1 : Int) (r : List Int) (w : World) (h : impl_differentPowers.f k a0 a1 = some r) :
    Calls Try.prog 250 #[.int .i64 a0, .int .i64 a1] w fun e w' => ∃ v0_ : Value, e = .returned (v0_) ∧ Kd.R (Kd.int .i64) 2 w' w.heap.size (fun _ => True) v0_ r ∧ Below w.heap.size w w' := by
  unfold impl_differentPowers.f at h
  obtain ⟨l, hl, h⟩ := Option.bind_eq_some_iff.mp h
  have hcond : 0 < l.length ∧ l.length ≤ 1000000 := by
    by_cases hh : 0 < l.length ∧ l.length ≤ 1000000
    · exact hh
    · rw [if_neg hh] at h; cases h
  rw [if_pos hcond] at h
  obtain rfl := Option.some.inj h
  have HA := Aside0.mk hl
  have H1 := Aside0.mk hcond.1
  have H2 := Aside0.mk hcond.2
  clear h hl hcond
  go_enter Try.func250, Try.ntmps250
  go_wp2_with fail
  refine (impl_powersOf.calls k a0 a1 l w HA.out).mono ?_
  rintro e w1 ⟨v, rfl, hR, hB⟩
  have hown := Kd.own_of_R hR
  rcases hown.2 with ⟨_, h0⟩ | ⟨g, cap, cur, rfl, hbase, hb, hnc, hcm, hsz, htake⟩
  · exact absurd h0 (Nat.ne_of_gt H1.out)
  have hH : Go.Sort.Holds (Value.int .i64) w1 g 0 l.toArray := holds_of_blockI hb (by rw [Nat.mul_one] at htake; simpa [encs] using htake)
  have HC := Aside0.mk (Try.slices_Sort g 0 cap l w1 hH (Array.getElem?_eq_some_iff.1 hb).1 (by have := H2.out; omega))
  have HB1 := Aside0.mk hB
  have HBase := Aside0.mk hbase
  have Hb := Aside0.mk hb
  have Hn := Aside0.mk hnc
  have Hm := Aside0.mk hcm
  have Hs := Aside0.mk hsz
  clear hR hown hB hbase hb hnc hcm hsz htake hH
  go_wp2_with fail
  refine HC.out.mono ?_
  rintro e w2 ⟨rfl, n, os, hw2⟩
  obtain ⟨s, hs⟩ : ∃ s, s = l.mergeSort fun x y => decide (x ≤ y) := ⟨_, rfl⟩
  have hsl : s.length = l.length := by rw [hs, List.length_mergeSort]
  have hso : sortedOnce l = Go.Lib.compactUpTo s.toArray s.toArray.size := by rw [hs]; rfl
  rw [← hs] at hw2
  have hb2 : w2.heap[g]? = some (.cells (putCells (Value.int .i64) 0 s.toArray cur) 2 (0, 0)) := by rw [hw2]; exact heap_sortedI _ Hb.out
  have hG2 : w1.grownBy w2 (some g) := by rw [hw2]; exact grownBy_sortedI _
  have hcs : cur.size = cap := by have := Hs.out; omega
  have hH2 : Holds (Value.int .i64) w2 g 0 s.toArray := holds_of_blockI hb2 (take_putCellsI cur s (by have := Hn.out; omega))
  have hcl : (Go.Lib.compactUpTo s.toArray s.toArray.size).length ≤ l.length := by
    rw [← hsl]
    unfold Go.Lib.compactUpTo
    rw [List.length_map]
    exact Nat.le_trans (List.length_filter_le _ _) (by simp)
  have e1 : s.toArray.size = l.length := by simpa using hsl
  obtain ⟨c, hc⟩ : ∃ c, c = Go.Lib.compactUpTo s.toArray s.toArray.size := ⟨_, rfl⟩
  have HK := AnyE.slices_Compact Try.laysCompact (Value.int .i64) (fun _ => rfl) (EqlAt.intD _ _ .i64) (NeqAt.intD _ _ .i64) 0 (fun w => Try.zeroValue2 w) g 0 cap s.toArray w2 hH2 (by have := H2.out; simp; omega) (by have := Hn.out; simp; omega)
  rw [← hc, e1] at HK
  rw [← hc] at hcl hso
  have HSO := Aside0.mk hso
  have HK := Aside0.mk HK
  have Hcl := Aside0.mk hcl
  have Hb2 := Aside0.mk hb2
  have HB2 := Aside0.mk (HB1.out.trans (⟨hG2.os, hG2.tape, hG2.output, hG2.size, fun i hi => hG2.block i (Nat.lt_of_lt_of_le hi HB1.out.size) (fun e => by cases e; have := HBase.out; omega)⟩ : Below w.heap.size w1 w2))
  clear hH2 hG2 hb2 hcl hw2 hs hso hsl hc e1 HC
  go_wp2_with fail
  refine HK.out.mono ?_
  rintro e w3 ⟨rfl, q, hw3⟩
  have hw3' : w3 = grow (putRow (Value.int .i64) (Sort.ahead w2 q) g 0 (c ++ List.replicate (l.length - c.length) 0).toArray) #[] := by rw [hw3, grow_none]
  have Hb3 := Aside0.mk (show w3.heap[g]? = some (.cells (putCells (Value.int .i64) 0 (c ++ List.replicate (l.length - c.length) 0).toArray (putCells (Value.int .i64) 0 s.toArray cur)) 2 (0, 0)) by rw [hw3']; exact heap_sortedI _ Hb2.out)
  have hG3 : w2.grownBy w3 (some g) := by rw [hw3']; exact grownBy_sortedI _
  have HB3 := Aside0.mk (HB2.out.trans (⟨hG3.os, hG3.tape, hG3.output, hG3.size, fun i hi => hG3.block i (Nat.lt_of_lt_of_le hi HB2.out.size) (fun e => by cases e; have := HBase.out; omega)⟩ : Below w.heap.size w2 w3))
  have hsz : (putCells (Value.int .i64) 0 s.toArray cur).size = cap := by have := Hs.out; simp [putCells]; omega
  have htk := take_putCellsI (putCells (Value.int .i64) 0 s.toArray cur) (c ++ List.replicate (l.length - c.length) 0) (by have h1 := Hn.out; have h2 := Hcl.out; simp; omega)
  have Ht := Aside0.mk (show (putCells (Value.int .i64) 0 (c ++ List.replicate (l.length - c.length) 0).toArray (putCells (Value.int .i64) 0 s.toArray cur)).toList.take (c.length * 1) = encs (Value.int .i64) c by
    have h3 := congrArg (List.take c.length) htk
    rw [List.take_take, Nat.min_eq_left (by simp)] at h3
    rw [Nat.mul_one, h3, List.map_append, List.take_append_of_le_length (by simp), List.take_of_length_le (by simp)]
    rfl)
  have Hz := Aside0.mk (show (putCells (Value.int .i64) 0 (c ++ List.replicate (l.length - c.length) 0).toArray (putCells (Value.int .i64) 0 s.toArray cur)).size = cap * 1 by simp [putCells] at hsz ⊢; exact hsz)
  clear hw3 hw3' hG3 hsz htk
  go_wp2
  go_ret
  refine ⟨_, rfl, ?_, HB3.out⟩
  rw [HSO.out]
  exact Kd.R_of_own ⟨by simp [encs], .inr ⟨g, cap, _, rfl, HBase.out, Hb3.out, Nat.le_trans Hcl.out Hn.out, Hm.out, Hz.out, Ht.out⟩⟩ (fun _ _ => trivial)
end Go.Proofs.Ytmjfaagifijmlaa.P
namespace Go.Proofs.Ytmjfaagifijmlaa.P
open Go.RowKit Go.Proofs.YtmjfaagifijmlaaW.PrintWords Go.Proofs.YtmjfaagifijmlaaW.PrintLast Go.Proofs.YtmjfaagifijmlaaW.PrintMore
attribute [local go_sem] max2_int min2_int max_two min_two max_three min_three max_four min_four   -- for this text's walks alone
set_option linter.unusedVariables false
set_option linter.unusedSimpArgs false
/-! ### impl_PowersOf: function 126 -/
def impl_PowersOf.f (k : Nat) (a0 : Int) (a1 : Int) : Option (List Int × Int) := (impl_isPrime.f k a0).bind fun t2579 => (if t2579 = true then ((impl_isExponent.f a1).bind fun t2580 => (if t2580 = true then ((impl_differentPowers.f k a0 a1).bind fun t2581 => (some (t2581, 0))) else (some (([] : List Int), 2)))) else (some (([] : List Int), 2)))
theorem impl_PowersOf.mono : ∀ a0 a1 k, LeO (impl_PowersOf.f k a0 a1) (impl_PowersOf.f (k + 1) a0 a1) := by
 intro a0 a1 k
 unfold impl_PowersOf.f
 repeat' first
  | (with_reducible exact impl_differentPowers.mono _ _ _)
  | (with_reducible exact impl_isPrime.mono _ _)
  | (with_reducible exact LeO.refl _)
  | (with_reducible exact LeO.none _)
  | (with_reducible refine LeO.ite ?_ ?_)
  | (with_reducible refine LeO.bind ?_ (fun _ => ?_))
  | exact impl_differentPowers.mono _ _ _
  | exact impl_isPrime.mono _ _
  | exact LeO.none _
  | refine LeO.ite ?_ ?_
  | refine LeO.bind ?_ (fun _ => ?_)
set_option maxHeartbeats 8000000 in
set_option maxRecDepth 100000 in
theorem impl_PowersOf.calls (k : Nat) (a0 : Int) (a1 : Int) (r1 : List Int) (r2 : Int) (w : World) (h : impl_PowersOf.f k a0 a1 = some (r1, r2)) :
   Calls Try.prog 126 #[.int .i64 a0, .int .i64 a1] w fun e w' => ∃ v0_ : Value, e = .returned (.tuple #[v0_, .int .i64 r2]) ∧ Kd.R (Kd.int .i64) 2 w' w.heap.size (fun _ => True) v0_ r1 ∧ Below w.heap.size w w' := by
 have HB := Aside0.mk (Below.refl w.heap.size w)
 have H : ((impl_isPrime.f k a0).bind fun t2579 => (if t2579 = true then ((impl_isExponent.f a1).bind fun t2580 => (if t2580 = true then ((impl_differentPowers.f k a0 a1).bind fun t2581 => (some (t2581, 0))) else (some (([] : List Int), 2)))) else (some (([] : List Int), 2)))) = some (r1, r2) := h
 clear h
 replace H := Option.bind_eq_some_iff.mp H
 obtain ⟨t2579, A30, H⟩ := H
 replace H : (if t2579 = true then ((impl_isExponent.f a1).bind fun t2580 => (if t2580 = true then ((impl_differentPowers.f k a0 a1).bind fun t2581 => (some (t2581, 0))) else (some (([] : List Int), 2)))) else (some (([] : List Int), 2))) = some (r1, r2) := H
 have A3 := Aside0.mk A30
 clear A30
 by_cases c4 : t2579 = true
 · subst c4
   have H1 : ((impl_isExponent.f a1).bind fun t2580 => (if t2580 = true then ((impl_differentPowers.f k a0 a1).bind fun t2581 => (some (t2581, 0))) else (some (([] : List Int), 2)))) = some (r1, r2) := by rw [if_pos rfl] at H; exact H
   clear H
   have H := H1
   clear H1
   replace H := Option.bind_eq_some_iff.mp H
   obtain ⟨t2580, A50, H⟩ := H
   replace H : (if t2580 = true then ((impl_differentPowers.f k a0 a1).bind fun t2581 => (some (t2581, 0))) else (some (([] : List Int), 2))) = some (r1, r2) := H
   have A5 := Aside0.mk A50
   clear A50
   by_cases c6 : t2580 = true
   · subst c6
     have H1 : ((impl_differentPowers.f k a0 a1).bind fun t2581 => (some (t2581, 0))) = some (r1, r2) := by rw [if_pos rfl] at H; exact H
     clear H
     have H := H1
     clear H1
     replace H := Option.bind_eq_some_iff.mp H
     obtain ⟨t2581, A70, H⟩ := H
     replace H : (some (t2581, 0)) = some (r1, r2) := H
     have A7 := Aside0.mk A70
     clear A70
     simp only [Option.some.injEq, Prod.mk.injEq] at H
     obtain ⟨rfl, rfl⟩ := H
     go_enter Try.func126, Try.ntmps126
     go_wp2_with (first | ((with_reducible refine gate_callee (f := 173) rfl ?_); refine goesL_ (some 7) rfl rfl Try.func173 (by kernel_rfl) rfl #[.int .i64 a0] rfl (by (try simp only [List.map_toArray, List.map_cons, List.map_nil]); first | done | rfl | (simp only [List.length_drop, List.length_take]; rfl)) ?_; (with_reducible refine (impl_isPrime.calls k a0 true _ A3.out).mono ?_); rintro e w' ⟨rfl, ⟨nd, rfl⟩⟩; refine ⟨_, rfl, ?_⟩) | (go_at_call 246; (with_reducible refine (impl_isExponent.calls a1 true _ A5.out).mono ?_); rintro e w' ⟨rfl, ⟨nd, rfl⟩⟩) | ((with_reducible refine gate_callee (f := 250) rfl ?_); refine goesL_ (some 16) rfl rfl Try.func250 (by kernel_rfl) rfl #[.int .i64 a0, .int .i64 a1] rfl (by (try simp only [List.map_toArray, List.map_cons, List.map_nil]); first | done | rfl | (simp only [List.length_drop, List.length_take]; rfl)) ?_; (with_reducible refine (impl_differentPowers.calls k a0 a1 t2581 _ A7.out).mono ?_); rintro e w8 ⟨v2582, rfl, ho0, hb⟩; refine ⟨_, rfl, ?_⟩; have n0_ := Aside0.mk (Kd.R_lower ho0 (below_size (by repeat (first | (with_reducible first | exact HB.out | apply below_alloc | apply pw_below_drewN | apply below_drew1) | exact HB.out)))); have n1_ := Aside0.mk (below_step (by repeat (first | (with_reducible first | exact HB.out | apply below_alloc | apply pw_below_drewN | apply below_drew1) | exact HB.out)) hb); clear HB; have HO2583 := n0_; have HB := n1_; clear n0_ n1_; (try clear hb); (try clear hb2); (try clear hk); (try clear hi); (try clear ho0)))
     go_ret2
     exact ⟨_, by first | rfl | (simp [errW_none, errW_some] <;> rfl) | (simp [*, errW_none, errW_some] <;> rfl), by (with_reducible repeat (first | apply Kd.R_alloc | apply Kd.R_drewN | apply Kd.R_drew)); exact HO2583.out, by repeat (first | (with_reducible first | exact HB.out | apply below_alloc | apply pw_below_drewN | apply below_drew1) | exact HB.out)⟩
   · replace c6 := Bool.eq_false_iff.mpr c6
     subst c6
     have H1 : (some (([] : List Int), 2)) = some (r1, r2) := by rw [if_neg (show ¬ (false = true) by decide)] at H; exact H
     clear H
     have H := H1
     clear H1
     simp only [Option.some.injEq, Prod.mk.injEq] at H
     obtain ⟨rfl, rfl⟩ := H
     go_enter Try.func126, Try.ntmps126
     go_wp2_with (first | ((with_reducible refine gate_callee (f := 173) rfl ?_); refine goesL_ (some 7) rfl rfl Try.func173 (by kernel_rfl) rfl #[.int .i64 a0] rfl (by (try simp only [List.map_toArray, List.map_cons, List.map_nil]); first | done | rfl | (simp only [List.length_drop, List.length_take]; rfl)) ?_; (with_reducible refine (impl_isPrime.calls k a0 true _ A3.out).mono ?_); rintro e w' ⟨rfl, ⟨nd, rfl⟩⟩; refine ⟨_, rfl, ?_⟩) | (go_at_call 246; (with_reducible refine (impl_isExponent.calls a1 false _ A5.out).mono ?_); rintro e w' ⟨rfl, ⟨nd, rfl⟩⟩))
     go_ret2
     exact ⟨_, by first | rfl | (simp [errW_none, errW_some] <;> rfl) | (simp [*, errW_none, errW_some] <;> rfl), by first | exact Kd.R_nil _ _ _ _ _ | exact Kd.N_nil _ _ _ _ _ | exact Kd.V_nil _ _ _ _ _ | exact Kd.Q_nil _ _ _ _ _ | exact Kd.S_nil _ _ _ _ _, by repeat (first | (with_reducible first | exact HB.out | apply below_alloc | apply pw_below_drewN | apply below_drew1) | exact HB.out)⟩
 · replace c4 := Bool.eq_false_iff.mpr c4
   subst c4
   have H1 : (some (([] : List Int), 2)) = some (r1, r2) := by rw [if_neg (show ¬ (false = true) by decide)] at H; exact H
   clear H
   have H := H1
   clear H1
   simp only [Option.some.injEq, Prod.mk.injEq] at H
   obtain ⟨rfl, rfl⟩ := H
   go_enter Try.func126, Try.ntmps126
   go_wp2_with (first | ((with_reducible refine gate_callee (f := 173) rfl ?_); refine goesL_ (some 7) rfl rfl Try.func173 (by kernel_rfl) rfl #[.int .i64 a0] rfl (by (try simp only [List.map_toArray, List.map_cons, List.map_nil]); first | done | rfl | (simp only [List.length_drop, List.length_take]; rfl)) ?_; (with_reducible refine (impl_isPrime.calls k a0 false _ A3.out).mono ?_); rintro e w' ⟨rfl, ⟨nd, rfl⟩⟩; refine ⟨_, rfl, ?_⟩))
   go_ret2
   exact ⟨_, by first | rfl | (simp [errW_none, errW_some] <;> rfl) | (simp [*, errW_none, errW_some] <;> rfl), by first | exact Kd.R_nil _ _ _ _ _ | exact Kd.N_nil _ _ _ _ _ | exact Kd.V_nil _ _ _ _ _ | exact Kd.Q_nil _ _ _ _ _ | exact Kd.S_nil _ _ _ _ _, by repeat (first | (with_reducible first | exact HB.out | apply below_alloc | apply pw_below_drewN | apply below_drew1) | exact HB.out)⟩
end Go.Proofs.Ytmjfaagifijmlaa.P
namespace Go.Proofs.Ytmjfaagifijmlaa.P
open Go.RowKit Go.Proofs.YtmjfaagifijmlaaW.PrintWords Go.Proofs.YtmjfaagifijmlaaW.PrintLast Go.Proofs.YtmjfaagifijmlaaW.PrintMore
attribute [local go_sem] max2_int min2_int max_two min_two max_three min_three max_four min_four   -- for this text's walks alone
set_option linter.unusedVariables false
set_option linter.unusedSimpArgs false
/-! ### spec_PowersOf: function 127 -/
def spec_PowersOf.l0 : Nat → Int → List Int → List Int → Int → Option (List Int × Int)
 | 0, _, _, _, _ => none
 | k + 1, x0, x7, x8, x9 => if x9 < x0 then (if 0 ≤ x9 then (if x9 < (x7.length : Int) then (if (rd x7 x9) > 0 then (if x8.length < 17592186044416 then (spec_PowersOf.l0 k x0 x7 (x8 ++ [x9]) (wrap64 (x9 + 1))) else (none)) else (spec_PowersOf.l0 k x0 x7 x8 (wrap64 (x9 + 1)))) else (none)) else (none)) else (some (x8, 0))
def spec_PowersOf.f (k : Nat) (a0 : Int) (a1 : Int) : Option (List Int × Int) := (spec_l08Code.f k a0 (([a1] : List Int))).bind fun t2587 => (if t2587 = 0 then ((spec_l08Values.f k a0 1 a1).bind fun t2588 => (spec_PowersOf.l0 k a0 t2588 (([] : List Int)) 0)) else (some (([] : List Int), t2587)))
theorem spec_PowersOf.mono_l : ∀ k, (∀ y0 y1 y2 y3, LeO (spec_PowersOf.l0 k y0 y1 y2 y3) (spec_PowersOf.l0 (k + 1) y0 y1 y2 y3))
 | 0 => fun _ _ _ _ r h => by simp [spec_PowersOf.l0] at h
 | k + 1 => by
  have ih0 := spec_PowersOf.mono_l k
  · intro y0 y1 y2 y3
    unfold spec_PowersOf.l0
    repeat' first
    | (with_reducible exact ih0 _ _ _ _)
    | (with_reducible exact spec_l08Code.mono _ _ _)
    | (with_reducible exact spec_l08Values.mono _ _ _ _)
    | (with_reducible exact LeO.refl _)
    | (with_reducible exact LeO.none _)
    | (with_reducible refine LeO.ite ?_ ?_)
    | (with_reducible refine LeO.bind ?_ (fun _ => ?_))
    | exact ih0 _ _ _ _
    | exact spec_l08Code.mono _ _ _
    | exact spec_l08Values.mono _ _ _ _
    | exact LeO.none _
    | refine LeO.ite ?_ ?_
    | refine LeO.bind ?_ (fun _ => ?_)
theorem spec_PowersOf.mono : ∀ a0 a1 k, LeO (spec_PowersOf.f k a0 a1) (spec_PowersOf.f (k + 1) a0 a1) := by
 intro a0 a1 k
 have ih0 := spec_PowersOf.mono_l k
 unfold spec_PowersOf.f
 repeat' first
  | (with_reducible exact ih0 _ _ _ _)
  | (with_reducible exact spec_l08Code.mono _ _ _)
  | (with_reducible exact spec_l08Values.mono _ _ _ _)
  | (with_reducible exact LeO.refl _)
  | (with_reducible exact LeO.none _)
  | (with_reducible refine LeO.ite ?_ ?_)
  | (with_reducible refine LeO.bind ?_ (fun _ => ?_))
  | exact ih0 _ _ _ _
  | exact spec_l08Code.mono _ _ _
  | exact spec_l08Values.mono _ _ _ _
  | exact LeO.none _
  | refine LeO.ite ?_ ?_
  | refine LeO.bind ?_ (fun _ => ?_)
set_option maxHeartbeats 8000000 in
set_option maxRecDepth 100000 in
theorem spec_PowersOf.calls (k : Nat) (a0 : Int) (a1 : Int) (r1 : List Int) (r2 : Int) (w : World) (h : spec_PowersOf.f k a0 a1 = some (r1, r2)) :
   Calls Try.prog 127 #[.int .i64 a0, .int .i64 a1] w fun e w' => ∃ v0_ : Value, e = .returned (.tuple #[v0_, .int .i64 r2]) ∧ Kd.R (Kd.int .i64) 2 w' w.heap.size (fun _ => True) v0_ r1 ∧ Below w.heap.size w w' := by
 have HB := Aside0.mk (Below.refl w.heap.size w)
 have H : ((spec_l08Code.f k a0 (([a1] : List Int))).bind fun t2587 => (if t2587 = 0 then ((spec_l08Values.f k a0 1 a1).bind fun t2588 => (spec_PowersOf.l0 k a0 t2588 (([] : List Int)) 0)) else (some (([] : List Int), t2587)))) = some (r1, r2) := h
 clear h
 obtain ⟨y2584, hy2584⟩ : ∃ y_ : List Int, y_ = (([a1] : List Int)) := ⟨_, rfl⟩
 replace H : ((spec_l08Code.f k a0 y2584).bind fun t2587 => (if t2587 = 0 then ((spec_l08Values.f k a0 1 a1).bind fun t2588 => (spec_PowersOf.l0 k a0 t2588 (([] : List Int)) 0)) else (some (([] : List Int), t2587)))) = some (r1, r2) := by first | (rw [hy2584]; with_reducible exact H) | (have H2_ := (Option.bind_some _ _).symm.trans H; rw [hy2584]; with_reducible exact H2_) | (have H2_ := (Option.bind_some _ _).symm.trans H; with_reducible exact H2_) | with_reducible exact H | (rw [hy2584]; exact H) | exact H
 have Ny2584 := Aside0.mk hy2584
 clear hy2584
 replace H := Option.bind_eq_some_iff.mp H
 obtain ⟨t2587, A30, H⟩ := H
 replace H : (if t2587 = 0 then ((spec_l08Values.f k a0 1 a1).bind fun t2588 => (spec_PowersOf.l0 k a0 t2588 (([] : List Int)) 0)) else (some (([] : List Int), t2587))) = some (r1, r2) := H
 have A3 := Aside0.mk A30
 clear A30
 by_cases c4 : t2587 = 0
 · rw [if_pos c4] at H
   have c4b0 : (t2587 == 0) = true := beq_iff_eq.mpr c4
   have c4b1 : (t2587 != 0) = false := bne_eq_false_iff_eq.mpr c4
   clear c4
   replace H := Option.bind_eq_some_iff.mp H
   obtain ⟨t2588, A50, H⟩ := H
   replace H : (spec_PowersOf.l0 k a0 t2588 (([] : List Int)) 0) = some (r1, r2) := H
   have A5 := Aside0.mk A50
   clear A50
   obtain ⟨y2591, hy2591⟩ : ∃ y_ : List Int, y_ = (([] : List Int)) := ⟨_, rfl⟩
   replace H : (spec_PowersOf.l0 k a0 t2588 y2591 0) = some (r1, r2) := by first | (rw [hy2591]; with_reducible exact H) | (have H2_ := (Option.bind_some _ _).symm.trans H; rw [hy2591]; with_reducible exact H2_) | (have H2_ := (Option.bind_some _ _).symm.trans H; with_reducible exact H2_) | with_reducible exact H | (rw [hy2591]; exact H) | exact H
   have Ny2591 := Aside0.mk hy2591
   clear hy2591
   have H' := Aside0.mk H
   clear H
   go_enter Try.func127, Try.ntmps127
   go_wp2_with (first | ((with_reducible refine gate_dst (N := 12) rfl ?_); refine Kd.R_lit (Kd.int .i64) _ 2 ?hg (N := 12) ?hd (xs := ([a1] : List Int)) (inner := [.int .i64 a1]) (ok := fun _ => True) (okp := fun _ => True) ?hr ?hp (fun _ hk => hk) trivial (Below.refl _ _) (Nat.le_refl _) (by simp) ?_; (case hd => rfl); (case hg => rfl); (case hr => first | (go_simp; done) | (go_simp; rfl)); (case hp => exact (Reps.one (show Kd.M (Kd.int .i64) _ _ _ a1 [.int .i64 a1] from rfl) (Reps.none _ _))); intro v2585 w6 ho7 hb hg_ hnew_; clear hg_ hnew_; (first | rw [← Ny2584.out] at ho7 | (simp only [Int.reduceToNat] at ho7; rw [← Ny2584.out] at ho7)); have n0_ := Aside0.mk (Kd.R_lower ho7 (below_size (by repeat (first | (with_reducible first | exact HB.out | apply below_alloc | apply pw_below_drewN | apply below_drew1) | exact HB.out)))); have n1_ := Aside0.mk (below_step (by repeat (first | (with_reducible first | exact HB.out | apply below_alloc | apply pw_below_drewN | apply below_drew1) | exact HB.out)) hb); clear HB; have HO2586 := n0_; have HB := n1_; clear n0_ n1_; clear hb ho7; obtain ⟨Ao8, co8, eo8⟩ := Kd.R_slice HO2586.out; subst eo8) | ((with_reducible refine gate_callee (f := 248) rfl ?_); refine goesL_ (some 13) rfl rfl Try.func248 (by kernel_rfl) rfl #[.int .i64 a0, .slice Ao8 y2584.length co8] rfl (by (try simp only [List.map_toArray, List.map_cons, List.map_nil]); first | done | rfl | (simp only [List.length_drop, List.length_take]; rfl)) ?_; (with_reducible refine (spec_l08Code.calls k a0 _ _ y2584 t2587 _ ?side1 ?side2 A3.out).mono ?_); (case side1 => repeat (first | exact (Kd.R_reads' HO2586.out).2.2 | (with_reducible refine Kd.C_alloc ?_ _) | (with_reducible refine Kd.C_drewN ?_ _) | (with_reducible refine Kd.C_drew ?_))); (case side2 => exact (Kd.R_reads' HO2586.out).2.1); rintro e w' ⟨rfl, ⟨nd, rfl⟩⟩; refine ⟨_, rfl, ?_⟩) | ((with_reducible refine gate_callee (f := 249) rfl ?_); refine goesL_ (some 19) rfl rfl Try.func249 (by kernel_rfl) rfl #[.int .i64 a0, .int .i64 1, .int .i64 a1] rfl (by (try simp only [List.map_toArray, List.map_cons, List.map_nil]); first | done | rfl | (simp only [List.length_drop, List.length_take]; rfl)) ?_; (with_reducible refine (spec_l08Values.calls k a0 1 a1 t2588 _ A5.out).mono ?_); rintro e w9 ⟨v2589, rfl, ho0, hb⟩; refine ⟨_, rfl, ?_⟩; have n0_ := Aside0.mk (Kd.R_elder' (by (with_reducible repeat (first | apply Kd.R_alloc | apply Kd.R_drewN | apply Kd.R_drew)); exact HO2586.out) (Kd.R_base ho0) hb); have n1_ := Aside0.mk (Kd.R_lower (Kd.R_new' ho0 (Kd.R_lt (by (with_reducible repeat (first | apply Kd.R_alloc | apply Kd.R_drewN | apply Kd.R_drew)); exact HO2586.out))) (below_size (by repeat (first | (with_reducible first | exact HB.out | apply below_alloc | apply pw_below_drewN | apply below_drew1) | exact HB.out)))); have n2_ := Aside0.mk (below_step (by repeat (first | (with_reducible first | exact HB.out | apply below_alloc | apply pw_below_drewN | apply below_drew1) | exact HB.out)) hb); clear HO2586; clear HB; have HO2586 := n0_; have HO2590 := n1_; have HB := n2_; clear n0_ n1_ n2_; (try clear hb); (try clear hb2); (try clear hk); (try clear hi); (try clear ho0)) | ((with_reducible refine gate_dst (N := 20) rfl ?_); refine Kd.R_lit (Kd.int .i64) _ 2 ?hg (N := 20) ?hd (xs := ([] : List Int)) (inner := []) (ok := fun _ => True) (okp := fun _ => True) ?hr ?hp (fun _ hk => hk) trivial (Below.refl _ _) (Nat.le_refl _) (by simp) ?_; (case hd => rfl); (case hg => rfl); (case hr => first | (go_simp; done) | (go_simp; rfl)); (case hp => exact (Reps.none _ _)); intro v2592 w10 ho11 hb hg_ hnew_; clear hg_ hnew_; (first | rw [← Ny2591.out] at ho11 | (simp only [Int.reduceToNat] at ho11; rw [← Ny2591.out] at ho11)); have n0_ := Aside0.mk (Kd.R_elder' (by (with_reducible repeat (first | apply Kd.R_alloc | apply Kd.R_drewN | apply Kd.R_drew)); exact HO2586.out) (Kd.R_base ho11) hb); have n1_ := Aside0.mk (Kd.R_elder' (by (with_reducible repeat (first | apply Kd.R_alloc | apply Kd.R_drewN | apply Kd.R_drew)); exact HO2590.out) (Kd.R_base ho11) hb); have n2_ := Aside0.mk (Kd.R_lower (Kd.R_new' (Kd.R_new' ho11 (Kd.R_lt (by (with_reducible repeat (first | apply Kd.R_alloc | apply Kd.R_drewN | apply Kd.R_drew)); exact HO2586.out))) (Kd.R_lt (by (with_reducible repeat (first | apply Kd.R_alloc | apply Kd.R_drewN | apply Kd.R_drew)); exact HO2590.out))) (below_size (by repeat (first | (with_reducible first | exact HB.out | apply below_alloc | apply pw_below_drewN | apply below_drew1) | exact HB.out)))); have n3_ := Aside0.mk (below_step (by repeat (first | (with_reducible first | exact HB.out | apply below_alloc | apply pw_below_drewN | apply below_drew1) | exact HB.out)) hb); clear HO2586; clear HO2590; clear HB; have HO2586 := n0_; have HO2590 := n1_; have HO2593 := n2_; have HB := n3_; clear n0_ n1_ n2_ n3_; clear hb ho11))
   go_loopg [8, 9] k (fun kq v8 v9 w' => ∃ (x8_1 : List Int) (x9_1 : Int), v9 = .int .i64 x9_1 ∧ Aside0 (spec_PowersOf.l0 kq a0 t2588 x8_1 x9_1 = some (r1, r2)) ∧ Aside0 (kq ≤ k) ∧ Aside0 (Kd.R (Kd.int .i64) 2 w' w.heap.size (fun k_ => some k_ ≠ (v8 : Value).ownBlock) v2589 t2588) ∧ Aside0 (Kd.R (Kd.int .i64) 2 w' w.heap.size (fun k_ => some k_ ≠ (v2589 : Value).ownBlock) v8 x8_1) ∧ Aside0 (Below w.heap.size w w'))
   case atStart => exact ⟨(y2591), (0), (by first | rfl | (simp; done) | (simp [*]; done)), H', ⟨Nat.le_refl _⟩, ⟨by (with_reducible repeat (first | apply Kd.R_alloc | apply Kd.R_drewN | apply Kd.R_drew)); exact Kd.R_mono HO2590.out (fun _ hk => hk.2)⟩, ⟨by (with_reducible repeat (first | apply Kd.R_alloc | apply Kd.R_drewN | apply Kd.R_drew)); exact Kd.R_mono HO2593.out (fun _ hk => hk.2)⟩, ⟨by repeat (first | (with_reducible first | exact HB.out | apply below_alloc | apply pw_below_drewN | apply below_drew1) | exact HB.out)⟩⟩
   case round =>
   clear H'
   try clear c1
   try clear c2
   try clear p2
   try clear c4
   try clear c4b0
   try clear c4b1
   obtain ⟨x8_1, x9_1, rfl, HA, HK1, HO_7, HO_8, HB⟩ := hrel
   cases gk with
   | zero => exact absurd HA.out (by simp [spec_PowersOf.l0])
   | succ k1 =>
    have H := HA.out
    clear HA
    simp only [spec_PowersOf.l0] at H
    by_cases c12 : x9_1 < a0
    · rw [if_pos c12] at H
      have c12b0 : decide (x9_1 < a0) = true := decide_eq_true c12
      clear c12
      by_cases c13 : 0 ≤ x9_1
      · rw [if_pos c13] at H
        have c13b0 : decide (0 ≤ x9_1) = true := decide_eq_true c13
        clear c13
        by_cases c14 : x9_1 < (t2588.length : Int)
        · rw [if_pos c14] at H
          have c14b0 : decide (x9_1 < (t2588.length : Int)) = true := decide_eq_true c14
          clear c14
          by_cases c15 : (rd t2588 x9_1) > 0
          · rw [if_pos c15] at H
            have c15b0 : decide (0 < (rd t2588 x9_1)) = true := decide_eq_true c15
            clear c15
            by_cases c16 : x8_1.length < 17592186044416
            · rw [if_pos c16] at H
              have LMc16 := Aside0.mk c16
              clear c16
              obtain ⟨y2595, hy2595⟩ : ∃ y_ : List Int, y_ = (x8_1 ++ [x9_1]) := ⟨_, rfl⟩
              replace H : (spec_PowersOf.l0 k1 a0 t2588 y2595 (wrap64 (x9_1 + 1))) = some (r1, r2) := by first | (rw [hy2595]; with_reducible exact H) | (have H2_ := (Option.bind_some _ _).symm.trans H; rw [hy2595]; with_reducible exact H2_) | (have H2_ := (Option.bind_some _ _).symm.trans H; with_reducible exact H2_) | with_reducible exact H | (rw [hy2595]; exact H) | exact H
              have Ny2595 := Aside0.mk hy2595
              clear hy2595
              have H' := Aside0.mk H
              clear H
              obtain ⟨Ao17, co17, eo17⟩ := Kd.R_slice HO_7.out
              subst eo17
              have p2594 : 0 ≤ (x9_1 : Int) := of_decide_eq_true (by first | (with_reducible assumption) | assumption)
              have q2594 : x9_1 < (t2588.length : Int) := of_decide_eq_true (by first | (with_reducible assumption) | assumption)
              obtain ⟨ad2594, e2594, hx2594_0⟩ := Kd.at_int (Kd.R_reads' HO_7.out).2.2 x9_1 p2594 q2594
              cases e2594
              replace p2594 := eq_true p2594
              replace q2594 := eq_true q2594
              go_wp2_with (first | ((with_reducible refine gate_builtin (b := .append) (xs := #[.tmp 31, .tmp 33]) rfl ?_); at_builtin; refine Kd.R_append (Kd.int .i64) (w0 := w) w.heap.size rfl (.tmp 31) (.tmp 33) 24 2 (.int .i64 0) 8 rfl Try.underlying24 info2 rfl (by decide) (by omega) u8 x8_1 x9_1 [.int .i64 x9_1] (fun k_ => some k_ ≠ (.slice (some ad2594) t2588.length co17 : Value).ownBlock) (fun _ => False) rfl rfl ?aP (fun _ hk => hk.elim) ?aF ?aO ?aB ?aS ?aL ?_; (case aP => exact rfl); (case aB => exact (by repeat (first | (with_reducible first | exact HB.out | apply below_alloc | apply pw_below_drewN | apply below_drew1) | exact HB.out))); (case aF => exact (fun k_ hk => Kd.fresh' (Kd.R_lt (by (with_reducible repeat (first | apply Kd.R_alloc | apply Kd.R_drewN | apply Kd.R_drew)); exact HO_7.out)) k_ hk)); (case aO => exact (by (with_reducible repeat (first | apply Kd.R_alloc | apply Kd.R_drewN | apply Kd.R_drew)); exact HO_8.out)); (case aS => exact (below_size (by repeat (first | (with_reducible first | exact HB.out | apply below_alloc | apply pw_below_drewN | apply below_drew1) | exact HB.out)))); (case aL => have := LMc16.out; omega); intro v2596 w18 ho hb hg hat; rw [← Ny2595.out] at ho; have n0_ := Aside0.mk (Kd.R_after (ok := (fun _ => True)) (by (with_reducible repeat (first | apply Kd.R_alloc | apply Kd.R_drewN | apply Kd.R_drew)); exact Kd.R_mono HO_7.out (fun _ hk => ⟨trivial, hk⟩)) hg hat); have n1_ := Aside0.mk (hb); have n2_ := Aside0.mk (ho); clear HO_7; clear HB; clear HO_8; have HO_7 := n0_; have HB := n1_; have HO2597 := n2_; clear n0_ n1_ n2_; clear ho hb hg hat))
              go_roundg k1
              case measure => have := HK1.out; omega
              case rel => exact ⟨(y2595), (wrap64 (x9_1 + 1)), (by first | rfl | (simp; done) | (simp [*]; done)), H', ⟨by have := HK1.out; omega⟩, ⟨by (with_reducible repeat (first | apply Kd.R_alloc | apply Kd.R_drewN | apply Kd.R_drew)); exact Kd.R_mono HO_7.out (fun _ hk => hk.2)⟩, ⟨by (with_reducible repeat (first | apply Kd.R_alloc | apply Kd.R_drewN | apply Kd.R_drew)); exact HO2597.out⟩, ⟨by repeat (first | (with_reducible first | exact HB.out | apply below_alloc | apply pw_below_drewN | apply below_drew1) | exact HB.out)⟩⟩
            · rw [if_neg c16] at H
              exact absurd H (by simp)
          · rw [if_neg c15] at H
            have c15b0 : decide (0 < (rd t2588 x9_1)) = false := decide_eq_false c15
            clear c15
            have H' := Aside0.mk H
            clear H
            obtain ⟨Ao19, co19, eo19⟩ := Kd.R_slice HO_7.out
            subst eo19
            have p2594 : 0 ≤ (x9_1 : Int) := of_decide_eq_true (by first | (with_reducible assumption) | assumption)
            have q2594 : x9_1 < (t2588.length : Int) := of_decide_eq_true (by first | (with_reducible assumption) | assumption)
            obtain ⟨ad2594, e2594, hx2594_0⟩ := Kd.at_int (Kd.R_reads' HO_7.out).2.2 x9_1 p2594 q2594
            cases e2594
            replace p2594 := eq_true p2594
            replace q2594 := eq_true q2594
            go_wp2
            go_roundg k1
            case measure => have := HK1.out; omega
            case rel => exact ⟨(x8_1), (wrap64 (x9_1 + 1)), (by first | rfl | (simp; done) | (simp [*]; done)), H', ⟨by have := HK1.out; omega⟩, ⟨by (with_reducible repeat (first | apply Kd.R_alloc | apply Kd.R_drewN | apply Kd.R_drew)); exact HO_7.out⟩, ⟨by (with_reducible repeat (first | apply Kd.R_alloc | apply Kd.R_drewN | apply Kd.R_drew)); exact HO_8.out⟩, ⟨by repeat (first | (with_reducible first | exact HB.out | apply below_alloc | apply pw_below_drewN | apply below_drew1) | exact HB.out)⟩⟩
        · rw [if_neg c14] at H
          exact absurd H (by simp)
      · rw [if_neg c13] at H
        exact absurd H (by simp)
    · rw [if_neg c12] at H
      have c12b0 : decide (x9_1 < a0) = false := decide_eq_false c12
      clear c12
      simp only [Option.some.injEq, Prod.mk.injEq] at H
      obtain ⟨rfl, rfl⟩ := H
      go_wp2
      go_ret2
      exact ⟨_, by first | rfl | (simp [errW_none, errW_some] <;> rfl) | (simp [*, errW_none, errW_some] <;> rfl), by (with_reducible repeat (first | apply Kd.R_alloc | apply Kd.R_drewN | apply Kd.R_drew)); exact Kd.R_mono HO_8.out (fun _ hk => trivial), by repeat (first | (with_reducible first | exact HB.out | apply below_alloc | apply pw_below_drewN | apply below_drew1) | exact HB.out)⟩
 · rw [if_neg c4] at H
   have c4b0 : (t2587 == 0) = false := beq_eq_false_iff_ne.mpr c4
   have c4b1 : (t2587 != 0) = true := bne_iff_ne.mpr c4
   simp only [Option.some.injEq, Prod.mk.injEq] at H
   obtain ⟨rfl, rfl⟩ := H
   go_enter Try.func127, Try.ntmps127
   go_wp2_with (first | ((with_reducible refine gate_dst (N := 12) rfl ?_); refine Kd.R_lit (Kd.int .i64) _ 2 ?hg (N := 12) ?hd (xs := ([a1] : List Int)) (inner := [.int .i64 a1]) (ok := fun _ => True) (okp := fun _ => True) ?hr ?hp (fun _ hk => hk) trivial (Below.refl _ _) (Nat.le_refl _) (by simp) ?_; (case hd => rfl); (case hg => rfl); (case hr => first | (go_simp; done) | (go_simp; rfl)); (case hp => exact (Reps.one (show Kd.M (Kd.int .i64) _ _ _ a1 [.int .i64 a1] from rfl) (Reps.none _ _))); intro v2585 w20 ho21 hb hg_ hnew_; clear hg_ hnew_; (first | rw [← Ny2584.out] at ho21 | (simp only [Int.reduceToNat] at ho21; rw [← Ny2584.out] at ho21)); have n0_ := Aside0.mk (Kd.R_lower ho21 (below_size (by repeat (first | (with_reducible first | exact HB.out | apply below_alloc | apply pw_below_drewN | apply below_drew1) | exact HB.out)))); have n1_ := Aside0.mk (below_step (by repeat (first | (with_reducible first | exact HB.out | apply below_alloc | apply pw_below_drewN | apply below_drew1) | exact HB.out)) hb); clear HB; have HO2586 := n0_; have HB := n1_; clear n0_ n1_; clear hb ho21; obtain ⟨Ao22, co22, eo22⟩ := Kd.R_slice HO2586.out; subst eo22) | ((with_reducible refine gate_callee (f := 248) rfl ?_); refine goesL_ (some 13) rfl rfl Try.func248 (by kernel_rfl) rfl #[.int .i64 a0, .slice Ao22 y2584.length co22] rfl (by (try simp only [List.map_toArray, List.map_cons, List.map_nil]); first | done | rfl | (simp only [List.length_drop, List.length_take]; rfl)) ?_; (with_reducible refine (spec_l08Code.calls k a0 _ _ y2584 t2587 _ ?side1 ?side2 A3.out).mono ?_); (case side1 => repeat (first | exact (Kd.R_reads' HO2586.out).2.2 | (with_reducible refine Kd.C_alloc ?_ _) | (with_reducible refine Kd.C_drewN ?_ _) | (with_reducible refine Kd.C_drew ?_))); (case side2 => exact (Kd.R_reads' HO2586.out).2.1); rintro e w' ⟨rfl, ⟨nd, rfl⟩⟩; refine ⟨_, rfl, ?_⟩))
   go_ret2
   exact ⟨_, by first | rfl | (simp [errW_none, errW_some] <;> rfl) | (simp [*, errW_none, errW_some] <;> rfl), by first | exact Kd.R_nil _ _ _ _ _ | exact Kd.N_nil _ _ _ _ _ | exact Kd.V_nil _ _ _ _ _ | exact Kd.Q_nil _ _ _ _ _ | exact Kd.S_nil _ _ _ _ _, by repeat (first | (with_reducible first | exact HB.out | apply below_alloc | apply pw_below_drewN | apply below_drew1) | exact HB.out)⟩
end Go.Proofs.Ytmjfaagifijmlaa.P
namespace Go.Proofs.Ytmjfaagifijmlaa.P
open Go.RowKit Go.Proofs.YtmjfaagifijmlaaW.PrintWords Go.Proofs.YtmjfaagifijmlaaW.PrintLast Go.Proofs.YtmjfaagifijmlaaW.PrintMore
attribute [local go_sem] max2_int min2_int max_two min_two max_three min_three max_four min_four   -- for this text's walks alone
set_option linter.unusedVariables false
set_option linter.unusedSimpArgs false
/-! ### spec_l08Square: function 244 -/
def spec_l08Square.f (k : Nat) (a0 : Int) (a1 : Int) : Option (Int) := if a0 = 0 then (none) else (if (Int.tmod (wrap64 ((Int.tmod a1 a0) + a0)) a0) = 0 then (some 0) else ((spec_l08Power.f k a0 (Int.tmod (wrap64 ((Int.tmod a1 a0) + a0)) a0) (wrap64 (Int.tdiv (wrap64 (a0 - 1)) 2))).bind fun t2403 => (if t2403 = 1 then (some 1) else (some (-1)))))
theorem spec_l08Square.mono : ∀ a0 a1 k, LeO (spec_l08Square.f k a0 a1) (spec_l08Square.f (k + 1) a0 a1) := by
 intro a0 a1 k
 unfold spec_l08Square.f
 repeat' first
  | (with_reducible exact spec_l08Power.mono _ _ _ _)
  | (with_reducible exact LeO.refl _)
  | (with_reducible exact LeO.none _)
  | (with_reducible refine LeO.ite ?_ ?_)
  | (with_reducible refine LeO.bind ?_ (fun _ => ?_))
  | exact spec_l08Power.mono _ _ _ _
  | exact LeO.none _
  | refine LeO.ite ?_ ?_
  | refine LeO.bind ?_ (fun _ => ?_)
set_option maxHeartbeats 8000000 in
set_option maxRecDepth 100000 in
theorem spec_l08Square.calls (k : Nat) (a0 : Int) (a1 : Int) (r : Int) (w : World) (h : spec_l08Square.f k a0 a1 = some r) :
   Calls Try.prog 244 #[.int .i64 a0, .int .i64 a1] w fun e w' => e = .returned (.int .i64 r) ∧ Drawn0 w w' := by
 have H : (if a0 = 0 then (none) else (if (Int.tmod (wrap64 ((Int.tmod a1 a0) + a0)) a0) = 0 then (some 0) else ((spec_l08Power.f k a0 (Int.tmod (wrap64 ((Int.tmod a1 a0) + a0)) a0) (wrap64 (Int.tdiv (wrap64 (a0 - 1)) 2))).bind fun t2403 => (if t2403 = 1 then (some 1) else (some (-1)))))) = some r := h
 clear h
 by_cases c3 : a0 = 0
 · rw [if_pos c3] at H
   exact absurd H (by simp)
 · rw [if_neg c3] at H
   have c3b0 : (a0 == 0) = false := beq_eq_false_iff_ne.mpr c3
   have c3b1 : (a0 != 0) = true := bne_iff_ne.mpr c3
   by_cases c4 : (Int.tmod (wrap64 ((Int.tmod a1 a0) + a0)) a0) = 0
   · rw [if_pos c4] at H
     have c4b0 : ((Int.tmod (wrap64 ((Int.tmod a1 a0) + a0)) a0) == 0) = true := beq_iff_eq.mpr c4
     have c4b1 : ((Int.tmod (wrap64 ((Int.tmod a1 a0) + a0)) a0) != 0) = false := bne_eq_false_iff_eq.mpr c4
     clear c4
     obtain rfl := Option.some.inj H
     go_enter Try.func244, Try.ntmps244
     go_wp2
     go_ret
     exact ⟨by first | rfl | (simp; done) | (simp [*]; done), by repeat (first | exact Drawn0.refl _ | apply Drawn0.step)⟩
   · rw [if_neg c4] at H
     have c4b0 : ((Int.tmod (wrap64 ((Int.tmod a1 a0) + a0)) a0) == 0) = false := beq_eq_false_iff_ne.mpr c4
     have c4b1 : ((Int.tmod (wrap64 ((Int.tmod a1 a0) + a0)) a0) != 0) = true := bne_iff_ne.mpr c4
     replace H := Option.bind_eq_some_iff.mp H
     obtain ⟨t2403, A50, H⟩ := H
     replace H : (if t2403 = 1 then (some 1) else (some (-1))) = some r := H
     have A5 := Aside0.mk A50
     clear A50
     by_cases c6 : t2403 = 1
     · rw [if_pos c6] at H
       have c6b0 : (t2403 == 1) = true := beq_iff_eq.mpr c6
       have c6b1 : (t2403 != 1) = false := bne_eq_false_iff_eq.mpr c6
       clear c6
       obtain rfl := Option.some.inj H
       go_enter Try.func244, Try.ntmps244
       go_wp2_with (first | ((with_reducible refine gate_callee (f := 288) rfl ?_); refine goesL_ (some 21) rfl rfl Try.func288 (by kernel_rfl) rfl #[.int .i64 a0, .int .i64 (Int.tmod (wrap64 ((Int.tmod a1 a0) + a0)) a0), .int .i64 (wrap64 (Int.tdiv (wrap64 (a0 - 1)) 2))] rfl (by (try simp only [List.map_toArray, List.map_cons, List.map_nil]); first | done | rfl | (simp only [List.length_drop, List.length_take]; rfl)) ?_; (with_reducible refine (spec_l08Power.calls k a0 (Int.tmod (wrap64 ((Int.tmod a1 a0) + a0)) a0) (wrap64 (Int.tdiv (wrap64 (a0 - 1)) 2)) t2403 _ A5.out).mono ?_); rintro e w' ⟨rfl, ⟨nd, rfl⟩⟩; refine ⟨_, rfl, ?_⟩))
       go_ret
       exact ⟨by first | rfl | (simp; done) | (simp [*]; done), by repeat (first | exact Drawn0.refl _ | apply Drawn0.step)⟩
     · rw [if_neg c6] at H
       have c6b0 : (t2403 == 1) = false := beq_eq_false_iff_ne.mpr c6
       have c6b1 : (t2403 != 1) = true := bne_iff_ne.mpr c6
       obtain rfl := Option.some.inj H
       go_enter Try.func244, Try.ntmps244
       go_wp2_with (first | ((with_reducible refine gate_callee (f := 288) rfl ?_); refine goesL_ (some 21) rfl rfl Try.func288 (by kernel_rfl) rfl #[.int .i64 a0, .int .i64 (Int.tmod (wrap64 ((Int.tmod a1 a0) + a0)) a0), .int .i64 (wrap64 (Int.tdiv (wrap64 (a0 - 1)) 2))] rfl (by (try simp only [List.map_toArray, List.map_cons, List.map_nil]); first | done | rfl | (simp only [List.length_drop, List.length_take]; rfl)) ?_; (with_reducible refine (spec_l08Power.calls k a0 (Int.tmod (wrap64 ((Int.tmod a1 a0) + a0)) a0) (wrap64 (Int.tdiv (wrap64 (a0 - 1)) 2)) t2403 _ A5.out).mono ?_); rintro e w' ⟨rfl, ⟨nd, rfl⟩⟩; refine ⟨_, rfl, ?_⟩))
       go_ret
       exact ⟨by first | rfl | (simp; done) | (simp [*]; done), by repeat (first | exact Drawn0.refl _ | apply Drawn0.step)⟩
end Go.Proofs.Ytmjfaagifijmlaa.P
/-! The quadric's number by its rule. -/
namespace Go.Proofs.Ytmjfaagifijmlaa.P
open Go.RowKit Go.Proofs.YtmjfaagifijmlaaW.PrintWords Go.Proofs.YtmjfaagifijmlaaW.PrintLast Go.Proofs.YtmjfaagifijmlaaW.PrintMore
set_option linter.unusedVariables false
set_option linter.unusedSimpArgs false
/-! ### spec_QuadricNumber: function 121 -/
/-- The product of the factors modulo p. -/
def prodMod (p : Int) (l : List Int) : Int := l.foldl (fun q x => q * x % p) 1
theorem prodMod_snoc (p : Int) (l : List Int) (x : Int) : prodMod p (l ++ [x]) = prodMod p l * x % p := by simp [prodMod]
theorem prodMod_bd (p : Int) (h : 1 < p) (l : List Int) : 0 ≤ prodMod p l ∧ prodMod p l < p := by
  rcases List.eq_nil_or_concat l with rfl | ⟨l, x, rfl⟩
  · simp [prodMod]; omega
  · rw [List.concat_eq_append, prodMod_snoc]
    exact ⟨Int.emod_nonneg _ (by omega), Int.emod_lt_of_pos _ (by omega)⟩
theorem ret2_int {a b c : Int} (h : a = b) : Ending.returned (.tuple #[.int .i64 a, .int .i64 c]) = Ending.returned (.tuple #[.int .i64 b, .int .i64 c]) := by rw [h]
def signOf (n : Nat) : Int := if n / 2 % 2 = 1 then -1 else 1
def quadRest (k : Nat) (a0 : Int) (l1 : List Int) (a2 : Int) : Option (Int × Int) :=
  if l1.length % 2 = 1 then (spec_l08Square.f k a0 (signOf l1.length * prodMod a0 l1 * a2)).bind fun s => if -1 ≤ s ∧ s ≤ 1 then some (a0 ^ (l1.length - 1) + a0 ^ (l1.length / 2) * s, 0) else none
  else (spec_l08Square.f k a0 (signOf l1.length * prodMod a0 l1)).bind fun s => if -1 ≤ s ∧ s ≤ 1 then some (a0 ^ (l1.length - 1) + (if a2 = 0 then a0 - 1 else -1) * a0 ^ (l1.length / 2 - 1) * s, 0) else none
def QuadOk (a0 : Int) (l1 : List Int) (a2 : Int) : Prop := 1 ≤ l1.length ∧ l1.length ≤ 4 ∧ 3 ≤ a0 ∧ a0 ≤ 61 ∧ 0 ≤ a2 ∧ a2 < a0 ∧ ∀ x ∈ l1, 0 ≤ x ∧ x < a0
instance (a0 : Int) (l1 : List Int) (a2 : Int) : Decidable (QuadOk a0 l1 a2) := by unfold QuadOk; infer_instance
def spec_QuadricNumber.f (k : Nat) (a0 : Int) (l1 : List Int) (a2 : Int) : Option (Int × Int) :=
  if l1.length ≤ 1000000 then (spec_l08Given.f k a0 l1 (List.replicate (min l1.length 5) 2) a2).bind fun code => if code = 0 then (if QuadOk a0 l1 a2 then quadRest k a0 l1 a2 else none) else some (0, code) else none
theorem spec_QuadricNumber.mono : ∀ a0 a1 a2 k, LeO (spec_QuadricNumber.f k a0 a1 a2) (spec_QuadricNumber.f (k + 1) a0 a1 a2) := fun a0 a1 a2 k => by
  unfold spec_QuadricNumber.f quadRest
  refine LeO.ite (LeO.bind (spec_l08Given.mono _ _ _ _ _) fun _ => LeO.ite (LeO.ite (LeO.ite ?_ ?_) (LeO.refl _)) (LeO.refl _)) (LeO.refl _)
  · exact LeO.bind (spec_l08Square.mono _ _ _) fun _ => LeO.refl _
  · exact LeO.bind (spec_l08Square.mono _ _ _) fun _ => LeO.refl _
set_option maxHeartbeats 1000000 in
set_option maxRecDepth 100000 in
theorem spec_QuadricNumber.calls (k : Nat) (a0 : Int) (A1 : Option Addr) (c1 : Nat) (l1 : List Int) (a2 : Int) (r1 r2 : Int) (w : World) (hr1 : Kd.C (Kd.int .i64) w A1 l1.length l1) (hc1 : l1.length ≤ c1) (h : spec_QuadricNumber.f k a0 l1 a2 = some (r1, r2)) :
    Calls Try.prog 121 #[.int .i64 a0, .slice A1 l1.length c1, .int .i64 a2] w fun e w' => e = .returned (.tuple #[.int .i64 r1, .int .i64 r2]) ∧ Below w.heap.size w w' := by
  unfold spec_QuadricNumber.f at h
  have hlen : l1.length ≤ 1000000 := by
    split at h
    · assumption
    · cases h
  rw [if_pos hlen] at h
  obtain ⟨code, hcode, h⟩ := Option.bind_eq_some_iff.mp h
  have HCODE := Aside0.mk hcode
  have HREST := Aside0.mk h
  have HR1 := Aside0.mk hr1
  have HC1 := Aside0.mk hc1
  clear h hcode hr1 hc1
  go_enter Try.func121, Try.ntmps121
  go_wp2_with (first | ((with_reducible refine gate_dst (N := 17) rfl ?_); refine Kd.R_lit (Kd.int .i64) _ 2 ?hg (N := 17) ?hd (xs := ([] : List Int)) (inner := []) (ok := fun _ => True) (okp := fun _ => True) ?hr ?hp (fun _ hk => hk) trivial (Below.refl _ _) (Nat.le_refl _) (by simp) ?_; (case hd => rfl); (case hg => rfl); (case hr => first | (go_simp; done) | (go_simp; rfl)); (case hp => exact (Reps.none _ _)); intro v1 w1 ho hb hg_ hnew_; clear hg_ hnew_; have HO := Aside0.mk ho; have HB := Aside0.mk hb; clear ho hb))
  go_loopw [8, 9] (fun v8 i wr => ∃ j : Nat, i = .int .i64 j ∧ j ≤ l1.length ∧ j ≤ 5 ∧ Aside0 (Kd.R (Kd.int .i64) 2 wr w.heap.size (fun _ => True) v8 (List.replicate j 2)) ∧ Aside0 (Below w.heap.size w wr)) (fun _ i _ => 5 - (intOf i).toNat)
  case atStart => exact ⟨0, rfl, Nat.zero_le _, Nat.zero_le _, HO, HB⟩
  case round =>
    clear HO HB
    obtain ⟨j, rfl, hj1, hj2, HO, HB⟩ := hrel
    by_cases hlt : j < l1.length ∧ j < 5
    · obtain ⟨hlt1, hlt2⟩ := hlt
      go_wp2_with (first | (at_builtin; refine Kd.R_append (Kd.int .i64) (w0 := w) w.heap.size rfl (.tmp 28) (.tmp 29) 24 2 (.int .i64 0) 8 rfl Try.underlying24 info2 rfl (by decide) (by omega) _ (List.replicate j 2) 2 [.int .i64 2] (fun _ => True) (fun _ => False) rfl rfl ?aP (fun _ hk => hk.elim) ?aF ?aO ?aB ?aS ?aL ?_; (case aP => exact rfl); (case aB => exact HB.out); (case aF => exact (fun _ _ => trivial)); (case aO => exact HO.out); (case aS => exact below_size HB.out); (case aL => rw [List.length_replicate]; omega); intro v1 w2 ho hb hg hat; have HO1 := Aside0.mk ho; have HB1 := Aside0.mk hb; clear ho hb hg hat))
      go_roundw
      case rel => exact ⟨j + 1, by go_num, by omega, by omega, ⟨by rw [List.replicate_succ']; exact HO1.out⟩, HB1⟩
      case measure => simp [intOf]; omega
    · have HM := Aside0.mk (show min l1.length 5 = j by omega)
      obtain ⟨A, c, rfl, hlc, hC⟩ := Kd.R_reads HO.out
      have HCD := Aside0.mk (show spec_l08Given.f k a0 l1 (List.replicate j 2) a2 = some code by rw [← HM.out]; exact HCODE.out)
      have HG := spec_l08Given.calls k a0 A1 c1 l1 A c (List.replicate j 2) a2 code wr (Kd.C_below HR1.out HB.out) HC1.out hC hlc HCD.out
      rw [List.length_replicate] at HG
      have HG := Aside0.mk HG
      clear hC hlc HCD HCODE
      rcases (show j = l1.length ∨ (j = 5 ∧ 5 < l1.length) by omega) with hj | ⟨rfl, h5⟩
      · clear hlt
        have HJ := Aside0.mk hj
        have hj3 : l1.length ≤ j := by omega
        clear hj HM
        rw [List.length_replicate]
        go_wp2_with fail
        refine HG.out.mono ?_
        rintro e w2 ⟨rfl, ⟨nq, rfl⟩⟩
        by_cases hc0 : code = 0
        · subst hc0
          have hq : QuadOk a0 l1 a2 ∧ quadRest k a0 l1 a2 = some (r1, r2) := by
            have HE := HREST.out
            rw [if_pos rfl] at HE
            split at HE
            · exact ⟨by assumption, HE⟩
            · cases HE
          obtain ⟨⟨q1, q2, q3, q4, q5, q6, q7⟩, hE⟩ := hq
          have HQ7 := Aside0.mk q7
          have HE := Aside0.mk hE
          have HBW := Aside0.mk (pw_below_drewN HB.out nq)
          have HRW := Aside0.mk (Kd.C_below HR1.out HBW.out)
          obtain ⟨ww, hww⟩ : ∃ ww, ww = wr.drewN nq := ⟨_, rfl⟩
          rw [← hww] at HBW HRW ⊢
          clear hE q7 HREST HG hww HR1
          obtain ⟨n, hn⟩ : ∃ n, n = l1.length := ⟨_, rfl⟩
          rw [← hn] at q1 q2 HRW ⊢
          have HN := Aside0.mk hn
          clear hn hlen hj1 hj3
          rcases (show n = 1 ∨ n = 2 ∨ n = 3 ∨ n = 4 by omega) with rfl | rfl | rfl | rfl
          all_goals
            clear q1 q2
            go_wp2
            go_loopw [12, 14] (fun q i wr => ∃ j : Nat, i = .int .i64 j ∧ j ≤ l1.length ∧ q = .int .i64 (prodMod a0 (l1.take j)) ∧ wr = ww) (fun _ i _ => l1.length - (intOf i).toNat)
            case atStart => exact ⟨0, rfl, Nat.zero_le _, rfl, rfl⟩
            case round =>
              obtain ⟨j, rfl, hj, rfl, rfl⟩ := hrel
              have hjn : j ≤ _ := HN.out ▸ hj
              have hbq := prodMod_bd a0 (by omega) (l1.take j)
              obtain ⟨hb0, hb1⟩ := hbq
              by_cases hlt : j < l1.length
              · obtain ⟨ad, e, hcode⟩ := Kd.at_int HRW.out (j : Int) (by omega) (by have := HN.out; omega)
                cases e
                rw [Int.toNat_natCast] at hcode
                obtain ⟨x, hx⟩ : ∃ x, x = rd l1 (j : Int) := ⟨_, rfl⟩
                have hxe : x = l1[j] := by rw [hx]; simp [rd, hlt]
                obtain ⟨hx0, hx1⟩ := HQ7.out x (by rw [hxe]; exact List.getElem_mem hlt)
                have HT := Aside0.mk (show prodMod a0 (l1.take (j + 1)) = prodMod a0 (l1.take j) * x % a0 by
                  rw [List.take_succ_eq_append_getElem hlt, prodMod_snoc, hxe])
                rw [← hx] at hcode
                clear hx hxe
                obtain ⟨q, hq⟩ : ∃ q, q = prodMod a0 (l1.take j) := ⟨_, rfl⟩
                rw [← hq] at hb0 hb1 HT ⊢
                have h0 : 0 ≤ q * x := Int.mul_nonneg hb0 hx0
                have h1 : q * x ≤ 61 * 61 := Int.mul_le_mul (by omega) (by omega) hx0 (by omega)
                have hw : wrap64 (q * x) = q * x := by unfold wrap64; omega
                have hlt3 : j < _ := HN.out ▸ hlt
                clear hq
                go_wp2
                go_roundw
                case rel => exact ⟨j + 1, by go_num, by omega, by rw [HT.out], by first | rfl | trivial⟩
                case measure => simp [intOf]; omega
              · have HT := Aside0.mk (show l1.take j = l1 from List.take_of_length_le (by omega))
                have hlt3 : ¬ (j < _) := HN.out ▸ hlt
                have hP := prodMod_bd a0 (by omega) l1
                rw [HT.out]
                obtain ⟨P, hPe⟩ : ∃ P, P = prodMod a0 l1 := ⟨_, rfl⟩
                rw [← hPe] at hP ⊢
                have HP := Aside0.mk hPe
                obtain ⟨hP0, hP1⟩ := hP
                clear hPe hb0 hb1
                have hs0 : 0 ≤ a0 * a0 := Int.mul_nonneg (by omega) (by omega)
                have hs1 : a0 * a0 ≤ 61 * 61 := Int.mul_le_mul (by omega) (by omega) (by omega) (by omega)
                have hc0 : 0 ≤ a0 * a0 * a0 := Int.mul_nonneg hs0 (by omega)
                have hc1 : a0 * a0 * a0 ≤ 61 * 61 * 61 := Int.mul_le_mul hs1 (by omega) (by omega) (by omega)
                have hw2 : wrap64 (a0 * a0) = a0 * a0 := by unfold wrap64; omega
                have hw3 : wrap64 (a0 * a0 * a0) = a0 * a0 * a0 := by unfold wrap64; omega
                have hv0 : 0 ≤ P * a2 := Int.mul_nonneg hP0 (by omega)
                have hv1 : P * a2 ≤ 61 * 61 := Int.mul_le_mul (by omega) (by omega) (by omega) (by omega)
                rcases (show (a2 == 0) = true ∨ (a2 == 0) = false by cases (a2 == 0) <;> simp) with ha | ha
                all_goals
                  go_wp2
                  have HBA := Aside0.mk (below_step HBW.out (below_alloc (Below.refl wr.heap.size wr) (.cells #[.int .i64 1, .int .i64 a0, .int .i64 (a0 * a0), .int .i64 (a0 * a0 * a0)] 2)))
                  have hg := heap_alloc_new wr (.cells #[.int .i64 1, .int .i64 a0, .int .i64 (a0 * a0), .int .i64 (a0 * a0 * a0)] 2)
                  have hg0 := (blk_cell hg 0).trans rfl
                  have hg1 := (blk_cell hg 1).trans rfl
                  have hg2 := (blk_cell hg 2).trans rfl
                  have hg3 := (blk_cell hg 3).trans rfl
                  obtain ⟨W2, hW2⟩ : ∃ W2, W2 = wr.alloc (.cells #[.int .i64 1, .int .i64 a0, .int .i64 (a0 * a0), .int .i64 (a0 * a0 * a0)] 2) := ⟨_, rfl⟩
                  rw [← hW2] at HBA hg0 hg1 hg2 hg3 ⊢
                  clear hW2 hg
                  have hqr := HE.out
                  unfold quadRest at hqr
                  rw [← HN.out, ← HP.out] at hqr
                  first | rw [if_pos (by decide)] at hqr | rw [if_neg (by decide)] at hqr
                  obtain ⟨s, hs, hqr⟩ := Option.bind_eq_some_iff.mp hqr
                  have hsb : -1 ≤ s ∧ s ≤ 1 := by
                    split at hqr
                    · assumption
                    · cases hqr
                  rw [if_pos hsb] at hqr
                  obtain ⟨hsb0, hsb1⟩ := hsb
                  have HQR := Aside0.mk hqr
                  first
                    | have HS := Aside0.mk (show spec_l08Square.f k a0 (P * a2) = some s by simpa [signOf] using hs)
                    | have HS := Aside0.mk (show spec_l08Square.f k a0 (wrap64 (-P * a2)) = some s by
                        rw [show wrap64 (-P * a2) = -P * a2 by (unfold wrap64; rw [Int.neg_mul]; omega)]
                        simpa [signOf] using hs)
                    | have HS := Aside0.mk (show spec_l08Square.f k a0 (-P) = some s by simpa [signOf] using hs)
                    | have HS := Aside0.mk (show spec_l08Square.f k a0 P = some s by simpa [signOf] using hs)
                  clear hqr hs
                  have hm0 : 0 ≤ (a0 - 1) * a0 := Int.mul_nonneg (by omega) (by omega)
                  have hm1 : (a0 - 1) * a0 ≤ 61 * 61 := Int.mul_le_mul (by omega) (by omega) (by omega) (by omega)
                  go_quiet ((go_at_call 244; refine Calls.quiet_of ((spec_l08Square.calls k a0 _ s _ ?hA).mono fun e w' h => ⟨h.1, h.2.out⟩); (case hA => exact HS.out)))
                  go_wp2
                  go_ret2
                  have hz := HQR.out
                  simp only [Option.some.injEq, Prod.mk.injEq] at hz
                  obtain ⟨rfl, rfl⟩ := hz
                  refine ⟨ret2_int ?_, pw_below_drewN HBA.out _⟩
                  simp at ha
                  rcases (show s = -1 ∨ s = 0 ∨ s = 1 by omega) with rfl | rfl | rfl
                  all_goals
                    simp [Int.pow_succ, ha, Int.neg_mul] at *
                    try (unfold wrap64; omega)
        · have hc1 : (code == 0) = false := by simpa using hc0
          have hc2 : (code != 0) = true := by simpa using hc0
          have HE := HREST.out
          rw [if_neg hc0] at HE
          simp only [Option.some.injEq, Prod.mk.injEq] at HE
          obtain ⟨rfl, rfl⟩ := HE
          go_wp2
          go_ret2
          exact ⟨rfl, pw_below_drewN HB.out _⟩
      · clear hlt HM
        have hc0 : code ≠ 0 := by
          intro h0
          have HE := HREST.out
          rw [if_pos h0] at HE
          split at HE
          · rename_i hq; have := hq.2.1; omega
          · cases HE
        have hc1 : (code == 0) = false := by simpa using hc0
        have hc2 : (code != 0) = true := by simpa using hc0
        have HE := HREST.out
        rw [if_neg hc0] at HE
        simp only [Option.some.injEq, Prod.mk.injEq] at HE
        obtain ⟨rfl, rfl⟩ := HE
        rw [List.length_replicate]
        go_wp2_with fail
        refine HG.out.mono ?_
        rintro e w2 ⟨rfl, ⟨nq, rfl⟩⟩
        go_wp2
        go_ret2
        exact ⟨rfl, pw_below_drewN HB.out _⟩
end Go.Proofs.Ytmjfaagifijmlaa.P
