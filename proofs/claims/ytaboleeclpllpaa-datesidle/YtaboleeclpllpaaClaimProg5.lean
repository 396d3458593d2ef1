/-
The program's functions as plain functions, each with its contract (written by the kit's printer, driven by a program of this repo; some by hand), put together into one text.
Conditions: each contract's own.
-/
import Derived.Test.YtaboleeclpllpaaClaimProg1
import Derived.Test.YtaboleeclpllpaaClaimProg3
import Derived.Test.YtaboleeclpllpaaClaimProg4

namespace Go.Proofs.Ytaboleeclpllpaa.P
open Go.RowKit Go.Proofs.YtaboleeclpllpaaW.PrintWords Go.Proofs.YtaboleeclpllpaaW.PrintLast Go.Proofs.YtaboleeclpllpaaW.PrintMore
attribute [local go_sem] max2_int min2_int max_two min_two max_three min_three max_four min_four
set_option linter.unusedVariables false
set_option linter.unusedSimpArgs false
def dates_Check.f (k : Nat) (l0 : List (S48)) (l1 : List (S44)) : Option (List Int × Bool × Int) := (dates_jobs_valid.f k l0).bind fun t421 => (if t421 = true then ((dates_jobs_whole.f k l0 l1).bind fun t422 => (if t422 = true then ((dates_jobs_finished.f k l0 l1).bind fun t423 => (some (t423, true, 0))) else (some (([] : List Int), false, 0)))) else (some (([] : List Int), false, 2)))
theorem dates_Check.mono : ∀ a0 a1 k, LeO (dates_Check.f k a0 a1) (dates_Check.f (k + 1) a0 a1) := by
 intro a0 a1 k;unfold dates_Check.f;repeat' first
   | (with_reducible exact dates_jobs_finished.mono _ _ _)
   | (with_reducible exact dates_jobs_valid.mono _ _)
   | (with_reducible exact dates_jobs_whole.mono _ _ _)
   | (with_reducible exact LeO.refl _)
   | (with_reducible exact LeO.none _)
   | (with_reducible refine LeO.ite ?_ ?_)
   | (with_reducible refine LeO.bind ?_ (fun _ => ?_))
   | exact dates_jobs_finished.mono _ _ _
   | exact dates_jobs_valid.mono _ _
   | exact dates_jobs_whole.mono _ _ _
   | exact LeO.none _
   | refine LeO.ite ?_ ?_
   | refine LeO.bind ?_ (fun _ => ?_)
set_option maxHeartbeats 8000000 in
set_option maxRecDepth 100000 in
theorem dates_Check.calls (k : Nat) (A0 : Option Addr) (c0 : Nat) (l0 : List (S48)) (A1 : Option Addr) (c1 : Nat) (l1 : List (S44)) (r1 : List Int) (r2 : Bool) (r3 : Int) (w : World) (hr0 : Kd.C k48 w A0 l0.length l0) (hc0 : l0.length ≤ c0) (hr1 : Kd.C k44 w A1 l1.length l1) (hc1 : l1.length ≤ c1) (h : dates_Check.f k l0 l1 = some (r1, r2, r3)) :
    Calls Try.prog 32 #[.slice A0 l0.length c0, .slice A1 l1.length c1] w fun e w' => ∃ v0_ : Value, e = .returned (.tuple #[v0_, .bool r2, .int .i64 r3]) ∧ Kd.R (Kd.int .i64) 3 w' w.heap.size (fun _ => True) v0_ r1 ∧ Below w.heap.size w w' := by
 have HR0 := Aside0.mk hr0;have HC0 := Aside0.mk hc0;clear hr0 hc0;have HR1 := Aside0.mk hr1;have HC1 := Aside0.mk hc1;clear hr1 hc1;have HB := Aside0.mk (Below.refl w.heap.size w);have H : ((dates_jobs_valid.f k l0).bind fun t421 => (if t421 = true then ((dates_jobs_whole.f k l0 l1).bind fun t422 => (if t422 = true then ((dates_jobs_finished.f k l0 l1).bind fun t423 => (some (t423, true, 0))) else (some (([] : List Int), false, 0)))) else (some (([] : List Int), false, 2)))) = some (r1, r2, r3) := h;clear h;replace H := Option.bind_eq_some_iff.mp H;obtain ⟨t421, A30, H⟩ := H;replace H : (if t421 = true then ((dates_jobs_whole.f k l0 l1).bind fun t422 => (if t422 = true then ((dates_jobs_finished.f k l0 l1).bind fun t423 => (some (t423, true, 0))) else (some (([] : List Int), false, 0)))) else (some (([] : List Int), false, 2))) = some (r1, r2, r3) := H;have A3 := Aside0.mk A30;clear A30;by_cases c4 : t421 = true
 ·subst c4;have H1 : ((dates_jobs_whole.f k l0 l1).bind fun t422 => (if t422 = true then ((dates_jobs_finished.f k l0 l1).bind fun t423 => (some (t423, true, 0))) else (some (([] : List Int), false, 0)))) = some (r1, r2, r3) := by rw [if_pos rfl] at H; exact H
  clear H;have H := H1;clear H1;replace H := Option.bind_eq_some_iff.mp H;obtain ⟨t422, A50, H⟩ := H;replace H : (if t422 = true then ((dates_jobs_finished.f k l0 l1).bind fun t423 => (some (t423, true, 0))) else (some (([] : List Int), false, 0))) = some (r1, r2, r3) := H;have A5 := Aside0.mk A50;clear A50;by_cases c6 : t422 = true
  ·subst c6;have H1 : ((dates_jobs_finished.f k l0 l1).bind fun t423 => (some (t423, true, 0))) = some (r1, r2, r3) := by rw [if_pos rfl] at H; exact H
   clear H;have H := H1;clear H1;replace H := Option.bind_eq_some_iff.mp H;obtain ⟨t423, A70, H⟩ := H;replace H : (some (t423, true, 0)) = some (r1, r2, r3) := H;have A7 := Aside0.mk A70;clear A70;simp only [Option.some.injEq, Prod.mk.injEq] at H;obtain ⟨rfl, rfl, rfl⟩ := H;go_enter Try.func32, Try.ntmps32;go_wp2_with (first | ((with_reducible refine gate_callee (f := 54) rfl ?_); refine goesL_ (some 10) rfl rfl Try.func54 (by kernel_rfl) rfl #[.slice A0 l0.length c0] rfl (by (try simp only [List.map_toArray, List.map_cons, List.map_nil]); first | done | rfl | (simp only [List.length_drop, List.length_take]; rfl)) ?_; (with_reducible refine (dates_jobs_valid.calls k _ _ l0 true _ ?side1 ?side2 A3.out).mono ?_); (case side1 => repeat (first | exact HR0.out | (with_reducible refine Kd.C_alloc ?_ _) | (with_reducible refine Kd.C_drewN ?_ _) | (with_reducible refine Kd.C_drew ?_))); (case side2 => exact HC0.out); rintro e w8 ⟨rfl, hb⟩; refine ⟨_, rfl, ?_⟩; have n0_ := Aside0.mk (below_step (by repeat (first | (with_reducible first | exact HB.out | apply below_alloc | apply pw_below_drewN | apply below_drew1) | exact HB.out)) hb); clear HB; have HB := n0_; clear n0_; (try clear hb); (try clear hb2); (try clear hk); (try clear hi)) | ((with_reducible refine gate_callee (f := 64) rfl ?_); refine goesL_ (some 14) rfl rfl Try.func64 (by kernel_rfl) rfl #[.slice A0 l0.length c0, .slice A1 l1.length c1] rfl (by (try simp only [List.map_toArray, List.map_cons, List.map_nil]); first | done | rfl | (simp only [List.length_drop, List.length_take]; rfl)) ?_; (with_reducible refine (dates_jobs_whole.calls k _ _ l0 _ _ l1 true _ ?side1 ?side2 ?side3 ?side4 A5.out).mono ?_); (case side1 => repeat (first | exact (Kd.C_below HR0.out HB.out) | (with_reducible refine Kd.C_alloc ?_ _) | (with_reducible refine Kd.C_drewN ?_ _) | (with_reducible refine Kd.C_drew ?_))); (case side2 => exact HC0.out); (case side3 => repeat (first | exact (Kd.C_below HR1.out HB.out) | (with_reducible refine Kd.C_alloc ?_ _) | (with_reducible refine Kd.C_drewN ?_ _) | (with_reducible refine Kd.C_drew ?_))); (case side4 => exact HC1.out); rintro e w9 ⟨rfl, hb⟩; refine ⟨_, rfl, ?_⟩; have n0_ := Aside0.mk (below_step (by repeat (first | (with_reducible first | exact HB.out | apply below_alloc | apply pw_below_drewN | apply below_drew1) | exact HB.out)) hb); clear HB; have HB := n0_; clear n0_; (try clear hb); (try clear hb2); (try clear hk); (try clear hi)) | ((with_reducible refine gate_callee (f := 56) rfl ?_); refine goesL_ (some 18) rfl rfl Try.func56 (by kernel_rfl) rfl #[.slice A0 l0.length c0, .slice A1 l1.length c1] rfl (by (try simp only [List.map_toArray, List.map_cons, List.map_nil]); first | done | rfl | (simp only [List.length_drop, List.length_take]; rfl)) ?_; (with_reducible refine (dates_jobs_finished.calls k _ _ l0 _ _ l1 t423 _ ?side1 ?side2 ?side3 ?side4 A7.out).mono ?_); (case side1 => repeat (first | exact (Kd.C_below HR0.out HB.out) | (with_reducible refine Kd.C_alloc ?_ _) | (with_reducible refine Kd.C_drewN ?_ _) | (with_reducible refine Kd.C_drew ?_))); (case side2 => exact HC0.out); (case side3 => repeat (first | exact (Kd.C_below HR1.out HB.out) | (with_reducible refine Kd.C_alloc ?_ _) | (with_reducible refine Kd.C_drewN ?_ _) | (with_reducible refine Kd.C_drew ?_))); (case side4 => exact HC1.out); rintro e w10 ⟨v424, rfl, ho0, hb⟩; refine ⟨_, rfl, ?_⟩; have n0_ := Aside0.mk (Kd.R_lower ho0 (below_size (by repeat (first | (with_reducible first | exact HB.out | apply below_alloc | apply pw_below_drewN | apply below_drew1) | exact HB.out)))); have n1_ := Aside0.mk (below_step (by repeat (first | (with_reducible first | exact HB.out | apply below_alloc | apply pw_below_drewN | apply below_drew1) | exact HB.out)) hb); clear HB; have HO425 := n0_; have HB := n1_; clear n0_ n1_; (try clear hb); (try clear hb2); (try clear hk); (try clear hi); (try clear ho0)));go_ret3;exact ⟨_, by first | rfl | (simp [errW_none, errW_some] <;> rfl) | (simp [*, errW_none, errW_some] <;> rfl), by (with_reducible repeat (first | apply Kd.R_alloc | apply Kd.R_drewN | apply Kd.R_drew)); exact HO425.out, by repeat (first | (with_reducible first | exact HB.out | apply below_alloc | apply pw_below_drewN | apply below_drew1) | exact HB.out)⟩
  ·replace c6 := Bool.eq_false_iff.mpr c6;subst c6;have H1 : (some (([] : List Int), false, 0)) = some (r1, r2, r3) := by rw [if_neg (show ¬ (false = true) by decide)] at H; exact H
   clear H;have H := H1;clear H1;simp only [Option.some.injEq, Prod.mk.injEq] at H;obtain ⟨rfl, rfl, rfl⟩ := H;go_enter Try.func32, Try.ntmps32;go_wp2_with (first | ((with_reducible refine gate_callee (f := 54) rfl ?_); refine goesL_ (some 10) rfl rfl Try.func54 (by kernel_rfl) rfl #[.slice A0 l0.length c0] rfl (by (try simp only [List.map_toArray, List.map_cons, List.map_nil]); first | done | rfl | (simp only [List.length_drop, List.length_take]; rfl)) ?_; (with_reducible refine (dates_jobs_valid.calls k _ _ l0 true _ ?side1 ?side2 A3.out).mono ?_); (case side1 => repeat (first | exact HR0.out | (with_reducible refine Kd.C_alloc ?_ _) | (with_reducible refine Kd.C_drewN ?_ _) | (with_reducible refine Kd.C_drew ?_))); (case side2 => exact HC0.out); rintro e w11 ⟨rfl, hb⟩; refine ⟨_, rfl, ?_⟩; have n0_ := Aside0.mk (below_step (by repeat (first | (with_reducible first | exact HB.out | apply below_alloc | apply pw_below_drewN | apply below_drew1) | exact HB.out)) hb); clear HB; have HB := n0_; clear n0_; (try clear hb); (try clear hb2); (try clear hk); (try clear hi)) | ((with_reducible refine gate_callee (f := 64) rfl ?_); refine goesL_ (some 14) rfl rfl Try.func64 (by kernel_rfl) rfl #[.slice A0 l0.length c0, .slice A1 l1.length c1] rfl (by (try simp only [List.map_toArray, List.map_cons, List.map_nil]); first | done | rfl | (simp only [List.length_drop, List.length_take]; rfl)) ?_; (with_reducible refine (dates_jobs_whole.calls k _ _ l0 _ _ l1 false _ ?side1 ?side2 ?side3 ?side4 A5.out).mono ?_); (case side1 => repeat (first | exact (Kd.C_below HR0.out HB.out) | (with_reducible refine Kd.C_alloc ?_ _) | (with_reducible refine Kd.C_drewN ?_ _) | (with_reducible refine Kd.C_drew ?_))); (case side2 => exact HC0.out); (case side3 => repeat (first | exact (Kd.C_below HR1.out HB.out) | (with_reducible refine Kd.C_alloc ?_ _) | (with_reducible refine Kd.C_drewN ?_ _) | (with_reducible refine Kd.C_drew ?_))); (case side4 => exact HC1.out); rintro e w12 ⟨rfl, hb⟩; refine ⟨_, rfl, ?_⟩; have n0_ := Aside0.mk (below_step (by repeat (first | (with_reducible first | exact HB.out | apply below_alloc | apply pw_below_drewN | apply below_drew1) | exact HB.out)) hb); clear HB; have HB := n0_; clear n0_; (try clear hb); (try clear hb2); (try clear hk); (try clear hi)));go_ret3;exact ⟨_, by first | rfl | (simp [errW_none, errW_some] <;> rfl) | (simp [*, errW_none, errW_some] <;> rfl), by first | exact Kd.R_nil _ _ _ _ _ | exact Kd.N_nil _ _ _ _ _ | exact Kd.V_nil _ _ _ _ _ | exact Kd.Q_nil _ _ _ _ _ | exact Kd.S_nil _ _ _ _ _, by repeat (first | (with_reducible first | exact HB.out | apply below_alloc | apply pw_below_drewN | apply below_drew1) | exact HB.out)⟩
 ·replace c4 := Bool.eq_false_iff.mpr c4;subst c4;have H1 : (some (([] : List Int), false, 2)) = some (r1, r2, r3) := by rw [if_neg (show ¬ (false = true) by decide)] at H; exact H
  clear H;have H := H1;clear H1;simp only [Option.some.injEq, Prod.mk.injEq] at H;obtain ⟨rfl, rfl, rfl⟩ := H;go_enter Try.func32, Try.ntmps32;go_wp2_with (first | ((with_reducible refine gate_callee (f := 54) rfl ?_); refine goesL_ (some 10) rfl rfl Try.func54 (by kernel_rfl) rfl #[.slice A0 l0.length c0] rfl (by (try simp only [List.map_toArray, List.map_cons, List.map_nil]); first | done | rfl | (simp only [List.length_drop, List.length_take]; rfl)) ?_; (with_reducible refine (dates_jobs_valid.calls k _ _ l0 false _ ?side1 ?side2 A3.out).mono ?_); (case side1 => repeat (first | exact HR0.out | (with_reducible refine Kd.C_alloc ?_ _) | (with_reducible refine Kd.C_drewN ?_ _) | (with_reducible refine Kd.C_drew ?_))); (case side2 => exact HC0.out); rintro e w13 ⟨rfl, hb⟩; refine ⟨_, rfl, ?_⟩; have n0_ := Aside0.mk (below_step (by repeat (first | (with_reducible first | exact HB.out | apply below_alloc | apply pw_below_drewN | apply below_drew1) | exact HB.out)) hb); clear HB; have HB := n0_; clear n0_; (try clear hb); (try clear hb2); (try clear hk); (try clear hi)));go_ret3;exact ⟨_, by first | rfl | (simp [errW_none, errW_some] <;> rfl) | (simp [*, errW_none, errW_some] <;> rfl), by first | exact Kd.R_nil _ _ _ _ _ | exact Kd.N_nil _ _ _ _ _ | exact Kd.V_nil _ _ _ _ _ | exact Kd.Q_nil _ _ _ _ _ | exact Kd.S_nil _ _ _ _ _, by repeat (first | (with_reducible first | exact HB.out | apply below_alloc | apply pw_below_drewN | apply below_drew1) | exact HB.out)⟩
end Go.Proofs.Ytaboleeclpllpaa.P


namespace Go.Proofs.Ytaboleeclpllpaa.P
open Go.RowKit Go.Proofs.YtaboleeclpllpaaW.PrintWords Go.Proofs.YtaboleeclpllpaaW.PrintLast Go.Proofs.YtaboleeclpllpaaW.PrintMore
attribute [local go_sem] max2_int min2_int max_two min_two max_three min_three max_four min_four
set_option linter.unusedVariables false
set_option linter.unusedSimpArgs false
mutual
def corrodylaw06_DatesIdle.j0 : Nat → List (S43) → List (S44) → Int → List (S44) → Int → Bool → Option (Bool)
  | 0, _, _, _, _, _, _ => none
  | k + 1, x0, x3, x4, x5, x7, x41 => if x41 = true then (if x4 = 2 then (if x7 = 2 then ((corrodylaw06_awake.f k).bind fun t296 => (some t296)) else (some false)) else (some false)) else ((some (([x3, x5] : List (List (S44))) : List (List (S44)))).bind fun y297 => (corrodylaw06_DatesIdle.l0 k x0 y297 (y297.length : Int) 0))
def corrodylaw06_DatesIdle.l0 : Nat → List (S43) → List (List (S44)) → Int → Int → Option (Bool)
  | 0, _, _, _, _ => none
  | k + 1, x0, x53, x54, x55 => if x55 < x54 then (if 0 ≤ x55 then (if x55 < (x53.length : Int) then (if 0 ≤ (x0.length : Int) then (if ((x0.length : Int) : Int).toNat ≤ 35184372088832 then (corrodylaw06_DatesIdle.l1 k x0 (rd_L5 x53 x55) (List.replicate ((x0.length : Int) : Int).toNat 0) x53 x54 x55 (x0.length : Int) 0) else (none)) else (none)) else (none)) else (none)) else ((corrodylaw06_awake.f k).bind fun t300 => (some t300))
def corrodylaw06_DatesIdle.l1 : Nat → List (S43) → List (S44) → List Int → List (List (S44)) → Int → Int → Int → Int → Option (Bool)
  | 0, _, _, _, _, _, _, _, _ => none
  | k + 1, x0, x9, x10, x53, x54, x55, x63, x64 => if x64 < x63 then (if 0 ≤ x64 then (if x64 < (x0.length : Int) then (if x64 < (x10.length : Int) then (corrodylaw06_DatesIdle.l1 k x0 x9 (x10.set (x64 : Int).toNat ((rd_T43 x0 x64).f0)) x53 x54 x55 x63 (wrap64 (x64 + 1))) else (none)) else (none)) else (none)) else (corrodylaw06_DatesIdle.l2 k x0 x10 0 x53 x54 x55 x9 (x9.length : Int) 0)
def corrodylaw06_DatesIdle.l2 : Nat → List (S43) → List Int → Int → List (List (S44)) → Int → Int → List (S44) → Int → Int → Option (Bool)
  | 0, _, _, _, _, _, _, _, _, _ => none
  | k + 1, x0, x10, x12, x53, x54, x55, x76, x77, x78 => if x78 < x77 then (if 0 ≤ x78 then (if x78 < (x76.length : Int) then (if ((rd_T44 x76 x78).f0) < 0 then (corrodylaw06_DatesIdle.j4 k x0 x10 x12 x53 x54 x55 x76 x77 x78 true ((rd_T44 x76 x78).f0) ((rd_T44 x76 x78).f1) ((rd_T44 x76 x78).f2)) else (if ((rd_T44 x76 x78).f0) ≥ (x0.length : Int) then (corrodylaw06_DatesIdle.j4 k x0 x10 x12 x53 x54 x55 x76 x77 x78 true ((rd_T44 x76 x78).f0) ((rd_T44 x76 x78).f1) ((rd_T44 x76 x78).f2)) else (if ((rd_T44 x76 x78).f1) < x12 then (corrodylaw06_DatesIdle.j4 k x0 x10 x12 x53 x54 x55 x76 x77 x78 true ((rd_T44 x76 x78).f0) ((rd_T44 x76 x78).f1) ((rd_T44 x76 x78).f2)) else (corrodylaw06_DatesIdle.j4 k x0 x10 x12 x53 x54 x55 x76 x77 x78 (decide (((rd_T44 x76 x78).f2) ≤ ((rd_T44 x76 x78).f1))) ((rd_T44 x76 x78).f0) ((rd_T44 x76 x78).f1) ((rd_T44 x76 x78).f2))))) else (none)) else (none)) else (corrodylaw06_DatesIdle.l4 k x0 x53 x54 x55 x10 (x10.length : Int) 0)
def corrodylaw06_DatesIdle.j4 : Nat → List (S43) → List Int → Int → List (List (S44)) → Int → Int → List (S44) → Int → Int → Bool → Int → Int → Int → Option (Bool)
  | 0, _, _, _, _, _, _, _, _, _, _, _, _, _ => none
  | k + 1, x0, x10, x12, x53, x54, x55, x76, x77, x78, x104, x309000, x309001, x309002 => if x104 = true then (some false) else (corrodylaw06_DatesIdle.l3 k x0 x10 x12 x53 x54 x55 x76 x77 x78 (x0.length : Int) 0 x309000 x309001 x309002)
def corrodylaw06_DatesIdle.l3 : Nat → List (S43) → List Int → Int → List (List (S44)) → Int → Int → List (S44) → Int → Int → Int → Int → Int → Int → Int → Option (Bool)
  | 0, _, _, _, _, _, _, _, _, _, _, _, _, _, _ => none
  | k + 1, x0, x10, x12, x53, x54, x55, x76, x77, x78, x106, x107, x309000, x309001, x309002 => if x107 < x106 then (if x309001 > x12 then (if 0 ≤ x107 then (if x107 < (x10.length : Int) then (if (rd x10 x107) > 0 then (if x107 < (x0.length : Int) then (if ((rd_T43 x0 x107).f1) < x309001 then (some false) else (corrodylaw06_DatesIdle.l3 k x0 x10 x12 x53 x54 x55 x76 x77 x78 x106 (wrap64 (x107 + 1)) x309000 x309001 x309002)) else (none)) else (corrodylaw06_DatesIdle.l3 k x0 x10 x12 x53 x54 x55 x76 x77 x78 x106 (wrap64 (x107 + 1)) x309000 x309001 x309002)) else (none)) else (none)) else (corrodylaw06_DatesIdle.l3 k x0 x10 x12 x53 x54 x55 x76 x77 x78 x106 (wrap64 (x107 + 1)) x309000 x309001 x309002)) else (if 0 ≤ x309000 then (if x309000 < (x10.length : Int) then (corrodylaw06_DatesIdle.l2 k x0 (x10.set (x309000 : Int).toNat (wrap64 ((rd x10 x309000) - (wrap64 (x309002 - x309001))))) x309002 x53 x54 x55 x76 x77 (wrap64 (x78 + 1))) else (none)) else (none))
def corrodylaw06_DatesIdle.l4 : Nat → List (S43) → List (List (S44)) → Int → Int → List Int → Int → Int → Option (Bool)
  | 0, _, _, _, _, _, _, _ => none
  | k + 1, x0, x53, x54, x55, x147, x148, x149 => if x149 < x148 then (if 0 ≤ x149 then (if x149 < (x147.length : Int) then (if (rd x147 x149) = 0 then (corrodylaw06_DatesIdle.l4 k x0 x53 x54 x55 x147 x148 (wrap64 (x149 + 1))) else (some false)) else (none)) else (none)) else (corrodylaw06_DatesIdle.l0 k x0 x53 x54 (wrap64 (x55 + 1)))
end
def corrodylaw06_DatesIdle.f (k : Nat) (l0 : List (S43)) : Option (Bool) := (corrodylaw06_Of.f k l0).bind fun t280 => ((dates_Plan.f k t280).bind fun bt283 => ((corrodylaw06_Of.f k l0).bind fun t287 => ((dates_Short.f k t287).bind fun bt290 => (if bt283.2 = 0 then (if bt290.2.2 = 0 then ((corrodyref06_Valid.f k l0).bind fun t295 => (corrodylaw06_DatesIdle.j0 k l0 bt283.1 bt283.2 bt290.1 bt290.2.2 (!t295))) else (corrodylaw06_DatesIdle.j0 k l0 bt283.1 bt283.2 bt290.1 bt290.2.2 true)) else (corrodylaw06_DatesIdle.j0 k l0 bt283.1 bt283.2 bt290.1 bt290.2.2 true)))))
theorem corrodylaw06_DatesIdle.mono_l : ∀ k, (∀ y0 y1 y2 y3 y4 y5, LeO (corrodylaw06_DatesIdle.j0 k y0 y1 y2 y3 y4 y5) (corrodylaw06_DatesIdle.j0 (k + 1) y0 y1 y2 y3 y4 y5)) ∧ (∀ y0 y1 y2 y3, LeO (corrodylaw06_DatesIdle.l0 k y0 y1 y2 y3) (corrodylaw06_DatesIdle.l0 (k + 1) y0 y1 y2 y3)) ∧ (∀ y0 y1 y2 y3 y4 y5 y6 y7, LeO (corrodylaw06_DatesIdle.l1 k y0 y1 y2 y3 y4 y5 y6 y7) (corrodylaw06_DatesIdle.l1 (k + 1) y0 y1 y2 y3 y4 y5 y6 y7)) ∧ (∀ y0 y1 y2 y3 y4 y5 y6 y7 y8, LeO (corrodylaw06_DatesIdle.l2 k y0 y1 y2 y3 y4 y5 y6 y7 y8) (corrodylaw06_DatesIdle.l2 (k + 1) y0 y1 y2 y3 y4 y5 y6 y7 y8)) ∧ (∀ y0 y1 y2 y3 y4 y5 y6 y7 y8 y9 y10 y11 y12, LeO (corrodylaw06_DatesIdle.j4 k y0 y1 y2 y3 y4 y5 y6 y7 y8 y9 y10 y11 y12) (corrodylaw06_DatesIdle.j4 (k + 1) y0 y1 y2 y3 y4 y5 y6 y7 y8 y9 y10 y11 y12)) ∧ (∀ y0 y1 y2 y3 y4 y5 y6 y7 y8 y9 y10 y11 y12 y13, LeO (corrodylaw06_DatesIdle.l3 k y0 y1 y2 y3 y4 y5 y6 y7 y8 y9 y10 y11 y12 y13) (corrodylaw06_DatesIdle.l3 (k + 1) y0 y1 y2 y3 y4 y5 y6 y7 y8 y9 y10 y11 y12 y13)) ∧ (∀ y0 y1 y2 y3 y4 y5 y6, LeO (corrodylaw06_DatesIdle.l4 k y0 y1 y2 y3 y4 y5 y6) (corrodylaw06_DatesIdle.l4 (k + 1) y0 y1 y2 y3 y4 y5 y6))
  | 0 => ⟨fun _ _ _ _ _ _ r h => by simp [corrodylaw06_DatesIdle.j0] at h, fun _ _ _ _ r h => by simp [corrodylaw06_DatesIdle.l0] at h, fun _ _ _ _ _ _ _ _ r h => by simp [corrodylaw06_DatesIdle.l1] at h, fun _ _ _ _ _ _ _ _ _ r h => by simp [corrodylaw06_DatesIdle.l2] at h, fun _ _ _ _ _ _ _ _ _ _ _ _ _ r h => by simp [corrodylaw06_DatesIdle.j4] at h, fun _ _ _ _ _ _ _ _ _ _ _ _ _ _ r h => by simp [corrodylaw06_DatesIdle.l3] at h, fun _ _ _ _ _ _ _ r h => by simp [corrodylaw06_DatesIdle.l4] at h⟩
  | k + 1 => by
    obtain ⟨ih0, ih1, ih2, ih3, ih4, ih5, ih6⟩ := corrodylaw06_DatesIdle.mono_l k
    refine ⟨?_, ?_, ?_, ?_, ?_, ?_, ?_⟩
    · intro y0 y1 y2 y3 y4 y5
      unfold corrodylaw06_DatesIdle.j0
      repeat' first
      | (with_reducible exact ih0 _ _ _ _ _ _)
      | (with_reducible exact ih1 _ _ _ _)
      | (with_reducible exact ih2 _ _ _ _ _ _ _ _)
      | (with_reducible exact ih3 _ _ _ _ _ _ _ _ _)
      | (with_reducible exact ih4 _ _ _ _ _ _ _ _ _ _ _ _ _)
      | (with_reducible exact ih5 _ _ _ _ _ _ _ _ _ _ _ _ _ _)
      | (with_reducible exact ih6 _ _ _ _ _ _ _)
      | (with_reducible exact corrodylaw06_Of.mono _ _)
      | (with_reducible exact corrodylaw06_awake.mono _)
      | (with_reducible exact corrodyref06_Valid.mono _ _)
      | (with_reducible exact dates_Plan.mono _ _)
      | (with_reducible exact dates_Short.mono _ _)
      | (with_reducible exact LeO.refl _)
      | (with_reducible exact LeO.none _)
      | (with_reducible refine LeO.ite ?_ ?_)
      | (with_reducible refine LeO.bind ?_ (fun _ => ?_))
      | exact ih0 _ _ _ _ _ _
      | exact ih1 _ _ _ _
      | exact ih2 _ _ _ _ _ _ _ _
      | exact ih3 _ _ _ _ _ _ _ _ _
      | exact ih4 _ _ _ _ _ _ _ _ _ _ _ _ _
      | exact ih5 _ _ _ _ _ _ _ _ _ _ _ _ _ _
      | exact ih6 _ _ _ _ _ _ _
      | exact corrodylaw06_Of.mono _ _
      | exact corrodylaw06_awake.mono _
      | exact corrodyref06_Valid.mono _ _
      | exact dates_Plan.mono _ _
      | exact dates_Short.mono _ _
      | exact LeO.none _
      | refine LeO.ite ?_ ?_
      | refine LeO.bind ?_ (fun _ => ?_)
    · intro y0 y1 y2 y3
      unfold corrodylaw06_DatesIdle.l0
      repeat' first
      | (with_reducible exact ih0 _ _ _ _ _ _)
      | (with_reducible exact ih1 _ _ _ _)
      | (with_reducible exact ih2 _ _ _ _ _ _ _ _)
      | (with_reducible exact ih3 _ _ _ _ _ _ _ _ _)
      | (with_reducible exact ih4 _ _ _ _ _ _ _ _ _ _ _ _ _)
      | (with_reducible exact ih5 _ _ _ _ _ _ _ _ _ _ _ _ _ _)
      | (with_reducible exact ih6 _ _ _ _ _ _ _)
      | (with_reducible exact corrodylaw06_Of.mono _ _)
      | (with_reducible exact corrodylaw06_awake.mono _)
      | (with_reducible exact corrodyref06_Valid.mono _ _)
      | (with_reducible exact dates_Plan.mono _ _)
      | (with_reducible exact dates_Short.mono _ _)
      | (with_reducible exact LeO.refl _)
      | (with_reducible exact LeO.none _)
      | (with_reducible refine LeO.ite ?_ ?_)
      | (with_reducible refine LeO.bind ?_ (fun _ => ?_))
      | exact ih0 _ _ _ _ _ _
      | exact ih1 _ _ _ _
      | exact ih2 _ _ _ _ _ _ _ _
      | exact ih3 _ _ _ _ _ _ _ _ _
      | exact ih4 _ _ _ _ _ _ _ _ _ _ _ _ _
      | exact ih5 _ _ _ _ _ _ _ _ _ _ _ _ _ _
      | exact ih6 _ _ _ _ _ _ _
      | exact corrodylaw06_Of.mono _ _
      | exact corrodylaw06_awake.mono _
      | exact corrodyref06_Valid.mono _ _
      | exact dates_Plan.mono _ _
      | exact dates_Short.mono _ _
      | exact LeO.none _
      | refine LeO.ite ?_ ?_
      | refine LeO.bind ?_ (fun _ => ?_)
    · intro y0 y1 y2 y3 y4 y5 y6 y7
      unfold corrodylaw06_DatesIdle.l1
      repeat' first
      | (with_reducible exact ih0 _ _ _ _ _ _)
      | (with_reducible exact ih1 _ _ _ _)
      | (with_reducible exact ih2 _ _ _ _ _ _ _ _)
      | (with_reducible exact ih3 _ _ _ _ _ _ _ _ _)
      | (with_reducible exact ih4 _ _ _ _ _ _ _ _ _ _ _ _ _)
      | (with_reducible exact ih5 _ _ _ _ _ _ _ _ _ _ _ _ _ _)
      | (with_reducible exact ih6 _ _ _ _ _ _ _)
      | (with_reducible exact corrodylaw06_Of.mono _ _)
      | (with_reducible exact corrodylaw06_awake.mono _)
      | (with_reducible exact corrodyref06_Valid.mono _ _)
      | (with_reducible exact dates_Plan.mono _ _)
      | (with_reducible exact dates_Short.mono _ _)
      | (with_reducible exact LeO.refl _)
      | (with_reducible exact LeO.none _)
      | (with_reducible refine LeO.ite ?_ ?_)
      | (with_reducible refine LeO.bind ?_ (fun _ => ?_))
      | exact ih0 _ _ _ _ _ _
      | exact ih1 _ _ _ _
      | exact ih2 _ _ _ _ _ _ _ _
      | exact ih3 _ _ _ _ _ _ _ _ _
      | exact ih4 _ _ _ _ _ _ _ _ _ _ _ _ _
      | exact ih5 _ _ _ _ _ _ _ _ _ _ _ _ _ _
      | exact ih6 _ _ _ _ _ _ _
      | exact corrodylaw06_Of.mono _ _
      | exact corrodylaw06_awake.mono _
      | exact corrodyref06_Valid.mono _ _
      | exact dates_Plan.mono _ _
      | exact dates_Short.mono _ _
      | exact LeO.none _
      | refine LeO.ite ?_ ?_
      | refine LeO.bind ?_ (fun _ => ?_)
    · intro y0 y1 y2 y3 y4 y5 y6 y7 y8
      unfold corrodylaw06_DatesIdle.l2
      repeat' first
      | (with_reducible exact ih0 _ _ _ _ _ _)
      | (with_reducible exact ih1 _ _ _ _)
      | (with_reducible exact ih2 _ _ _ _ _ _ _ _)
      | (with_reducible exact ih3 _ _ _ _ _ _ _ _ _)
      | (with_reducible exact ih4 _ _ _ _ _ _ _ _ _ _ _ _ _)
      | (with_reducible exact ih5 _ _ _ _ _ _ _ _ _ _ _ _ _ _)
      | (with_reducible exact ih6 _ _ _ _ _ _ _)
      | (with_reducible exact corrodylaw06_Of.mono _ _)
      | (with_reducible exact corrodylaw06_awake.mono _)
      | (with_reducible exact corrodyref06_Valid.mono _ _)
      | (with_reducible exact dates_Plan.mono _ _)
      | (with_reducible exact dates_Short.mono _ _)
      | (with_reducible exact LeO.refl _)
      | (with_reducible exact LeO.none _)
      | (with_reducible refine LeO.ite ?_ ?_)
      | (with_reducible refine LeO.bind ?_ (fun _ => ?_))
      | exact ih0 _ _ _ _ _ _
      | exact ih1 _ _ _ _
      | exact ih2 _ _ _ _ _ _ _ _
      | exact ih3 _ _ _ _ _ _ _ _ _
      | exact ih4 _ _ _ _ _ _ _ _ _ _ _ _ _
      | exact ih5 _ _ _ _ _ _ _ _ _ _ _ _ _ _
      | exact ih6 _ _ _ _ _ _ _
      | exact corrodylaw06_Of.mono _ _
      | exact corrodylaw06_awake.mono _
      | exact corrodyref06_Valid.mono _ _
      | exact dates_Plan.mono _ _
      | exact dates_Short.mono _ _
      | exact LeO.none _
      | refine LeO.ite ?_ ?_
      | refine LeO.bind ?_ (fun _ => ?_)
    · intro y0 y1 y2 y3 y4 y5 y6 y7 y8 y9 y10 y11 y12
      unfold corrodylaw06_DatesIdle.j4
      repeat' first
      | (with_reducible exact ih0 _ _ _ _ _ _)
      | (with_reducible exact ih1 _ _ _ _)
      | (with_reducible exact ih2 _ _ _ _ _ _ _ _)
      | (with_reducible exact ih3 _ _ _ _ _ _ _ _ _)
      | (with_reducible exact ih4 _ _ _ _ _ _ _ _ _ _ _ _ _)
      | (with_reducible exact ih5 _ _ _ _ _ _ _ _ _ _ _ _ _ _)
      | (with_reducible exact ih6 _ _ _ _ _ _ _)
      | (with_reducible exact corrodylaw06_Of.mono _ _)
      | (with_reducible exact corrodylaw06_awake.mono _)
      | (with_reducible exact corrodyref06_Valid.mono _ _)
      | (with_reducible exact dates_Plan.mono _ _)
      | (with_reducible exact dates_Short.mono _ _)
      | (with_reducible exact LeO.refl _)
      | (with_reducible exact LeO.none _)
      | (with_reducible refine LeO.ite ?_ ?_)
      | (with_reducible refine LeO.bind ?_ (fun _ => ?_))
      | exact ih0 _ _ _ _ _ _
      | exact ih1 _ _ _ _
      | exact ih2 _ _ _ _ _ _ _ _
      | exact ih3 _ _ _ _ _ _ _ _ _
      | exact ih4 _ _ _ _ _ _ _ _ _ _ _ _ _
      | exact ih5 _ _ _ _ _ _ _ _ _ _ _ _ _ _
      | exact ih6 _ _ _ _ _ _ _
      | exact corrodylaw06_Of.mono _ _
      | exact corrodylaw06_awake.mono _
      | exact corrodyref06_Valid.mono _ _
      | exact dates_Plan.mono _ _
      | exact dates_Short.mono _ _
      | exact LeO.none _
      | refine LeO.ite ?_ ?_
      | refine LeO.bind ?_ (fun _ => ?_)
    · intro y0 y1 y2 y3 y4 y5 y6 y7 y8 y9 y10 y11 y12 y13
      unfold corrodylaw06_DatesIdle.l3
      repeat' first
      | (with_reducible exact ih0 _ _ _ _ _ _)
      | (with_reducible exact ih1 _ _ _ _)
      | (with_reducible exact ih2 _ _ _ _ _ _ _ _)
      | (with_reducible exact ih3 _ _ _ _ _ _ _ _ _)
      | (with_reducible exact ih4 _ _ _ _ _ _ _ _ _ _ _ _ _)
      | (with_reducible exact ih5 _ _ _ _ _ _ _ _ _ _ _ _ _ _)
      | (with_reducible exact ih6 _ _ _ _ _ _ _)
      | (with_reducible exact corrodylaw06_Of.mono _ _)
      | (with_reducible exact corrodylaw06_awake.mono _)
      | (with_reducible exact corrodyref06_Valid.mono _ _)
      | (with_reducible exact dates_Plan.mono _ _)
      | (with_reducible exact dates_Short.mono _ _)
      | (with_reducible exact LeO.refl _)
      | (with_reducible exact LeO.none _)
      | (with_reducible refine LeO.ite ?_ ?_)
      | (with_reducible refine LeO.bind ?_ (fun _ => ?_))
      | exact ih0 _ _ _ _ _ _
      | exact ih1 _ _ _ _
      | exact ih2 _ _ _ _ _ _ _ _
      | exact ih3 _ _ _ _ _ _ _ _ _
      | exact ih4 _ _ _ _ _ _ _ _ _ _ _ _ _
      | exact ih5 _ _ _ _ _ _ _ _ _ _ _ _ _ _
      | exact ih6 _ _ _ _ _ _ _
      | exact corrodylaw06_Of.mono _ _
      | exact corrodylaw06_awake.mono _
      | exact corrodyref06_Valid.mono _ _
      | exact dates_Plan.mono _ _
      | exact dates_Short.mono _ _
      | exact LeO.none _
      | refine LeO.ite ?_ ?_
      | refine LeO.bind ?_ (fun _ => ?_)
    · intro y0 y1 y2 y3 y4 y5 y6
      unfold corrodylaw06_DatesIdle.l4
      repeat' first
      | (with_reducible exact ih0 _ _ _ _ _ _)
      | (with_reducible exact ih1 _ _ _ _)
      | (with_reducible exact ih2 _ _ _ _ _ _ _ _)
      | (with_reducible exact ih3 _ _ _ _ _ _ _ _ _)
      | (with_reducible exact ih4 _ _ _ _ _ _ _ _ _ _ _ _ _)
      | (with_reducible exact ih5 _ _ _ _ _ _ _ _ _ _ _ _ _ _)
      | (with_reducible exact ih6 _ _ _ _ _ _ _)
      | (with_reducible exact corrodylaw06_Of.mono _ _)
      | (with_reducible exact corrodylaw06_awake.mono _)
      | (with_reducible exact corrodyref06_Valid.mono _ _)
      | (with_reducible exact dates_Plan.mono _ _)
      | (with_reducible exact dates_Short.mono _ _)
      | (with_reducible exact LeO.refl _)
      | (with_reducible exact LeO.none _)
      | (with_reducible refine LeO.ite ?_ ?_)
      | (with_reducible refine LeO.bind ?_ (fun _ => ?_))
      | exact ih0 _ _ _ _ _ _
      | exact ih1 _ _ _ _
      | exact ih2 _ _ _ _ _ _ _ _
      | exact ih3 _ _ _ _ _ _ _ _ _
      | exact ih4 _ _ _ _ _ _ _ _ _ _ _ _ _
      | exact ih5 _ _ _ _ _ _ _ _ _ _ _ _ _ _
      | exact ih6 _ _ _ _ _ _ _
      | exact corrodylaw06_Of.mono _ _
      | exact corrodylaw06_awake.mono _
      | exact corrodyref06_Valid.mono _ _
      | exact dates_Plan.mono _ _
      | exact dates_Short.mono _ _
      | exact LeO.none _
      | refine LeO.ite ?_ ?_
      | refine LeO.bind ?_ (fun _ => ?_)
theorem corrodylaw06_DatesIdle.mono : ∀ a0 k, LeO (corrodylaw06_DatesIdle.f k a0) (corrodylaw06_DatesIdle.f (k + 1) a0) := by
 intro a0 k;obtain ⟨ih0, ih1, ih2, ih3, ih4, ih5, ih6⟩ := corrodylaw06_DatesIdle.mono_l k;unfold corrodylaw06_DatesIdle.f;repeat' first
   | (with_reducible exact ih0 _ _ _ _ _ _)
   | (with_reducible exact ih1 _ _ _ _)
   | (with_reducible exact ih2 _ _ _ _ _ _ _ _)
   | (with_reducible exact ih3 _ _ _ _ _ _ _ _ _)
   | (with_reducible exact ih4 _ _ _ _ _ _ _ _ _ _ _ _ _)
   | (with_reducible exact ih5 _ _ _ _ _ _ _ _ _ _ _ _ _ _)
   | (with_reducible exact ih6 _ _ _ _ _ _ _)
   | (with_reducible exact corrodylaw06_Of.mono _ _)
   | (with_reducible exact corrodylaw06_awake.mono _)
   | (with_reducible exact corrodyref06_Valid.mono _ _)
   | (with_reducible exact dates_Plan.mono _ _)
   | (with_reducible exact dates_Short.mono _ _)
   | (with_reducible exact LeO.refl _)
   | (with_reducible exact LeO.none _)
   | (with_reducible refine LeO.ite ?_ ?_)
   | (with_reducible refine LeO.bind ?_ (fun _ => ?_))
   | exact ih0 _ _ _ _ _ _
   | exact ih1 _ _ _ _
   | exact ih2 _ _ _ _ _ _ _ _
   | exact ih3 _ _ _ _ _ _ _ _ _
   | exact ih4 _ _ _ _ _ _ _ _ _ _ _ _ _
   | exact ih5 _ _ _ _ _ _ _ _ _ _ _ _ _ _
   | exact ih6 _ _ _ _ _ _ _
   | exact corrodylaw06_Of.mono _ _
   | exact corrodylaw06_awake.mono _
   | exact corrodyref06_Valid.mono _ _
   | exact dates_Plan.mono _ _
   | exact dates_Short.mono _ _
   | exact LeO.none _
   | refine LeO.ite ?_ ?_
   | refine LeO.bind ?_ (fun _ => ?_)
def corrodylaw06_DatesIdle.T23 : Bool × List (List Nat × List Nat) := (true, [([], []), ([0], [0]), ([], []), ([1, 2], [1, 2]), ([3], [3]), ([4], [4]), ([4], [4]), ([5, 6, 4], [4, 5, 6]), ([7, 4], [4, 7]), ([8, 4], [4, 8]), ([4, 9], [4, 9]), ([10, 4], [10]), ([11], [11]), ([11], [11]), ([12, 13, 11], [11, 12, 13]), ([14, 11], [11, 14]), ([15, 11], [11, 15]), ([11], [11]), ([17, 11], [11, 17]), ([16, 18, 11], [11, 16, 18]), ([11, 19], [11, 19])])
def corrodylaw06_DatesIdle.B23 : List Nat := [0, 1, 0, 7, 15, 31, 31, 127, 255, 511, 1023, 2047, 4095, 4095, 16383, 32767, 65535, 4095, 135167, 524287, 1048575]
theorem corrodylaw06_DatesIdle.tab23 : rtab .any (opsOf Try.f4 23) = corrodylaw06_DatesIdle.T23 := by kernel_rfl
theorem corrodylaw06_DatesIdle.bits23 : waitsOk corrodylaw06_DatesIdle.T23.2 corrodylaw06_DatesIdle.B23 = true := by kernel_rfl
def corrodylaw06_DatesIdle.T26 : Bool × List (List Nat × List Nat) := (true, [([], []), ([], []), ([1], [1]), ([0, 2], [0, 2]), ([3], [3]), ([], []), ([5], [5]), ([], []), ([7], [7]), ([6, 8], [6, 8]), ([4, 9], [4, 9]), ([0, 2, 0, 1, 2, 3, 4, 5, 6, 7, 8, 9, 10], [0, 2]), ([11, 10, 0, 1, 2, 3, 4, 5, 6, 7, 8, 9, 10], [10, 11])])
def corrodylaw06_DatesIdle.B26 : List Nat := [0, 0, 2, 7, 15, 0, 32, 0, 128, 480, 1023, 2047, 4095]
theorem corrodylaw06_DatesIdle.tab26 : rtab .any (opsOf Try.f4 26) = corrodylaw06_DatesIdle.T26 := by kernel_rfl
theorem corrodylaw06_DatesIdle.bits26 : waitsOk corrodylaw06_DatesIdle.T26.2 corrodylaw06_DatesIdle.B26 = true := by kernel_rfl
def NV (W : World) (base : Nat) (ok : Nat → Prop) (v : Value) (ys : List (List (S44))) (u : Value) (xs : List (S44)) : Prop := Kd.N (Kd.slice 44 k44) 23 W base ok v ys ∧ Kd.V k44 44 W base ok u xs
section
variable {W w1 : World} {base : Nat} {ok ok' : Nat → Prop} {v u : Value} {ys : List (List (S44))} {xs : List (S44)}
theorem nv_mono (h : NV W base ok v ys u xs) (hok : ∀ k, ok k → ok' k) : NV W base ok' v ys u xs := ⟨Kd.N_mono h.1 hok, Kd.V_mono h.2 hok⟩
theorem nv_alloc (h : NV W base ok v ys u xs) (o : Obj) : NV (W.alloc o) base ok v ys u xs := ⟨Kd.N_alloc h.1 o, Kd.V_alloc h.2 o⟩
theorem nv_drew (h : NV W base ok v ys u xs) : NV W.drew base ok v ys u xs := ⟨Kd.N_drew h.1, Kd.V_drew h.2⟩
theorem nv_drewN (h : NV W base ok v ys u xs) (m : Nat) : NV (W.drewN m) base ok v ys u xs := ⟨Kd.N_drewN h.1 m, Kd.V_drewN h.2 m⟩
theorem nv_far (h : NV W base ok v ys u xs) {p : Addr} (hok : ∀ k, ok k → k ≠ p.block) (z : Value) : NV (W.setCell p z) base ok v ys u xs := ⟨Kd.N_far h.1 hok z, Kd.V_far h.2 hok z⟩
theorem nv_below (h : NV W base ok v ys u xs) (hb : Below W.heap.size W w1) : NV w1 base ok v ys u xs := ⟨Kd.N_below h.1 hb, Kd.V_below h.2 hb⟩
theorem nv_elderB (h : NV W base ok v ys u xs) (a : Nat) (ha : W.heap.size ≤ a) : NV W base (fun k => ok k ∧ k ≠ a) v ys u xs := ⟨Kd.N_elderB h.1 a ha, Kd.V_elderB h.2 a ha⟩
end
theorem nv_afterv {W w1 : World} {base : Nat} {ok : Nat → Prop} {z u v v1 : Value} {ys : List (List (S44))} {xs : List (S44)} (h : NV W base (fun k => ok k ∧ some k ≠ v.ownBlock) z ys u xs) (hg : W.grownBy w1 v.ownBlock) (hat : v1.ownBlock = v.ownBlock ∨ ∃ b, v1.ownBlock = some b ∧ W.heap.size ≤ b) : NV w1 base (fun k => ok k ∧ some k ≠ v1.ownBlock) z ys u xs := ⟨Kd.N_afterv h.1 hg hat, Kd.V_afterv h.2 hg hat⟩
set_option maxHeartbeats 8000000 in
set_option maxRecDepth 100000 in
theorem corrodylaw06_DatesIdle.calls (k : Nat) (A0 : Option Addr) (c0 : Nat) (l0 : List (S43)) (r : Bool) (w : World) (hr0 : Kd.C k43 w A0 l0.length l0) (hc0 : l0.length ≤ c0) (h : corrodylaw06_DatesIdle.f k l0 = some r) (hr : r = true) :
    Calls Try.prog 4 #[.slice A0 l0.length c0] w fun e w' => e = .returned (.bool r) ∧ Below w.heap.size w w' := by
 have hu44 := Try.underlying44;have HR0 := Aside0.mk hr0;have HC0 := Aside0.mk hc0;clear hr0 hc0;have HB := Aside0.mk (Below.refl w.heap.size w);have H : ((corrodylaw06_Of.f k l0).bind fun t280 => ((dates_Plan.f k t280).bind fun bt283 => ((corrodylaw06_Of.f k l0).bind fun t287 => ((dates_Short.f k t287).bind fun bt290 => (if bt283.2 = 0 then (if bt290.2.2 = 0 then ((corrodyref06_Valid.f k l0).bind fun t295 => (corrodylaw06_DatesIdle.j0 k l0 bt283.1 bt283.2 bt290.1 bt290.2.2 (!t295))) else (corrodylaw06_DatesIdle.j0 k l0 bt283.1 bt283.2 bt290.1 bt290.2.2 true)) else (corrodylaw06_DatesIdle.j0 k l0 bt283.1 bt283.2 bt290.1 bt290.2.2 true)))))) = some r := h;clear h;replace H := Option.bind_eq_some_iff.mp H;obtain ⟨t280, A20, H⟩ := H;replace H : ((dates_Plan.f k t280).bind fun bt283 => ((corrodylaw06_Of.f k l0).bind fun t287 => ((dates_Short.f k t287).bind fun bt290 => (if bt283.2 = 0 then (if bt290.2.2 = 0 then ((corrodyref06_Valid.f k l0).bind fun t295 => (corrodylaw06_DatesIdle.j0 k l0 bt283.1 bt283.2 bt290.1 bt290.2.2 (!t295))) else (corrodylaw06_DatesIdle.j0 k l0 bt283.1 bt283.2 bt290.1 bt290.2.2 true)) else (corrodylaw06_DatesIdle.j0 k l0 bt283.1 bt283.2 bt290.1 bt290.2.2 true))))) = some r := H;have A2 := Aside0.mk A20;clear A20;replace H := Option.bind_eq_some_iff.mp H;obtain ⟨⟨t283, t284⟩, A30, H⟩ := H;replace H : ((corrodylaw06_Of.f k l0).bind fun t287 => ((dates_Short.f k t287).bind fun bt290 => (if t284 = 0 then (if bt290.2.2 = 0 then ((corrodyref06_Valid.f k l0).bind fun t295 => (corrodylaw06_DatesIdle.j0 k l0 t283 t284 bt290.1 bt290.2.2 (!t295))) else (corrodylaw06_DatesIdle.j0 k l0 t283 t284 bt290.1 bt290.2.2 true)) else (corrodylaw06_DatesIdle.j0 k l0 t283 t284 bt290.1 bt290.2.2 true)))) = some r := H;have A3 := Aside0.mk A30;clear A30;replace H := Option.bind_eq_some_iff.mp H;obtain ⟨t287, A40, H⟩ := H;replace H : ((dates_Short.f k t287).bind fun bt290 => (if t284 = 0 then (if bt290.2.2 = 0 then ((corrodyref06_Valid.f k l0).bind fun t295 => (corrodylaw06_DatesIdle.j0 k l0 t283 t284 bt290.1 bt290.2.2 (!t295))) else (corrodylaw06_DatesIdle.j0 k l0 t283 t284 bt290.1 bt290.2.2 true)) else (corrodylaw06_DatesIdle.j0 k l0 t283 t284 bt290.1 bt290.2.2 true))) = some r := H;have A4 := Aside0.mk A40;clear A40;replace H := Option.bind_eq_some_iff.mp H;obtain ⟨⟨t290, t291, t292⟩, A50, H⟩ := H;replace H : (if t284 = 0 then (if t292 = 0 then ((corrodyref06_Valid.f k l0).bind fun t295 => (corrodylaw06_DatesIdle.j0 k l0 t283 t284 t290 t292 (!t295))) else (corrodylaw06_DatesIdle.j0 k l0 t283 t284 t290 t292 true)) else (corrodylaw06_DatesIdle.j0 k l0 t283 t284 t290 t292 true)) = some r := H;have A5 := Aside0.mk A50;clear A50;have HC6 := Aside0.mk H;clear H;go_enter Try.func4, Try.ntmps4;go_upto_region 3 with (first | ((with_reducible refine gate_callee (f := 18) rfl ?_); refine goesL_ (some 20) rfl rfl Try.func18 (by kernel_rfl) rfl #[.slice A0 l0.length c0] rfl (by (try simp only [List.map_toArray, List.map_cons, List.map_nil]); first | done | rfl | (simp only [List.length_drop, List.length_take]; rfl)) ?_; (with_reducible refine (corrodylaw06_Of.calls k _ _ l0 t280 _ ?side1 ?side2 A2.out).mono ?_); (case side1 => repeat (first | exact HR0.out | (with_reducible refine Kd.C_alloc ?_ _) | (with_reducible refine Kd.C_drewN ?_ _) | (with_reducible refine Kd.C_drew ?_))); (case side2 => exact HC0.out); rintro e w7 ⟨v281, rfl, ho0, hb⟩; refine ⟨_, rfl, ?_⟩; have n0_ := Aside0.mk (Kd.R_lower ho0 (below_size (by repeat (first | (with_reducible first | exact HB.out | apply below_alloc | apply pw_below_drewN | apply below_drew1) | exact HB.out)))); have n1_ := Aside0.mk (below_step (by repeat (first | (with_reducible first | exact HB.out | apply below_alloc | apply pw_below_drewN | apply below_drew1) | exact HB.out)) hb); clear HB; have HO282 := n0_; have HB := n1_; clear n0_ n1_; (try clear hb); (try clear hb2); (try clear hk); (try clear hi); (try clear ho0); obtain ⟨Ao8, co8, eo8⟩ := Kd.R_slice HO282.out; subst eo8) | ((with_reducible refine gate_callee (f := 24) rfl ?_); refine goesL_ (some 21) rfl rfl Try.func24 (by kernel_rfl) rfl #[.slice Ao8 t280.length co8] rfl (by (try simp only [List.map_toArray, List.map_cons, List.map_nil]); first | done | rfl | (simp only [List.length_drop, List.length_take]; rfl)) ?_; (with_reducible refine (dates_Plan.calls k _ _ t280 t283 t284 _ ?side1 ?side2 A3.out).mono ?_); (case side1 => repeat (first | exact (Kd.R_reads' HO282.out).2.2 | (with_reducible refine Kd.C_alloc ?_ _) | (with_reducible refine Kd.C_drewN ?_ _) | (with_reducible refine Kd.C_drew ?_))); (case side2 => exact (Kd.R_reads' HO282.out).2.1); rintro e w9 ⟨v285, rfl, ho0, hb⟩; refine ⟨_, rfl, ?_⟩; have n0_ := Aside0.mk (Kd.R_below (by (with_reducible repeat (first | apply Kd.R_alloc | apply Kd.R_drewN | apply Kd.R_drew)); exact HO282.out) hb); have n1_ := Aside0.mk (Kd.R_lower ho0 (below_size (by repeat (first | (with_reducible first | exact HB.out | apply below_alloc | apply pw_below_drewN | apply below_drew1) | exact HB.out)))); have n2_ := Aside0.mk (below_step (by repeat (first | (with_reducible first | exact HB.out | apply below_alloc | apply pw_below_drewN | apply below_drew1) | exact HB.out)) hb); clear HO282; clear HB; have HO282 := n0_; have HO286 := n1_; have HB := n2_; clear n0_ n1_ n2_; (try clear hb); (try clear hb2); (try clear hk); (try clear hi); (try clear ho0)) | ((with_reducible refine gate_callee (f := 18) rfl ?_); refine goesL_ (some 26) rfl rfl Try.func18 (by kernel_rfl) rfl #[.slice A0 l0.length c0] rfl (by (try simp only [List.map_toArray, List.map_cons, List.map_nil]); first | done | rfl | (simp only [List.length_drop, List.length_take]; rfl)) ?_; (with_reducible refine (corrodylaw06_Of.calls k _ _ l0 t287 _ ?side1 ?side2 A4.out).mono ?_); (case side1 => repeat (first | exact (Kd.C_below HR0.out HB.out) | (with_reducible refine Kd.C_alloc ?_ _) | (with_reducible refine Kd.C_drewN ?_ _) | (with_reducible refine Kd.C_drew ?_))); (case side2 => exact HC0.out); rintro e w10 ⟨v288, rfl, ho0, hb⟩; refine ⟨_, rfl, ?_⟩; have n0_ := Aside0.mk (Kd.R_elder' (by (with_reducible repeat (first | apply Kd.R_alloc | apply Kd.R_drewN | apply Kd.R_drew)); exact HO282.out) (Kd.R_base ho0) hb); have n1_ := Aside0.mk (Kd.R_below (by (with_reducible repeat (first | apply Kd.R_alloc | apply Kd.R_drewN | apply Kd.R_drew)); exact HO286.out) hb); have n2_ := Aside0.mk (Kd.R_lower (Kd.R_new' ho0 (Kd.R_lt (by (with_reducible repeat (first | apply Kd.R_alloc | apply Kd.R_drewN | apply Kd.R_drew)); exact HO282.out))) (below_size (by repeat (first | (with_reducible first | exact HB.out | apply below_alloc | apply pw_below_drewN | apply below_drew1) | exact HB.out)))); have n3_ := Aside0.mk (below_step (by repeat (first | (with_reducible first | exact HB.out | apply below_alloc | apply pw_below_drewN | apply below_drew1) | exact HB.out)) hb); clear HO282; clear HO286; clear HB; have HO282 := n0_; have HO286 := n1_; have HO289 := n2_; have HB := n3_; clear n0_ n1_ n2_ n3_; (try clear hb); (try clear hb2); (try clear hk); (try clear hi); (try clear ho0); obtain ⟨Ao11, co11, eo11⟩ := Kd.R_slice HO289.out; subst eo11) | ((with_reducible refine gate_callee (f := 17) rfl ?_); refine goesL_ (some 27) rfl rfl Try.func17 (by kernel_rfl) rfl #[.slice Ao11 t287.length co11] rfl (by (try simp only [List.map_toArray, List.map_cons, List.map_nil]); first | done | rfl | (simp only [List.length_drop, List.length_take]; rfl)) ?_; (with_reducible refine (dates_Short.calls k _ _ t287 t290 t291 t292 _ ?side1 ?side2 A5.out).mono ?_); (case side1 => repeat (first | exact (Kd.R_reads' HO289.out).2.2 | (with_reducible refine Kd.C_alloc ?_ _) | (with_reducible refine Kd.C_drewN ?_ _) | (with_reducible refine Kd.C_drew ?_))); (case side2 => exact (Kd.R_reads' HO289.out).2.1); rintro e w12 ⟨v293, rfl, ho0, hb⟩; refine ⟨_, rfl, ?_⟩; have n0_ := Aside0.mk (Kd.R_below (by (with_reducible repeat (first | apply Kd.R_alloc | apply Kd.R_drewN | apply Kd.R_drew)); exact HO282.out) hb); have n1_ := Aside0.mk (Kd.R_elder' (by (with_reducible repeat (first | apply Kd.R_alloc | apply Kd.R_drewN | apply Kd.R_drew)); exact HO286.out) (Kd.R_base ho0) hb); have n2_ := Aside0.mk (Kd.R_below (by (with_reducible repeat (first | apply Kd.R_alloc | apply Kd.R_drewN | apply Kd.R_drew)); exact HO289.out) hb); have n3_ := Aside0.mk (Kd.R_lower (Kd.R_new' ho0 (Kd.R_lt (by (with_reducible repeat (first | apply Kd.R_alloc | apply Kd.R_drewN | apply Kd.R_drew)); exact HO286.out))) (below_size (by repeat (first | (with_reducible first | exact HB.out | apply below_alloc | apply pw_below_drewN | apply below_drew1) | exact HB.out)))); have n4_ := Aside0.mk (below_step (by repeat (first | (with_reducible first | exact HB.out | apply below_alloc | apply pw_below_drewN | apply below_drew1) | exact HB.out)) hb); clear HO282; clear HO286; clear HO289; clear HB; have HO282 := n0_; have HO286 := n1_; have HO289 := n2_; have HO294 := n3_; have HB := n4_; clear n0_ n1_ n2_ n3_ n4_; (try clear hb); (try clear hb2); (try clear hk); (try clear hi); (try clear ho0)))
 (try simp only [Act.put, List.setIfInBounds_toArray, List.set_cons_zero, List.set_cons_succ]);go_cut [41] (fun v41 wc => ∃ (kq : Nat) (x41_5 : Bool), v41 = .bool x41_5 ∧ Aside0 (corrodylaw06_DatesIdle.j0 kq l0 t283 t284 t290 t292 x41_5 = some r) ∧ Aside0 (kq ≤ k) ∧ Aside0 (Kd.R k44 44 wc w.heap.size (fun k_ => some k_ ≠ (v293 : Value).ownBlock) v285 t283) ∧ Aside0 (Kd.R k44 44 wc w.heap.size (fun k_ => some k_ ≠ (v285 : Value).ownBlock) v293 t290) ∧ Aside0 (Below w.heap.size w wc))
 case first =>
  have H := HC6.out;clear HC6;by_cases c13 : t284 = 0
  ·rw [if_pos c13] at H;have c13b0 : (t284 == 0) = true := beq_iff_eq.mpr c13;have c13b1 : (t284 != 0) = false := bne_eq_false_iff_eq.mpr c13;clear c13;(first | rw [c13b0] | (simp only [i64_w, i32_w]; rw [c13b0]) | skip);by_cases c14 : t292 = 0
   ·rw [if_pos c14] at H;have c14b0 : (t292 == 0) = true := beq_iff_eq.mpr c14;have c14b1 : (t292 != 0) = false := bne_eq_false_iff_eq.mpr c14;clear c14;replace H := Option.bind_eq_some_iff.mp H;obtain ⟨t295, A150, H⟩ := H;replace H : (corrodylaw06_DatesIdle.j0 k l0 t283 t284 t290 t292 (!t295)) = some r := H;have A15 := Aside0.mk A150;clear A150;have H' := Aside0.mk H;clear H;go_wp2_with (first | (go_at_call 19; (with_reducible refine (corrodyref06_Valid.calls k _ _ l0 t295 _ ?side1 ?side2 A15.out).mono ?_); (case side1 => repeat (first | exact (Kd.C_below HR0.out HB.out) | (with_reducible refine Kd.C_alloc ?_ _) | (with_reducible refine Kd.C_drewN ?_ _) | (with_reducible refine Kd.C_drew ?_))); (case side2 => exact HC0.out); rintro e w16 ⟨rfl, hb⟩; have n0_ := Aside0.mk (Kd.R_below (by (with_reducible repeat (first | apply Kd.R_alloc | apply Kd.R_drewN | apply Kd.R_drew)); exact HO282.out) hb); have n1_ := Aside0.mk (Kd.R_below (by (with_reducible repeat (first | apply Kd.R_alloc | apply Kd.R_drewN | apply Kd.R_drew)); exact HO286.out) hb); have n2_ := Aside0.mk (Kd.R_below (by (with_reducible repeat (first | apply Kd.R_alloc | apply Kd.R_drewN | apply Kd.R_drew)); exact HO289.out) hb); have n3_ := Aside0.mk (Kd.R_below (by (with_reducible repeat (first | apply Kd.R_alloc | apply Kd.R_drewN | apply Kd.R_drew)); exact HO294.out) hb); have n4_ := Aside0.mk (below_step (by repeat (first | (with_reducible first | exact HB.out | apply below_alloc | apply pw_below_drewN | apply below_drew1) | exact HB.out)) hb); clear HO282; clear HO286; clear HO289; clear HO294; clear HB; have HO282 := n0_; have HO286 := n1_; have HO289 := n2_; have HO294 := n3_; have HB := n4_; clear n0_ n1_ n2_ n3_ n4_; (try clear hb); (try clear hb2); (try clear hk); (try clear hi)));go_meet
    case rel => exact ⟨_, (!t295), (by first | rfl | (simp; done) | (simp [*]; done)), H', ⟨by first | omega | exact Nat.le_refl _⟩, ⟨by (with_reducible repeat (first | apply Kd.R_alloc | apply Kd.R_drewN | apply Kd.R_drew)); exact Kd.R_mono HO286.out (fun _ hk => hk.2)⟩, ⟨by (with_reducible repeat (first | apply Kd.R_alloc | apply Kd.R_drewN | apply Kd.R_drew)); exact Kd.R_mono HO294.out (fun _ hk => hk.2)⟩, ⟨by repeat (first | (with_reducible first | exact HB.out | apply below_alloc | apply pw_below_drewN | apply below_drew1) | exact HB.out)⟩⟩
   ·rw [if_neg c14] at H;have c14b0 : (t292 == 0) = false := beq_eq_false_iff_ne.mpr c14;have c14b1 : (t292 != 0) = true := bne_iff_ne.mpr c14;have H' := Aside0.mk H;clear H;go_wp2;go_meet
    case rel => exact ⟨_, (true), (by first | rfl | (simp; done) | (simp [*]; done)), H', ⟨by first | omega | exact Nat.le_refl _⟩, ⟨by (with_reducible repeat (first | apply Kd.R_alloc | apply Kd.R_drewN | apply Kd.R_drew)); exact Kd.R_mono HO286.out (fun _ hk => hk.2)⟩, ⟨by (with_reducible repeat (first | apply Kd.R_alloc | apply Kd.R_drewN | apply Kd.R_drew)); exact Kd.R_mono HO294.out (fun _ hk => hk.2)⟩, ⟨by repeat (first | (with_reducible first | exact HB.out | apply below_alloc | apply pw_below_drewN | apply below_drew1) | exact HB.out)⟩⟩
  ·rw [if_neg c13] at H;have c13b0 : (t284 == 0) = false := beq_eq_false_iff_ne.mpr c13;have c13b1 : (t284 != 0) = true := bne_iff_ne.mpr c13;(first | rw [c13b0] | (simp only [i64_w, i32_w]; rw [c13b0]) | skip);have H' := Aside0.mk H;clear H;go_wp2;go_meet
   case rel => exact ⟨_, (true), (by first | rfl | (simp; done) | (simp [*]; done)), H', ⟨by first | omega | exact Nat.le_refl _⟩, ⟨by (with_reducible repeat (first | apply Kd.R_alloc | apply Kd.R_drewN | apply Kd.R_drew)); exact Kd.R_mono HO286.out (fun _ hk => hk.2)⟩, ⟨by (with_reducible repeat (first | apply Kd.R_alloc | apply Kd.R_drewN | apply Kd.R_drew)); exact Kd.R_mono HO294.out (fun _ hk => hk.2)⟩, ⟨by repeat (first | (with_reducible first | exact HB.out | apply below_alloc | apply pw_below_drewN | apply below_drew1) | exact HB.out)⟩⟩
 case rest =>
  clear HC6;try clear c1
  try clear c2
  try clear p2
  try clear c4
  try clear c13
  try clear c13b0
  try clear c13b1
  try clear c14
  try clear c14b0
  try clear c14b1
  obtain ⟨kq, x41_5, rfl, HA, HJ5, HO_3, HO_5, HB⟩ := hcut;cases kq with
  | zero => exact absurd HA.out (by simp [corrodylaw06_DatesIdle.j0])
  | succ kj5 =>
   have H := HA.out;clear HA;simp only [corrodylaw06_DatesIdle.j0] at H;by_cases c17 : x41_5 = true
   ·subst c17;have H1 : (if t284 = 2 then (if t292 = 2 then ((corrodylaw06_awake.f kj5).bind fun t296 => (some t296)) else (some false)) else (some false)) = some r := by rw [if_pos rfl] at H; exact H
    clear H;have H := H1;clear H1;by_cases c18 : t284 = 2
    ·rw [if_pos c18] at H;have c18b0 : (t284 == 2) = true := beq_iff_eq.mpr c18;have c18b1 : (t284 != 2) = false := bne_eq_false_iff_eq.mpr c18;clear c18;by_cases c19 : t292 = 2
     ·rw [if_pos c19] at H;have c19b0 : (t292 == 2) = true := beq_iff_eq.mpr c19;have c19b1 : (t292 != 2) = false := bne_eq_false_iff_eq.mpr c19;clear c19;replace H := Option.bind_eq_some_iff.mp H;obtain ⟨t296, A200, H⟩ := H;replace H : (some t296) = some r := H;have A20 := Aside0.mk A200;clear A200;obtain rfl := Option.some.inj H;go_wp2_with (first | (go_at_call 20; (with_reducible refine (corrodylaw06_awake.calls kj5  t296 _ A20.out).mono ?_); rintro e w21 ⟨rfl, hb⟩; have n0_ := Aside0.mk (Kd.R_below (by (with_reducible repeat (first | apply Kd.R_alloc | apply Kd.R_drewN | apply Kd.R_drew)); exact HO_3.out) hb); have n1_ := Aside0.mk (Kd.R_below (by (with_reducible repeat (first | apply Kd.R_alloc | apply Kd.R_drewN | apply Kd.R_drew)); exact HO_5.out) hb); have n2_ := Aside0.mk (below_step (by repeat (first | (with_reducible first | exact HB.out | apply below_alloc | apply pw_below_drewN | apply below_drew1) | exact HB.out)) hb); clear HO_3; clear HO_5; clear HB; have HO_3 := n0_; have HO_5 := n1_; have HB := n2_; clear n0_ n1_ n2_; (try clear hb); (try clear hb2); (try clear hk); (try clear hi)));go_ret;exact ⟨by first | rfl | (simp [errW_none, errW_some] <;> rfl) | (simp [*, errW_none, errW_some] <;> rfl), by repeat (first | (with_reducible first | exact HB.out | apply below_alloc | apply pw_below_drewN | apply below_drew1) | exact HB.out)⟩
     ·rw [if_neg c19] at H;have c19b0 : (t292 == 2) = false := beq_eq_false_iff_ne.mpr c19;have c19b1 : (t292 != 2) = true := bne_iff_ne.mpr c19;exact Bool.noConfusion ((Option.some.inj H).trans hr)
    ·rw [if_neg c18] at H;have c18b0 : (t284 == 2) = false := beq_eq_false_iff_ne.mpr c18;have c18b1 : (t284 != 2) = true := bne_iff_ne.mpr c18;exact Bool.noConfusion ((Option.some.inj H).trans hr)
   ·replace c17 := Bool.eq_false_iff.mpr c17;subst c17;have H1 : ((some (([t283, t290] : List (List (S44))) : List (List (S44)))).bind fun y297 => (corrodylaw06_DatesIdle.l0 kj5 l0 y297 (y297.length : Int) 0)) = some r := by rw [if_neg (show ¬ (false = true) by decide)] at H; exact H
    clear H;have H := H1;clear H1;obtain ⟨y297, hy297⟩ : ∃ y_ : List (List (S44)), y_ = (([t283, t290] : List (List (S44)))) := ⟨_, rfl⟩
    replace H : (corrodylaw06_DatesIdle.l0 kj5 l0 y297 (y297.length : Int) 0) = some r := by first | (rw [hy297]; with_reducible exact H) | (have H2_ := (Option.bind_some _ _).symm.trans H; rw [hy297]; with_reducible exact H2_) | (have H2_ := (Option.bind_some _ _).symm.trans H; with_reducible exact H2_) | with_reducible exact H | (rw [hy297]; exact H) | exact H
    have Ny297 := Aside0.mk hy297;clear hy297;have H' := Aside0.mk H;clear H;obtain ⟨Ao22, co22, eo22⟩ := Kd.R_slice HO_3.out;subst eo22;obtain ⟨Ao23, co23, eo23⟩ := Kd.R_slice HO_5.out;subst eo23;go_wp2_with (first | ((with_reducible refine gate_dst (N := 53) rfl ?_); (try (refine gate_guard (by rfl) ?_; dsimp only)); refine Kd.N_lit (Kd.slice 44 k44) _ 23 ?hg (N' := 53) ?hd (xs := ([t283, t290] : List (List (S44)))) (inner := [.slice Ao22 t283.length co22, .slice Ao23 t290.length co23]) (ok := (fun _ => True)) (okp := (fun _ => True)) ?hr ?hp (fun _ hk => hk) ((show ∀ k_, wc.heap.size ≤ k_ → (fun _ => True) k_ from fun k_ hk => trivial) _ (Nat.le_refl _)) (Below.refl _ _) (Nat.le_refl _) (by simp) ?_; (case hd => rfl); (case hg => rfl); (case hr => first | (go_simp; done) | (go_simp; rfl)); (case hp => exact (Reps.one (show Kd.FK (Kd.slice 44 k44) _ _ t283 [.slice Ao22 t283.length co22] from (Kd.FK_slice_mk (Kd.R_reads' (Kd.R_mono (ok' := (fun _ => True)) (HO_3.out) (fun k_ hk => trivial))).2.1 (Kd.R_F (Kd.R_mono (ok' := (fun _ => True)) (HO_3.out) (fun k_ hk => trivial))))) (Reps.one (show Kd.FK (Kd.slice 44 k44) _ _ t290 [.slice Ao23 t290.length co23] from (Kd.FK_slice_mk (Kd.R_reads' (Kd.R_mono (ok' := (fun _ => True)) (HO_5.out) (fun k_ hk => trivial))).2.1 (Kd.R_F (Kd.R_mono (ok' := (fun _ => True)) (HO_5.out) (fun k_ hk => trivial))))) (Reps.none _ _)))); intro v298 w24 ho25 hb hg_ hnew_; clear hg_ hnew_; (first | rw [← Ny297.out] at ho25 | (simp only [Int.reduceToNat] at ho25; rw [← Ny297.out] at ho25)); have n0_ := Aside0.mk (Kd.N_lower ho25 (below_size (by repeat (first | (with_reducible first | exact HB.out | apply below_alloc | apply pw_below_drewN | apply below_drew1) | exact HB.out)))); have n1_ := Aside0.mk (below_step (by repeat (first | (with_reducible first | exact HB.out | apply below_alloc | apply pw_below_drewN | apply below_drew1) | exact HB.out)) hb); clear HB; clear HO_3; clear HO_5; have HO299 := n0_; have HB := n1_; clear n0_ n1_; clear hb ho25; obtain ⟨Ao26, co26, eo26⟩ := Kd.N_slice HO299.out; subst eo26));go_loopg [55] kj5 (fun kq v55 w' => ∃ (x55_2 : Int), v55 = .int .i64 x55_2 ∧ Aside0 (corrodylaw06_DatesIdle.l0 kq l0 y297 (y297.length : Int) x55_2 = some r) ∧ Aside0 (kq ≤ kj5) ∧ Aside0 (Kd.N (Kd.slice 44 k44) 23 w' w.heap.size (fun _ => True) (.slice Ao26 y297.length co26) y297) ∧ Aside0 (Below w.heap.size w w'))
    case atStart => exact ⟨(0), (by first | rfl | (simp; done) | (simp [*]; done)), H', ⟨Nat.le_refl _⟩, ⟨by (with_reducible repeat (first | apply Kd.N_alloc | apply Kd.N_drewN | apply Kd.N_drew)); exact HO299.out⟩, ⟨by repeat (first | (with_reducible first | exact HB.out | apply below_alloc | apply pw_below_drewN | apply below_drew1) | exact HB.out)⟩⟩
    case round =>
     clear H';try clear c1
     try clear c2
     try clear p2
     try clear c4
     try clear c13
     try clear c13b0
     try clear c13b1
     try clear c14
     try clear c14b0
     try clear c14b1
     try clear c17
     try clear c18
     try clear c18b0
     try clear c18b1
     try clear c19
     try clear c19b0
     try clear c19b1
     try clear c24
     try clear p2
     obtain ⟨x55_2, rfl, HA, HK2, HO_53, HB⟩ := hrel;cases gk with
     | zero => exact absurd HA.out (by simp [corrodylaw06_DatesIdle.l0])
     | succ k2 =>
      have H := HA.out;clear HA;simp only [corrodylaw06_DatesIdle.l0] at H;by_cases c27 : x55_2 < (y297.length : Int)
      ·rw [if_pos c27] at H;have c27b0 : decide (x55_2 < (y297.length : Int)) = true := decide_eq_true c27;clear c27;by_cases c28 : 0 ≤ x55_2
       ·rw [if_pos c28] at H;have c28b0 : decide (0 ≤ x55_2) = true := decide_eq_true c28;clear c28;by_cases c29 : x55_2 < (y297.length : Int)
        ·rw [if_pos c29] at H;have c29b0 : decide (x55_2 < (y297.length : Int)) = true := decide_eq_true c29;clear c29;by_cases c30 : 0 ≤ (l0.length : Int)
         ·rw [if_pos c30] at H;have c30b0 := eq_true c30;have c30b1 : decide (0 ≤ (l0.length : Int)) = true := decide_eq_true c30;clear c30;by_cases c31 : ((l0.length : Int) : Int).toNat ≤ 35184372088832
          ·rw [if_pos c31] at H;have c31b0 := eq_true c31;have c31b1 : decide (((l0.length : Int) : Int).toNat ≤ 35184372088832) = true := decide_eq_true c31;clear c31;obtain ⟨y302, hy302⟩ : ∃ y_ : List Int, y_ = (List.replicate ((l0.length : Int) : Int).toNat 0) := ⟨_, rfl⟩
           replace H : (corrodylaw06_DatesIdle.l1 k2 l0 (rd_L5 y297 x55_2) y302 y297 (y297.length : Int) x55_2 (l0.length : Int) 0) = some r := by first | (rw [hy302]; with_reducible exact H) | (have H2_ := (Option.bind_some _ _).symm.trans H; rw [hy302]; with_reducible exact H2_) | (have H2_ := (Option.bind_some _ _).symm.trans H; with_reducible exact H2_) | with_reducible exact H | (rw [hy302]; exact H) | exact H
           have Ny302 := Aside0.mk hy302;clear hy302;have H' := Aside0.mk H;clear H;have p301 : 0 ≤ (x55_2 : Int) := of_decide_eq_true (by first | (with_reducible assumption) | assumption);have q301 : x55_2 < (y297.length : Int) := of_decide_eq_true (by first | (with_reducible assumption) | assumption);obtain ⟨ad301, A301_0, c301_0, e301, hx301_0, hl301_0, hi301_0⟩ := at_L5 (Kd.N_reads' HO_53.out).2.2 x55_2 p301 q301;cases e301;obtain ⟨ce301, hce301, hMe301, hcc301⟩ := Kd.N_get HO_53.out [] x55_2 p301 (by first | exact q301 | exact of_decide_eq_true (by first | (with_reducible assumption) | assumption) | (have e_ := (Kd.N_reads' HO_53.out).1; omega));obtain ⟨ua301_0, uc301_0, rfl, ul301_0, ge301_0⟩ := Kd.FK_slice_open hMe301;have hv301_0 := hcc301 0 _ rfl;rw [Nat.add_zero, show ((Kd.slice 44 k44)).sz = 1 from rfl, Nat.mul_one] at hv301_0;replace hv301_0 := Option.some.inj (hv301_0.symm.trans hx301_0);injection hv301_0 with hva_ hvn_ hvc_
           rw [hva_] at ge301_0;rw [hvc_] at ul301_0;have HL301_0 := Aside0.mk (show Kd.V k44 44 _ w.heap.size _ _ (rd_L5 y297 x55_2) from Kd.V_mk ul301_0 ge301_0);clear hva_ hvn_ hvc_ ge301_0 ul301_0;clear hcc301 hce301;have HR301_0 := Aside0.mk hi301_0;have HC301_0 := Aside0.mk hl301_0;clear hi301_0 hl301_0;replace p301 := eq_true p301;replace q301 := eq_true q301;go_wp2_with (first | ((with_reducible refine gate_dst (N := 61) rfl ?_); (try (refine gate_guard (by rfl) ?_; dsimp only)); refine Kd.R_make (Kd.int .i64) _ 3 rfl (N := 61) rfl 41 _ _ rfl (l0.length : Int) rfl rfl Try.underlying41 (.int .i64 0) 8 info3 rfl (by decide) (by omega) 0 (ok := fun _ => True) (okp := fun _ => True) rfl (fun _ hk => hk) trivial (of_decide_eq_true (by first | (with_reducible assumption) | assumption)) (Nat.le_trans (Nat.mul_le_mul_right _ (of_decide_eq_true (by first | (with_reducible assumption) | assumption) : (l0.length : Int).toNat ≤ 35184372088832)) (by omega)) (Below.refl _ _) (Nat.le_refl _) ?_; intro v303 w32 ho33 hb hg_ hnew_; clear hg_ hnew_; (first | rw [← Ny302.out] at ho33 | (simp only [Int.reduceToNat] at ho33; rw [← Ny302.out] at ho33)); have n0_ := Aside0.mk (Kd.N_elder' (by (with_reducible repeat (first | apply Kd.N_alloc | apply Kd.N_drewN | apply Kd.N_drew)); exact HO_53.out) (Kd.R_base ho33) hb); have n1_ := Aside0.mk (Kd.V_elder' (by (with_reducible repeat (first | apply Kd.V_alloc | apply Kd.V_drewN | apply Kd.V_drew)); exact HL301_0.out) (Kd.R_base ho33) hb); have n2_ := Aside0.mk (Kd.R_lower ho33 (below_size (by repeat (first | (with_reducible first | exact HB.out | apply below_alloc | apply pw_below_drewN | apply below_drew1) | exact HB.out)))); have n3_ := Aside0.mk (Kd.C_below (by repeat (first | (with_reducible exact HR301_0.out) | (with_reducible refine Kd.C_alloc ?_ _) | (with_reducible refine Kd.C_drewN ?_ _) | (with_reducible refine Kd.C_drew ?_) | exact HR301_0.out)) hb); have n4_ := Aside0.mk (below_step (by repeat (first | (with_reducible first | exact HB.out | apply below_alloc | apply pw_below_drewN | apply below_drew1) | exact HB.out)) hb); clear HO_53; clear HL301_0; clear HR301_0; clear HB; have HO_53 := n0_; have HL301_0 := n1_; have HO304 := n2_; have HR301_0 := n3_; have HB := n4_; clear n0_ n1_ n2_ n3_ n4_; clear hb ho33));go_loopg [64] k2 (fun kq v64 w' => ∃ (x10_3 : List Int) (x64_3 : Int), v64 = .int .i64 x64_3 ∧ Aside0 (corrodylaw06_DatesIdle.l1 kq l0 (rd_L5 y297 x55_2) x10_3 y297 (y297.length : Int) x55_2 (l0.length : Int) x64_3 = some r) ∧ Aside0 (kq ≤ k2) ∧ Aside0 (Kd.R (Kd.int .i64) 3 w' w.heap.size (fun _ => True) v303 x10_3) ∧ Aside0 (NV w' w.heap.size (fun k_ => some k_ ≠ (v303 : Value).ownBlock) (.slice (some ad301) y297.length co26) y297 (.slice A301_0 (rd_L5 y297 x55_2).length c301_0) (rd_L5 y297 x55_2)) ∧ Aside0 (Below w.heap.size w w'))
           case atStart => exact ⟨(y302), (0), (by first | rfl | (simp; done) | (simp [*]; done)), H', ⟨Nat.le_refl _⟩, ⟨by (with_reducible repeat (first | apply Kd.R_alloc | apply Kd.R_drewN | apply Kd.R_drew)); exact HO304.out⟩, ⟨And.intro (by (with_reducible repeat (first | apply Kd.N_alloc | apply Kd.N_drewN | apply Kd.N_drew)); exact Kd.N_mono HO_53.out (fun _ hk => hk.2)) (by (with_reducible repeat (first | apply Kd.V_alloc | apply Kd.V_drewN | apply Kd.V_drew)); exact Kd.V_mono HL301_0.out (fun _ hk => hk.2))⟩, ⟨by repeat (first | (with_reducible first | exact HB.out | apply below_alloc | apply pw_below_drewN | apply below_drew1) | exact HB.out)⟩⟩
           case round =>
            clear H';try clear c1
            try clear c2
            try clear p2
            try clear c3
            try clear p3
            try clear q3
            try clear hx3
            try clear c4
            try clear c13
            try clear c13b0
            try clear c13b1
            try clear c14
            try clear c14b0
            try clear c14b1
            try clear c17
            try clear c18
            try clear c18b0
            try clear c18b1
            try clear c19
            try clear c19b0
            try clear c19b1
            try clear c24
            try clear c27
            try clear c27b0
            try clear c28
            try clear c28b0
            try clear c29
            try clear c29b0
            try clear c30
            try clear c30b0
            try clear c30b1
            try clear p30
            try clear q30
            try clear hx30
            try clear c31
            try clear c31b0
            try clear c31b1
            try clear hx301_0
            try clear p2
            try clear p301
            try clear q301
            obtain ⟨x10_3, x64_3, rfl, HA, HK3, HO_10, HO_53, HB⟩ := hrel;cases gk with
            | zero => exact absurd HA.out (by simp [corrodylaw06_DatesIdle.l1])
            | succ k3 =>
             have H := HA.out;clear HA;simp only [corrodylaw06_DatesIdle.l1] at H;by_cases c34 : x64_3 < (l0.length : Int)
             ·rw [if_pos c34] at H;have c34b0 : decide (x64_3 < (l0.length : Int)) = true := decide_eq_true c34;clear c34;by_cases c35 : 0 ≤ x64_3
              ·rw [if_pos c35] at H;have c35b0 : decide (0 ≤ x64_3) = true := decide_eq_true c35;clear c35;by_cases c36 : x64_3 < (l0.length : Int)
               ·rw [if_pos c36] at H;have c36b0 : decide (x64_3 < (l0.length : Int)) = true := decide_eq_true c36;clear c36;by_cases c37 : x64_3 < (x10_3.length : Int)
                ·rw [if_pos c37] at H;have c37b0 : decide (x64_3 < (x10_3.length : Int)) = true := decide_eq_true c37;clear c37;obtain ⟨y306, hy306⟩ : ∃ y_ : List Int, y_ = (x10_3.set (x64_3 : Int).toNat ((rd_T43 l0 x64_3).f0)) := ⟨_, rfl⟩
                 replace H : (corrodylaw06_DatesIdle.l1 k3 l0 (rd_L5 y297 x55_2) y306 y297 (y297.length : Int) x55_2 (l0.length : Int) (wrap64 (x64_3 + 1))) = some r := by first | (rw [hy306]; with_reducible exact H) | (have H2_ := (Option.bind_some _ _).symm.trans H; rw [hy306]; with_reducible exact H2_) | (have H2_ := (Option.bind_some _ _).symm.trans H; with_reducible exact H2_) | with_reducible exact H | (rw [hy306]; exact H) | exact H
                 have Ny306 := Aside0.mk hy306;clear hy306;have H' := Aside0.mk H;clear H;have p305 : 0 ≤ (x64_3 : Int) := of_decide_eq_true (by first | (with_reducible assumption) | assumption);have q305 : x64_3 < (l0.length : Int) := of_decide_eq_true (by first | (with_reducible assumption) | assumption);obtain ⟨ad305, e305, hx305_0, hx305_1, hx305_2, hx305_3⟩ := at_T43 HR0.out x64_3 p305 q305;cases e305;replace hx305_0 := (HB.out.cell (World.block_lt_of_cell? w _ hx305_0)).trans hx305_0;replace hx305_1 := (HB.out.cell (World.block_lt_of_cell? w _ hx305_1)).trans hx305_1;replace hx305_2 := (HB.out.cell (World.block_lt_of_cell? w _ hx305_2)).trans hx305_2;replace hx305_3 := (HB.out.cell (World.block_lt_of_cell? w _ hx305_3)).trans hx305_3;replace p305 := eq_true p305;replace q305 := eq_true q305;have p38 : 0 ≤ (x64_3 : Int) := of_decide_eq_true (by first | (with_reducible assumption) | assumption);have q38 : (x64_3 : Int) < ((x10_3.length : Int) : Int) := of_decide_eq_true (by first | (with_reducible assumption) | assumption);obtain ⟨go38, co38, eo38, gb38, gl38, cl38, HG38⟩ := Kd.R_form HO_10.out (by omega);(first | cases eo38 | (injection eo38 with ea_ en_ ec_; (first | subst ea_ | (injection ea_ with ea_; subst ea_)); subst ec_; clear en_));have GB38 := Aside0.mk gb38;have GG38 := Aside0.mk HG38;clear gb38 gl38 HG38;obtain ⟨hx38_0, hf38_0⟩ := Kd.R_celln 0 HO_10.out (x64_3 : Int) p38 q38;replace p38 := eq_true p38;replace q38 := eq_true q38;have HP39 := Kd.R_putg HO_10.out (x64_3 : Int) ((rd_T43 l0 x64_3).f0);go_wp2_with (first | ((with_reducible refine gate_store (t := 3) (p := 74) rfl ?_); refine store_event (t := 3) (p := 74) (v := ?vo_w40) (w1 := (wr.setCell ⟨go38, (x64_3 : Int).toNat, none⟩ (.int .i64 ((rd_T43 l0 x64_3).f0)))) ?hg ?ho ?hn ?hr ?_; (case ho => rfl); (case hg => rfl); (case hn => rfl); (case hr => first | (go_simp; done) | (go_simp; rfl)); intro w40 hw; have hg : wr.grownBy w40 (some go38) := (by rw [hw]; exact HP39.2); have hp_ : Kd.R (Kd.int .i64) 3 w40 w.heap.size (fun _ => True) (.slice (some ⟨go38, 0, none⟩) x10_3.length co38) y306 := (by rw [hw, Ny306.out]; exact HP39.1); clear HP39; have n0_ := Aside0.mk (hp_); have n1_ := Aside0.mk (nv_afterv (v := (.slice (some ⟨go38, 0, none⟩) x10_3.length co38)) (v1 := (.slice (some ⟨go38, 0, none⟩) x10_3.length co38)) (ok := (fun _ => True)) (by (with_reducible repeat (first | apply nv_alloc | apply nv_drewN | apply nv_drew)); exact nv_mono HO_53.out (fun _ hk => ⟨trivial, hk⟩)) hg (.inl rfl)); have n2_ := Aside0.mk ((by rw [hw]; exact below_set (HB.out) GB38.out : Below w.heap.size w w40)); clear HO_10; clear HO_53; clear HB; have HO_10 := n0_; have HO_53 := n1_; have HB := n2_; clear n0_ n1_ n2_; clear hg hw hp_));go_roundg k3
                 case measure => have := HJ5.out; have := HK2.out; have := HK3.out; omega
                 case rel => exact ⟨(y306), (wrap64 (x64_3 + 1)), (by first | rfl | (simp; done) | (simp [*]; done)), H', ⟨by have := HJ5.out; have := HK2.out; have := HK3.out; omega⟩, ⟨by (with_reducible repeat (first | apply Kd.R_alloc | apply Kd.R_drewN | apply Kd.R_drew)); exact HO_10.out⟩, ⟨by (with_reducible repeat (first | apply nv_alloc | apply nv_drewN | apply nv_drew)); exact nv_mono HO_53.out (fun _ hk => hk.2)⟩, ⟨by repeat (first | (with_reducible first | exact HB.out | apply below_alloc | apply pw_below_drewN | apply below_drew1) | exact HB.out)⟩⟩
                ·rw [if_neg c37] at H;exact absurd H (by simp)
               ·rw [if_neg c36] at H;exact absurd H (by simp)
              ·rw [if_neg c35] at H;exact absurd H (by simp)
             ·rw [if_neg c34] at H;have c34b0 : decide (x64_3 < (l0.length : Int)) = false := decide_eq_false c34;clear c34;have H' := Aside0.mk H;clear H;go_wp2;go_loopg [12, 78] k3 (fun kq v12 v78 w' => ∃ (x10_4 : List Int) (x12_4 : Int) (x78_4 : Int), v12 = .int .i64 x12_4 ∧ v78 = .int .i64 x78_4 ∧ Aside0 (corrodylaw06_DatesIdle.l2 kq l0 x10_4 x12_4 y297 (y297.length : Int) x55_2 (rd_L5 y297 x55_2) ((rd_L5 y297 x55_2).length : Int) x78_4 = some r) ∧ Aside0 (kq ≤ k3) ∧ Aside0 (Kd.R (Kd.int .i64) 3 w' w.heap.size (fun _ => True) v303 x10_4) ∧ Aside0 (NV w' w.heap.size (fun k_ => some k_ ≠ (v303 : Value).ownBlock) (.slice (some ad301) y297.length co26) y297 (.slice A301_0 (rd_L5 y297 x55_2).length c301_0) (rd_L5 y297 x55_2)) ∧ Aside0 (Below w.heap.size w w'))
              case atStart => exact ⟨(x10_3), (0), (0), (by first | rfl | (simp; done) | (simp [*]; done)), (by first | rfl | (simp; done) | (simp [*]; done)), H', ⟨Nat.le_refl _⟩, ⟨by (with_reducible repeat (first | apply Kd.R_alloc | apply Kd.R_drewN | apply Kd.R_drew)); exact HO_10.out⟩, ⟨by (with_reducible repeat (first | apply nv_alloc | apply nv_drewN | apply nv_drew)); exact HO_53.out⟩, ⟨by repeat (first | (with_reducible first | exact HB.out | apply below_alloc | apply pw_below_drewN | apply below_drew1) | exact HB.out)⟩⟩
              case round =>
               clear H';try clear c1
               try clear c2
               try clear p2
               try clear c3
               try clear p3
               try clear q3
               try clear hx3
               try clear hf3
               try clear c4
               try clear p6
               try clear c13
               try clear c13b0
               try clear c13b1
               try clear c14
               try clear c14b0
               try clear c14b1
               try clear c17
               try clear c18
               try clear c18b0
               try clear c18b1
               try clear c19
               try clear c19b0
               try clear c19b1
               try clear c24
               try clear c27
               try clear c27b0
               try clear c28
               try clear c28b0
               try clear c29
               try clear c29b0
               try clear c30
               try clear c30b0
               try clear c30b1
               try clear p30
               try clear q30
               try clear hx30
               try clear c31
               try clear c31b0
               try clear c31b1
               try clear c34
               try clear c34b0
               try clear c35
               try clear c35b0
               try clear c36
               try clear c36b0
               try clear c37
               try clear c37b0
               try clear p38
               try clear q38
               try clear hx38
               try clear hf38
               try clear hx301_0
               try clear hx305_0
               try clear hx305_1
               try clear hx305_2
               try clear hx305_3
               try clear hx38_0
               try clear p2
               try clear p3
               try clear p30
               try clear p301
               try clear p305
               try clear p38
               try clear q3
               try clear q30
               try clear q301
               try clear q305
               try clear q38
               obtain ⟨x10_4, x12_4, x78_4, rfl, rfl, HA, HK4, HO_10, HO_53, HB⟩ := hrel;cases gk with
               | zero => exact absurd HA.out (by simp [corrodylaw06_DatesIdle.l2])
               | succ k4 =>
                have H := HA.out;clear HA;simp only [corrodylaw06_DatesIdle.l2] at H;by_cases c41 : x78_4 < ((rd_L5 y297 x55_2).length : Int)
                ·rw [if_pos c41] at H;have c41b0 : decide (x78_4 < ((rd_L5 y297 x55_2).length : Int)) = true := decide_eq_true c41;clear c41;by_cases c42 : 0 ≤ x78_4
                 ·rw [if_pos c42] at H;have c42b0 : decide (0 ≤ x78_4) = true := decide_eq_true c42;clear c42;by_cases c43 : x78_4 < ((rd_L5 y297 x55_2).length : Int)
                  ·rw [if_pos c43] at H;have c43b0 : decide (x78_4 < ((rd_L5 y297 x55_2).length : Int)) = true := decide_eq_true c43;clear c43;have HC44 := Aside0.mk H;clear H;have p307 : 0 ≤ (x78_4 : Int) := of_decide_eq_true (by first | (with_reducible assumption) | assumption);have q307 : x78_4 < ((rd_L5 y297 x55_2).length : Int) := of_decide_eq_true (by first | (with_reducible assumption) | assumption);obtain ⟨ad307, e307, hx307_0, hx307_1, hx307_2⟩ := at_T44 (Kd.V_reads' HO_53.out.2).2.2 x78_4 p307 q307;cases e307;replace p307 := eq_true p307;replace q307 := eq_true q307;go_upto_region 18 with (first | ((with_reducible refine gate_dst (N := 14) rfl ?_); (try (refine gate_guard (by rfl) ?_; dsimp only)); refine box_event ?hg (N := 14) ?hd (cs := #[.int .i64 0, .int .i64 0, .int .i64 0]) (t := 44) ?hr ?_; (case hd => rfl); (case hg => rfl); (case hr => first | (go_simp; done) | (go_simp; rfl)); intro gb308 hg w45 hbox hb; have n0_ := Aside0.mk (Kd.R_below (by (with_reducible repeat (first | apply Kd.R_alloc | apply Kd.R_drewN | apply Kd.R_drew)); exact HO_10.out) hb); have n1_ := Aside0.mk (nv_below (nv_elderB (by (with_reducible repeat (first | apply nv_alloc | apply nv_drewN | apply nv_drew)); exact HO_53.out) gb308 (Nat.le_of_eq hg.symm)) hb); have n2_ := Aside0.mk (below_step (by repeat (first | (with_reducible first | exact HB.out | apply below_alloc | apply pw_below_drewN | apply below_drew1) | exact HB.out)) hb); have n3_ := Aside0.mk (hbox); have n4_ := Aside0.mk ((by rw [hg]; exact (below_size (by repeat (first | (with_reducible first | exact HB.out | apply below_alloc | apply pw_below_drewN | apply below_drew1) | exact HB.out))) : w.heap.size ≤ gb308)); have n5_ := Aside0.mk ((by rw [hg]; exact (below_size (by repeat (first | (with_reducible first | exact HB.out | apply below_alloc | apply pw_below_drewN | apply below_drew1) | exact HB.out))) : w.heap.size ≤ gb308)); clear HO_10; clear HO_53; clear HB; have HO_10 := n0_; have HO_53 := n1_; have HB := n2_; have BK308 := n3_; have GW308 := n4_; have GE308 := n5_; clear n0_ n1_ n2_ n3_ n4_ n5_; clear hb hbox hg; have hcz46_0 : w45.cell? ⟨gb308, 0, none⟩ = some (.int .i64 0) := (blk_cell BK308.out 0).trans rfl; have hcz46_1 : w45.cell? ⟨gb308, 1, none⟩ = some (.int .i64 0) := (blk_cell BK308.out 1).trans rfl; have hcz46_2 : w45.cell? ⟨gb308, 2, none⟩ = some (.int .i64 0) := (blk_cell BK308.out 2).trans rfl; have hfz46_0 := blk_frozen BK308.out 0; have hfz46_1 := blk_frozen BK308.out 1; have hfz46_2 := blk_frozen BK308.out 2))
                   (try simp only [Act.put, List.setIfInBounds_toArray, List.set_cons_zero, List.set_cons_succ]);go_cut [104] (fun v104 wc => ∃ (kq : Nat) (x104_43 : Bool), v104 = .bool x104_43 ∧ Aside0 (corrodylaw06_DatesIdle.j4 kq l0 x10_4 x12_4 y297 (y297.length : Int) x55_2 (rd_L5 y297 x55_2) ((rd_L5 y297 x55_2).length : Int) x78_4 x104_43 ((rd_T44 (rd_L5 y297 x55_2) x78_4).f0) ((rd_T44 (rd_L5 y297 x55_2) x78_4).f1) ((rd_T44 (rd_L5 y297 x55_2) x78_4).f2) = some r) ∧ Aside0 (kq ≤ k4) ∧ Aside0 (Kd.R (Kd.int .i64) 3 wc w.heap.size (fun _ => True) v303 x10_4) ∧ Aside0 (NV wc w.heap.size (fun k_ => some k_ ≠ (v303 : Value).ownBlock ∧ k_ ≠ gb308) (.slice (some ad301) y297.length co26) y297 (.slice (some ad307) (rd_L5 y297 x55_2).length c301_0) (rd_L5 y297 x55_2)) ∧ Aside0 (wc.heap[gb308]? = some (.cells #[.int .i64 ((rd_T44 (rd_L5 y297 x55_2) x78_4).f0), .int .i64 ((rd_T44 (rd_L5 y297 x55_2) x78_4).f1), .int .i64 ((rd_T44 (rd_L5 y297 x55_2) x78_4).f2)] 44 (0, 0))) ∧ Aside0 (Below w.heap.size w wc))
                   case first =>
                    have H := HC44.out;clear HC44;by_cases c47 : ((rd_T44 (rd_L5 y297 x55_2) x78_4).f0) < 0
                    ·rw [if_pos c47] at H;have c47b0 : decide (((rd_T44 (rd_L5 y297 x55_2) x78_4).f0) < 0) = true := decide_eq_true c47;clear c47;(first | rw [c47b0] | (simp only [i64_w, i32_w]; rw [c47b0]) | skip);have H' := Aside0.mk H;clear H;have hcz48_0 : w45.cell? ⟨gb308, 0, none⟩ = some (.int .i64 0) := (blk_cell BK308.out 0).trans rfl;have hcz48_1 : w45.cell? ⟨gb308, 1, none⟩ = some (.int .i64 0) := (blk_cell BK308.out 1).trans rfl;have hcz48_2 : w45.cell? ⟨gb308, 2, none⟩ = some (.int .i64 0) := (blk_cell BK308.out 2).trans rfl;have hfz48_0 := blk_frozen BK308.out 0;have hfz48_1 := blk_frozen BK308.out 1;have hfz48_2 := blk_frozen BK308.out 2;go_wp2;go_meet
                     case rel => exact ⟨_, (true), (by first | rfl | (simp; done) | (simp [*]; done)), H', ⟨by have := HJ5.out; have := HK2.out; have := HK3.out; have := HK4.out; first | omega | exact Nat.le_refl _⟩, ⟨by (with_reducible repeat (first | apply Kd.R_alloc | apply Kd.R_drewN | apply Kd.R_drew)); exact Kd.R_mono (Kd.R_far (p := ⟨gb308, 2, none⟩) (Kd.R_far (p := ⟨gb308, 1, none⟩) (Kd.R_far (p := ⟨gb308, 0, none⟩) (Kd.R_types HO_10.out BK308.out (by decide)) (fun _ hk => hk.2) (.int .i64 ((rd_T44 (rd_L5 y297 x55_2) x78_4).f0))) (fun _ hk => hk.2) (.int .i64 ((rd_T44 (rd_L5 y297 x55_2) x78_4).f1))) (fun _ hk => hk.2) (.int .i64 ((rd_T44 (rd_L5 y297 x55_2) x78_4).f2))) (fun _ hk => trivial)⟩, ⟨by (with_reducible repeat (first | apply nv_alloc | apply nv_drewN | apply nv_drew)); exact nv_mono (nv_far (p := ⟨gb308, 2, none⟩) (nv_far (p := ⟨gb308, 1, none⟩) (nv_far (p := ⟨gb308, 0, none⟩) (nv_mono HO_53.out (fun k_ hk => (⟨hk, hk.2⟩ : _ ∧ k_ ≠ gb308))) (fun _ hk => hk.2) (.int .i64 ((rd_T44 (rd_L5 y297 x55_2) x78_4).f0))) (fun _ hk => hk.2) (.int .i64 ((rd_T44 (rd_L5 y297 x55_2) x78_4).f1))) (fun _ hk => hk.2) (.int .i64 ((rd_T44 (rd_L5 y297 x55_2) x78_4).f2))) (fun _ hk => ⟨hk.1.1, hk.1.2⟩)⟩, ⟨by (with_reducible repeat (first | refine blk_drewN ?_ _ | refine blk_drew ?_ | refine blk_alloc ?_ _)); refine blk_put (cs := #[.int .i64 ((rd_T44 (rd_L5 y297 x55_2) x78_4).f0), .int .i64 ((rd_T44 (rd_L5 y297 x55_2) x78_4).f1), .int .i64 0]) ?_ 2 _ rfl; (with_reducible repeat (first | refine blk_drewN ?_ _ | refine blk_drew ?_ | refine blk_alloc ?_ _)); refine blk_put (cs := #[.int .i64 ((rd_T44 (rd_L5 y297 x55_2) x78_4).f0), .int .i64 0, .int .i64 0]) ?_ 1 _ rfl; (with_reducible repeat (first | refine blk_drewN ?_ _ | refine blk_drew ?_ | refine blk_alloc ?_ _)); refine blk_put (cs := #[.int .i64 0, .int .i64 0, .int .i64 0]) ?_ 0 _ rfl; (with_reducible repeat (first | refine blk_drewN ?_ _ | refine blk_drew ?_ | refine blk_alloc ?_ _)); exact BK308.out⟩, ⟨by repeat (first | (with_reducible first | exact HB.out | apply below_alloc | apply pw_below_drewN | apply below_drew1 | refine below_set ?_ GE308.out) | exact HB.out)⟩⟩
                    ·rw [if_neg c47] at H;have c47b0 : decide (((rd_T44 (rd_L5 y297 x55_2) x78_4).f0) < 0) = false := decide_eq_false c47;clear c47;(first | rw [c47b0] | (simp only [i64_w, i32_w]; rw [c47b0]) | skip);by_cases c49 : ((rd_T44 (rd_L5 y297 x55_2) x78_4).f0) ≥ (l0.length : Int)
                     ·rw [if_pos c49] at H;have c49b0 : decide ((l0.length : Int) ≤ ((rd_T44 (rd_L5 y297 x55_2) x78_4).f0)) = true := decide_eq_true c49;clear c49;have H' := Aside0.mk H;clear H;have hcz50_0 : w45.cell? ⟨gb308, 0, none⟩ = some (.int .i64 0) := (blk_cell BK308.out 0).trans rfl;have hcz50_1 : w45.cell? ⟨gb308, 1, none⟩ = some (.int .i64 0) := (blk_cell BK308.out 1).trans rfl;have hcz50_2 : w45.cell? ⟨gb308, 2, none⟩ = some (.int .i64 0) := (blk_cell BK308.out 2).trans rfl;have hfz50_0 := blk_frozen BK308.out 0;have hfz50_1 := blk_frozen BK308.out 1;have hfz50_2 := blk_frozen BK308.out 2;go_wp2;go_meet
                      case rel => exact ⟨_, (true), (by first | rfl | (simp; done) | (simp [*]; done)), H', ⟨by have := HJ5.out; have := HK2.out; have := HK3.out; have := HK4.out; first | omega | exact Nat.le_refl _⟩, ⟨by (with_reducible repeat (first | apply Kd.R_alloc | apply Kd.R_drewN | apply Kd.R_drew)); exact Kd.R_mono (Kd.R_far (p := ⟨gb308, 2, none⟩) (Kd.R_far (p := ⟨gb308, 1, none⟩) (Kd.R_far (p := ⟨gb308, 0, none⟩) (Kd.R_types HO_10.out BK308.out (by decide)) (fun _ hk => hk.2) (.int .i64 ((rd_T44 (rd_L5 y297 x55_2) x78_4).f0))) (fun _ hk => hk.2) (.int .i64 ((rd_T44 (rd_L5 y297 x55_2) x78_4).f1))) (fun _ hk => hk.2) (.int .i64 ((rd_T44 (rd_L5 y297 x55_2) x78_4).f2))) (fun _ hk => trivial)⟩, ⟨by (with_reducible repeat (first | apply nv_alloc | apply nv_drewN | apply nv_drew)); exact nv_mono (nv_far (p := ⟨gb308, 2, none⟩) (nv_far (p := ⟨gb308, 1, none⟩) (nv_far (p := ⟨gb308, 0, none⟩) (nv_mono HO_53.out (fun k_ hk => (⟨hk, hk.2⟩ : _ ∧ k_ ≠ gb308))) (fun _ hk => hk.2) (.int .i64 ((rd_T44 (rd_L5 y297 x55_2) x78_4).f0))) (fun _ hk => hk.2) (.int .i64 ((rd_T44 (rd_L5 y297 x55_2) x78_4).f1))) (fun _ hk => hk.2) (.int .i64 ((rd_T44 (rd_L5 y297 x55_2) x78_4).f2))) (fun _ hk => ⟨hk.1.1, hk.1.2⟩)⟩, ⟨by (with_reducible repeat (first | refine blk_drewN ?_ _ | refine blk_drew ?_ | refine blk_alloc ?_ _)); refine blk_put (cs := #[.int .i64 ((rd_T44 (rd_L5 y297 x55_2) x78_4).f0), .int .i64 ((rd_T44 (rd_L5 y297 x55_2) x78_4).f1), .int .i64 0]) ?_ 2 _ rfl; (with_reducible repeat (first | refine blk_drewN ?_ _ | refine blk_drew ?_ | refine blk_alloc ?_ _)); refine blk_put (cs := #[.int .i64 ((rd_T44 (rd_L5 y297 x55_2) x78_4).f0), .int .i64 0, .int .i64 0]) ?_ 1 _ rfl; (with_reducible repeat (first | refine blk_drewN ?_ _ | refine blk_drew ?_ | refine blk_alloc ?_ _)); refine blk_put (cs := #[.int .i64 0, .int .i64 0, .int .i64 0]) ?_ 0 _ rfl; (with_reducible repeat (first | refine blk_drewN ?_ _ | refine blk_drew ?_ | refine blk_alloc ?_ _)); exact BK308.out⟩, ⟨by repeat (first | (with_reducible first | exact HB.out | apply below_alloc | apply pw_below_drewN | apply below_drew1 | refine below_set ?_ GE308.out) | exact HB.out)⟩⟩
                     ·rw [if_neg c49] at H;have c49b0 : decide ((l0.length : Int) ≤ ((rd_T44 (rd_L5 y297 x55_2) x78_4).f0)) = false := decide_eq_false c49;clear c49;by_cases c51 : ((rd_T44 (rd_L5 y297 x55_2) x78_4).f1) < x12_4
                      ·rw [if_pos c51] at H;have c51b0 : decide (((rd_T44 (rd_L5 y297 x55_2) x78_4).f1) < x12_4) = true := decide_eq_true c51;clear c51;have H' := Aside0.mk H;clear H;have hcz52_0 : w45.cell? ⟨gb308, 0, none⟩ = some (.int .i64 0) := (blk_cell BK308.out 0).trans rfl;have hcz52_1 : w45.cell? ⟨gb308, 1, none⟩ = some (.int .i64 0) := (blk_cell BK308.out 1).trans rfl;have hcz52_2 : w45.cell? ⟨gb308, 2, none⟩ = some (.int .i64 0) := (blk_cell BK308.out 2).trans rfl;have hfz52_0 := blk_frozen BK308.out 0;have hfz52_1 := blk_frozen BK308.out 1;have hfz52_2 := blk_frozen BK308.out 2;go_wp2;go_meet
                       case rel => exact ⟨_, (true), (by first | rfl | (simp; done) | (simp [*]; done)), H', ⟨by have := HJ5.out; have := HK2.out; have := HK3.out; have := HK4.out; first | omega | exact Nat.le_refl _⟩, ⟨by (with_reducible repeat (first | apply Kd.R_alloc | apply Kd.R_drewN | apply Kd.R_drew)); exact Kd.R_mono (Kd.R_far (p := ⟨gb308, 2, none⟩) (Kd.R_far (p := ⟨gb308, 1, none⟩) (Kd.R_far (p := ⟨gb308, 0, none⟩) (Kd.R_types HO_10.out BK308.out (by decide)) (fun _ hk => hk.2) (.int .i64 ((rd_T44 (rd_L5 y297 x55_2) x78_4).f0))) (fun _ hk => hk.2) (.int .i64 ((rd_T44 (rd_L5 y297 x55_2) x78_4).f1))) (fun _ hk => hk.2) (.int .i64 ((rd_T44 (rd_L5 y297 x55_2) x78_4).f2))) (fun _ hk => trivial)⟩, ⟨by (with_reducible repeat (first | apply nv_alloc | apply nv_drewN | apply nv_drew)); exact nv_mono (nv_far (p := ⟨gb308, 2, none⟩) (nv_far (p := ⟨gb308, 1, none⟩) (nv_far (p := ⟨gb308, 0, none⟩) (nv_mono HO_53.out (fun k_ hk => (⟨hk, hk.2⟩ : _ ∧ k_ ≠ gb308))) (fun _ hk => hk.2) (.int .i64 ((rd_T44 (rd_L5 y297 x55_2) x78_4).f0))) (fun _ hk => hk.2) (.int .i64 ((rd_T44 (rd_L5 y297 x55_2) x78_4).f1))) (fun _ hk => hk.2) (.int .i64 ((rd_T44 (rd_L5 y297 x55_2) x78_4).f2))) (fun _ hk => ⟨hk.1.1, hk.1.2⟩)⟩, ⟨by (with_reducible repeat (first | refine blk_drewN ?_ _ | refine blk_drew ?_ | refine blk_alloc ?_ _)); refine blk_put (cs := #[.int .i64 ((rd_T44 (rd_L5 y297 x55_2) x78_4).f0), .int .i64 ((rd_T44 (rd_L5 y297 x55_2) x78_4).f1), .int .i64 0]) ?_ 2 _ rfl; (with_reducible repeat (first | refine blk_drewN ?_ _ | refine blk_drew ?_ | refine blk_alloc ?_ _)); refine blk_put (cs := #[.int .i64 ((rd_T44 (rd_L5 y297 x55_2) x78_4).f0), .int .i64 0, .int .i64 0]) ?_ 1 _ rfl; (with_reducible repeat (first | refine blk_drewN ?_ _ | refine blk_drew ?_ | refine blk_alloc ?_ _)); refine blk_put (cs := #[.int .i64 0, .int .i64 0, .int .i64 0]) ?_ 0 _ rfl; (with_reducible repeat (first | refine blk_drewN ?_ _ | refine blk_drew ?_ | refine blk_alloc ?_ _)); exact BK308.out⟩, ⟨by repeat (first | (with_reducible first | exact HB.out | apply below_alloc | apply pw_below_drewN | apply below_drew1 | refine below_set ?_ GE308.out) | exact HB.out)⟩⟩
                      ·rw [if_neg c51] at H;have c51b0 : decide (((rd_T44 (rd_L5 y297 x55_2) x78_4).f1) < x12_4) = false := decide_eq_false c51;clear c51;have H' := Aside0.mk H;clear H;have hcz53_0 : w45.cell? ⟨gb308, 0, none⟩ = some (.int .i64 0) := (blk_cell BK308.out 0).trans rfl;have hcz53_1 : w45.cell? ⟨gb308, 1, none⟩ = some (.int .i64 0) := (blk_cell BK308.out 1).trans rfl;have hcz53_2 : w45.cell? ⟨gb308, 2, none⟩ = some (.int .i64 0) := (blk_cell BK308.out 2).trans rfl;have hfz53_0 := blk_frozen BK308.out 0;have hfz53_1 := blk_frozen BK308.out 1;have hfz53_2 := blk_frozen BK308.out 2;go_wp2;go_meet
                       case rel => exact ⟨_, (decide (((rd_T44 (rd_L5 y297 x55_2) x78_4).f2) ≤ ((rd_T44 (rd_L5 y297 x55_2) x78_4).f1))), (by first | rfl | (simp; done) | (simp [*]; done)), H', ⟨by have := HJ5.out; have := HK2.out; have := HK3.out; have := HK4.out; first | omega | exact Nat.le_refl _⟩, ⟨by (with_reducible repeat (first | apply Kd.R_alloc | apply Kd.R_drewN | apply Kd.R_drew)); exact Kd.R_mono (Kd.R_far (p := ⟨gb308, 2, none⟩) (Kd.R_far (p := ⟨gb308, 1, none⟩) (Kd.R_far (p := ⟨gb308, 0, none⟩) (Kd.R_types HO_10.out BK308.out (by decide)) (fun _ hk => hk.2) (.int .i64 ((rd_T44 (rd_L5 y297 x55_2) x78_4).f0))) (fun _ hk => hk.2) (.int .i64 ((rd_T44 (rd_L5 y297 x55_2) x78_4).f1))) (fun _ hk => hk.2) (.int .i64 ((rd_T44 (rd_L5 y297 x55_2) x78_4).f2))) (fun _ hk => trivial)⟩, ⟨by (with_reducible repeat (first | apply nv_alloc | apply nv_drewN | apply nv_drew)); exact nv_mono (nv_far (p := ⟨gb308, 2, none⟩) (nv_far (p := ⟨gb308, 1, none⟩) (nv_far (p := ⟨gb308, 0, none⟩) (nv_mono HO_53.out (fun k_ hk => (⟨hk, hk.2⟩ : _ ∧ k_ ≠ gb308))) (fun _ hk => hk.2) (.int .i64 ((rd_T44 (rd_L5 y297 x55_2) x78_4).f0))) (fun _ hk => hk.2) (.int .i64 ((rd_T44 (rd_L5 y297 x55_2) x78_4).f1))) (fun _ hk => hk.2) (.int .i64 ((rd_T44 (rd_L5 y297 x55_2) x78_4).f2))) (fun _ hk => ⟨hk.1.1, hk.1.2⟩)⟩, ⟨by (with_reducible repeat (first | refine blk_drewN ?_ _ | refine blk_drew ?_ | refine blk_alloc ?_ _)); refine blk_put (cs := #[.int .i64 ((rd_T44 (rd_L5 y297 x55_2) x78_4).f0), .int .i64 ((rd_T44 (rd_L5 y297 x55_2) x78_4).f1), .int .i64 0]) ?_ 2 _ rfl; (with_reducible repeat (first | refine blk_drewN ?_ _ | refine blk_drew ?_ | refine blk_alloc ?_ _)); refine blk_put (cs := #[.int .i64 ((rd_T44 (rd_L5 y297 x55_2) x78_4).f0), .int .i64 0, .int .i64 0]) ?_ 1 _ rfl; (with_reducible repeat (first | refine blk_drewN ?_ _ | refine blk_drew ?_ | refine blk_alloc ?_ _)); refine blk_put (cs := #[.int .i64 0, .int .i64 0, .int .i64 0]) ?_ 0 _ rfl; (with_reducible repeat (first | refine blk_drewN ?_ _ | refine blk_drew ?_ | refine blk_alloc ?_ _)); exact BK308.out⟩, ⟨by repeat (first | (with_reducible first | exact HB.out | apply below_alloc | apply pw_below_drewN | apply below_drew1 | refine below_set ?_ GE308.out) | exact HB.out)⟩⟩
                   case rest =>
                    clear HC44;try clear c1
                    try clear c2
                    try clear p2
                    try clear c3
                    try clear p3
                    try clear q3
                    try clear hx3
                    try clear hf3
                    try clear c4
                    try clear c5
                    try clear p6
                    try clear c13
                    try clear c13b0
                    try clear c13b1
                    try clear c14
                    try clear c14b0
                    try clear c14b1
                    try clear c17
                    try clear c18
                    try clear c18b0
                    try clear c18b1
                    try clear c19
                    try clear c19b0
                    try clear c19b1
                    try clear c24
                    try clear c27
                    try clear c27b0
                    try clear c28
                    try clear c28b0
                    try clear c29
                    try clear c29b0
                    try clear c30
                    try clear c30b0
                    try clear c30b1
                    try clear p30
                    try clear q30
                    try clear hx30
                    try clear c31
                    try clear c31b0
                    try clear c31b1
                    try clear c34
                    try clear c34b0
                    try clear c35
                    try clear c35b0
                    try clear c36
                    try clear c36b0
                    try clear c37
                    try clear c37b0
                    try clear p38
                    try clear q38
                    try clear hx38
                    try clear hf38
                    try clear c41
                    try clear c41b0
                    try clear c42
                    try clear c42b0
                    try clear c43
                    try clear c43b0
                    try clear c47
                    try clear c47b0
                    try clear c49
                    try clear c49b0
                    try clear c51
                    try clear c51b0
                    try clear hcz46_0
                    try clear hcz46_1
                    try clear hcz46_2
                    try clear hcz48_0
                    try clear hcz48_1
                    try clear hcz48_2
                    try clear hcz50_0
                    try clear hcz50_1
                    try clear hcz50_2
                    try clear hcz52_0
                    try clear hcz52_1
                    try clear hcz52_2
                    try clear hcz53_0
                    try clear hcz53_1
                    try clear hcz53_2
                    try clear hfz46_0
                    try clear hfz46_1
                    try clear hfz46_2
                    try clear hfz48_0
                    try clear hfz48_1
                    try clear hfz48_2
                    try clear hfz50_0
                    try clear hfz50_1
                    try clear hfz50_2
                    try clear hfz52_0
                    try clear hfz52_1
                    try clear hfz52_2
                    try clear hfz53_0
                    try clear hfz53_1
                    try clear hfz53_2
                    try clear hx301_0
                    try clear hx305_0
                    try clear hx305_1
                    try clear hx305_2
                    try clear hx305_3
                    try clear hx307_0
                    try clear hx307_1
                    try clear hx307_2
                    try clear hx38_0
                    try clear p2
                    try clear p3
                    try clear p30
                    try clear p301
                    try clear p305
                    try clear p307
                    try clear p38
                    try clear p6
                    try clear q3
                    try clear q30
                    try clear q301
                    try clear q305
                    try clear q307
                    try clear q38
                    obtain ⟨kq, x104_43, rfl, HA, HJ43, HO_10, HO_53, BK308, HB⟩ := hcut;cases kq with
                    | zero => exact absurd HA.out (by simp [corrodylaw06_DatesIdle.j4])
                    | succ kj43 =>
                     have H := HA.out;clear HA;simp only [corrodylaw06_DatesIdle.j4] at H;by_cases c54 : x104_43 = true
                     ·subst c54;have H1 : (some false) = some r := by rw [if_pos rfl] at H; exact H
                      clear H;have H := H1;clear H1;exact Bool.noConfusion ((Option.some.inj H).trans hr)
                     ·replace c54 := Bool.eq_false_iff.mpr c54;subst c54;have H1 : (corrodylaw06_DatesIdle.l3 kj43 l0 x10_4 x12_4 y297 (y297.length : Int) x55_2 (rd_L5 y297 x55_2) ((rd_L5 y297 x55_2).length : Int) x78_4 (l0.length : Int) 0 ((rd_T44 (rd_L5 y297 x55_2) x78_4).f0) ((rd_T44 (rd_L5 y297 x55_2) x78_4).f1) ((rd_T44 (rd_L5 y297 x55_2) x78_4).f2)) = some r := by rw [if_neg (show ¬ (false = true) by decide)] at H; exact H
                      clear H;have H := H1;clear H1;have H' := Aside0.mk H;clear H;go_wp2;go_loopg [107] kj43 (fun kq v107 w' => ∃ (x107_6 : Int), v107 = .int .i64 x107_6 ∧ Aside0 (corrodylaw06_DatesIdle.l3 kq l0 x10_4 x12_4 y297 (y297.length : Int) x55_2 (rd_L5 y297 x55_2) ((rd_L5 y297 x55_2).length : Int) x78_4 (l0.length : Int) x107_6 ((rd_T44 (rd_L5 y297 x55_2) x78_4).f0) ((rd_T44 (rd_L5 y297 x55_2) x78_4).f1) ((rd_T44 (rd_L5 y297 x55_2) x78_4).f2) = some r) ∧ Aside0 (kq ≤ kj43) ∧ Aside0 (Kd.R (Kd.int .i64) 3 w' w.heap.size (fun _ => True) v303 x10_4) ∧ Aside0 (NV w' w.heap.size (fun k_ => some k_ ≠ (v303 : Value).ownBlock ∧ k_ ≠ gb308) (.slice (some ad301) y297.length co26) y297 (.slice (some ad307) (rd_L5 y297 x55_2).length c301_0) (rd_L5 y297 x55_2)) ∧ Aside0 (w'.heap[gb308]? = some (.cells #[.int .i64 ((rd_T44 (rd_L5 y297 x55_2) x78_4).f0), .int .i64 ((rd_T44 (rd_L5 y297 x55_2) x78_4).f1), .int .i64 ((rd_T44 (rd_L5 y297 x55_2) x78_4).f2)] 44 (0, 0))) ∧ Aside0 (Below w.heap.size w w'))
                      case atStart => exact ⟨(0), (by first | rfl | (simp; done) | (simp [*]; done)), H', ⟨Nat.le_refl _⟩, ⟨by (with_reducible repeat (first | apply Kd.R_alloc | apply Kd.R_drewN | apply Kd.R_drew)); exact HO_10.out⟩, ⟨by (with_reducible repeat (first | apply nv_alloc | apply nv_drewN | apply nv_drew)); exact HO_53.out⟩, ⟨by (with_reducible repeat (first | refine blk_drewN ?_ _ | refine blk_drew ?_ | refine blk_alloc ?_ _)); exact BK308.out⟩, ⟨by repeat (first | (with_reducible first | exact HB.out | apply below_alloc | apply pw_below_drewN | apply below_drew1 | refine below_set ?_ GE308.out) | exact HB.out)⟩⟩
                      case round =>
                       clear H';try clear c1
                       try clear c2
                       try clear p2
                       try clear c3
                       try clear p3
                       try clear q3
                       try clear hx3
                       try clear hf3
                       try clear c4
                       try clear c5
                       try clear p6
                       try clear c13
                       try clear c13b0
                       try clear c13b1
                       try clear c14
                       try clear c14b0
                       try clear c14b1
                       try clear c17
                       try clear c18
                       try clear c18b0
                       try clear c18b1
                       try clear c19
                       try clear c19b0
                       try clear c19b1
                       try clear c24
                       try clear c27
                       try clear c27b0
                       try clear c28
                       try clear c28b0
                       try clear c29
                       try clear c29b0
                       try clear c30
                       try clear c30b0
                       try clear c30b1
                       try clear p30
                       try clear q30
                       try clear hx30
                       try clear c31
                       try clear c31b0
                       try clear c31b1
                       try clear c34
                       try clear c34b0
                       try clear c35
                       try clear c35b0
                       try clear c36
                       try clear c36b0
                       try clear c37
                       try clear c37b0
                       try clear p38
                       try clear q38
                       try clear hx38
                       try clear hf38
                       try clear c41
                       try clear c41b0
                       try clear c42
                       try clear c42b0
                       try clear c43
                       try clear c43b0
                       try clear c47
                       try clear c47b0
                       try clear c49
                       try clear c49b0
                       try clear c51
                       try clear c51b0
                       try clear c54
                       try clear hcz46_0
                       try clear hcz46_1
                       try clear hcz46_2
                       try clear hcz48_0
                       try clear hcz48_1
                       try clear hcz48_2
                       try clear hcz50_0
                       try clear hcz50_1
                       try clear hcz50_2
                       try clear hcz52_0
                       try clear hcz52_1
                       try clear hcz52_2
                       try clear hcz53_0
                       try clear hcz53_1
                       try clear hcz53_2
                       try clear hfz46_0
                       try clear hfz46_1
                       try clear hfz46_2
                       try clear hfz48_0
                       try clear hfz48_1
                       try clear hfz48_2
                       try clear hfz50_0
                       try clear hfz50_1
                       try clear hfz50_2
                       try clear hfz52_0
                       try clear hfz52_1
                       try clear hfz52_2
                       try clear hfz53_0
                       try clear hfz53_1
                       try clear hfz53_2
                       try clear hx301_0
                       try clear hx305_0
                       try clear hx305_1
                       try clear hx305_2
                       try clear hx305_3
                       try clear hx307_0
                       try clear hx307_1
                       try clear hx307_2
                       try clear hx38_0
                       try clear p2
                       try clear p3
                       try clear p30
                       try clear p301
                       try clear p305
                       try clear p307
                       try clear p38
                       try clear p6
                       try clear q3
                       try clear q30
                       try clear q301
                       try clear q305
                       try clear q307
                       try clear q38
                       obtain ⟨x107_6, rfl, HA, HK6, HO_10, HO_53, BK308, HB⟩ := hrel;cases gk with
                       | zero => exact absurd HA.out (by simp [corrodylaw06_DatesIdle.l3])
                       | succ k6 =>
                        have H := HA.out;clear HA;simp only [corrodylaw06_DatesIdle.l3] at H;by_cases c55 : x107_6 < (l0.length : Int)
                        ·rw [if_pos c55] at H;have c55b0 : decide (x107_6 < (l0.length : Int)) = true := decide_eq_true c55;clear c55;by_cases c56 : ((rd_T44 (rd_L5 y297 x55_2) x78_4).f1) > x12_4
                         ·rw [if_pos c56] at H;have c56b0 : decide (x12_4 < ((rd_T44 (rd_L5 y297 x55_2) x78_4).f1)) = true := decide_eq_true c56;clear c56;by_cases c57 : 0 ≤ x107_6
                          ·rw [if_pos c57] at H;have c57b0 : decide (0 ≤ x107_6) = true := decide_eq_true c57;clear c57;by_cases c58 : x107_6 < (x10_4.length : Int)
                           ·rw [if_pos c58] at H;have c58b0 : decide (x107_6 < (x10_4.length : Int)) = true := decide_eq_true c58;clear c58;by_cases c59 : (rd x10_4 x107_6) > 0
                            ·rw [if_pos c59] at H;have c59b0 : decide (0 < (rd x10_4 x107_6)) = true := decide_eq_true c59;clear c59;by_cases c60 : x107_6 < (l0.length : Int)
                             ·rw [if_pos c60] at H;have c60b0 : decide (x107_6 < (l0.length : Int)) = true := decide_eq_true c60;clear c60;by_cases c61 : ((rd_T43 l0 x107_6).f1) < ((rd_T44 (rd_L5 y297 x55_2) x78_4).f1)
                              ·rw [if_pos c61] at H;have c61b0 : decide (((rd_T43 l0 x107_6).f1) < ((rd_T44 (rd_L5 y297 x55_2) x78_4).f1)) = true := decide_eq_true c61;clear c61;exact Bool.noConfusion ((Option.some.inj H).trans hr)
                              ·rw [if_neg c61] at H;have c61b0 : decide (((rd_T43 l0 x107_6).f1) < ((rd_T44 (rd_L5 y297 x55_2) x78_4).f1)) = false := decide_eq_false c61;clear c61;have H' := Aside0.mk H;clear H;try go_wp2
                               have n0_ := Aside0.mk (Kd.R_drew HO_10.out);have n1_ := Aside0.mk (nv_drew HO_53.out);have n2_ := Aside0.mk (blk_drew BK308.out);have n3_ := Aside0.mk (below_drew1 HB.out);clear HO_10;clear HO_53;clear BK308;clear HB;have HO_10 := n0_;have HO_53 := n1_;have BK308 := n2_;have HB := n3_;clear n0_ n1_ n2_ n3_;obtain ⟨Ao65, co65, eo65⟩ := Kd.R_slice HO_10.out;(first | subst eo65 | (injection eo65 with f1_ f2_ f3_; have f4_ := f1_.symm; have f5_ := f3_.symm; clear f1_ f2_ f3_; subst f4_; subst f5_));have p309 : 0 ≤ (x107_6 : Int) := of_decide_eq_true (by first | (with_reducible assumption) | assumption);have q309 : x107_6 < (x10_4.length : Int) := of_decide_eq_true (by first | (with_reducible assumption) | assumption);obtain ⟨ad309, e309, hx309_0⟩ := Kd.at_int (Kd.R_reads' HO_10.out).2.2 x107_6 p309 q309;cases e309;replace p309 := eq_true p309;replace q309 := eq_true q309;have p310 : 0 ≤ (x107_6 : Int) := of_decide_eq_true (by first | (with_reducible assumption) | assumption);have q310 : x107_6 < (l0.length : Int) := of_decide_eq_true (by first | (with_reducible assumption) | assumption);obtain ⟨ad310, e310, hx310_0, hx310_1, hx310_2, hx310_3⟩ := at_T43 HR0.out x107_6 p310 q310;have hw310_3 := hx310_3;have hw310_2 := hx310_2;have hw310_1 := hx310_1;have hw310_0 := hx310_0;cases e310;replace hx310_0 := (HB.out.cell (World.block_lt_of_cell? w _ hx310_0)).trans hx310_0;replace hx310_1 := (HB.out.cell (World.block_lt_of_cell? w _ hx310_1)).trans hx310_1;replace hx310_2 := (HB.out.cell (World.block_lt_of_cell? w _ hx310_2)).trans hx310_2;replace hx310_3 := (HB.out.cell (World.block_lt_of_cell? w _ hx310_3)).trans hx310_3;replace p310 := eq_true p310;replace q310 := eq_true q310;refine start_ (n := 21) (S := fun w' => w'.cell? ⟨gb308, 0, none⟩ = some (.int .i64 ((rd_T44 (rd_L5 y297 x55_2) x78_4).f0)) ∧ w'.cell? ⟨gb308, 1, none⟩ = some (.int .i64 ((rd_T44 (rd_L5 y297 x55_2) x78_4).f1)) ∧ w'.cell? ⟨gb308, 2, none⟩ = some (.int .i64 ((rd_T44 (rd_L5 y297 x55_2) x78_4).f2)) ∧ w'.cell? (ad309.add (x107_6).toNat) = some (.int .i64 (rd x10_4 x107_6)) ∧ w'.cell? (ad310.add ((x107_6).toNat * 4)) = some (.int .i64 ((rd_T43 l0 x107_6).f0)) ∧ w'.cell? ⟨(ad310.add ((x107_6).toNat * 4)).block, (ad310.add ((x107_6).toNat * 4)).off + 1, none⟩ = some (.int .i64 ((rd_T43 l0 x107_6).f1)) ∧ w'.cell? ⟨(ad310.add ((x107_6).toNat * 4)).block, (ad310.add ((x107_6).toNat * 4)).off + 2, none⟩ = some (.int .i64 ((rd_T43 l0 x107_6).f2)) ∧ w'.cell? ⟨(ad310.add ((x107_6).toNat * 4)).block, (ad310.add ((x107_6).toNat * 4)).off + 3, none⟩ = some (.int .i64 ((rd_T43 l0 x107_6).f3))) (ds := []) #[false,false,false,false,false,false,false,false,false,false,false,false,false,false,false,false,false,false,false,false,false] (by kernel_rfl) rfl rfl ⟨(blk_cell BK308.out 0).trans rfl, (blk_cell BK308.out 1).trans rfl, (blk_cell BK308.out 2).trans rfl, hx309_0, ((HB.out.cell (World.block_lt_of_cell? w _ hw310_0)).trans hw310_0), ((HB.out.cell (World.block_lt_of_cell? w _ hw310_1)).trans hw310_1), ((HB.out.cell (World.block_lt_of_cell? w _ hw310_2)).trans hw310_2), ((HB.out.cell (World.block_lt_of_cell? w _ hw310_3)).trans hw310_3)⟩ (fun hHeld => ?_); refine with_tabW corrodylaw06_DatesIdle.tab23 corrodylaw06_DatesIdle.bits23 (fun HT_ HW_ => ?_);generalize wr.drew = w64 at HO_10 HO_53 BK308 HB hx309_0 hx310_0 hx310_1 hx310_2 hx310_3 hHeld ⊢;refine pure_ (i := 0) (N := some 110) (v := ?_) (a' := ?_) #[true,false,false,false,false,false,false,false,false,false,false,false,false,false,false,false,false,false,false,false,false] rfl rfl (any_of HT_.out (by kernel_rfl)) (fun _ _ _ h => h) (Or.inl ⟨by rfl, ?_⟩) ?_ ?_;rotate_left
                               ·intro w';go_simp;with_reducible rfl
                               rotate_left
                               ·simp only [Act.put, List.setIfInBounds_toArray, List.set_cons_zero, List.set_cons_succ, i64_w, i32_w];rfl
                               refine pure_ (i := 2) (N := some 112) (v := ?_) (a' := ?_) #[true,false,true,false,false,false,false,false,false,false,false,false,false,false,false,false,false,false,false,false,false] rfl rfl (any_of HT_.out (by kernel_rfl)) (fun _ _ _ h => h) (Or.inl ⟨by rfl, ?_⟩) ?_ ?_;rotate_left
                               ·intro w';go_simp;with_reducible rfl
                               rotate_left
                               ·simp only [Act.put, List.setIfInBounds_toArray, List.set_cons_zero, List.set_cons_succ, i64_w, i32_w];rfl
                               refine take_ (i := 1) (N := some 111) (v := ?_) (a' := ?_) #[true,true,true,false,false,false,false,false,false,false,false,false,false,false,false,false,false,false,false,false,false] rfl rfl (take_ofW HT_.out HW_.out (by kernel_rfl)) (fun _ _ _ h => h) (Or.inl ⟨by rfl, ?_⟩) hHeld ?_ ?_;rotate_left
                               ·rintro w' ⟨s0, s1, s2, s3, s4, s5, s6, s7⟩;go_simp;with_reducible rfl
                               rotate_left
                               ·simp only [Act.put, List.setIfInBounds_toArray, List.set_cons_zero, List.set_cons_succ, i64_w, i32_w];rfl
                               refine pure_ (i := 3) (N := some 113) (v := ?_) (a' := ?_) #[true,true,true,true,false,false,false,false,false,false,false,false,false,false,false,false,false,false,false,false,false] rfl rfl (any_of HT_.out (by kernel_rfl)) (fun _ _ _ h => h) (Or.inl ⟨by rfl, ?_⟩) ?_ ?_;rotate_left
                               ·intro w';go_simp;with_reducible rfl
                               rotate_left
                               ·simp only [Act.put, List.setIfInBounds_toArray, List.set_cons_zero, List.set_cons_succ, i64_w, i32_w];rfl
                               refine pure_ (i := 4) (N := some 114) (v := ?_) (a' := ?_) #[true,true,true,true,true,false,false,false,false,false,false,false,false,false,false,false,false,false,false,false,false] rfl rfl (any_of HT_.out (by kernel_rfl)) (fun _ _ _ h => h) (Or.inl ⟨by rfl, ?_⟩) ?_ ?_;rotate_left
                               ·intro w';go_simp;with_reducible rfl
                               rotate_left
                               ·simp only [Act.put, List.setIfInBounds_toArray, List.set_cons_zero, List.set_cons_succ, i64_w, i32_w];rfl
                               refine pure_ (i := 5) (N := some 115) (v := ?_) (a' := ?_) #[true,true,true,true,true,true,false,false,false,false,false,false,false,false,false,false,false,false,false,false,false] rfl rfl (any_of HT_.out (by kernel_rfl)) (fun _ _ _ h => h) (Or.inl ⟨by rfl, ?_⟩) ?_ ?_;rotate_left
                               ·intro w';go_simp;with_reducible rfl
                               rotate_left
                               ·simp only [Act.put, List.setIfInBounds_toArray, List.set_cons_zero, List.set_cons_succ, i64_w, i32_w];rfl
                               refine pure_ (i := 6) (N := some 116) (v := ?_) (a' := ?_) #[true,true,true,true,true,true,true,false,false,false,false,false,false,false,false,false,false,false,false,false,false] rfl rfl (any_of HT_.out (by kernel_rfl)) (fun _ _ _ h => h) (Or.inl ⟨by rfl, ?_⟩) ?_ ?_;rotate_left
                               ·intro w';go_simp;with_reducible rfl
                               rotate_left
                               ·simp only [Act.put, List.setIfInBounds_toArray, List.set_cons_zero, List.set_cons_succ, i64_w, i32_w];rfl
                               refine pure_ (i := 7) (N := some 117) (v := ?_) (a' := ?_) #[true,true,true,true,true,true,true,true,false,false,false,false,false,false,false,false,false,false,false,false,false] rfl rfl (any_of HT_.out (by kernel_rfl)) (fun _ _ _ h => h) (Or.inl ⟨by rfl, ?_⟩) ?_ ?_;rotate_left
                               ·intro w';go_simp;with_reducible rfl
                               rotate_left
                               ·simp only [Act.put, List.setIfInBounds_toArray, List.set_cons_zero, List.set_cons_succ, i64_w, i32_w];rfl
                               refine take_ (i := 8) (N := some 118) (v := ?_) (a' := ?_) #[true,true,true,true,true,true,true,true,true,false,false,false,false,false,false,false,false,false,false,false,false] rfl rfl (take_ofW HT_.out HW_.out (by kernel_rfl)) (fun _ _ _ h => h) (Or.inl ⟨by rfl, ?_⟩) hHeld ?_ ?_;rotate_left
                               ·rintro w' ⟨s0, s1, s2, s3, s4, s5, s6, s7⟩;go_simp;with_reducible rfl
                               rotate_left
                               ·simp only [Act.put, List.setIfInBounds_toArray, List.set_cons_zero, List.set_cons_succ, i64_w, i32_w];rfl
                               refine pure_ (i := 9) (N := some 119) (v := ?_) (a' := ?_) #[true,true,true,true,true,true,true,true,true,true,false,false,false,false,false,false,false,false,false,false,false] rfl rfl (any_of HT_.out (by kernel_rfl)) (fun _ _ _ h => h) (Or.inl ⟨by rfl, ?_⟩) ?_ ?_;rotate_left
                               ·intro w';go_simp;with_reducible rfl
                               rotate_left
                               ·simp only [Act.put, List.setIfInBounds_toArray, List.set_cons_zero, List.set_cons_succ, i64_w, i32_w];rfl
                               refine pure_ (i := 10) (N := some 120) (v := ?_) (a' := ?_) #[true,true,true,true,true,true,true,true,true,true,true,false,false,false,false,false,false,false,false,false,false] rfl rfl (any_of HT_.out (by kernel_rfl)) (fun _ _ _ h => h) (Or.inl ⟨by rfl, ?_⟩) ?_ ?_;rotate_left
                               ·intro w';go_simp;with_reducible rfl
                               rotate_left
                               ·simp only [Act.put, List.setIfInBounds_toArray, List.set_cons_zero, List.set_cons_succ, i64_w, i32_w];rfl
                               refine pure_ (i := 11) (N := some 121) (v := ?_) (a' := ?_) #[true,true,true,true,true,true,true,true,true,true,true,true,false,false,false,false,false,false,false,false,false] rfl rfl (any_of HT_.out (by kernel_rfl)) (fun _ _ _ h => h) (Or.inl ⟨by rfl, ?_⟩) ?_ ?_;rotate_left
                               ·intro w';go_simp;with_reducible rfl
                               rotate_left
                               ·simp only [Act.put, List.setIfInBounds_toArray, List.set_cons_zero, List.set_cons_succ, i64_w, i32_w];rfl
                               refine pure_ (i := 12) (N := some 122) (v := ?_) (a' := ?_) #[true,true,true,true,true,true,true,true,true,true,true,true,true,false,false,false,false,false,false,false,false] rfl rfl (any_of HT_.out (by kernel_rfl)) (fun _ _ _ h => h) (Or.inl ⟨by rfl, ?_⟩) ?_ ?_;rotate_left
                               ·intro w';go_simp;with_reducible rfl
                               rotate_left
                               ·simp only [Act.put, List.setIfInBounds_toArray, List.set_cons_zero, List.set_cons_succ, i64_w, i32_w];rfl
                               refine pure_ (i := 13) (N := some 123) (v := ?_) (a' := ?_) #[true,true,true,true,true,true,true,true,true,true,true,true,true,true,false,false,false,false,false,false,false] rfl rfl (any_of HT_.out (by kernel_rfl)) (fun _ _ _ h => h) (Or.inl ⟨by rfl, ?_⟩) ?_ ?_;rotate_left
                               ·intro w';go_simp;with_reducible rfl
                               rotate_left
                               ·simp only [Act.put, List.setIfInBounds_toArray, List.set_cons_zero, List.set_cons_succ, i64_w, i32_w];rfl
                               refine pure_ (i := 14) (N := some 124) (v := ?_) (a' := ?_) #[true,true,true,true,true,true,true,true,true,true,true,true,true,true,true,false,false,false,false,false,false] rfl rfl (any_of HT_.out (by kernel_rfl)) (fun _ _ _ h => h) (Or.inl ⟨by rfl, ?_⟩) ?_ ?_;rotate_left
                               ·intro w';go_simp;with_reducible rfl
                               rotate_left
                               ·simp only [Act.put, List.setIfInBounds_toArray, List.set_cons_zero, List.set_cons_succ, i64_w, i32_w];rfl
                               refine pure_ (i := 15) (N := some 125) (v := ?_) (a' := ?_) #[true,true,true,true,true,true,true,true,true,true,true,true,true,true,true,true,false,false,false,false,false] rfl rfl (any_of HT_.out (by kernel_rfl)) (fun _ _ _ h => h) (Or.inl ⟨by rfl, ?_⟩) ?_ ?_;rotate_left
                               ·intro w';go_simp;with_reducible rfl
                               rotate_left
                               ·simp only [Act.put, List.setIfInBounds_toArray, List.set_cons_zero, List.set_cons_succ, i64_w, i32_w];rfl
                               refine pure_ (i := 17) (N := some 127) (v := ?_) (a' := ?_) #[true,true,true,true,true,true,true,true,true,true,true,true,true,true,true,true,false,true,false,false,false] rfl rfl (any_of HT_.out (by kernel_rfl)) (fun _ _ _ h => h) (Or.inl ⟨by rfl, ?_⟩) ?_ ?_;rotate_left
                               ·intro w';go_simp;with_reducible rfl
                               rotate_left
                               ·simp only [Act.put, List.setIfInBounds_toArray, List.set_cons_zero, List.set_cons_succ, i64_w, i32_w];rfl
                               refine take_ (i := 16) (N := some 126) (v := ?_) (a' := ?_) #[true,true,true,true,true,true,true,true,true,true,true,true,true,true,true,true,true,true,false,false,false] rfl rfl (take_ofW HT_.out HW_.out (by kernel_rfl)) (fun _ _ _ h => h) (Or.inl ⟨by rfl, ?_⟩) hHeld ?_ ?_;rotate_left
                               ·rintro w' ⟨s0, s1, s2, s3, s4, s5, s6, s7⟩;go_simp;with_reducible rfl
                               rotate_left
                               ·simp only [Act.put, List.setIfInBounds_toArray, List.set_cons_zero, List.set_cons_succ, i64_w, i32_w];rfl
                               refine take_ (i := 18) (N := some 128) (v := ?_) (a' := ?_) #[true,true,true,true,true,true,true,true,true,true,true,true,true,true,true,true,true,true,true,false,false] rfl rfl (take_ofW HT_.out HW_.out (by kernel_rfl)) (fun _ _ _ h => h) (Or.inl ⟨by rfl, ?_⟩) hHeld ?_ ?_;rotate_left
                               ·rintro w' ⟨s0, s1, s2, s3, s4, s5, s6, s7⟩;go_simp;with_reducible rfl
                               rotate_left
                               ·simp only [Act.put, List.setIfInBounds_toArray, List.set_cons_zero, List.set_cons_succ, i64_w, i32_w];rfl
                               refine pure_ (i := 19) (N := some 129) (v := ?_) (a' := ?_) #[true,true,true,true,true,true,true,true,true,true,true,true,true,true,true,true,true,true,true,true,false] rfl rfl (any_of HT_.out (by kernel_rfl)) (fun _ _ _ h => h) (Or.inl ⟨by rfl, ?_⟩) ?_ ?_;rotate_left
                               ·intro w';go_simp;with_reducible rfl
                               rotate_left
                               ·simp only [Act.put, List.setIfInBounds_toArray, List.set_cons_zero, List.set_cons_succ, i64_w, i32_w];rfl
                               refine pure_ (i := 20) (N := some 130) (v := ?_) (a' := ?_) #[true,true,true,true,true,true,true,true,true,true,true,true,true,true,true,true,true,true,true,true,true] rfl rfl (any_of HT_.out (by kernel_rfl)) (fun _ _ _ h => h) (Or.inl ⟨by rfl, ?_⟩) ?_ ?_;rotate_left
                               ·intro w';go_simp;with_reducible rfl
                               rotate_left
                               ·simp only [Act.put, List.setIfInBounds_toArray, List.set_cons_zero, List.set_cons_succ, i64_w, i32_w];rfl
                               refine done_ (done_of HT_.out (by kernel_rfl)) ?_;try go_wp2
                               go_roundg k6
                               case measure => have := HJ5.out; have := HK2.out; have := HK3.out; have := HK4.out; have := HJ43.out; have := HK6.out; omega
                               case rel => exact ⟨(wrap64 (x107_6 + 1)), (by first | rfl | (simp; done) | (simp [*]; done)), H', ⟨by have := HJ5.out; have := HK2.out; have := HK3.out; have := HK4.out; have := HJ43.out; have := HK6.out; omega⟩, ⟨by (with_reducible repeat (first | apply Kd.R_alloc | apply Kd.R_drewN | apply Kd.R_drew)); exact HO_10.out⟩, ⟨by (with_reducible repeat (first | apply nv_alloc | apply nv_drewN | apply nv_drew)); exact HO_53.out⟩, ⟨by (with_reducible repeat (first | refine blk_drewN ?_ _ | refine blk_drew ?_ | refine blk_alloc ?_ _)); exact BK308.out⟩, ⟨by repeat (first | (with_reducible first | exact HB.out | apply below_alloc | apply pw_below_drewN | apply below_drew1 | refine below_set ?_ GE308.out) | exact HB.out)⟩⟩
                             ·rw [if_neg c60] at H;exact absurd H (by simp)
                            ·rw [if_neg c59] at H;have c59b0 : decide (0 < (rd x10_4 x107_6)) = false := decide_eq_false c59;clear c59;have H' := Aside0.mk H;clear H;try go_wp2
                             have n0_ := Aside0.mk (Kd.R_drew HO_10.out);have n1_ := Aside0.mk (nv_drew HO_53.out);have n2_ := Aside0.mk (blk_drew BK308.out);have n3_ := Aside0.mk (below_drew1 HB.out);clear HO_10;clear HO_53;clear BK308;clear HB;have HO_10 := n0_;have HO_53 := n1_;have BK308 := n2_;have HB := n3_;clear n0_ n1_ n2_ n3_;obtain ⟨Ao67, co67, eo67⟩ := Kd.R_slice HO_10.out;(first | subst eo67 | (injection eo67 with f1_ f2_ f3_; have f4_ := f1_.symm; have f5_ := f3_.symm; clear f1_ f2_ f3_; subst f4_; subst f5_));have p309 : 0 ≤ (x107_6 : Int) := of_decide_eq_true (by first | (with_reducible assumption) | assumption);have q309 : x107_6 < (x10_4.length : Int) := of_decide_eq_true (by first | (with_reducible assumption) | assumption);obtain ⟨ad309, e309, hx309_0⟩ := Kd.at_int (Kd.R_reads' HO_10.out).2.2 x107_6 p309 q309;cases e309;replace p309 := eq_true p309;replace q309 := eq_true q309;refine start_ (n := 21) (S := fun w' => w'.cell? ⟨gb308, 0, none⟩ = some (.int .i64 ((rd_T44 (rd_L5 y297 x55_2) x78_4).f0)) ∧ w'.cell? ⟨gb308, 1, none⟩ = some (.int .i64 ((rd_T44 (rd_L5 y297 x55_2) x78_4).f1)) ∧ w'.cell? ⟨gb308, 2, none⟩ = some (.int .i64 ((rd_T44 (rd_L5 y297 x55_2) x78_4).f2)) ∧ w'.cell? (ad309.add (x107_6).toNat) = some (.int .i64 (rd x10_4 x107_6))) (ds := []) #[false,false,false,false,false,false,false,false,false,false,false,false,false,false,false,false,false,false,false,false,false] (by kernel_rfl) rfl rfl ⟨(blk_cell BK308.out 0).trans rfl, (blk_cell BK308.out 1).trans rfl, (blk_cell BK308.out 2).trans rfl, hx309_0⟩ (fun hHeld => ?_); refine with_tabW corrodylaw06_DatesIdle.tab23 corrodylaw06_DatesIdle.bits23 (fun HT_ HW_ => ?_);generalize wr.drew = w66 at HO_10 HO_53 BK308 HB hx309_0 hHeld ⊢;refine pure_ (i := 0) (N := some 110) (v := ?_) (a' := ?_) #[true,false,false,false,false,false,false,false,false,false,false,false,false,false,false,false,false,false,false,false,false] rfl rfl (any_of HT_.out (by kernel_rfl)) (fun _ _ _ h => h) (Or.inl ⟨by rfl, ?_⟩) ?_ ?_;rotate_left
                             ·intro w';go_simp;with_reducible rfl
                             rotate_left
                             ·simp only [Act.put, List.setIfInBounds_toArray, List.set_cons_zero, List.set_cons_succ, i64_w, i32_w];rfl
                             refine pure_ (i := 2) (N := some 112) (v := ?_) (a' := ?_) #[true,false,true,false,false,false,false,false,false,false,false,false,false,false,false,false,false,false,false,false,false] rfl rfl (any_of HT_.out (by kernel_rfl)) (fun _ _ _ h => h) (Or.inl ⟨by rfl, ?_⟩) ?_ ?_;rotate_left
                             ·intro w';go_simp;with_reducible rfl
                             rotate_left
                             ·simp only [Act.put, List.setIfInBounds_toArray, List.set_cons_zero, List.set_cons_succ, i64_w, i32_w];rfl
                             refine take_ (i := 1) (N := some 111) (v := ?_) (a' := ?_) #[true,true,true,false,false,false,false,false,false,false,false,false,false,false,false,false,false,false,false,false,false] rfl rfl (take_ofW HT_.out HW_.out (by kernel_rfl)) (fun _ _ _ h => h) (Or.inl ⟨by rfl, ?_⟩) hHeld ?_ ?_;rotate_left
                             ·rintro w' ⟨s0, s1, s2, s3⟩;go_simp;with_reducible rfl
                             rotate_left
                             ·simp only [Act.put, List.setIfInBounds_toArray, List.set_cons_zero, List.set_cons_succ, i64_w, i32_w];rfl
                             refine pure_ (i := 3) (N := some 113) (v := ?_) (a' := ?_) #[true,true,true,true,false,false,false,false,false,false,false,false,false,false,false,false,false,false,false,false,false] rfl rfl (any_of HT_.out (by kernel_rfl)) (fun _ _ _ h => h) (Or.inl ⟨by rfl, ?_⟩) ?_ ?_;rotate_left
                             ·intro w';go_simp;with_reducible rfl
                             rotate_left
                             ·simp only [Act.put, List.setIfInBounds_toArray, List.set_cons_zero, List.set_cons_succ, i64_w, i32_w];rfl
                             refine pure_ (i := 4) (N := some 114) (v := ?_) (a' := ?_) #[true,true,true,true,true,false,false,false,false,false,false,false,false,false,false,false,false,false,false,false,false] rfl rfl (any_of HT_.out (by kernel_rfl)) (fun _ _ _ h => h) (Or.inl ⟨by rfl, ?_⟩) ?_ ?_;rotate_left
                             ·intro w';go_simp;with_reducible rfl
                             rotate_left
                             ·simp only [Act.put, List.setIfInBounds_toArray, List.set_cons_zero, List.set_cons_succ, i64_w, i32_w];rfl
                             refine pure_ (i := 5) (N := some 115) (v := ?_) (a' := ?_) #[true,true,true,true,true,true,false,false,false,false,false,false,false,false,false,false,false,false,false,false,false] rfl rfl (any_of HT_.out (by kernel_rfl)) (fun _ _ _ h => h) (Or.inl ⟨by rfl, ?_⟩) ?_ ?_;rotate_left
                             ·intro w';go_simp;with_reducible rfl
                             rotate_left
                             ·simp only [Act.put, List.setIfInBounds_toArray, List.set_cons_zero, List.set_cons_succ, i64_w, i32_w];rfl
                             refine pure_ (i := 6) (N := some 116) (v := ?_) (a' := ?_) #[true,true,true,true,true,true,true,false,false,false,false,false,false,false,false,false,false,false,false,false,false] rfl rfl (any_of HT_.out (by kernel_rfl)) (fun _ _ _ h => h) (Or.inl ⟨by rfl, ?_⟩) ?_ ?_;rotate_left
                             ·intro w';go_simp;with_reducible rfl
                             rotate_left
                             ·simp only [Act.put, List.setIfInBounds_toArray, List.set_cons_zero, List.set_cons_succ, i64_w, i32_w];rfl
                             refine pure_ (i := 7) (N := some 117) (v := ?_) (a' := ?_) #[true,true,true,true,true,true,true,true,false,false,false,false,false,false,false,false,false,false,false,false,false] rfl rfl (any_of HT_.out (by kernel_rfl)) (fun _ _ _ h => h) (Or.inl ⟨by rfl, ?_⟩) ?_ ?_;rotate_left
                             ·intro w';go_simp;with_reducible rfl
                             rotate_left
                             ·simp only [Act.put, List.setIfInBounds_toArray, List.set_cons_zero, List.set_cons_succ, i64_w, i32_w];rfl
                             refine take_ (i := 8) (N := some 118) (v := ?_) (a' := ?_) #[true,true,true,true,true,true,true,true,true,false,false,false,false,false,false,false,false,false,false,false,false] rfl rfl (take_ofW HT_.out HW_.out (by kernel_rfl)) (fun _ _ _ h => h) (Or.inl ⟨by rfl, ?_⟩) hHeld ?_ ?_;rotate_left
                             ·rintro w' ⟨s0, s1, s2, s3⟩;go_simp;with_reducible rfl
                             rotate_left
                             ·simp only [Act.put, List.setIfInBounds_toArray, List.set_cons_zero, List.set_cons_succ, i64_w, i32_w];rfl
                             refine pure_ (i := 9) (N := some 119) (v := ?_) (a' := ?_) #[true,true,true,true,true,true,true,true,true,true,false,false,false,false,false,false,false,false,false,false,false] rfl rfl (any_of HT_.out (by kernel_rfl)) (fun _ _ _ h => h) (Or.inl ⟨by rfl, ?_⟩) ?_ ?_;rotate_left
                             ·intro w';go_simp;with_reducible rfl
                             rotate_left
                             ·simp only [Act.put, List.setIfInBounds_toArray, List.set_cons_zero, List.set_cons_succ, i64_w, i32_w];rfl
                             refine pure_ (i := 10) (N := some 120) (v := ?_) (a' := ?_) #[true,true,true,true,true,true,true,true,true,true,true,false,false,false,false,false,false,false,false,false,false] rfl rfl (any_of HT_.out (by kernel_rfl)) (fun _ _ _ h => h) (Or.inl ⟨by rfl, ?_⟩) ?_ ?_;rotate_left
                             ·intro w';go_simp;with_reducible rfl
                             rotate_left
                             ·simp only [Act.put, List.setIfInBounds_toArray, List.set_cons_zero, List.set_cons_succ, i64_w, i32_w];rfl
                             refine pure_ (i := 11) (N := some 121) (v := ?_) (a' := ?_) #[true,true,true,true,true,true,true,true,true,true,true,true,false,false,false,false,false,false,false,false,false] rfl rfl (any_of HT_.out (by kernel_rfl)) (fun _ _ _ h => h) (Or.inl ⟨by rfl, ?_⟩) ?_ ?_;rotate_left
                             ·intro w';go_simp;with_reducible rfl
                             rotate_left
                             ·simp only [Act.put, List.setIfInBounds_toArray, List.set_cons_zero, List.set_cons_succ, i64_w, i32_w];rfl
                             refine pure_ (i := 12) (N := some 122) (v := undef) (a' := ?_) #[true,true,true,true,true,true,true,true,true,true,true,true,true,false,false,false,false,false,false,false,false] rfl rfl (any_of HT_.out (by kernel_rfl)) (fun _ _ _ h => h) (Or.inr ⟨by rfl, rfl⟩) ?_ ?_;rotate_left
                             ·simp only [Act.put, List.setIfInBounds_toArray, List.set_cons_zero, List.set_cons_succ, i64_w, i32_w];rfl
                             refine pure_ (i := 13) (N := some 123) (v := undef) (a' := ?_) #[true,true,true,true,true,true,true,true,true,true,true,true,true,true,false,false,false,false,false,false,false] rfl rfl (any_of HT_.out (by kernel_rfl)) (fun _ _ _ h => h) (Or.inr ⟨by rfl, rfl⟩) ?_ ?_;rotate_left
                             ·simp only [Act.put, List.setIfInBounds_toArray, List.set_cons_zero, List.set_cons_succ, i64_w, i32_w];rfl
                             refine pure_ (i := 14) (N := some 124) (v := undef) (a' := ?_) #[true,true,true,true,true,true,true,true,true,true,true,true,true,true,true,false,false,false,false,false,false] rfl rfl (any_of HT_.out (by kernel_rfl)) (fun _ _ _ h => h) (Or.inr ⟨by rfl, rfl⟩) ?_ ?_;rotate_left
                             ·simp only [Act.put, List.setIfInBounds_toArray, List.set_cons_zero, List.set_cons_succ, i64_w, i32_w];rfl
                             refine pure_ (i := 15) (N := some 125) (v := undef) (a' := ?_) #[true,true,true,true,true,true,true,true,true,true,true,true,true,true,true,true,false,false,false,false,false] rfl rfl (any_of HT_.out (by kernel_rfl)) (fun _ _ _ h => h) (Or.inr ⟨by rfl, rfl⟩) ?_ ?_;rotate_left
                             ·simp only [Act.put, List.setIfInBounds_toArray, List.set_cons_zero, List.set_cons_succ, i64_w, i32_w];rfl
                             refine pure_ (i := 16) (N := some 126) (v := undef) (a' := ?_) #[true,true,true,true,true,true,true,true,true,true,true,true,true,true,true,true,true,false,false,false,false] rfl rfl (any_of HT_.out (by kernel_rfl)) (fun _ _ _ h => h) (Or.inr ⟨by rfl, rfl⟩) ?_ ?_;rotate_left
                             ·simp only [Act.put, List.setIfInBounds_toArray, List.set_cons_zero, List.set_cons_succ, i64_w, i32_w];rfl
                             refine pure_ (i := 17) (N := some 127) (v := undef) (a' := ?_) #[true,true,true,true,true,true,true,true,true,true,true,true,true,true,true,true,true,true,false,false,false] rfl rfl (any_of HT_.out (by kernel_rfl)) (fun _ _ _ h => h) (Or.inr ⟨by rfl, rfl⟩) ?_ ?_;rotate_left
                             ·simp only [Act.put, List.setIfInBounds_toArray, List.set_cons_zero, List.set_cons_succ, i64_w, i32_w];rfl
                             refine pure_ (i := 18) (N := some 128) (v := undef) (a' := ?_) #[true,true,true,true,true,true,true,true,true,true,true,true,true,true,true,true,true,true,true,false,false] rfl rfl (any_of HT_.out (by kernel_rfl)) (fun _ _ _ h => h) (Or.inr ⟨by rfl, rfl⟩) ?_ ?_;rotate_left
                             ·simp only [Act.put, List.setIfInBounds_toArray, List.set_cons_zero, List.set_cons_succ, i64_w, i32_w];rfl
                             refine pure_ (i := 19) (N := some 129) (v := undef) (a' := ?_) #[true,true,true,true,true,true,true,true,true,true,true,true,true,true,true,true,true,true,true,true,false] rfl rfl (any_of HT_.out (by kernel_rfl)) (fun _ _ _ h => h) (Or.inr ⟨by rfl, rfl⟩) ?_ ?_;rotate_left
                             ·simp only [Act.put, List.setIfInBounds_toArray, List.set_cons_zero, List.set_cons_succ, i64_w, i32_w];rfl
                             refine pure_ (i := 20) (N := some 130) (v := ?_) (a' := ?_) #[true,true,true,true,true,true,true,true,true,true,true,true,true,true,true,true,true,true,true,true,true] rfl rfl (any_of HT_.out (by kernel_rfl)) (fun _ _ _ h => h) (Or.inl ⟨by rfl, ?_⟩) ?_ ?_;rotate_left
                             ·intro w';go_simp;with_reducible rfl
                             rotate_left
                             ·simp only [Act.put, List.setIfInBounds_toArray, List.set_cons_zero, List.set_cons_succ, i64_w, i32_w];rfl
                             refine done_ (done_of HT_.out (by kernel_rfl)) ?_;try go_wp2
                             go_roundg k6
                             case measure => have := HJ5.out; have := HK2.out; have := HK3.out; have := HK4.out; have := HJ43.out; have := HK6.out; omega
                             case rel => exact ⟨(wrap64 (x107_6 + 1)), (by first | rfl | (simp; done) | (simp [*]; done)), H', ⟨by have := HJ5.out; have := HK2.out; have := HK3.out; have := HK4.out; have := HJ43.out; have := HK6.out; omega⟩, ⟨by (with_reducible repeat (first | apply Kd.R_alloc | apply Kd.R_drewN | apply Kd.R_drew)); exact HO_10.out⟩, ⟨by (with_reducible repeat (first | apply nv_alloc | apply nv_drewN | apply nv_drew)); exact HO_53.out⟩, ⟨by (with_reducible repeat (first | refine blk_drewN ?_ _ | refine blk_drew ?_ | refine blk_alloc ?_ _)); exact BK308.out⟩, ⟨by repeat (first | (with_reducible first | exact HB.out | apply below_alloc | apply pw_below_drewN | apply below_drew1 | refine below_set ?_ GE308.out) | exact HB.out)⟩⟩
                           ·rw [if_neg c58] at H;exact absurd H (by simp)
                          ·rw [if_neg c57] at H;exact absurd H (by simp)
                         ·rw [if_neg c56] at H;have c56b0 : decide (x12_4 < ((rd_T44 (rd_L5 y297 x55_2) x78_4).f1)) = false := decide_eq_false c56;clear c56;have H' := Aside0.mk H;clear H;try go_wp2
                          have n0_ := Aside0.mk (Kd.R_drew HO_10.out);have n1_ := Aside0.mk (nv_drew HO_53.out);have n2_ := Aside0.mk (blk_drew BK308.out);have n3_ := Aside0.mk (below_drew1 HB.out);clear HO_10;clear HO_53;clear BK308;clear HB;have HO_10 := n0_;have HO_53 := n1_;have BK308 := n2_;have HB := n3_;clear n0_ n1_ n2_ n3_;refine start_ (n := 21) (S := fun w' => w'.cell? ⟨gb308, 0, none⟩ = some (.int .i64 ((rd_T44 (rd_L5 y297 x55_2) x78_4).f0)) ∧ w'.cell? ⟨gb308, 1, none⟩ = some (.int .i64 ((rd_T44 (rd_L5 y297 x55_2) x78_4).f1)) ∧ w'.cell? ⟨gb308, 2, none⟩ = some (.int .i64 ((rd_T44 (rd_L5 y297 x55_2) x78_4).f2))) (ds := []) #[false,false,false,false,false,false,false,false,false,false,false,false,false,false,false,false,false,false,false,false,false] (by kernel_rfl) rfl rfl ⟨(blk_cell BK308.out 0).trans rfl, (blk_cell BK308.out 1).trans rfl, (blk_cell BK308.out 2).trans rfl⟩ (fun hHeld => ?_); refine with_tabW corrodylaw06_DatesIdle.tab23 corrodylaw06_DatesIdle.bits23 (fun HT_ HW_ => ?_);generalize wr.drew = w68 at HO_10 HO_53 BK308 HB hHeld ⊢;refine pure_ (i := 0) (N := some 110) (v := ?_) (a' := ?_) #[true,false,false,false,false,false,false,false,false,false,false,false,false,false,false,false,false,false,false,false,false] rfl rfl (any_of HT_.out (by kernel_rfl)) (fun _ _ _ h => h) (Or.inl ⟨by rfl, ?_⟩) ?_ ?_;rotate_left
                          ·intro w';go_simp;with_reducible rfl
                          rotate_left
                          ·simp only [Act.put, List.setIfInBounds_toArray, List.set_cons_zero, List.set_cons_succ, i64_w, i32_w];rfl
                          refine pure_ (i := 2) (N := some 112) (v := ?_) (a' := ?_) #[true,false,true,false,false,false,false,false,false,false,false,false,false,false,false,false,false,false,false,false,false] rfl rfl (any_of HT_.out (by kernel_rfl)) (fun _ _ _ h => h) (Or.inl ⟨by rfl, ?_⟩) ?_ ?_;rotate_left
                          ·intro w';go_simp;with_reducible rfl
                          rotate_left
                          ·simp only [Act.put, List.setIfInBounds_toArray, List.set_cons_zero, List.set_cons_succ, i64_w, i32_w];rfl
                          refine take_ (i := 1) (N := some 111) (v := ?_) (a' := ?_) #[true,true,true,false,false,false,false,false,false,false,false,false,false,false,false,false,false,false,false,false,false] rfl rfl (take_ofW HT_.out HW_.out (by kernel_rfl)) (fun _ _ _ h => h) (Or.inl ⟨by rfl, ?_⟩) hHeld ?_ ?_;rotate_left
                          ·rintro w' ⟨s0, s1, s2⟩;go_simp;with_reducible rfl
                          rotate_left
                          ·simp only [Act.put, List.setIfInBounds_toArray, List.set_cons_zero, List.set_cons_succ, i64_w, i32_w];rfl
                          refine pure_ (i := 3) (N := some 113) (v := ?_) (a' := ?_) #[true,true,true,true,false,false,false,false,false,false,false,false,false,false,false,false,false,false,false,false,false] rfl rfl (any_of HT_.out (by kernel_rfl)) (fun _ _ _ h => h) (Or.inl ⟨by rfl, ?_⟩) ?_ ?_;rotate_left
                          ·intro w';go_simp;with_reducible rfl
                          rotate_left
                          ·simp only [Act.put, List.setIfInBounds_toArray, List.set_cons_zero, List.set_cons_succ, i64_w, i32_w];rfl
                          refine pure_ (i := 4) (N := some 114) (v := ?_) (a' := ?_) #[true,true,true,true,true,false,false,false,false,false,false,false,false,false,false,false,false,false,false,false,false] rfl rfl (any_of HT_.out (by kernel_rfl)) (fun _ _ _ h => h) (Or.inl ⟨by rfl, ?_⟩) ?_ ?_;rotate_left
                          ·intro w';go_simp;with_reducible rfl
                          rotate_left
                          ·simp only [Act.put, List.setIfInBounds_toArray, List.set_cons_zero, List.set_cons_succ, i64_w, i32_w];rfl
                          refine pure_ (i := 5) (N := some 115) (v := undef) (a' := ?_) #[true,true,true,true,true,true,false,false,false,false,false,false,false,false,false,false,false,false,false,false,false] rfl rfl (any_of HT_.out (by kernel_rfl)) (fun _ _ _ h => h) (Or.inr ⟨by rfl, rfl⟩) ?_ ?_;rotate_left
                          ·simp only [Act.put, List.setIfInBounds_toArray, List.set_cons_zero, List.set_cons_succ, i64_w, i32_w];rfl
                          refine pure_ (i := 6) (N := some 116) (v := undef) (a' := ?_) #[true,true,true,true,true,true,true,false,false,false,false,false,false,false,false,false,false,false,false,false,false] rfl rfl (any_of HT_.out (by kernel_rfl)) (fun _ _ _ h => h) (Or.inr ⟨by rfl, rfl⟩) ?_ ?_;rotate_left
                          ·simp only [Act.put, List.setIfInBounds_toArray, List.set_cons_zero, List.set_cons_succ, i64_w, i32_w];rfl
                          refine pure_ (i := 7) (N := some 117) (v := undef) (a' := ?_) #[true,true,true,true,true,true,true,true,false,false,false,false,false,false,false,false,false,false,false,false,false] rfl rfl (any_of HT_.out (by kernel_rfl)) (fun _ _ _ h => h) (Or.inr ⟨by rfl, rfl⟩) ?_ ?_;rotate_left
                          ·simp only [Act.put, List.setIfInBounds_toArray, List.set_cons_zero, List.set_cons_succ, i64_w, i32_w];rfl
                          refine pure_ (i := 8) (N := some 118) (v := undef) (a' := ?_) #[true,true,true,true,true,true,true,true,true,false,false,false,false,false,false,false,false,false,false,false,false] rfl rfl (any_of HT_.out (by kernel_rfl)) (fun _ _ _ h => h) (Or.inr ⟨by rfl, rfl⟩) ?_ ?_;rotate_left
                          ·simp only [Act.put, List.setIfInBounds_toArray, List.set_cons_zero, List.set_cons_succ, i64_w, i32_w];rfl
                          refine pure_ (i := 9) (N := some 119) (v := undef) (a' := ?_) #[true,true,true,true,true,true,true,true,true,true,false,false,false,false,false,false,false,false,false,false,false] rfl rfl (any_of HT_.out (by kernel_rfl)) (fun _ _ _ h => h) (Or.inr ⟨by rfl, rfl⟩) ?_ ?_;rotate_left
                          ·simp only [Act.put, List.setIfInBounds_toArray, List.set_cons_zero, List.set_cons_succ, i64_w, i32_w];rfl
                          refine pure_ (i := 10) (N := some 120) (v := ?_) (a' := ?_) #[true,true,true,true,true,true,true,true,true,true,true,false,false,false,false,false,false,false,false,false,false] rfl rfl (any_of HT_.out (by kernel_rfl)) (fun _ _ _ h => h) (Or.inl ⟨by rfl, ?_⟩) ?_ ?_;rotate_left
                          ·intro w';go_simp;with_reducible rfl
                          rotate_left
                          ·simp only [Act.put, List.setIfInBounds_toArray, List.set_cons_zero, List.set_cons_succ, i64_w, i32_w];rfl
                          refine pure_ (i := 11) (N := some 121) (v := ?_) (a' := ?_) #[true,true,true,true,true,true,true,true,true,true,true,true,false,false,false,false,false,false,false,false,false] rfl rfl (any_of HT_.out (by kernel_rfl)) (fun _ _ _ h => h) (Or.inl ⟨by rfl, ?_⟩) ?_ ?_;rotate_left
                          ·intro w';go_simp;with_reducible rfl
                          rotate_left
                          ·simp only [Act.put, List.setIfInBounds_toArray, List.set_cons_zero, List.set_cons_succ, i64_w, i32_w];rfl
                          refine pure_ (i := 12) (N := some 122) (v := undef) (a' := ?_) #[true,true,true,true,true,true,true,true,true,true,true,true,true,false,false,false,false,false,false,false,false] rfl rfl (any_of HT_.out (by kernel_rfl)) (fun _ _ _ h => h) (Or.inr ⟨by rfl, rfl⟩) ?_ ?_;rotate_left
                          ·simp only [Act.put, List.setIfInBounds_toArray, List.set_cons_zero, List.set_cons_succ, i64_w, i32_w];rfl
                          refine pure_ (i := 13) (N := some 123) (v := undef) (a' := ?_) #[true,true,true,true,true,true,true,true,true,true,true,true,true,true,false,false,false,false,false,false,false] rfl rfl (any_of HT_.out (by kernel_rfl)) (fun _ _ _ h => h) (Or.inr ⟨by rfl, rfl⟩) ?_ ?_;rotate_left
                          ·simp only [Act.put, List.setIfInBounds_toArray, List.set_cons_zero, List.set_cons_succ, i64_w, i32_w];rfl
                          refine pure_ (i := 14) (N := some 124) (v := undef) (a' := ?_) #[true,true,true,true,true,true,true,true,true,true,true,true,true,true,true,false,false,false,false,false,false] rfl rfl (any_of HT_.out (by kernel_rfl)) (fun _ _ _ h => h) (Or.inr ⟨by rfl, rfl⟩) ?_ ?_;rotate_left
                          ·simp only [Act.put, List.setIfInBounds_toArray, List.set_cons_zero, List.set_cons_succ, i64_w, i32_w];rfl
                          refine pure_ (i := 15) (N := some 125) (v := undef) (a' := ?_) #[true,true,true,true,true,true,true,true,true,true,true,true,true,true,true,true,false,false,false,false,false] rfl rfl (any_of HT_.out (by kernel_rfl)) (fun _ _ _ h => h) (Or.inr ⟨by rfl, rfl⟩) ?_ ?_;rotate_left
                          ·simp only [Act.put, List.setIfInBounds_toArray, List.set_cons_zero, List.set_cons_succ, i64_w, i32_w];rfl
                          refine pure_ (i := 16) (N := some 126) (v := undef) (a' := ?_) #[true,true,true,true,true,true,true,true,true,true,true,true,true,true,true,true,true,false,false,false,false] rfl rfl (any_of HT_.out (by kernel_rfl)) (fun _ _ _ h => h) (Or.inr ⟨by rfl, rfl⟩) ?_ ?_;rotate_left
                          ·simp only [Act.put, List.setIfInBounds_toArray, List.set_cons_zero, List.set_cons_succ, i64_w, i32_w];rfl
                          refine pure_ (i := 17) (N := some 127) (v := undef) (a' := ?_) #[true,true,true,true,true,true,true,true,true,true,true,true,true,true,true,true,true,true,false,false,false] rfl rfl (any_of HT_.out (by kernel_rfl)) (fun _ _ _ h => h) (Or.inr ⟨by rfl, rfl⟩) ?_ ?_;rotate_left
                          ·simp only [Act.put, List.setIfInBounds_toArray, List.set_cons_zero, List.set_cons_succ, i64_w, i32_w];rfl
                          refine pure_ (i := 18) (N := some 128) (v := undef) (a' := ?_) #[true,true,true,true,true,true,true,true,true,true,true,true,true,true,true,true,true,true,true,false,false] rfl rfl (any_of HT_.out (by kernel_rfl)) (fun _ _ _ h => h) (Or.inr ⟨by rfl, rfl⟩) ?_ ?_;rotate_left
                          ·simp only [Act.put, List.setIfInBounds_toArray, List.set_cons_zero, List.set_cons_succ, i64_w, i32_w];rfl
                          refine pure_ (i := 19) (N := some 129) (v := undef) (a' := ?_) #[true,true,true,true,true,true,true,true,true,true,true,true,true,true,true,true,true,true,true,true,false] rfl rfl (any_of HT_.out (by kernel_rfl)) (fun _ _ _ h => h) (Or.inr ⟨by rfl, rfl⟩) ?_ ?_;rotate_left
                          ·simp only [Act.put, List.setIfInBounds_toArray, List.set_cons_zero, List.set_cons_succ, i64_w, i32_w];rfl
                          refine pure_ (i := 20) (N := some 130) (v := ?_) (a' := ?_) #[true,true,true,true,true,true,true,true,true,true,true,true,true,true,true,true,true,true,true,true,true] rfl rfl (any_of HT_.out (by kernel_rfl)) (fun _ _ _ h => h) (Or.inl ⟨by rfl, ?_⟩) ?_ ?_;rotate_left
                          ·intro w';go_simp;with_reducible rfl
                          rotate_left
                          ·simp only [Act.put, List.setIfInBounds_toArray, List.set_cons_zero, List.set_cons_succ, i64_w, i32_w];rfl
                          refine done_ (done_of HT_.out (by kernel_rfl)) ?_;try go_wp2
                          go_roundg k6
                          case measure => have := HJ5.out; have := HK2.out; have := HK3.out; have := HK4.out; have := HJ43.out; have := HK6.out; omega
                          case rel => exact ⟨(wrap64 (x107_6 + 1)), (by first | rfl | (simp; done) | (simp [*]; done)), H', ⟨by have := HJ5.out; have := HK2.out; have := HK3.out; have := HK4.out; have := HJ43.out; have := HK6.out; omega⟩, ⟨by (with_reducible repeat (first | apply Kd.R_alloc | apply Kd.R_drewN | apply Kd.R_drew)); exact HO_10.out⟩, ⟨by (with_reducible repeat (first | apply nv_alloc | apply nv_drewN | apply nv_drew)); exact HO_53.out⟩, ⟨by (with_reducible repeat (first | refine blk_drewN ?_ _ | refine blk_drew ?_ | refine blk_alloc ?_ _)); exact BK308.out⟩, ⟨by repeat (first | (with_reducible first | exact HB.out | apply below_alloc | apply pw_below_drewN | apply below_drew1 | refine below_set ?_ GE308.out) | exact HB.out)⟩⟩
                        ·rw [if_neg c55] at H;have c55b0 : decide (x107_6 < (l0.length : Int)) = false := decide_eq_false c55;clear c55;by_cases c69 : 0 ≤ ((rd_T44 (rd_L5 y297 x55_2) x78_4).f0)
                         ·rw [if_pos c69] at H;have c69b0 : decide (0 ≤ ((rd_T44 (rd_L5 y297 x55_2) x78_4).f0)) = true := decide_eq_true c69;clear c69;by_cases c70 : ((rd_T44 (rd_L5 y297 x55_2) x78_4).f0) < (x10_4.length : Int)
                          ·rw [if_pos c70] at H;have c70b0 : decide (((rd_T44 (rd_L5 y297 x55_2) x78_4).f0) < (x10_4.length : Int)) = true := decide_eq_true c70;clear c70;obtain ⟨y312, hy312⟩ : ∃ y_ : List Int, y_ = (x10_4.set (((rd_T44 (rd_L5 y297 x55_2) x78_4).f0) : Int).toNat (wrap64 ((rd x10_4 ((rd_T44 (rd_L5 y297 x55_2) x78_4).f0)) - (wrap64 (((rd_T44 (rd_L5 y297 x55_2) x78_4).f2) - ((rd_T44 (rd_L5 y297 x55_2) x78_4).f1)))))) := ⟨_, rfl⟩
                           replace H : (corrodylaw06_DatesIdle.l2 k6 l0 y312 ((rd_T44 (rd_L5 y297 x55_2) x78_4).f2) y297 (y297.length : Int) x55_2 (rd_L5 y297 x55_2) ((rd_L5 y297 x55_2).length : Int) (wrap64 (x78_4 + 1))) = some r := by first | (rw [hy312]; with_reducible exact H) | (have H2_ := (Option.bind_some _ _).symm.trans H; rw [hy312]; with_reducible exact H2_) | (have H2_ := (Option.bind_some _ _).symm.trans H; with_reducible exact H2_) | with_reducible exact H | (rw [hy312]; exact H) | exact H
                           have Ny312 := Aside0.mk hy312;clear hy312;have H' := Aside0.mk H;clear H;try go_wp2
                           have n0_ := Aside0.mk (Kd.R_drew HO_10.out);have n1_ := Aside0.mk (nv_drew HO_53.out);have n2_ := Aside0.mk (blk_drew BK308.out);have n3_ := Aside0.mk (below_drew1 HB.out);clear HO_10;clear HO_53;clear BK308;clear HB;have HO_10 := n0_;have HO_53 := n1_;have BK308 := n2_;have HB := n3_;clear n0_ n1_ n2_ n3_;obtain ⟨Ao73, co73, eo73⟩ := Kd.R_slice HO_10.out;(first | subst eo73 | (injection eo73 with f1_ f2_ f3_; have f4_ := f1_.symm; have f5_ := f3_.symm; clear f1_ f2_ f3_; subst f4_; subst f5_));have p311 : 0 ≤ (((rd_T44 (rd_L5 y297 x55_2) x78_4).f0) : Int) := of_decide_eq_true (by first | (with_reducible assumption) | assumption);have q311 : ((rd_T44 (rd_L5 y297 x55_2) x78_4).f0) < (x10_4.length : Int) := of_decide_eq_true (by first | (with_reducible assumption) | assumption);obtain ⟨ad311, e311, hx311_0⟩ := Kd.at_int (Kd.R_reads' HO_10.out).2.2 ((rd_T44 (rd_L5 y297 x55_2) x78_4).f0) p311 q311;cases e311;replace p311 := eq_true p311;replace q311 := eq_true q311;have p71 : 0 ≤ (((rd_T44 (rd_L5 y297 x55_2) x78_4).f0) : Int) := of_decide_eq_true (by first | (with_reducible assumption) | assumption);have q71 : (((rd_T44 (rd_L5 y297 x55_2) x78_4).f0) : Int) < ((x10_4.length : Int) : Int) := of_decide_eq_true (by first | (with_reducible assumption) | assumption);obtain ⟨go71, co71, eo71, gb71, gl71, cl71, HG71⟩ := Kd.R_form HO_10.out (by omega);(first | cases eo71 | (injection eo71 with ea_ en_ ec_; (first | subst ea_ | (injection ea_ with ea_; subst ea_)); subst ec_; clear en_));have GB71 := Aside0.mk gb71;have GG71 := Aside0.mk HG71;clear gb71 gl71 HG71;(first | simp only [add_plain] at hx311_0 | skip);obtain ⟨hx71_0, hf71_0⟩ := Kd.R_celln 0 HO_10.out (((rd_T44 (rd_L5 y297 x55_2) x78_4).f0) : Int) p71 q71;replace p71 := eq_true p71;replace q71 := eq_true q71;have HP74 := Kd.R_putn HO_10.out (((rd_T44 (rd_L5 y297 x55_2) x78_4).f0) : Int) (wrap64 ((rd x10_4 ((rd_T44 (rd_L5 y297 x55_2) x78_4).f0)) - (wrap64 (((rd_T44 (rd_L5 y297 x55_2) x78_4).f2) - ((rd_T44 (rd_L5 y297 x55_2) x78_4).f1)))));rw [← Ny312.out] at HP74;have HQ74 := Aside0.mk HP74;clear HP74;refine start_ (n := 13) (S := fun w' => w'.cell? ⟨gb308, 0, none⟩ = some (.int .i64 ((rd_T44 (rd_L5 y297 x55_2) x78_4).f0)) ∧ w'.cell? ⟨gb308, 1, none⟩ = some (.int .i64 ((rd_T44 (rd_L5 y297 x55_2) x78_4).f1)) ∧ w'.cell? ⟨gb308, 2, none⟩ = some (.int .i64 ((rd_T44 (rd_L5 y297 x55_2) x78_4).f2)) ∧ w'.cell? ⟨go71, (((rd_T44 (rd_L5 y297 x55_2) x78_4).f0)).toNat, none⟩ = some (.int .i64 (rd x10_4 ((rd_T44 (rd_L5 y297 x55_2) x78_4).f0)))) (ds := [12]) #[false,false,false,false,false,false,false,false,false,false,false,false,false] (by kernel_rfl) rfl rfl ⟨(blk_cell BK308.out 0).trans rfl, (blk_cell BK308.out 1).trans rfl, (blk_cell BK308.out 2).trans rfl, hx311_0⟩ (fun hHeld => ?_); refine with_tabW corrodylaw06_DatesIdle.tab26 corrodylaw06_DatesIdle.bits26 (fun HT_ HW_ => ?_);generalize wr.drew = w72 at HO_10 HO_53 BK308 HB GG71 HQ74 hf71_0 hx311_0 hx71_0 hHeld ⊢;refine pure_ (i := 0) (N := some 132) (v := ?_) (a' := ?_) #[true,false,false,false,false,false,false,false,false,false,false,false,false] rfl rfl (any_of HT_.out (by kernel_rfl)) (fun _ _ _ h => h) (Or.inl ⟨by rfl, ?_⟩) ?_ ?_;rotate_left
                           ·intro w';go_simp;with_reducible rfl
                           rotate_left
                           ·simp only [Act.put, List.setIfInBounds_toArray, List.set_cons_zero, List.set_cons_succ, i64_w, i32_w];rfl
                           refine pure_ (i := 1) (N := some 133) (v := ?_) (a' := ?_) #[true,true,false,false,false,false,false,false,false,false,false,false,false] rfl rfl (any_of HT_.out (by kernel_rfl)) (fun _ _ _ h => h) (Or.inl ⟨by rfl, ?_⟩) ?_ ?_;rotate_left
                           ·intro w';go_simp;with_reducible rfl
                           rotate_left
                           ·simp only [Act.put, List.setIfInBounds_toArray, List.set_cons_zero, List.set_cons_succ, i64_w, i32_w];rfl
                           refine pure_ (i := 5) (N := some 137) (v := ?_) (a' := ?_) #[true,true,false,false,false,true,false,false,false,false,false,false,false] rfl rfl (any_of HT_.out (by kernel_rfl)) (fun _ _ _ h => h) (Or.inl ⟨by rfl, ?_⟩) ?_ ?_;rotate_left
                           ·intro w';go_simp;with_reducible rfl
                           rotate_left
                           ·simp only [Act.put, List.setIfInBounds_toArray, List.set_cons_zero, List.set_cons_succ, i64_w, i32_w];rfl
                           refine pure_ (i := 7) (N := some 139) (v := ?_) (a' := ?_) #[true,true,false,false,false,true,false,true,false,false,false,false,false] rfl rfl (any_of HT_.out (by kernel_rfl)) (fun _ _ _ h => h) (Or.inl ⟨by rfl, ?_⟩) ?_ ?_;rotate_left
                           ·intro w';go_simp;with_reducible rfl
                           rotate_left
                           ·simp only [Act.put, List.setIfInBounds_toArray, List.set_cons_zero, List.set_cons_succ, i64_w, i32_w];rfl
                           refine take_ (i := 2) (N := some 134) (v := ?_) (a' := ?_) #[true,true,true,false,false,true,false,true,false,false,false,false,false] rfl rfl (take_ofW HT_.out HW_.out (by kernel_rfl)) (fun _ _ _ h => h) (Or.inl ⟨by rfl, ?_⟩) hHeld ?_ ?_;rotate_left
                           ·rintro w' ⟨s0, s1, s2, s3⟩;go_simp;with_reducible rfl
                           rotate_left
                           ·simp only [Act.put, List.setIfInBounds_toArray, List.set_cons_zero, List.set_cons_succ, i64_w, i32_w];rfl
                           refine pure_ (i := 3) (N := some 135) (v := ?_) (a' := ?_) #[true,true,true,true,false,true,false,true,false,false,false,false,false] rfl rfl (any_of HT_.out (by kernel_rfl)) (fun _ _ _ h => h) (Or.inl ⟨by rfl, ?_⟩) ?_ ?_;rotate_left
                           ·intro w';go_simp;with_reducible rfl
                           rotate_left
                           ·simp only [Act.put, List.setIfInBounds_toArray, List.set_cons_zero, List.set_cons_succ, i64_w, i32_w];rfl
                           refine take_ (i := 4) (N := some 136) (v := ?_) (a' := ?_) #[true,true,true,true,true,true,false,true,false,false,false,false,false] rfl rfl (take_ofW HT_.out HW_.out (by kernel_rfl)) (fun _ _ _ h => h) (Or.inl ⟨by rfl, ?_⟩) hHeld ?_ ?_;rotate_left
                           ·rintro w' ⟨s0, s1, s2, s3⟩;go_simp;with_reducible rfl
                           rotate_left
                           ·simp only [Act.put, List.setIfInBounds_toArray, List.set_cons_zero, List.set_cons_succ, i64_w, i32_w];rfl
                           refine take_ (i := 6) (N := some 138) (v := ?_) (a' := ?_) #[true,true,true,true,true,true,true,true,false,false,false,false,false] rfl rfl (take_ofW HT_.out HW_.out (by kernel_rfl)) (fun _ _ _ h => h) (Or.inl ⟨by rfl, ?_⟩) hHeld ?_ ?_;rotate_left
                           ·rintro w' ⟨s0, s1, s2, s3⟩;go_simp;with_reducible rfl
                           rotate_left
                           ·simp only [Act.put, List.setIfInBounds_toArray, List.set_cons_zero, List.set_cons_succ, i64_w, i32_w];rfl
                           refine take_ (i := 8) (N := some 140) (v := ?_) (a' := ?_) #[true,true,true,true,true,true,true,true,true,false,false,false,false] rfl rfl (take_ofW HT_.out HW_.out (by kernel_rfl)) (fun _ _ _ h => h) (Or.inl ⟨by rfl, ?_⟩) hHeld ?_ ?_;rotate_left
                           ·rintro w' ⟨s0, s1, s2, s3⟩;go_simp;with_reducible rfl
                           rotate_left
                           ·simp only [Act.put, List.setIfInBounds_toArray, List.set_cons_zero, List.set_cons_succ, i64_w, i32_w];rfl
                           refine pure_ (i := 9) (N := some 141) (v := ?_) (a' := ?_) #[true,true,true,true,true,true,true,true,true,true,false,false,false] rfl rfl (any_of HT_.out (by kernel_rfl)) (fun _ _ _ h => h) (Or.inl ⟨by rfl, ?_⟩) ?_ ?_;rotate_left
                           ·intro w';go_simp;with_reducible rfl
                           rotate_left
                           ·simp only [Act.put, List.setIfInBounds_toArray, List.set_cons_zero, List.set_cons_succ, i64_w, i32_w];rfl
                           refine pure_ (i := 10) (N := some 142) (v := ?_) (a' := ?_) #[true,true,true,true,true,true,true,true,true,true,true,false,false] rfl rfl (any_of HT_.out (by kernel_rfl)) (fun _ _ _ h => h) (Or.inl ⟨by rfl, ?_⟩) ?_ ?_;rotate_left
                           ·intro w';go_simp;with_reducible rfl
                           rotate_left
                           ·simp only [Act.put, List.setIfInBounds_toArray, List.set_cons_zero, List.set_cons_succ, i64_w, i32_w];rfl
                           refine pure_ (i := 11) (N := some 143) (v := ?_) (a' := ?_) #[true,true,true,true,true,true,true,true,true,true,true,true,false] rfl rfl (any_of HT_.out (by kernel_rfl)) (fun _ _ _ h => h) (Or.inl ⟨by rfl, ?_⟩) ?_ ?_;rotate_left
                           ·intro w';go_simp;with_reducible rfl
                           rotate_left
                           ·simp only [Act.put, List.setIfInBounds_toArray, List.set_cons_zero, List.set_cons_succ, i64_w, i32_w];rfl
                           refine last_ (i := 12) (N := none) #[true,true,true,true,true,true,true,true,true,true,true,true,true] rfl rfl (one_of HT_.out (by kernel_rfl)) (by decide) (fun K hK => ?_);refine skip_ (w1 := ?_) (by rfl) rfl ?_ ?_;rotate_left
                           ·go_simp;rfl
                           refine hK.out _ _ ?_;clear hK K;refine done_ (done_of HT_.out (by kernel_rfl)) ?_;have hcz75_0 : w72.cell? ⟨gb308, 0, none⟩ = some (.int .i64 ((rd_T44 (rd_L5 y297 x55_2) x78_4).f0)) := (blk_cell BK308.out 0).trans rfl;have hcz75_1 : w72.cell? ⟨gb308, 1, none⟩ = some (.int .i64 ((rd_T44 (rd_L5 y297 x55_2) x78_4).f1)) := (blk_cell BK308.out 1).trans rfl;have hcz75_2 : w72.cell? ⟨gb308, 2, none⟩ = some (.int .i64 ((rd_T44 (rd_L5 y297 x55_2) x78_4).f2)) := (blk_cell BK308.out 2).trans rfl;have hfz75_0 := blk_frozen BK308.out 0;have hfz75_1 := blk_frozen BK308.out 1;have hfz75_2 := blk_frozen BK308.out 2;have hnbx := blk_ne GG71.out BK308.out (by decide);have hnbx1 := eq_false hnbx;have hnbx2 := eq_false (Ne.symm hnbx);try go_wp2
                           go_roundg k6
                           case measure => have := HJ5.out; have := HK2.out; have := HK3.out; have := HK4.out; have := HJ43.out; have := HK6.out; omega
                           case rel => exact ⟨(y312), (((rd_T44 (rd_L5 y297 x55_2) x78_4).f2)), (wrap64 (x78_4 + 1)), (by first | rfl | (simp; done) | (simp [*]; done)), (by first | rfl | (simp; done) | (simp [*]; done)), H', ⟨by have := HJ5.out; have := HK2.out; have := HK3.out; have := HK4.out; have := HJ43.out; have := HK6.out; omega⟩, ⟨by (with_reducible repeat (first | apply Kd.R_alloc | apply Kd.R_drewN | apply Kd.R_drew)); exact HQ74.out⟩, ⟨by (with_reducible repeat (first | apply nv_alloc | apply nv_drewN | apply nv_drew)); exact nv_mono (nv_far (p := ⟨go71, (((rd_T44 (rd_L5 y297 x55_2) x78_4).f0) : Int).toNat, none⟩) (nv_mono HO_53.out (fun k_ hk => (⟨hk, fun e_ => hk.1 (by rw [e_]; rfl)⟩ : _ ∧ k_ ≠ go71))) (fun _ hk => hk.2) (.int .i64 (wrap64 ((rd x10_4 ((rd_T44 (rd_L5 y297 x55_2) x78_4).f0)) - (wrap64 (((rd_T44 (rd_L5 y297 x55_2) x78_4).f2) - ((rd_T44 (rd_L5 y297 x55_2) x78_4).f1))))))) (fun _ hk => hk.1.1)⟩, ⟨by repeat (first | (with_reducible first | exact HB.out | apply below_alloc | apply pw_below_drewN | apply below_drew1 | refine below_set ?_ GB71.out | refine below_set ?_ GE308.out) | exact HB.out)⟩⟩
                          ·rw [if_neg c70] at H;exact absurd H (by simp)
                         ·rw [if_neg c69] at H;exact absurd H (by simp)
                  ·rw [if_neg c43] at H;exact absurd H (by simp)
                 ·rw [if_neg c42] at H;exact absurd H (by simp)
                ·rw [if_neg c41] at H;have c41b0 : decide (x78_4 < ((rd_L5 y297 x55_2).length : Int)) = false := decide_eq_false c41;clear c41;have H' := Aside0.mk H;clear H;obtain ⟨Ao76, co76, eo76⟩ := Kd.R_slice HO_10.out;subst eo76;go_wp2;go_loopg [149] k4 (fun kq v149 w' => ∃ (x149_5 : Int), v149 = .int .i64 x149_5 ∧ Aside0 (corrodylaw06_DatesIdle.l4 kq l0 y297 (y297.length : Int) x55_2 x10_4 (x10_4.length : Int) x149_5 = some r) ∧ Aside0 (kq ≤ k4) ∧ Aside0 (Kd.N (Kd.slice 44 k44) 23 w' w.heap.size (fun k_ => some k_ ≠ ((.slice Ao76 x10_4.length co76) : Value).ownBlock) (.slice (some ad301) y297.length co26) y297) ∧ Aside0 (Kd.R (Kd.int .i64) 3 w' w.heap.size (fun _ => True) (.slice Ao76 x10_4.length co76) x10_4) ∧ Aside0 (Below w.heap.size w w'))
                 case atStart => exact ⟨(0), (by first | rfl | (simp; done) | (simp [*]; done)), H', ⟨Nat.le_refl _⟩, ⟨by (with_reducible repeat (first | apply Kd.N_alloc | apply Kd.N_drewN | apply Kd.N_drew)); exact HO_53.out.1⟩, ⟨by (with_reducible repeat (first | apply Kd.R_alloc | apply Kd.R_drewN | apply Kd.R_drew)); exact HO_10.out⟩, ⟨by repeat (first | (with_reducible first | exact HB.out | apply below_alloc | apply pw_below_drewN | apply below_drew1) | exact HB.out)⟩⟩
                 case round =>
                  clear H';try clear p2
                  try clear p3
                  try clear q3
                  try clear hx3
                  try clear c4
                  try clear c5
                  try clear c6
                  try clear p6
                  try clear c7
                  try clear p7
                  try clear q7
                  try clear hx7
                  try clear hf7
                  try clear p30
                  try clear q30
                  try clear hx30
                  try clear p31
                  try clear q31
                  try clear hx31
                  try clear c41
                  try clear c41b0
                  try clear c42
                  try clear c43
                  try clear c55
                  try clear c55b0
                  try clear c56
                  try clear c56b0
                  try clear c57
                  try clear c58
                  try clear c59
                  try clear c59b0
                  try clear c60
                  try clear p64
                  try clear c69
                  try clear c69b0
                  try clear c70
                  try clear c70b0
                  try clear p71
                  try clear q71
                  try clear hx71
                  try clear hf71
                  try clear hcz75_0
                  try clear hcz75_1
                  try clear hcz75_2
                  try clear hfz75_0
                  try clear hfz75_1
                  try clear hfz75_2
                  try clear hx309_0
                  try clear hx311_0
                  try clear hx71_0
                  try clear p309
                  try clear p311
                  try clear p71
                  try clear q309
                  try clear q311
                  try clear q71
                  obtain ⟨x149_5, rfl, HA, HK5, HO_53, HO_147, HB⟩ := hrel;cases gk with
                  | zero => exact absurd HA.out (by simp [corrodylaw06_DatesIdle.l4])
                  | succ k5 =>
                   have H := HA.out;clear HA;simp only [corrodylaw06_DatesIdle.l4] at H;by_cases c77 : x149_5 < (x10_4.length : Int)
                   ·rw [if_pos c77] at H;have c77b0 : decide (x149_5 < (x10_4.length : Int)) = true := decide_eq_true c77;clear c77;by_cases c78 : 0 ≤ x149_5
                    ·rw [if_pos c78] at H;have c78b0 : decide (0 ≤ x149_5) = true := decide_eq_true c78;clear c78;by_cases c79 : x149_5 < (x10_4.length : Int)
                     ·rw [if_pos c79] at H;have c79b0 : decide (x149_5 < (x10_4.length : Int)) = true := decide_eq_true c79;clear c79;by_cases c80 : (rd x10_4 x149_5) = 0
                      ·rw [if_pos c80] at H;have c80b0 : ((rd x10_4 x149_5) == 0) = true := beq_iff_eq.mpr c80;have c80b1 : ((rd x10_4 x149_5) != 0) = false := bne_eq_false_iff_eq.mpr c80;clear c80;have H' := Aside0.mk H;clear H;have p313 : 0 ≤ (x149_5 : Int) := of_decide_eq_true (by first | (with_reducible assumption) | assumption);have q313 : x149_5 < (x10_4.length : Int) := of_decide_eq_true (by first | (with_reducible assumption) | assumption);obtain ⟨ad313, e313, hx313_0⟩ := Kd.at_int (Kd.R_reads' HO_147.out).2.2 x149_5 p313 q313;cases e313;replace p313 := eq_true p313;replace q313 := eq_true q313;go_wp2;go_roundg k5
                       case measure => have := HJ5.out; have := HK2.out; have := HK3.out; have := HK4.out; have := HK5.out; omega
                       case rel => exact ⟨(wrap64 (x149_5 + 1)), (by first | rfl | (simp; done) | (simp [*]; done)), H', ⟨by have := HJ5.out; have := HK2.out; have := HK3.out; have := HK4.out; have := HK5.out; omega⟩, ⟨by (with_reducible repeat (first | apply Kd.N_alloc | apply Kd.N_drewN | apply Kd.N_drew)); exact HO_53.out⟩, ⟨by (with_reducible repeat (first | apply Kd.R_alloc | apply Kd.R_drewN | apply Kd.R_drew)); exact HO_147.out⟩, ⟨by repeat (first | (with_reducible first | exact HB.out | apply below_alloc | apply pw_below_drewN | apply below_drew1) | exact HB.out)⟩⟩
                      ·rw [if_neg c80] at H;have c80b0 : ((rd x10_4 x149_5) == 0) = false := beq_eq_false_iff_ne.mpr c80;have c80b1 : ((rd x10_4 x149_5) != 0) = true := bne_iff_ne.mpr c80;exact Bool.noConfusion ((Option.some.inj H).trans hr)
                     ·rw [if_neg c79] at H;exact absurd H (by simp)
                    ·rw [if_neg c78] at H;exact absurd H (by simp)
                   ·rw [if_neg c77] at H;have c77b0 : decide (x149_5 < (x10_4.length : Int)) = false := decide_eq_false c77;clear c77;have H' := Aside0.mk H;clear H;go_wp2;go_roundg k5
                    case measure => have := HJ5.out; have := HK2.out; have := HK3.out; have := HK4.out; have := HK5.out; omega
                    case rel => exact ⟨(wrap64 (x55_2 + 1)), (by first | rfl | (simp; done) | (simp [*]; done)), H', ⟨by have := HJ5.out; have := HK2.out; have := HK3.out; have := HK4.out; have := HK5.out; omega⟩, ⟨by (with_reducible repeat (first | apply Kd.N_alloc | apply Kd.N_drewN | apply Kd.N_drew)); exact Kd.N_mono HO_53.out (fun _ hk => trivial)⟩, ⟨by repeat (first | (with_reducible first | exact HB.out | apply below_alloc | apply pw_below_drewN | apply below_drew1) | exact HB.out)⟩⟩
          ·rw [if_neg c31] at H;exact absurd H (by simp)
         ·rw [if_neg c30] at H;exact absurd H (by simp)
        ·rw [if_neg c29] at H;exact absurd H (by simp)
       ·rw [if_neg c28] at H;exact absurd H (by simp)
      ·rw [if_neg c27] at H;have c27b0 : decide (x55_2 < (y297.length : Int)) = false := decide_eq_false c27;clear c27;replace H := Option.bind_eq_some_iff.mp H;obtain ⟨t300, A810, H⟩ := H;replace H : (some t300) = some r := H;have A81 := Aside0.mk A810;clear A810;obtain rfl := Option.some.inj H;go_wp2_with (first | ((with_reducible refine gate_callee (f := 20) rfl ?_); refine goesL_ (some 157) rfl rfl Try.func20 (by kernel_rfl) rfl #[] rfl (by (try simp only [List.map_toArray, List.map_cons, List.map_nil]); first | done | rfl | (simp only [List.length_drop, List.length_take]; rfl)) ?_; (with_reducible refine (corrodylaw06_awake.calls k2  t300 _ A81.out).mono ?_); rintro e w82 ⟨rfl, hb⟩; refine ⟨_, rfl, ?_⟩; have n0_ := Aside0.mk (Kd.N_below (by (with_reducible repeat (first | apply Kd.N_alloc | apply Kd.N_drewN | apply Kd.N_drew)); exact HO_53.out) hb); have n1_ := Aside0.mk (below_step (by repeat (first | (with_reducible first | exact HB.out | apply below_alloc | apply pw_below_drewN | apply below_drew1) | exact HB.out)) hb); clear HO_53; clear HB; have HO_53 := n0_; have HB := n1_; clear n0_ n1_; (try clear hb); (try clear hb2); (try clear hk); (try clear hi)));go_ret;exact ⟨by first | rfl | (simp [errW_none, errW_some] <;> rfl) | (simp [*, errW_none, errW_some] <;> rfl), by repeat (first | (with_reducible first | exact HB.out | apply below_alloc | apply pw_below_drewN | apply below_drew1) | exact HB.out)
⟩
end Go.Proofs.Ytaboleeclpllpaa.P
