/-
The program's functions as plain functions, each with its contract (written by the kit's printer, driven by a program of this repo; some by hand), put together into one text.
Conditions: each contract's own.
-/
import Derived.Test.YtaboleeclpllpaaClaimProg1
import Derived.Test.YtaboleeclpllpaaClaimProg3
import Derived.Test.YtaboleeclpllpaaClaimProg4

namespace Go.Proofs.Ytaboleeclpllpaa.P
open Go.RowKit Go.Proofs.YtaboleeclpllpaaW.PrintWords Go.Proofs.YtaboleeclpllpaaW.PrintLast Go.Proofs.YtaboleeclpllpaaW.PrintMore
attribute [local go_sem] max2_int min2_int max_two min_two max_three min_three max_four min_four
set_option linter.unusedVariables false
set_option linter.unusedSimpArgs false
def dates_Check.f (k : Nat) (l0 : List (S48)) (l1 : List (S44)) : Option (List Int × Bool × Int) := (dates_jobs_valid.f k l0).bind fun t419 => (if t419 = true then ((dates_jobs_whole.f k l0 l1).bind fun t420 => (if t420 = true then ((dates_jobs_finished.f k l0 l1).bind fun t421 => (some (t421, true, 0))) else (some (([] : List Int), false, 0)))) else (some (([] : List Int), false, 2)))
theorem dates_Check.mono : ∀ a0 a1 k, LeO (dates_Check.f k a0 a1) (dates_Check.f (k + 1) a0 a1) := by
 intro a0 a1 k;unfold dates_Check.f;repeat' first
   | (with_reducible exact dates_jobs_finished.mono _ _ _)
   | (with_reducible exact dates_jobs_valid.mono _ _)
   | (with_reducible exact dates_jobs_whole.mono _ _ _)
   | (with_reducible exact LeO.refl _)
   | (with_reducible exact LeO.none _)
   | (with_reducible refine LeO.ite ?_ ?_)
   | (with_reducible refine LeO.bind ?_ (fun _ => ?_))
   | exact dates_jobs_finished.mono _ _ _
   | exact dates_jobs_valid.mono _ _
   | exact dates_jobs_whole.mono _ _ _
   | exact LeO.none _
   | refine LeO.ite ?_ ?_
   | refine LeO.bind ?_ (fun _ => ?_)
set_option maxHeartbeats 8000000 in
set_option maxRecDepth 100000 in
theorem dates_Check.calls (k : Nat) (A0 : Option Addr) (c0 : Nat) (l0 : List (S48)) (A1 : Option Addr) (c1 : Nat) (l1 : List (S44)) (r1 : List Int) (r2 : Bool) (r3 : Int) (w : World) (hr0 : Kd.C k48 w A0 l0.length l0) (hc0 : l0.length ≤ c0) (hr1 : Kd.C k44 w A1 l1.length l1) (hc1 : l1.length ≤ c1) (h : dates_Check.f k l0 l1 = some (r1, r2, r3)) :
    Calls Try.prog 32 #[.slice A0 l0.length c0, .slice A1 l1.length c1] w fun e w' => ∃ v0_ : Value, e = .returned (.tuple #[v0_, .bool r2, .int .i64 r3]) ∧ Kd.R (Kd.int .i64) 3 w' w.heap.size (fun _ => True) v0_ r1 ∧ Below w.heap.size w w' := by
 have HR0 := Aside0.mk hr0;have HC0 := Aside0.mk hc0;clear hr0 hc0;have HR1 := Aside0.mk hr1;have HC1 := Aside0.mk hc1;clear hr1 hc1;have HB := Aside0.mk (Below.refl w.heap.size w);have H : ((dates_jobs_valid.f k l0).bind fun t419 => (if t419 = true then ((dates_jobs_whole.f k l0 l1).bind fun t420 => (if t420 = true then ((dates_jobs_finished.f k l0 l1).bind fun t421 => (some (t421, true, 0))) else (some (([] : List Int), false, 0)))) else (some (([] : List Int), false, 2)))) = some (r1, r2, r3) := h;clear h;replace H := Option.bind_eq_some_iff.mp H;obtain ⟨t419, A30, H⟩ := H;replace H : (if t419 = true then ((dates_jobs_whole.f k l0 l1).bind fun t420 => (if t420 = true then ((dates_jobs_finished.f k l0 l1).bind fun t421 => (some (t421, true, 0))) else (some (([] : List Int), false, 0)))) else (some (([] : List Int), false, 2))) = some (r1, r2, r3) := H;have A3 := Aside0.mk A30;clear A30;by_cases c4 : t419 = true
 ·subst c4;have H1 : ((dates_jobs_whole.f k l0 l1).bind fun t420 => (if t420 = true then ((dates_jobs_finished.f k l0 l1).bind fun t421 => (some (t421, true, 0))) else (some (([] : List Int), false, 0)))) = some (r1, r2, r3) := by rw [if_pos rfl] at H; exact H
  clear H;have H := H1;clear H1;replace H := Option.bind_eq_some_iff.mp H;obtain ⟨t420, A50, H⟩ := H;replace H : (if t420 = true then ((dates_jobs_finished.f k l0 l1).bind fun t421 => (some (t421, true, 0))) else (some (([] : List Int), false, 0))) = some (r1, r2, r3) := H;have A5 := Aside0.mk A50;clear A50;by_cases c6 : t420 = true
  ·subst c6;have H1 : ((dates_jobs_finished.f k l0 l1).bind fun t421 => (some (t421, true, 0))) = some (r1, r2, r3) := by rw [if_pos rfl] at H; exact H
   clear H;have H := H1;clear H1;replace H := Option.bind_eq_some_iff.mp H;obtain ⟨t421, A70, H⟩ := H;replace H : (some (t421, true, 0)) = some (r1, r2, r3) := H;have A7 := Aside0.mk A70;clear A70;simp only [Option.some.injEq, Prod.mk.injEq] at H;obtain ⟨rfl, rfl, rfl⟩ := H;go_enter Try.func32, Try.ntmps32;go_wp2_with (first | ((with_reducible refine gate_callee (f := 54) rfl ?_); refine goesL_ (some 10) rfl rfl Try.func54 (by kernel_rfl) rfl #[.slice A0 l0.length c0] rfl (by (try simp only [List.map_toArray, List.map_cons, List.map_nil]); first | done | rfl | (simp only [List.length_drop, List.length_take]; rfl)) ?_; (with_reducible refine (dates_jobs_valid.calls k _ _ l0 true _ ?side1 ?side2 A3.out).mono ?_); (case side1 => repeat (first | exact HR0.out | (with_reducible refine Kd.C_alloc ?_ _) | (with_reducible refine Kd.C_drewN ?_ _) | (with_reducible refine Kd.C_drew ?_))); (case side2 => exact HC0.out); rintro e w8 ⟨rfl, hb⟩; refine ⟨_, rfl, ?_⟩; have n0_ := Aside0.mk (below_step (by repeat (first | (with_reducible first | exact HB.out | apply below_alloc | apply pw_below_drewN | apply below_drew1) | exact HB.out)) hb); clear HB; have HB := n0_; clear n0_; (try clear hb); (try clear hb2); (try clear hk); (try clear hi)) | ((with_reducible refine gate_callee (f := 64) rfl ?_); refine goesL_ (some 14) rfl rfl Try.func64 (by kernel_rfl) rfl #[.slice A0 l0.length c0, .slice A1 l1.length c1] rfl (by (try simp only [List.map_toArray, List.map_cons, List.map_nil]); first | done | rfl | (simp only [List.length_drop, List.length_take]; rfl)) ?_; (with_reducible refine (dates_jobs_whole.calls k _ _ l0 _ _ l1 true _ ?side1 ?side2 ?side3 ?side4 A5.out).mono ?_); (case side1 => repeat (first | exact (Kd.C_below HR0.out HB.out) | (with_reducible refine Kd.C_alloc ?_ _) | (with_reducible refine Kd.C_drewN ?_ _) | (with_reducible refine Kd.C_drew ?_))); (case side2 => exact HC0.out); (case side3 => repeat (first | exact (Kd.C_below HR1.out HB.out) | (with_reducible refine Kd.C_alloc ?_ _) | (with_reducible refine Kd.C_drewN ?_ _) | (with_reducible refine Kd.C_drew ?_))); (case side4 => exact HC1.out); rintro e w9 ⟨rfl, hb⟩; refine ⟨_, rfl, ?_⟩; have n0_ := Aside0.mk (below_step (by repeat (first | (with_reducible first | exact HB.out | apply below_alloc | apply pw_below_drewN | apply below_drew1) | exact HB.out)) hb); clear HB; have HB := n0_; clear n0_; (try clear hb); (try clear hb2); (try clear hk); (try clear hi)) | ((with_reducible refine gate_callee (f := 56) rfl ?_); refine goesL_ (some 18) rfl rfl Try.func56 (by kernel_rfl) rfl #[.slice A0 l0.length c0, .slice A1 l1.length c1] rfl (by (try simp only [List.map_toArray, List.map_cons, List.map_nil]); first | done | rfl | (simp only [List.length_drop, List.length_take]; rfl)) ?_; (with_reducible refine (dates_jobs_finished.calls k _ _ l0 _ _ l1 t421 _ ?side1 ?side2 ?side3 ?side4 A7.out).mono ?_); (case side1 => repeat (first | exact (Kd.C_below HR0.out HB.out) | (with_reducible refine Kd.C_alloc ?_ _) | (with_reducible refine Kd.C_drewN ?_ _) | (with_reducible refine Kd.C_drew ?_))); (case side2 => exact HC0.out); (case side3 => repeat (first | exact (Kd.C_below HR1.out HB.out) | (with_reducible refine Kd.C_alloc ?_ _) | (with_reducible refine Kd.C_drewN ?_ _) | (with_reducible refine Kd.C_drew ?_))); (case side4 => exact HC1.out); rintro e w10 ⟨v422, rfl, ho0, hb⟩; refine ⟨_, rfl, ?_⟩; have n0_ := Aside0.mk (Kd.R_lower ho0 (below_size (by repeat (first | (with_reducible first | exact HB.out | apply below_alloc | apply pw_below_drewN | apply below_drew1) | exact HB.out)))); have n1_ := Aside0.mk (below_step (by repeat (first | (with_reducible first | exact HB.out | apply below_alloc | apply pw_below_drewN | apply below_drew1) | exact HB.out)) hb); clear HB; have HO423 := n0_; have HB := n1_; clear n0_ n1_; (try clear hb); (try clear hb2); (try clear hk); (try clear hi); (try clear ho0)));go_ret3;exact ⟨_, by first | rfl | (simp [errW_none, errW_some] <;> rfl) | (simp [*, errW_none, errW_some] <;> rfl), by (with_reducible repeat (first | apply Kd.R_alloc | apply Kd.R_drewN | apply Kd.R_drew)); exact HO423.out, by repeat (first | (with_reducible first | exact HB.out | apply below_alloc | apply pw_below_drewN | apply below_drew1) | exact HB.out)⟩
  ·replace c6 := Bool.eq_false_iff.mpr c6;subst c6;have H1 : (some (([] : List Int), false, 0)) = some (r1, r2, r3) := by rw [if_neg (show ¬ (false = true) by decide)] at H; exact H
   clear H;have H := H1;clear H1;simp only [Option.some.injEq, Prod.mk.injEq] at H;obtain ⟨rfl, rfl, rfl⟩ := H;go_enter Try.func32, Try.ntmps32;go_wp2_with (first | ((with_reducible refine gate_callee (f := 54) rfl ?_); refine goesL_ (some 10) rfl rfl Try.func54 (by kernel_rfl) rfl #[.slice A0 l0.length c0] rfl (by (try simp only [List.map_toArray, List.map_cons, List.map_nil]); first | done | rfl | (simp only [List.length_drop, List.length_take]; rfl)) ?_; (with_reducible refine (dates_jobs_valid.calls k _ _ l0 true _ ?side1 ?side2 A3.out).mono ?_); (case side1 => repeat (first | exact HR0.out | (with_reducible refine Kd.C_alloc ?_ _) | (with_reducible refine Kd.C_drewN ?_ _) | (with_reducible refine Kd.C_drew ?_))); (case side2 => exact HC0.out); rintro e w11 ⟨rfl, hb⟩; refine ⟨_, rfl, ?_⟩; have n0_ := Aside0.mk (below_step (by repeat (first | (with_reducible first | exact HB.out | apply below_alloc | apply pw_below_drewN | apply below_drew1) | exact HB.out)) hb); clear HB; have HB := n0_; clear n0_; (try clear hb); (try clear hb2); (try clear hk); (try clear hi)) | ((with_reducible refine gate_callee (f := 64) rfl ?_); refine goesL_ (some 14) rfl rfl Try.func64 (by kernel_rfl) rfl #[.slice A0 l0.length c0, .slice A1 l1.length c1] rfl (by (try simp only [List.map_toArray, List.map_cons, List.map_nil]); first | done | rfl | (simp only [List.length_drop, List.length_take]; rfl)) ?_; (with_reducible refine (dates_jobs_whole.calls k _ _ l0 _ _ l1 false _ ?side1 ?side2 ?side3 ?side4 A5.out).mono ?_); (case side1 => repeat (first | exact (Kd.C_below HR0.out HB.out) | (with_reducible refine Kd.C_alloc ?_ _) | (with_reducible refine Kd.C_drewN ?_ _) | (with_reducible refine Kd.C_drew ?_))); (case side2 => exact HC0.out); (case side3 => repeat (first | exact (Kd.C_below HR1.out HB.out) | (with_reducible refine Kd.C_alloc ?_ _) | (with_reducible refine Kd.C_drewN ?_ _) | (with_reducible refine Kd.C_drew ?_))); (case side4 => exact HC1.out); rintro e w12 ⟨rfl, hb⟩; refine ⟨_, rfl, ?_⟩; have n0_ := Aside0.mk (below_step (by repeat (first | (with_reducible first | exact HB.out | apply below_alloc | apply pw_below_drewN | apply below_drew1) | exact HB.out)) hb); clear HB; have HB := n0_; clear n0_; (try clear hb); (try clear hb2); (try clear hk); (try clear hi)));go_ret3;exact ⟨_, by first | rfl | (simp [errW_none, errW_some] <;> rfl) | (simp [*, errW_none, errW_some] <;> rfl), by first | exact Kd.R_nil _ _ _ _ _ | exact Kd.N_nil _ _ _ _ _ | exact Kd.V_nil _ _ _ _ _ | exact Kd.Q_nil _ _ _ _ _ | exact Kd.S_nil _ _ _ _ _, by repeat (first | (with_reducible first | exact HB.out | apply below_alloc | apply pw_below_drewN | apply below_drew1) | exact HB.out)⟩
 ·replace c4 := Bool.eq_false_iff.mpr c4;subst c4;have H1 : (some (([] : List Int), false, 2)) = some (r1, r2, r3) := by rw [if_neg (show ¬ (false = true) by decide)] at H; exact H
  clear H;have H := H1;clear H1;simp only [Option.some.injEq, Prod.mk.injEq] at H;obtain ⟨rfl, rfl, rfl⟩ := H;go_enter Try.func32, Try.ntmps32;go_wp2_with (first | ((with_reducible refine gate_callee (f := 54) rfl ?_); refine goesL_ (some 10) rfl rfl Try.func54 (by kernel_rfl) rfl #[.slice A0 l0.length c0] rfl (by (try simp only [List.map_toArray, List.map_cons, List.map_nil]); first | done | rfl | (simp only [List.length_drop, List.length_take]; rfl)) ?_; (with_reducible refine (dates_jobs_valid.calls k _ _ l0 false _ ?side1 ?side2 A3.out).mono ?_); (case side1 => repeat (first | exact HR0.out | (with_reducible refine Kd.C_alloc ?_ _) | (with_reducible refine Kd.C_drewN ?_ _) | (with_reducible refine Kd.C_drew ?_))); (case side2 => exact HC0.out); rintro e w13 ⟨rfl, hb⟩; refine ⟨_, rfl, ?_⟩; have n0_ := Aside0.mk (below_step (by repeat (first | (with_reducible first | exact HB.out | apply below_alloc | apply pw_below_drewN | apply below_drew1) | exact HB.out)) hb); clear HB; have HB := n0_; clear n0_; (try clear hb); (try clear hb2); (try clear hk); (try clear hi)));go_ret3;exact ⟨_, by first | rfl | (simp [errW_none, errW_some] <;> rfl) | (simp [*, errW_none, errW_some] <;> rfl), by first | exact Kd.R_nil _ _ _ _ _ | exact Kd.N_nil _ _ _ _ _ | exact Kd.V_nil _ _ _ _ _ | exact Kd.Q_nil _ _ _ _ _ | exact Kd.S_nil _ _ _ _ _, by repeat (first | (with_reducible first | exact HB.out | apply below_alloc | apply pw_below_drewN | apply below_drew1) | exact HB.out)⟩
end Go.Proofs.Ytaboleeclpllpaa.P


namespace Go.Proofs.Ytaboleeclpllpaa.P
open Go.RowKit Go.Proofs.YtaboleeclpllpaaW.PrintWords Go.Proofs.YtaboleeclpllpaaW.PrintLast Go.Proofs.YtaboleeclpllpaaW.PrintMore
attribute [local go_sem] max2_int min2_int max_two min_two max_three min_three max_four min_four
set_option linter.unusedVariables false
set_option linter.unusedSimpArgs false
mutual
def corrodylaw06_DatesEither.j0 : Nat → List (S43) → Int → List Int → Bool → Bool → Int → Int → Option (Bool)
  | 0, _, _, _, _, _, _, _ => none
  | k + 1, x0, x6, x9, x10, x70, x513000, x513001 => if x70 = true then (some false) else (if x6 = 0 then (corrodylaw06_DatesEither.l0 k x0 x6 x9 x10 0 x0 (x0.length : Int) 0 x513000 x513001) else (corrodylaw06_DatesEither.j2 k x0 x6 x9 x10))
def corrodylaw06_DatesEither.j2 : Nat → List (S43) → Int → List Int → Bool → Option (Bool)
  | 0, _, _, _, _ => none
  | k + 1, x0, x6, x9, x10 => if x10 = true then (if (x9.length : Int) = (x0.length : Int) then (corrodylaw06_DatesEither.l1 k x0 x6 false x9 (x9.length : Int) 0) else (some false)) else ((corrodylaw06_awake.f k).bind fun t532 => (some t532))
def corrodylaw06_DatesEither.l1 : Nat → List (S43) → Int → Bool → List Int → Int → Int → Option (Bool)
  | 0, _, _, _, _, _, _ => none
  | k + 1, x0, x6, x15, x118, x119, x120 => if x120 < x119 then (if 0 ≤ x120 then (if x120 < (x118.length : Int) then (if x15 = true then (corrodylaw06_DatesEither.l1 k x0 x6 true x118 x119 (wrap64 (x120 + 1))) else (if x120 < (x0.length : Int) then (corrodylaw06_DatesEither.l1 k x0 x6 (decide ((rd x118 x120) > ((rd_T43 x0 x120).f2))) x118 x119 (wrap64 (x120 + 1))) else (none))) else (none)) else (none)) else (if x15 = true then ((corrodylaw06_awake.f k).bind fun t535 => (some t535)) else (if x6 = 4 then ((corrodylaw06_awake.f k).bind fun t536 => (some t536)) else (some false)))
def corrodylaw06_DatesEither.l0 : Nat → List (S43) → Int → List Int → Bool → Int → List (S43) → Int → Int → Int → Int → Option (Bool)
  | 0, _, _, _, _, _, _, _, _, _, _ => none
  | k + 1, x0, x6, x9, x10, x12, x73, x74, x75, x513000, x513001 => if x75 < x74 then (if 0 ≤ x75 then (if x75 < (x73.length : Int) then (if ((rd_T43 x73 x75).f1) ≥ x513000 then (if ((rd_T43 x73 x75).f2) ≤ x513001 then (corrodylaw06_DatesEither.l0 k x0 x6 x9 x10 (wrap64 (x12 + ((rd_T43 x73 x75).f0))) x73 x74 (wrap64 (x75 + 1)) x513000 x513001) else (corrodylaw06_DatesEither.l0 k x0 x6 x9 x10 x12 x73 x74 (wrap64 (x75 + 1)) x513000 x513001)) else (corrodylaw06_DatesEither.l0 k x0 x6 x9 x10 x12 x73 x74 (wrap64 (x75 + 1)) x513000 x513001)) else (none)) else (none)) else (if x513000 > x513001 then (some false) else (if x12 ≤ (wrap64 (x513001 - x513000)) then (some false) else (corrodylaw06_DatesEither.j2 k x0 x6 x9 x10)))
end
def corrodylaw06_DatesEither.f (k : Nat) (l0 : List (S43)) (l1 : List (S36)) : Option (Bool) := (corrodylaw06_Of.f k l0).bind fun t506 => ((dates_Overload.f k t506).bind fun bt509 => ((corrodylaw06_Of.f k l0).bind fun t513 => ((dates_Delay.f k t513).bind fun bt516 => ((corrodylaw06_Of.f k l0).bind fun t518 => ((corrodylaw06_pieces.f k l1).bind fun t521 => ((dates_Check.f k t518 t521).bind fun bt524 => (if bt516.2 = 0 then (if bt509.2.2 = 0 then (if bt516.1 > 0 then (corrodylaw06_DatesEither.j0 k l0 bt509.2.2 bt524.1 bt524.2.1 (bt524.2.2 != 0) bt509.1 bt509.2.1) else (corrodylaw06_DatesEither.j0 k l0 bt509.2.2 bt524.1 bt524.2.1 true bt509.1 bt509.2.1)) else (if bt516.1 > 0 then (corrodylaw06_DatesEither.j0 k l0 bt509.2.2 bt524.1 bt524.2.1 true bt509.1 bt509.2.1) else (if bt509.2.2 = 4 then (corrodylaw06_DatesEither.j0 k l0 bt509.2.2 bt524.1 bt524.2.1 (bt524.2.2 != 0) bt509.1 bt509.2.1) else (corrodylaw06_DatesEither.j0 k l0 bt509.2.2 bt524.1 bt524.2.1 true bt509.1 bt509.2.1)))) else (if bt509.2.2 = 2 then (if bt516.2 = 2 then (if bt524.2.2 = 2 then ((corrodylaw06_awake.f k).bind fun t529 => (some t529)) else (some false)) else (some false)) else (some false)))))))))
theorem corrodylaw06_DatesEither.mono_l : ∀ k, (∀ y0 y1 y2 y3 y4 y5 y6, LeO (corrodylaw06_DatesEither.j0 k y0 y1 y2 y3 y4 y5 y6) (corrodylaw06_DatesEither.j0 (k + 1) y0 y1 y2 y3 y4 y5 y6)) ∧ (∀ y0 y1 y2 y3, LeO (corrodylaw06_DatesEither.j2 k y0 y1 y2 y3) (corrodylaw06_DatesEither.j2 (k + 1) y0 y1 y2 y3)) ∧ (∀ y0 y1 y2 y3 y4 y5, LeO (corrodylaw06_DatesEither.l1 k y0 y1 y2 y3 y4 y5) (corrodylaw06_DatesEither.l1 (k + 1) y0 y1 y2 y3 y4 y5)) ∧ (∀ y0 y1 y2 y3 y4 y5 y6 y7 y8 y9, LeO (corrodylaw06_DatesEither.l0 k y0 y1 y2 y3 y4 y5 y6 y7 y8 y9) (corrodylaw06_DatesEither.l0 (k + 1) y0 y1 y2 y3 y4 y5 y6 y7 y8 y9))
  | 0 => ⟨fun _ _ _ _ _ _ _ r h => by simp [corrodylaw06_DatesEither.j0] at h, fun _ _ _ _ r h => by simp [corrodylaw06_DatesEither.j2] at h, fun _ _ _ _ _ _ r h => by simp [corrodylaw06_DatesEither.l1] at h, fun _ _ _ _ _ _ _ _ _ _ r h => by simp [corrodylaw06_DatesEither.l0] at h⟩
  | k + 1 => by
    obtain ⟨ih0, ih1, ih2, ih3⟩ := corrodylaw06_DatesEither.mono_l k
    refine ⟨?_, ?_, ?_, ?_⟩
    · intro y0 y1 y2 y3 y4 y5 y6
      unfold corrodylaw06_DatesEither.j0
      repeat' first
      | (with_reducible exact ih0 _ _ _ _ _ _ _)
      | (with_reducible exact ih1 _ _ _ _)
      | (with_reducible exact ih2 _ _ _ _ _ _)
      | (with_reducible exact ih3 _ _ _ _ _ _ _ _ _ _)
      | (with_reducible exact corrodylaw06_Of.mono _ _)
      | (with_reducible exact corrodylaw06_awake.mono _)
      | (with_reducible exact corrodylaw06_pieces.mono _ _)
      | (with_reducible exact dates_Check.mono _ _ _)
      | (with_reducible exact dates_Delay.mono _ _)
      | (with_reducible exact dates_Overload.mono _ _)
      | (with_reducible exact LeO.refl _)
      | (with_reducible exact LeO.none _)
      | (with_reducible refine LeO.ite ?_ ?_)
      | (with_reducible refine LeO.bind ?_ (fun _ => ?_))
      | exact ih0 _ _ _ _ _ _ _
      | exact ih1 _ _ _ _
      | exact ih2 _ _ _ _ _ _
      | exact ih3 _ _ _ _ _ _ _ _ _ _
      | exact corrodylaw06_Of.mono _ _
      | exact corrodylaw06_awake.mono _
      | exact corrodylaw06_pieces.mono _ _
      | exact dates_Check.mono _ _ _
      | exact dates_Delay.mono _ _
      | exact dates_Overload.mono _ _
      | exact LeO.none _
      | refine LeO.ite ?_ ?_
      | refine LeO.bind ?_ (fun _ => ?_)
    · intro y0 y1 y2 y3
      unfold corrodylaw06_DatesEither.j2
      repeat' first
      | (with_reducible exact ih0 _ _ _ _ _ _ _)
      | (with_reducible exact ih1 _ _ _ _)
      | (with_reducible exact ih2 _ _ _ _ _ _)
      | (with_reducible exact ih3 _ _ _ _ _ _ _ _ _ _)
      | (with_reducible exact corrodylaw06_Of.mono _ _)
      | (with_reducible exact corrodylaw06_awake.mono _)
      | (with_reducible exact corrodylaw06_pieces.mono _ _)
      | (with_reducible exact dates_Check.mono _ _ _)
      | (with_reducible exact dates_Delay.mono _ _)
      | (with_reducible exact dates_Overload.mono _ _)
      | (with_reducible exact LeO.refl _)
      | (with_reducible exact LeO.none _)
      | (with_reducible refine LeO.ite ?_ ?_)
      | (with_reducible refine LeO.bind ?_ (fun _ => ?_))
      | exact ih0 _ _ _ _ _ _ _
      | exact ih1 _ _ _ _
      | exact ih2 _ _ _ _ _ _
      | exact ih3 _ _ _ _ _ _ _ _ _ _
      | exact corrodylaw06_Of.mono _ _
      | exact corrodylaw06_awake.mono _
      | exact corrodylaw06_pieces.mono _ _
      | exact dates_Check.mono _ _ _
      | exact dates_Delay.mono _ _
      | exact dates_Overload.mono _ _
      | exact LeO.none _
      | refine LeO.ite ?_ ?_
      | refine LeO.bind ?_ (fun _ => ?_)
    · intro y0 y1 y2 y3 y4 y5
      unfold corrodylaw06_DatesEither.l1
      repeat' first
      | (with_reducible exact ih0 _ _ _ _ _ _ _)
      | (with_reducible exact ih1 _ _ _ _)
      | (with_reducible exact ih2 _ _ _ _ _ _)
      | (with_reducible exact ih3 _ _ _ _ _ _ _ _ _ _)
      | (with_reducible exact corrodylaw06_Of.mono _ _)
      | (with_reducible exact corrodylaw06_awake.mono _)
      | (with_reducible exact corrodylaw06_pieces.mono _ _)
      | (with_reducible exact dates_Check.mono _ _ _)
      | (with_reducible exact dates_Delay.mono _ _)
      | (with_reducible exact dates_Overload.mono _ _)
      | (with_reducible exact LeO.refl _)
      | (with_reducible exact LeO.none _)
      | (with_reducible refine LeO.ite ?_ ?_)
      | (with_reducible refine LeO.bind ?_ (fun _ => ?_))
      | exact ih0 _ _ _ _ _ _ _
      | exact ih1 _ _ _ _
      | exact ih2 _ _ _ _ _ _
      | exact ih3 _ _ _ _ _ _ _ _ _ _
      | exact corrodylaw06_Of.mono _ _
      | exact corrodylaw06_awake.mono _
      | exact corrodylaw06_pieces.mono _ _
      | exact dates_Check.mono _ _ _
      | exact dates_Delay.mono _ _
      | exact dates_Overload.mono _ _
      | exact LeO.none _
      | refine LeO.ite ?_ ?_
      | refine LeO.bind ?_ (fun _ => ?_)
    · intro y0 y1 y2 y3 y4 y5 y6 y7 y8 y9
      unfold corrodylaw06_DatesEither.l0
      repeat' first
      | (with_reducible exact ih0 _ _ _ _ _ _ _)
      | (with_reducible exact ih1 _ _ _ _)
      | (with_reducible exact ih2 _ _ _ _ _ _)
      | (with_reducible exact ih3 _ _ _ _ _ _ _ _ _ _)
      | (with_reducible exact corrodylaw06_Of.mono _ _)
      | (with_reducible exact corrodylaw06_awake.mono _)
      | (with_reducible exact corrodylaw06_pieces.mono _ _)
      | (with_reducible exact dates_Check.mono _ _ _)
      | (with_reducible exact dates_Delay.mono _ _)
      | (with_reducible exact dates_Overload.mono _ _)
      | (with_reducible exact LeO.refl _)
      | (with_reducible exact LeO.none _)
      | (with_reducible refine LeO.ite ?_ ?_)
      | (with_reducible refine LeO.bind ?_ (fun _ => ?_))
      | exact ih0 _ _ _ _ _ _ _
      | exact ih1 _ _ _ _
      | exact ih2 _ _ _ _ _ _
      | exact ih3 _ _ _ _ _ _ _ _ _ _
      | exact corrodylaw06_Of.mono _ _
      | exact corrodylaw06_awake.mono _
      | exact corrodylaw06_pieces.mono _ _
      | exact dates_Check.mono _ _ _
      | exact dates_Delay.mono _ _
      | exact dates_Overload.mono _ _
      | exact LeO.none _
      | refine LeO.ite ?_ ?_
      | refine LeO.bind ?_ (fun _ => ?_)
theorem corrodylaw06_DatesEither.mono : ∀ a0 a1 k, LeO (corrodylaw06_DatesEither.f k a0 a1) (corrodylaw06_DatesEither.f (k + 1) a0 a1) := by
 intro a0 a1 k;obtain ⟨ih0, ih1, ih2, ih3⟩ := corrodylaw06_DatesEither.mono_l k;unfold corrodylaw06_DatesEither.f;repeat' first
   | (with_reducible exact ih0 _ _ _ _ _ _ _)
   | (with_reducible exact ih1 _ _ _ _)
   | (with_reducible exact ih2 _ _ _ _ _ _)
   | (with_reducible exact ih3 _ _ _ _ _ _ _ _ _ _)
   | (with_reducible exact corrodylaw06_Of.mono _ _)
   | (with_reducible exact corrodylaw06_awake.mono _)
   | (with_reducible exact corrodylaw06_pieces.mono _ _)
   | (with_reducible exact dates_Check.mono _ _ _)
   | (with_reducible exact dates_Delay.mono _ _)
   | (with_reducible exact dates_Overload.mono _ _)
   | (with_reducible exact LeO.refl _)
   | (with_reducible exact LeO.none _)
   | (with_reducible refine LeO.ite ?_ ?_)
   | (with_reducible refine LeO.bind ?_ (fun _ => ?_))
   | exact ih0 _ _ _ _ _ _ _
   | exact ih1 _ _ _ _
   | exact ih2 _ _ _ _ _ _
   | exact ih3 _ _ _ _ _ _ _ _ _ _
   | exact corrodylaw06_Of.mono _ _
   | exact corrodylaw06_awake.mono _
   | exact corrodylaw06_pieces.mono _ _
   | exact dates_Check.mono _ _ _
   | exact dates_Delay.mono _ _
   | exact dates_Overload.mono _ _
   | exact LeO.none _
   | refine LeO.ite ?_ ?_
   | refine LeO.bind ?_ (fun _ => ?_)
set_option maxHeartbeats 8000000 in
set_option maxRecDepth 100000 in
theorem corrodylaw06_DatesEither.calls (k : Nat) (A0 : Option Addr) (c0 : Nat) (l0 : List (S43)) (A1 : Option Addr) (c1 : Nat) (l1 : List (S36)) (r : Bool) (w : World) (hr0 : Kd.C k43 w A0 l0.length l0) (hc0 : l0.length ≤ c0) (hr1 : Kd.C k36 w A1 l1.length l1) (hc1 : l1.length ≤ c1) (h : corrodylaw06_DatesEither.f k l0 l1 = some r) (hr : r = true) :
    Calls Try.prog 10 #[.slice A0 l0.length c0, .slice A1 l1.length c1] w fun e w' => e = .returned (.bool r) ∧ Below w.heap.size w w' := by
 have hu64 := Try.underlying64;have hu43 := Try.underlying43;have HR0 := Aside0.mk hr0;have HC0 := Aside0.mk hc0;clear hr0 hc0;have HR1 := Aside0.mk hr1;have HC1 := Aside0.mk hc1;clear hr1 hc1;have HB := Aside0.mk (Below.refl w.heap.size w);have H : ((corrodylaw06_Of.f k l0).bind fun t506 => ((dates_Overload.f k t506).bind fun bt509 => ((corrodylaw06_Of.f k l0).bind fun t513 => ((dates_Delay.f k t513).bind fun bt516 => ((corrodylaw06_Of.f k l0).bind fun t518 => ((corrodylaw06_pieces.f k l1).bind fun t521 => ((dates_Check.f k t518 t521).bind fun bt524 => (if bt516.2 = 0 then (if bt509.2.2 = 0 then (if bt516.1 > 0 then (corrodylaw06_DatesEither.j0 k l0 bt509.2.2 bt524.1 bt524.2.1 (bt524.2.2 != 0) bt509.1 bt509.2.1) else (corrodylaw06_DatesEither.j0 k l0 bt509.2.2 bt524.1 bt524.2.1 true bt509.1 bt509.2.1)) else (if bt516.1 > 0 then (corrodylaw06_DatesEither.j0 k l0 bt509.2.2 bt524.1 bt524.2.1 true bt509.1 bt509.2.1) else (if bt509.2.2 = 4 then (corrodylaw06_DatesEither.j0 k l0 bt509.2.2 bt524.1 bt524.2.1 (bt524.2.2 != 0) bt509.1 bt509.2.1) else (corrodylaw06_DatesEither.j0 k l0 bt509.2.2 bt524.1 bt524.2.1 true bt509.1 bt509.2.1)))) else (if bt509.2.2 = 2 then (if bt516.2 = 2 then (if bt524.2.2 = 2 then ((corrodylaw06_awake.f k).bind fun t529 => (some t529)) else (some false)) else (some false)) else (some false)))))))))) = some r := h;clear h;replace H := Option.bind_eq_some_iff.mp H;obtain ⟨t506, A30, H⟩ := H;replace H : ((dates_Overload.f k t506).bind fun bt509 => ((corrodylaw06_Of.f k l0).bind fun t513 => ((dates_Delay.f k t513).bind fun bt516 => ((corrodylaw06_Of.f k l0).bind fun t518 => ((corrodylaw06_pieces.f k l1).bind fun t521 => ((dates_Check.f k t518 t521).bind fun bt524 => (if bt516.2 = 0 then (if bt509.2.2 = 0 then (if bt516.1 > 0 then (corrodylaw06_DatesEither.j0 k l0 bt509.2.2 bt524.1 bt524.2.1 (bt524.2.2 != 0) bt509.1 bt509.2.1) else (corrodylaw06_DatesEither.j0 k l0 bt509.2.2 bt524.1 bt524.2.1 true bt509.1 bt509.2.1)) else (if bt516.1 > 0 then (corrodylaw06_DatesEither.j0 k l0 bt509.2.2 bt524.1 bt524.2.1 true bt509.1 bt509.2.1) else (if bt509.2.2 = 4 then (corrodylaw06_DatesEither.j0 k l0 bt509.2.2 bt524.1 bt524.2.1 (bt524.2.2 != 0) bt509.1 bt509.2.1) else (corrodylaw06_DatesEither.j0 k l0 bt509.2.2 bt524.1 bt524.2.1 true bt509.1 bt509.2.1)))) else (if bt509.2.2 = 2 then (if bt516.2 = 2 then (if bt524.2.2 = 2 then ((corrodylaw06_awake.f k).bind fun t529 => (some t529)) else (some false)) else (some false)) else (some false))))))))) = some r := H;have A3 := Aside0.mk A30;clear A30;replace H := Option.bind_eq_some_iff.mp H;obtain ⟨⟨t509, t510, t511⟩, A40, H⟩ := H;replace H : ((corrodylaw06_Of.f k l0).bind fun t513 => ((dates_Delay.f k t513).bind fun bt516 => ((corrodylaw06_Of.f k l0).bind fun t518 => ((corrodylaw06_pieces.f k l1).bind fun t521 => ((dates_Check.f k t518 t521).bind fun bt524 => (if bt516.2 = 0 then (if t511 = 0 then (if bt516.1 > 0 then (corrodylaw06_DatesEither.j0 k l0 t511 bt524.1 bt524.2.1 (bt524.2.2 != 0) t509 t510) else (corrodylaw06_DatesEither.j0 k l0 t511 bt524.1 bt524.2.1 true t509 t510)) else (if bt516.1 > 0 then (corrodylaw06_DatesEither.j0 k l0 t511 bt524.1 bt524.2.1 true t509 t510) else (if t511 = 4 then (corrodylaw06_DatesEither.j0 k l0 t511 bt524.1 bt524.2.1 (bt524.2.2 != 0) t509 t510) else (corrodylaw06_DatesEither.j0 k l0 t511 bt524.1 bt524.2.1 true t509 t510)))) else (if t511 = 2 then (if bt516.2 = 2 then (if bt524.2.2 = 2 then ((corrodylaw06_awake.f k).bind fun t529 => (some t529)) else (some false)) else (some false)) else (some false)))))))) = some r := H;have A4 := Aside0.mk A40;clear A40;replace H := Option.bind_eq_some_iff.mp H;obtain ⟨t513, A50, H⟩ := H;replace H : ((dates_Delay.f k t513).bind fun bt516 => ((corrodylaw06_Of.f k l0).bind fun t518 => ((corrodylaw06_pieces.f k l1).bind fun t521 => ((dates_Check.f k t518 t521).bind fun bt524 => (if bt516.2 = 0 then (if t511 = 0 then (if bt516.1 > 0 then (corrodylaw06_DatesEither.j0 k l0 t511 bt524.1 bt524.2.1 (bt524.2.2 != 0) t509 t510) else (corrodylaw06_DatesEither.j0 k l0 t511 bt524.1 bt524.2.1 true t509 t510)) else (if bt516.1 > 0 then (corrodylaw06_DatesEither.j0 k l0 t511 bt524.1 bt524.2.1 true t509 t510) else (if t511 = 4 then (corrodylaw06_DatesEither.j0 k l0 t511 bt524.1 bt524.2.1 (bt524.2.2 != 0) t509 t510) else (corrodylaw06_DatesEither.j0 k l0 t511 bt524.1 bt524.2.1 true t509 t510)))) else (if t511 = 2 then (if bt516.2 = 2 then (if bt524.2.2 = 2 then ((corrodylaw06_awake.f k).bind fun t529 => (some t529)) else (some false)) else (some false)) else (some false))))))) = some r := H
 have A5 := Aside0.mk A50;clear A50;replace H := Option.bind_eq_some_iff.mp H;obtain ⟨⟨t516, t517⟩, A60, H⟩ := H;replace H : ((corrodylaw06_Of.f k l0).bind fun t518 => ((corrodylaw06_pieces.f k l1).bind fun t521 => ((dates_Check.f k t518 t521).bind fun bt524 => (if t517 = 0 then (if t511 = 0 then (if t516 > 0 then (corrodylaw06_DatesEither.j0 k l0 t511 bt524.1 bt524.2.1 (bt524.2.2 != 0) t509 t510) else (corrodylaw06_DatesEither.j0 k l0 t511 bt524.1 bt524.2.1 true t509 t510)) else (if t516 > 0 then (corrodylaw06_DatesEither.j0 k l0 t511 bt524.1 bt524.2.1 true t509 t510) else (if t511 = 4 then (corrodylaw06_DatesEither.j0 k l0 t511 bt524.1 bt524.2.1 (bt524.2.2 != 0) t509 t510) else (corrodylaw06_DatesEither.j0 k l0 t511 bt524.1 bt524.2.1 true t509 t510)))) else (if t511 = 2 then (if t517 = 2 then (if bt524.2.2 = 2 then ((corrodylaw06_awake.f k).bind fun t529 => (some t529)) else (some false)) else (some false)) else (some false)))))) = some r := H;have A6 := Aside0.mk A60;clear A60;replace H := Option.bind_eq_some_iff.mp H;obtain ⟨t518, A70, H⟩ := H;replace H : ((corrodylaw06_pieces.f k l1).bind fun t521 => ((dates_Check.f k t518 t521).bind fun bt524 => (if t517 = 0 then (if t511 = 0 then (if t516 > 0 then (corrodylaw06_DatesEither.j0 k l0 t511 bt524.1 bt524.2.1 (bt524.2.2 != 0) t509 t510) else (corrodylaw06_DatesEither.j0 k l0 t511 bt524.1 bt524.2.1 true t509 t510)) else (if t516 > 0 then (corrodylaw06_DatesEither.j0 k l0 t511 bt524.1 bt524.2.1 true t509 t510) else (if t511 = 4 then (corrodylaw06_DatesEither.j0 k l0 t511 bt524.1 bt524.2.1 (bt524.2.2 != 0) t509 t510) else (corrodylaw06_DatesEither.j0 k l0 t511 bt524.1 bt524.2.1 true t509 t510)))) else (if t511 = 2 then (if t517 = 2 then (if bt524.2.2 = 2 then ((corrodylaw06_awake.f k).bind fun t529 => (some t529)) else (some false)) else (some false)) else (some false))))) = some r := H;have A7 := Aside0.mk A70;clear A70;replace H := Option.bind_eq_some_iff.mp H;obtain ⟨t521, A80, H⟩ := H;replace H : ((dates_Check.f k t518 t521).bind fun bt524 => (if t517 = 0 then (if t511 = 0 then (if t516 > 0 then (corrodylaw06_DatesEither.j0 k l0 t511 bt524.1 bt524.2.1 (bt524.2.2 != 0) t509 t510) else (corrodylaw06_DatesEither.j0 k l0 t511 bt524.1 bt524.2.1 true t509 t510)) else (if t516 > 0 then (corrodylaw06_DatesEither.j0 k l0 t511 bt524.1 bt524.2.1 true t509 t510) else (if t511 = 4 then (corrodylaw06_DatesEither.j0 k l0 t511 bt524.1 bt524.2.1 (bt524.2.2 != 0) t509 t510) else (corrodylaw06_DatesEither.j0 k l0 t511 bt524.1 bt524.2.1 true t509 t510)))) else (if t511 = 2 then (if t517 = 2 then (if bt524.2.2 = 2 then ((corrodylaw06_awake.f k).bind fun t529 => (some t529)) else (some false)) else (some false)) else (some false)))) = some r := H;have A8 := Aside0.mk A80;clear A80;replace H := Option.bind_eq_some_iff.mp H;obtain ⟨⟨t524, t525, t526⟩, A90, H⟩ := H;replace H : (if t517 = 0 then (if t511 = 0 then (if t516 > 0 then (corrodylaw06_DatesEither.j0 k l0 t511 t524 t525 (t526 != 0) t509 t510) else (corrodylaw06_DatesEither.j0 k l0 t511 t524 t525 true t509 t510)) else (if t516 > 0 then (corrodylaw06_DatesEither.j0 k l0 t511 t524 t525 true t509 t510) else (if t511 = 4 then (corrodylaw06_DatesEither.j0 k l0 t511 t524 t525 (t526 != 0) t509 t510) else (corrodylaw06_DatesEither.j0 k l0 t511 t524 t525 true t509 t510)))) else (if t511 = 2 then (if t517 = 2 then (if t526 = 2 then ((corrodylaw06_awake.f k).bind fun t529 => (some t529)) else (some false)) else (some false)) else (some false))) = some r := H;have A9 := Aside0.mk A90;clear A90;by_cases c10 : t517 = 0
 ·rw [if_pos c10] at H;have c10b0 : (t517 == 0) = true := beq_iff_eq.mpr c10;have c10b1 : (t517 != 0) = false := bne_eq_false_iff_eq.mpr c10;clear c10;have HC11 := Aside0.mk H;clear H;go_enter Try.func10, Try.ntmps10;go_upto_region 6 with (first | ((with_reducible refine gate_callee (f := 18) rfl ?_); refine goesL_ (some 20) rfl rfl Try.func18 (by kernel_rfl) rfl #[.slice A0 l0.length c0] rfl (by (try simp only [List.map_toArray, List.map_cons, List.map_nil]); first | done | rfl | (simp only [List.length_drop, List.length_take]; rfl)) ?_; (with_reducible refine (corrodylaw06_Of.calls k _ _ l0 t506 _ ?side1 ?side2 A3.out).mono ?_); (case side1 => repeat (first | exact HR0.out | (with_reducible refine Kd.C_alloc ?_ _) | (with_reducible refine Kd.C_drewN ?_ _) | (with_reducible refine Kd.C_drew ?_))); (case side2 => exact HC0.out); rintro e w12 ⟨v507, rfl, ho0, hb⟩; refine ⟨_, rfl, ?_⟩; have n0_ := Aside0.mk (Kd.R_lower ho0 (below_size (by repeat (first | (with_reducible first | exact HB.out | apply below_alloc | apply pw_below_drewN | apply below_drew1) | exact HB.out)))); have n1_ := Aside0.mk (below_step (by repeat (first | (with_reducible first | exact HB.out | apply below_alloc | apply pw_below_drewN | apply below_drew1) | exact HB.out)) hb); clear HB; have HO508 := n0_; have HB := n1_; clear n0_ n1_; (try clear hb); (try clear hb2); (try clear hk); (try clear hi); (try clear ho0); obtain ⟨Ao13, co13, eo13⟩ := Kd.R_slice HO508.out; subst eo13) | ((with_reducible refine gate_callee (f := 35) rfl ?_); refine goesL_ (some 21) rfl rfl Try.func35 (by kernel_rfl) rfl #[.slice Ao13 t506.length co13] rfl (by (try simp only [List.map_toArray, List.map_cons, List.map_nil]); first | done | rfl | (simp only [List.length_drop, List.length_take]; rfl)) ?_; (with_reducible refine (dates_Overload.calls k _ _ t506 t509 t510 t511 _ ?side1 ?side2 A4.out).mono ?_); (case side1 => repeat (first | exact (Kd.R_reads' HO508.out).2.2 | (with_reducible refine Kd.C_alloc ?_ _) | (with_reducible refine Kd.C_drewN ?_ _) | (with_reducible refine Kd.C_drew ?_))); (case side2 => exact (Kd.R_reads' HO508.out).2.1); rintro e w14 ⟨rfl, hb⟩; refine ⟨_, rfl, ?_⟩; have n0_ := Aside0.mk (Kd.R_below (by (with_reducible repeat (first | apply Kd.R_alloc | apply Kd.R_drewN | apply Kd.R_drew)); exact HO508.out) hb); have n1_ := Aside0.mk (below_step (by repeat (first | (with_reducible first | exact HB.out | apply below_alloc | apply pw_below_drewN | apply below_drew1) | exact HB.out)) hb); clear HO508; clear HB; have HO508 := n0_; have HB := n1_; clear n0_ n1_; (try clear hb); (try clear hb2); (try clear hk); (try clear hi)) | ((with_reducible refine gate_dst (N := 5) rfl ?_); refine box_event ?hg (N := 5) ?hd (cs := #[.int .i64 0, .int .i64 0]) (t := 64) ?hr ?_; (case hd => rfl); (case hg => rfl); (case hr => first | (go_simp; done) | (go_simp; rfl)); intro gb512 hg w15 hbox hb; have n0_ := Aside0.mk (Kd.R_below (by (with_reducible repeat (first | apply Kd.R_alloc | apply Kd.R_drewN | apply Kd.R_drew)); exact HO508.out) hb); have n1_ := Aside0.mk (below_step (by repeat (first | (with_reducible first | exact HB.out | apply below_alloc | apply pw_below_drewN | apply below_drew1) | exact HB.out)) hb); have n2_ := Aside0.mk (hbox); have n3_ := Aside0.mk ((by rw [hg]; exact (below_size (by repeat (first | (with_reducible first | exact HB.out | apply below_alloc | apply pw_below_drewN | apply below_drew1) | exact HB.out))) : w.heap.size ≤ gb512)); have n4_ := Aside0.mk ((by rw [hg]; exact (below_size (by repeat (first | (with_reducible first | exact HB.out | apply below_alloc | apply pw_below_drewN | apply below_drew1) | exact HB.out))) : w.heap.size ≤ gb512)); clear HO508; clear HB; have HO508 := n0_; have HB := n1_; have BK512 := n2_; have GW512 := n3_; have GE512 := n4_; clear n0_ n1_ n2_ n3_ n4_; clear hb hbox hg; have hcz16_0 : w15.cell? ⟨gb512, 0, none⟩ = some (.int .i64 0) := (blk_cell BK512.out 0).trans rfl; have hcz16_1 : w15.cell? ⟨gb512, 1, none⟩ = some (.int .i64 0) := (blk_cell BK512.out 1).trans rfl; have hfz16_0 := blk_frozen BK512.out 0; have hfz16_1 := blk_frozen BK512.out 1) | ((with_reducible refine gate_callee (f := 18) rfl ?_); refine goesL_ (some 26) rfl rfl Try.func18 (by kernel_rfl) rfl #[.slice A0 l0.length c0] rfl (by (try simp only [List.map_toArray, List.map_cons, List.map_nil]); first | done | rfl | (simp only [List.length_drop, List.length_take]; rfl)) ?_; (with_reducible refine (corrodylaw06_Of.calls k _ _ l0 t513 _ ?side1 ?side2 A5.out).mono ?_); (case side1 => exact Kd.C_below HR0.out (by repeat (first | (with_reducible first | exact HB.out | apply below_alloc | apply pw_below_drewN | apply below_drew1 | refine below_set ?_ GE512.out) | exact HB.out))); (case side2 => exact HC0.out); rintro e w17 ⟨v514, rfl, ho0, hb⟩; refine ⟨_, rfl, ?_⟩; have n0_ := Aside0.mk (Kd.R_elder' (by (with_reducible repeat (first | apply Kd.R_alloc | apply Kd.R_drewN | apply Kd.R_drew)); exact (Kd.R_mono (Kd.R_far (p := ⟨gb512, 1, none⟩) (Kd.R_far (p := ⟨gb512, 0, none⟩) (Kd.R_types HO508.out BK512.out (by decide)) (fun _ hk => hk.2) (.int .i64 t509)) (fun _ hk => hk.2) (.int .i64 t510)) (fun _ h_ => h_.1))) (Kd.R_base ho0) hb); have n1_ := Aside0.mk (Kd.R_lower (Kd.R_new' ho0 (Kd.R_lt (by (with_reducible repeat (first | apply Kd.R_alloc | apply Kd.R_drewN | apply Kd.R_drew)); exact (Kd.R_mono (Kd.R_far (p := ⟨gb512, 1, none⟩) (Kd.R_far (p := ⟨gb512, 0, none⟩) (Kd.R_types HO508.out BK512.out (by decide)) (fun _ hk => hk.2) (.int .i64 t509)) (fun _ hk => hk.2) (.int .i64 t510)) (fun _ h_ => h_.1))))) (below_size (by repeat (first | (with_reducible first | exact HB.out | apply below_alloc | apply pw_below_drewN | apply below_drew1 | refine below_set ?_ GE512.out) | exact HB.out)))); have n2_ := Aside0.mk (blk_below (g := gb512) (o := .cells #[.int .i64 t509, .int .i64 t510] 64 (0, 0)) (by (with_reducible repeat (first | refine blk_drewN ?_ _ | refine blk_drew ?_ | refine blk_alloc ?_ _)); refine blk_put (cs := #[.int .i64 t509, .int .i64 0]) ?_ 1 _ rfl; (with_reducible repeat (first | refine blk_drewN ?_ _ | refine blk_drew ?_ | refine blk_alloc ?_ _)); refine blk_put (cs := #[.int .i64 0, .int .i64 0]) ?_ 0 _ rfl; (with_reducible repeat (first | refine blk_drewN ?_ _ | refine blk_drew ?_ | refine blk_alloc ?_ _)); exact BK512.out) hb); have n3_ := Aside0.mk (below_step (by repeat (first | (with_reducible first | exact HB.out | apply below_alloc | apply pw_below_drewN | apply below_drew1 | refine below_set ?_ GE512.out) | exact HB.out)) hb); clear HO508; clear BK512; clear HB; have HO508 := n0_; have HO515 := n1_; have BK512 := n2_; have HB := n3_; clear n0_ n1_ n2_ n3_; (try clear hb); (try clear hb2); (try clear hk); (try clear hi); (try clear ho0); obtain ⟨Ao18, co18, eo18⟩ := Kd.R_slice HO515.out; subst eo18) | ((with_reducible refine gate_callee (f := 25) rfl ?_); refine goesL_ (some 27) rfl rfl Try.func25 (by kernel_rfl) rfl #[.slice Ao18 t513.length co18] rfl (by (try simp only [List.map_toArray, List.map_cons, List.map_nil]); first | done | rfl | (simp only [List.length_drop, List.length_take]; rfl)) ?_; (with_reducible refine (dates_Delay.calls k _ _ t513 t516 t517 _ ?side1 ?side2 A6.out).mono ?_); (case side1 => repeat (first | exact (Kd.R_reads' HO515.out).2.2 | (with_reducible refine Kd.C_alloc ?_ _) | (with_reducible refine Kd.C_drewN ?_ _) | (with_reducible refine Kd.C_drew ?_))); (case side2 => exact (Kd.R_reads' HO515.out).2.1); rintro e w19 ⟨rfl, hb⟩; refine ⟨_, rfl, ?_⟩; have n0_ := Aside0.mk (Kd.R_below (by (with_reducible repeat (first | apply Kd.R_alloc | apply Kd.R_drewN | apply Kd.R_drew)); exact HO508.out) hb); have n1_ := Aside0.mk (Kd.R_below (by (with_reducible repeat (first | apply Kd.R_alloc | apply Kd.R_drewN | apply Kd.R_drew)); exact HO515.out) hb); have n2_ := Aside0.mk (blk_below (g := gb512) (o := .cells #[.int .i64 t509, .int .i64 t510] 64 (0, 0)) (by (with_reducible repeat (first | refine blk_drewN ?_ _ | refine blk_drew ?_ | refine blk_alloc ?_ _)); exact BK512.out) hb); have n3_ := Aside0.mk (below_step (by repeat (first | (with_reducible first | exact HB.out | apply below_alloc | apply pw_below_drewN | apply below_drew1 | refine below_set ?_ GE512.out) | exact HB.out)) hb); clear HO508; clear HO515; clear BK512; clear HB; have HO508 := n0_; have HO515 := n1_; have BK512 := n2_; have HB := n3_; clear n0_ n1_ n2_ n3_; (try clear hb); (try clear hb2); (try clear hk); (try clear hi)) | ((with_reducible refine gate_callee (f := 18) rfl ?_); refine goesL_ (some 32) rfl rfl Try.func18 (by kernel_rfl) rfl #[.slice A0 l0.length c0] rfl (by (try simp only [List.map_toArray, List.map_cons, List.map_nil]); first | done | rfl | (simp only [List.length_drop, List.length_take]; rfl)) ?_; (with_reducible refine (corrodylaw06_Of.calls k _ _ l0 t518 _ ?side1 ?side2 A7.out).mono ?_); (case side1 => repeat (first | exact (Kd.C_below HR0.out HB.out) | (with_reducible refine Kd.C_alloc ?_ _) | (with_reducible refine Kd.C_drewN ?_ _) | (with_reducible refine Kd.C_drew ?_))); (case side2 => exact HC0.out); rintro e w20 ⟨v519, rfl, ho0, hb⟩; refine ⟨_, rfl, ?_⟩; have n0_ := Aside0.mk (Kd.R_elder' (by (with_reducible repeat (first | apply Kd.R_alloc | apply Kd.R_drewN | apply Kd.R_drew)); exact HO508.out) (Kd.R_base ho0) hb); have n1_ := Aside0.mk (Kd.R_elder' (by (with_reducible repeat (first | apply Kd.R_alloc | apply Kd.R_drewN | apply Kd.R_drew)); exact HO515.out) (Kd.R_base ho0) hb); have n2_ := Aside0.mk (Kd.R_lower (Kd.R_new' (Kd.R_new' ho0 (Kd.R_lt (by (with_reducible repeat (first | apply Kd.R_alloc | apply Kd.R_drewN | apply Kd.R_drew)); exact HO508.out))) (Kd.R_lt (by (with_reducible repeat (first | apply Kd.R_alloc | apply Kd.R_drewN | apply Kd.R_drew)); exact HO515.out))) (below_size (by repeat (first | (with_reducible first | exact HB.out | apply below_alloc | apply pw_below_drewN | apply below_drew1 | refine below_set ?_ GE512.out) | exact HB.out)))); have n3_ := Aside0.mk (blk_below (g := gb512) (o := .cells #[.int .i64 t509, .int .i64 t510] 64 (0, 0)) (by (with_reducible repeat (first | refine blk_drewN ?_ _ | refine blk_drew ?_ | refine blk_alloc ?_ _)); exact BK512.out) hb); have n4_ := Aside0.mk (below_step (by repeat (first | (with_reducible first | exact HB.out | apply below_alloc | apply pw_below_drewN | apply below_drew1 | refine below_set ?_ GE512.out) | exact HB.out)) hb); clear HO508; clear HO515; clear BK512; clear HB; have HO508 := n0_; have HO515 := n1_; have HO520 := n2_; have BK512 := n3_; have HB := n4_; clear n0_ n1_ n2_ n3_ n4_; (try clear hb); (try clear hb2); (try clear hk); (try clear hi); (try clear ho0)) | ((with_reducible refine gate_callee (f := 33) rfl ?_); refine goesL_ (some 34) rfl rfl Try.func33 (by kernel_rfl) rfl #[.slice A1 l1.length c1] rfl (by (try simp only [List.map_toArray, List.map_cons, List.map_nil]); first | done | rfl | (simp only [List.length_drop, List.length_take]; rfl)) ?_; (with_reducible refine (corrodylaw06_pieces.calls k _ _ l1 t521 _ ?side1 ?side2 A8.out).mono ?_); (case side1 => repeat (first | exact (Kd.C_below HR1.out HB.out) | (with_reducible refine Kd.C_alloc ?_ _) | (with_reducible refine Kd.C_drewN ?_ _) | (with_reducible refine Kd.C_drew ?_))); (case side2 => exact HC1.out); rintro e w21 ⟨v522, rfl, ho0, hb⟩; refine ⟨_, rfl, ?_⟩; have n0_ := Aside0.mk (Kd.R_below (by (with_reducible repeat (first | apply Kd.R_alloc | apply Kd.R_drewN | apply Kd.R_drew)); exact HO508.out) hb); have n1_ := Aside0.mk (Kd.R_below (by (with_reducible repeat (first | apply Kd.R_alloc | apply Kd.R_drewN | apply Kd.R_drew)); exact HO515.out) hb); have n2_ := Aside0.mk (Kd.R_below (by (with_reducible repeat (first | apply Kd.R_alloc | apply Kd.R_drewN | apply Kd.R_drew)); exact HO520.out) hb); have n3_ := Aside0.mk (Kd.R_lower ho0 (below_size (by repeat (first | (with_reducible first | exact HB.out | apply below_alloc | apply pw_below_drewN | apply below_drew1 | refine below_set ?_ GE512.out) | exact HB.out)))); have n4_ := Aside0.mk (blk_below (g := gb512) (o := .cells #[.int .i64 t509, .int .i64 t510] 64 (0, 0)) (by (with_reducible repeat (first | refine blk_drewN ?_ _ | refine blk_drew ?_ | refine blk_alloc ?_ _)); exact BK512.out) hb); have n5_ := Aside0.mk (below_step (by repeat (first | (with_reducible first | exact HB.out | apply below_alloc | apply pw_below_drewN | apply below_drew1 | refine below_set ?_ GE512.out) | exact HB.out)) hb); clear HO508; clear HO515; clear HO520; clear BK512; clear HB; have HO508 := n0_; have HO515 := n1_; have HO520 := n2_; have HO523 := n3_; have BK512 := n4_; have HB := n5_; clear n0_ n1_ n2_ n3_ n4_ n5_; (try clear hb); (try clear hb2); (try clear hk); (try clear hi); (try clear ho0); obtain ⟨Ao22, co22, eo22⟩ := Kd.R_slice HO520.out; subst eo22; obtain ⟨Ao23, co23, eo23⟩ := Kd.R_slice HO523.out; subst eo23) | ((with_reducible refine gate_callee (f := 32) rfl ?_); refine goesL_ (some 35) rfl rfl Try.func32 (by kernel_rfl) rfl #[.slice Ao22 t518.length co22, .slice Ao23 t521.length co23] rfl (by (try simp only [List.map_toArray, List.map_cons, List.map_nil]); first | done | rfl | (simp only [List.length_drop, List.length_take]; rfl)) ?_; (with_reducible refine (dates_Check.calls k _ _ t518 _ _ t521 t524 t525 t526 _ ?side1 ?side2 ?side3 ?side4 A9.out).mono ?_); (case side1 => repeat (first | exact (Kd.R_reads' HO520.out).2.2 | (with_reducible refine Kd.C_alloc ?_ _) | (with_reducible refine Kd.C_drewN ?_ _) | (with_reducible refine Kd.C_drew ?_))); (case side2 => exact (Kd.R_reads' HO520.out).2.1); (case side3 => repeat (first | exact (Kd.R_reads' HO523.out).2.2 | (with_reducible refine Kd.C_alloc ?_ _) | (with_reducible refine Kd.C_drewN ?_ _) | (with_reducible refine Kd.C_drew ?_))); (case side4 => exact (Kd.R_reads' HO523.out).2.1); rintro e w24 ⟨v527, rfl, ho0, hb⟩; refine ⟨_, rfl, ?_⟩; have n0_ := Aside0.mk (Kd.R_below (by (with_reducible repeat (first | apply Kd.R_alloc | apply Kd.R_drewN | apply Kd.R_drew)); exact HO508.out) hb); have n1_ := Aside0.mk (Kd.R_below (by (with_reducible repeat (first | apply Kd.R_alloc | apply Kd.R_drewN | apply Kd.R_drew)); exact HO515.out) hb); have n2_ := Aside0.mk (Kd.R_below (by (with_reducible repeat (first | apply Kd.R_alloc | apply Kd.R_drewN | apply Kd.R_drew)); exact HO520.out) hb); have n3_ := Aside0.mk (Kd.R_below (by (with_reducible repeat (first | apply Kd.R_alloc | apply Kd.R_drewN | apply Kd.R_drew)); exact HO523.out) hb); have n4_ := Aside0.mk (Kd.R_lower ho0 (below_size (by repeat (first | (with_reducible first | exact HB.out | apply below_alloc | apply pw_below_drewN | apply below_drew1 | refine below_set ?_ GE512.out) | exact HB.out)))); have n5_ := Aside0.mk (blk_below (g := gb512) (o := .cells #[.int .i64 t509, .int .i64 t510] 64 (0, 0)) (by (with_reducible repeat (first | refine blk_drewN ?_ _ | refine blk_drew ?_ | refine blk_alloc ?_ _)); exact BK512.out) hb); have n6_ := Aside0.mk (below_step (by repeat (first | (with_reducible first | exact HB.out | apply below_alloc | apply pw_below_drewN | apply below_drew1 | refine below_set ?_ GE512.out) | exact HB.out)) hb); clear HO508; clear HO515; clear HO520; clear HO523; clear BK512; clear HB; have HO508 := n0_; have HO515 := n1_; have HO520 := n2_; have HO523 := n3_; have HO528 := n4_; have BK512 := n5_; have HB := n6_; clear n0_ n1_ n2_ n3_ n4_ n5_ n6_; (try clear hb); (try clear hb2); (try clear hk); (try clear hi); (try clear ho0)))
  (try simp only [Act.put, List.setIfInBounds_toArray, List.set_cons_zero, List.set_cons_succ]);go_cut [70] (fun v70 wc => ∃ (kq : Nat) (x70_10 : Bool), v70 = .bool x70_10 ∧ Aside0 (corrodylaw06_DatesEither.j0 kq l0 t511 t524 t525 x70_10 t509 t510 = some r) ∧ Aside0 (kq ≤ k) ∧ Aside0 (Kd.R (Kd.int .i64) 3 wc w.heap.size (fun _ => True) v527 t524) ∧ Aside0 (wc.heap[gb512]? = some (.cells #[.int .i64 t509, .int .i64 t510] 64 (0, 0))) ∧ Aside0 (Below w.heap.size w wc))
  case first =>
   have H := HC11.out;clear HC11;by_cases c25 : t511 = 0
   ·rw [if_pos c25] at H;have c25b0 : (t511 == 0) = true := beq_iff_eq.mpr c25;have c25b1 : (t511 != 0) = false := bne_eq_false_iff_eq.mpr c25;clear c25;(first | rw [c25b0] | (simp only [i64_w, i32_w]; rw [c25b0]) | skip);by_cases c26 : t516 > 0
    ·rw [if_pos c26] at H;have c26b0 : decide (0 < t516) = true := decide_eq_true c26;clear c26;have H' := Aside0.mk H;clear H;go_wp2;go_meet
     case rel => exact ⟨_, ((t526 != 0)), (by first | rfl | (simp; done) | (simp [*]; done)), H', ⟨by first | omega | exact Nat.le_refl _⟩, ⟨by (with_reducible repeat (first | apply Kd.R_alloc | apply Kd.R_drewN | apply Kd.R_drew)); exact HO528.out⟩, ⟨by (with_reducible repeat (first | refine blk_drewN ?_ _ | refine blk_drew ?_ | refine blk_alloc ?_ _)); exact BK512.out⟩, ⟨by repeat (first | (with_reducible first | exact HB.out | apply below_alloc | apply pw_below_drewN | apply below_drew1 | refine below_set ?_ GE512.out) | exact HB.out)⟩⟩
    ·rw [if_neg c26] at H;have c26b0 : decide (0 < t516) = false := decide_eq_false c26;clear c26;have H' := Aside0.mk H;clear H;go_wp2;go_meet
     case rel => exact ⟨_, (true), (by first | rfl | (simp; done) | (simp [*]; done)), H', ⟨by first | omega | exact Nat.le_refl _⟩, ⟨by (with_reducible repeat (first | apply Kd.R_alloc | apply Kd.R_drewN | apply Kd.R_drew)); exact HO528.out⟩, ⟨by (with_reducible repeat (first | refine blk_drewN ?_ _ | refine blk_drew ?_ | refine blk_alloc ?_ _)); exact BK512.out⟩, ⟨by repeat (first | (with_reducible first | exact HB.out | apply below_alloc | apply pw_below_drewN | apply below_drew1 | refine below_set ?_ GE512.out) | exact HB.out)⟩⟩
   ·rw [if_neg c25] at H;have c25b0 : (t511 == 0) = false := beq_eq_false_iff_ne.mpr c25;have c25b1 : (t511 != 0) = true := bne_iff_ne.mpr c25;(first | rw [c25b0] | (simp only [i64_w, i32_w]; rw [c25b0]) | skip);by_cases c27 : t516 > 0
    ·rw [if_pos c27] at H;have c27b0 : decide (0 < t516) = true := decide_eq_true c27;clear c27;have H' := Aside0.mk H;clear H;go_wp2;go_meet
     case rel => exact ⟨_, (true), (by first | rfl | (simp; done) | (simp [*]; done)), H', ⟨by first | omega | exact Nat.le_refl _⟩, ⟨by (with_reducible repeat (first | apply Kd.R_alloc | apply Kd.R_drewN | apply Kd.R_drew)); exact HO528.out⟩, ⟨by (with_reducible repeat (first | refine blk_drewN ?_ _ | refine blk_drew ?_ | refine blk_alloc ?_ _)); exact BK512.out⟩, ⟨by repeat (first | (with_reducible first | exact HB.out | apply below_alloc | apply pw_below_drewN | apply below_drew1 | refine below_set ?_ GE512.out) | exact HB.out)⟩⟩
    ·rw [if_neg c27] at H;have c27b0 : decide (0 < t516) = false := decide_eq_false c27;clear c27;by_cases c28 : t511 = 4
     ·rw [if_pos c28] at H;have c28b0 : (t511 == 4) = true := beq_iff_eq.mpr c28;have c28b1 : (t511 != 4) = false := bne_eq_false_iff_eq.mpr c28;clear c28;have H' := Aside0.mk H;clear H;go_wp2;go_meet
      case rel => exact ⟨_, ((t526 != 0)), (by first | rfl | (simp; done) | (simp [*]; done)), H', ⟨by first | omega | exact Nat.le_refl _⟩, ⟨by (with_reducible repeat (first | apply Kd.R_alloc | apply Kd.R_drewN | apply Kd.R_drew)); exact HO528.out⟩, ⟨by (with_reducible repeat (first | refine blk_drewN ?_ _ | refine blk_drew ?_ | refine blk_alloc ?_ _)); exact BK512.out⟩, ⟨by repeat (first | (with_reducible first | exact HB.out | apply below_alloc | apply pw_below_drewN | apply below_drew1 | refine below_set ?_ GE512.out) | exact HB.out)⟩⟩
     ·rw [if_neg c28] at H;have c28b0 : (t511 == 4) = false := beq_eq_false_iff_ne.mpr c28;have c28b1 : (t511 != 4) = true := bne_iff_ne.mpr c28;have H' := Aside0.mk H;clear H;go_wp2;go_meet
      case rel => exact ⟨_, (true), (by first | rfl | (simp; done) | (simp [*]; done)), H', ⟨by first | omega | exact Nat.le_refl _⟩, ⟨by (with_reducible repeat (first | apply Kd.R_alloc | apply Kd.R_drewN | apply Kd.R_drew)); exact HO528.out⟩, ⟨by (with_reducible repeat (first | refine blk_drewN ?_ _ | refine blk_drew ?_ | refine blk_alloc ?_ _)); exact BK512.out⟩, ⟨by repeat (first | (with_reducible first | exact HB.out | apply below_alloc | apply pw_below_drewN | apply below_drew1 | refine below_set ?_ GE512.out) | exact HB.out)⟩⟩
  case rest =>
   clear HC11;try clear c1
   try clear c2
   try clear p2
   try clear c3
   try clear c10
   try clear c10b0
   try clear c10b1
   try clear c18
   try clear c25
   try clear c25b0
   try clear c25b1
   try clear c26
   try clear c26b0
   try clear c27
   try clear c27b0
   try clear c28
   try clear c28b0
   try clear c28b1
   try clear hcz16_0
   try clear hcz16_1
   try clear hfz16_0
   try clear hfz16_1
   obtain ⟨kq, x70_10, rfl, HA, HJ10, HO_9, BK512, HB⟩ := hcut;cases kq with
   | zero => exact absurd HA.out (by simp [corrodylaw06_DatesEither.j0])
   | succ kj10 =>
    have H := HA.out;clear HA;simp only [corrodylaw06_DatesEither.j0] at H;by_cases c29 : x70_10 = true
    ·subst c29;have H1 : (some false) = some r := by rw [if_pos rfl] at H; exact H
     clear H;have H := H1;clear H1;exact Bool.noConfusion ((Option.some.inj H).trans hr)
    ·replace c29 := Bool.eq_false_iff.mpr c29;subst c29;have H1 : (if t511 = 0 then (corrodylaw06_DatesEither.l0 kj10 l0 t511 t524 t525 0 l0 (l0.length : Int) 0 t509 t510) else (corrodylaw06_DatesEither.j2 kj10 l0 t511 t524 t525)) = some r := by rw [if_neg (show ¬ (false = true) by decide)] at H; exact H
     clear H;have H := H1;clear H1;have HC30 := Aside0.mk H;clear H;go_upto_if 72 with (fail)
     go_cut [] (fun wc => ∃ (kq : Nat), Aside0 (corrodylaw06_DatesEither.j2 kq l0 t511 t524 t525 = some r) ∧ Aside0 (kq ≤ kj10) ∧ Aside0 (Kd.R (Kd.int .i64) 3 wc w.heap.size (fun _ => True) v527 t524) ∧ Aside0 (wc.heap[gb512]? = some (.cells #[.int .i64 t509, .int .i64 t510] 64 (0, 0))) ∧ Aside0 (Below w.heap.size w wc))
     case first =>
      have H := HC30.out;clear HC30;by_cases c31 : t511 = 0
      ·rw [if_pos c31] at H;have c31b0 : (t511 == 0) = true := beq_iff_eq.mpr c31;have c31b1 : (t511 != 0) = false := bne_eq_false_iff_eq.mpr c31;clear c31;(first | rw [c31b0] | (simp only [i64_w, i32_w]; rw [c31b0]) | skip);have H' := Aside0.mk H;clear H;go_wp2;go_loopg [12, 75] kj10 (fun kq v12 v75 w' => ∃ (x12_2 : Int) (x75_2 : Int), v12 = .int .i64 x12_2 ∧ v75 = .int .i64 x75_2 ∧ Aside0 (corrodylaw06_DatesEither.l0 kq l0 t511 t524 t525 x12_2 l0 (l0.length : Int) x75_2 t509 t510 = some r) ∧ Aside0 (kq ≤ kj10) ∧ Aside0 (Kd.R (Kd.int .i64) 3 w' w.heap.size (fun _ => True) v527 t524) ∧ Aside0 (w'.heap[gb512]? = some (.cells #[.int .i64 t509, .int .i64 t510] 64 (0, 0))) ∧ Aside0 (Below w.heap.size w w'))
       case atStart => exact ⟨(0), (0), (by first | rfl | (simp; done) | (simp [*]; done)), (by first | rfl | (simp; done) | (simp [*]; done)), H', ⟨Nat.le_refl _⟩, ⟨by (with_reducible repeat (first | apply Kd.R_alloc | apply Kd.R_drewN | apply Kd.R_drew)); exact HO_9.out⟩, ⟨by (with_reducible repeat (first | refine blk_drewN ?_ _ | refine blk_drew ?_ | refine blk_alloc ?_ _)); exact BK512.out⟩, ⟨by repeat (first | (with_reducible first | exact HB.out | apply below_alloc | apply pw_below_drewN | apply below_drew1 | refine below_set ?_ GE512.out) | exact HB.out)⟩⟩
       case round =>
        clear H';try clear c1
        try clear c2
        try clear p2
        try clear c3
        try clear c10
        try clear c10b0
        try clear c10b1
        try clear c18
        try clear c25
        try clear c25b0
        try clear c25b1
        try clear c26
        try clear c26b0
        try clear c27
        try clear c27b0
        try clear c28
        try clear c28b0
        try clear c28b1
        try clear c29
        try clear c31
        try clear c31b0
        try clear c31b1
        try clear hcz16_0
        try clear hcz16_1
        try clear hfz16_0
        try clear hfz16_1
        try clear p2
        obtain ⟨x12_2, x75_2, rfl, rfl, HA, HK2, HO_9, BK512, HB⟩ := hrel;cases gk with
        | zero => exact absurd HA.out (by simp [corrodylaw06_DatesEither.l0])
        | succ k2 =>
         have H := HA.out;clear HA;simp only [corrodylaw06_DatesEither.l0] at H;by_cases c32 : x75_2 < (l0.length : Int)
         ·rw [if_pos c32] at H;have c32b0 : decide (x75_2 < (l0.length : Int)) = true := decide_eq_true c32;clear c32;by_cases c33 : 0 ≤ x75_2
          ·rw [if_pos c33] at H;have c33b0 : decide (0 ≤ x75_2) = true := decide_eq_true c33;clear c33;by_cases c34 : x75_2 < (l0.length : Int)
           ·rw [if_pos c34] at H;have c34b0 : decide (x75_2 < (l0.length : Int)) = true := decide_eq_true c34;clear c34;by_cases c35 : ((rd_T43 l0 x75_2).f1) ≥ t509
            ·rw [if_pos c35] at H;have c35b0 : decide (t509 ≤ ((rd_T43 l0 x75_2).f1)) = true := decide_eq_true c35;clear c35;by_cases c36 : ((rd_T43 l0 x75_2).f2) ≤ t510
             ·rw [if_pos c36] at H;have c36b0 : decide (((rd_T43 l0 x75_2).f2) ≤ t510) = true := decide_eq_true c36;clear c36;have H' := Aside0.mk H;clear H;have p530 : 0 ≤ (x75_2 : Int) := of_decide_eq_true (by first | (with_reducible assumption) | assumption);have q530 : x75_2 < (l0.length : Int) := of_decide_eq_true (by first | (with_reducible assumption) | assumption);obtain ⟨ad530, e530, hx530_0, hx530_1, hx530_2, hx530_3⟩ := at_T43 HR0.out x75_2 p530 q530;cases e530;replace hx530_0 := (HB.out.cell (World.block_lt_of_cell? w _ hx530_0)).trans hx530_0;replace hx530_1 := (HB.out.cell (World.block_lt_of_cell? w _ hx530_1)).trans hx530_1;replace hx530_2 := (HB.out.cell (World.block_lt_of_cell? w _ hx530_2)).trans hx530_2;replace hx530_3 := (HB.out.cell (World.block_lt_of_cell? w _ hx530_3)).trans hx530_3;replace p530 := eq_true p530;replace q530 := eq_true q530;go_wp2_with (first | ((with_reducible refine gate_dst (N := 14) rfl ?_); refine box_event ?hg (N := 14) ?hd (cs := #[.int .i64 0, .int .i64 0, .int .i64 0, .int .i64 0]) (t := 43) ?hr ?_; (case hd => rfl); (case hg => rfl); (case hr => first | (go_simp; done) | (go_simp; rfl)); intro gb531 hg w37 hbox hb; have n0_ := Aside0.mk (Kd.R_below (by (with_reducible repeat (first | apply Kd.R_alloc | apply Kd.R_drewN | apply Kd.R_drew)); exact HO_9.out) hb); have n1_ := Aside0.mk (blk_below (g := gb512) (o := .cells #[.int .i64 t509, .int .i64 t510] 64 (0, 0)) (by (with_reducible repeat (first | refine blk_drewN ?_ _ | refine blk_drew ?_ | refine blk_alloc ?_ _)); exact BK512.out) hb); have n2_ := Aside0.mk (below_step (by repeat (first | (with_reducible first | exact HB.out | apply below_alloc | apply pw_below_drewN | apply below_drew1 | refine below_set ?_ GE512.out) | exact HB.out)) hb); have n3_ := Aside0.mk (hbox); have n4_ := Aside0.mk ((by rw [hg]; exact (below_size (by repeat (first | (with_reducible first | exact HB.out | apply below_alloc | apply pw_below_drewN | apply below_drew1 | refine below_set ?_ GE512.out) | exact HB.out))) : w.heap.size ≤ gb531)); have n5_ := Aside0.mk ((by rw [hg]; exact (below_size (by repeat (first | (with_reducible first | exact HB.out | apply below_alloc | apply pw_below_drewN | apply below_drew1 | refine below_set ?_ GE512.out) | exact HB.out))) : w.heap.size ≤ gb531)); have n6_ := Aside0.mk ((by rw [hg]; exact Nat.ne_of_lt (blk_lt (g := gb512) (o := .cells #[.int .i64 t509, .int .i64 t510] 64 (0, 0)) (by (with_reducible repeat (first | refine blk_drewN ?_ _ | refine blk_drew ?_ | refine blk_alloc ?_ _)); exact BK512.out)) : gb512 ≠ gb531)); have n7_ := Aside0.mk ((by rw [hg]; exact Nat.ne_of_gt (blk_lt (g := gb512) (o := .cells #[.int .i64 t509, .int .i64 t510] 64 (0, 0)) (by (with_reducible repeat (first | refine blk_drewN ?_ _ | refine blk_drew ?_ | refine blk_alloc ?_ _)); exact BK512.out)) : gb531 ≠ gb512)); clear HO_9; clear BK512; clear HB; have HO_9 := n0_; have BK512 := n1_; have HB := n2_; have BK531 := n3_; have GW531 := n4_; have GE531 := n5_; have NB512_531 := n6_; have NB531_512 := n7_; clear n0_ n1_ n2_ n3_ n4_ n5_ n6_ n7_; clear hb hbox hg; have hnb38 := NB531_512.out; have hnc38 := NB512_531.out; have hcz39_0 : w37.cell? ⟨gb531, 0, none⟩ = some (.int .i64 0) := (blk_cell BK531.out 0).trans rfl; have hcz39_1 : w37.cell? ⟨gb531, 1, none⟩ = some (.int .i64 0) := (blk_cell BK531.out 1).trans rfl; have hcz39_2 : w37.cell? ⟨gb531, 2, none⟩ = some (.int .i64 0) := (blk_cell BK531.out 2).trans rfl; have hcz39_3 : w37.cell? ⟨gb531, 3, none⟩ = some (.int .i64 0) := (blk_cell BK531.out 3).trans rfl; have hfz39_0 := blk_frozen BK531.out 0; have hfz39_1 := blk_frozen BK531.out 1; have hfz39_2 := blk_frozen BK531.out 2; have hfz39_3 := blk_frozen BK531.out 3; have hcz40_0 : w37.cell? ⟨gb512, 0, none⟩ = some (.int .i64 t509) := (blk_cell BK512.out 0).trans rfl; have hcz40_1 : w37.cell? ⟨gb512, 1, none⟩ = some (.int .i64 t510) := (blk_cell BK512.out 1).trans rfl; have hfz40_0 := blk_frozen BK512.out 0; have hfz40_1 := blk_frozen BK512.out 1))
              go_roundg k2
              case measure => have := HJ10.out; have := HK2.out; omega
              case rel => exact ⟨(wrap64 (x12_2 + ((rd_T43 l0 x75_2).f0))), (wrap64 (x75_2 + 1)), (by first | rfl | (simp; done) | (simp [*]; done)), (by first | rfl | (simp; done) | (simp [*]; done)), H', ⟨by have := HJ10.out; have := HK2.out; omega⟩, ⟨by (with_reducible repeat (first | apply Kd.R_alloc | apply Kd.R_drewN | apply Kd.R_drew)); exact Kd.R_mono (Kd.R_far (p := ⟨gb531, 3, none⟩) (Kd.R_far (p := ⟨gb531, 2, none⟩) (Kd.R_far (p := ⟨gb531, 1, none⟩) (Kd.R_far (p := ⟨gb531, 0, none⟩) (Kd.R_types HO_9.out BK531.out (by decide)) (fun _ hk => hk.2) (.int .i64 ((rd_T43 l0 x75_2).f0))) (fun _ hk => hk.2) (.int .i64 ((rd_T43 l0 x75_2).f1))) (fun _ hk => hk.2) (.int .i64 ((rd_T43 l0 x75_2).f2))) (fun _ hk => hk.2) (.int .i64 ((rd_T43 l0 x75_2).f3))) (fun _ hk => trivial)⟩, ⟨by (with_reducible repeat (first | refine blk_drewN ?_ _ | refine blk_drew ?_ | refine blk_alloc ?_ _)); refine blk_far ?_ NB512_531.out _; (with_reducible repeat (first | refine blk_drewN ?_ _ | refine blk_drew ?_ | refine blk_alloc ?_ _)); refine blk_far ?_ NB512_531.out _; (with_reducible repeat (first | refine blk_drewN ?_ _ | refine blk_drew ?_ | refine blk_alloc ?_ _)); refine blk_far ?_ NB512_531.out _; (with_reducible repeat (first | refine blk_drewN ?_ _ | refine blk_drew ?_ | refine blk_alloc ?_ _)); refine blk_far ?_ NB512_531.out _; (with_reducible repeat (first | refine blk_drewN ?_ _ | refine blk_drew ?_ | refine blk_alloc ?_ _)); exact BK512.out⟩, ⟨by repeat (first | (with_reducible first | exact HB.out | apply below_alloc | apply pw_below_drewN | apply below_drew1 | refine below_set ?_ GE512.out | refine below_set ?_ GE531.out) | exact HB.out)⟩⟩
             ·rw [if_neg c36] at H;have c36b0 : decide (((rd_T43 l0 x75_2).f2) ≤ t510) = false := decide_eq_false c36;clear c36;have H' := Aside0.mk H;clear H;have p530 : 0 ≤ (x75_2 : Int) := of_decide_eq_true (by first | (with_reducible assumption) | assumption);have q530 : x75_2 < (l0.length : Int) := of_decide_eq_true (by first | (with_reducible assumption) | assumption);obtain ⟨ad530, e530, hx530_0, hx530_1, hx530_2, hx530_3⟩ := at_T43 HR0.out x75_2 p530 q530;cases e530;replace hx530_0 := (HB.out.cell (World.block_lt_of_cell? w _ hx530_0)).trans hx530_0;replace hx530_1 := (HB.out.cell (World.block_lt_of_cell? w _ hx530_1)).trans hx530_1;replace hx530_2 := (HB.out.cell (World.block_lt_of_cell? w _ hx530_2)).trans hx530_2;replace hx530_3 := (HB.out.cell (World.block_lt_of_cell? w _ hx530_3)).trans hx530_3;replace p530 := eq_true p530;replace q530 := eq_true q530;go_wp2_with (first | ((with_reducible refine gate_dst (N := 14) rfl ?_); refine box_event ?hg (N := 14) ?hd (cs := #[.int .i64 0, .int .i64 0, .int .i64 0, .int .i64 0]) (t := 43) ?hr ?_; (case hd => rfl); (case hg => rfl); (case hr => first | (go_simp; done) | (go_simp; rfl)); intro gb531 hg w41 hbox hb; have n0_ := Aside0.mk (Kd.R_below (by (with_reducible repeat (first | apply Kd.R_alloc | apply Kd.R_drewN | apply Kd.R_drew)); exact HO_9.out) hb); have n1_ := Aside0.mk (blk_below (g := gb512) (o := .cells #[.int .i64 t509, .int .i64 t510] 64 (0, 0)) (by (with_reducible repeat (first | refine blk_drewN ?_ _ | refine blk_drew ?_ | refine blk_alloc ?_ _)); exact BK512.out) hb); have n2_ := Aside0.mk (below_step (by repeat (first | (with_reducible first | exact HB.out | apply below_alloc | apply pw_below_drewN | apply below_drew1 | refine below_set ?_ GE512.out) | exact HB.out)) hb); have n3_ := Aside0.mk (hbox); have n4_ := Aside0.mk ((by rw [hg]; exact (below_size (by repeat (first | (with_reducible first | exact HB.out | apply below_alloc | apply pw_below_drewN | apply below_drew1 | refine below_set ?_ GE512.out) | exact HB.out))) : w.heap.size ≤ gb531)); have n5_ := Aside0.mk ((by rw [hg]; exact (below_size (by repeat (first | (with_reducible first | exact HB.out | apply below_alloc | apply pw_below_drewN | apply below_drew1 | refine below_set ?_ GE512.out) | exact HB.out))) : w.heap.size ≤ gb531)); have n6_ := Aside0.mk ((by rw [hg]; exact Nat.ne_of_lt (blk_lt (g := gb512) (o := .cells #[.int .i64 t509, .int .i64 t510] 64 (0, 0)) (by (with_reducible repeat (first | refine blk_drewN ?_ _ | refine blk_drew ?_ | refine blk_alloc ?_ _)); exact BK512.out)) : gb512 ≠ gb531)); have n7_ := Aside0.mk ((by rw [hg]; exact Nat.ne_of_gt (blk_lt (g := gb512) (o := .cells #[.int .i64 t509, .int .i64 t510] 64 (0, 0)) (by (with_reducible repeat (first | refine blk_drewN ?_ _ | refine blk_drew ?_ | refine blk_alloc ?_ _)); exact BK512.out)) : gb531 ≠ gb512)); clear HO_9; clear BK512; clear HB; have HO_9 := n0_; have BK512 := n1_; have HB := n2_; have BK531 := n3_; have GW531 := n4_; have GE531 := n5_; have NB512_531 := n6_; have NB531_512 := n7_; clear n0_ n1_ n2_ n3_ n4_ n5_ n6_ n7_; clear hb hbox hg; have hnb42 := NB531_512.out; have hnc42 := NB512_531.out; have hcz43_0 : w41.cell? ⟨gb531, 0, none⟩ = some (.int .i64 0) := (blk_cell BK531.out 0).trans rfl; have hcz43_1 : w41.cell? ⟨gb531, 1, none⟩ = some (.int .i64 0) := (blk_cell BK531.out 1).trans rfl; have hcz43_2 : w41.cell? ⟨gb531, 2, none⟩ = some (.int .i64 0) := (blk_cell BK531.out 2).trans rfl; have hcz43_3 : w41.cell? ⟨gb531, 3, none⟩ = some (.int .i64 0) := (blk_cell BK531.out 3).trans rfl; have hfz43_0 := blk_frozen BK531.out 0; have hfz43_1 := blk_frozen BK531.out 1; have hfz43_2 := blk_frozen BK531.out 2; have hfz43_3 := blk_frozen BK531.out 3; have hcz44_0 : w41.cell? ⟨gb512, 0, none⟩ = some (.int .i64 t509) := (blk_cell BK512.out 0).trans rfl; have hcz44_1 : w41.cell? ⟨gb512, 1, none⟩ = some (.int .i64 t510) := (blk_cell BK512.out 1).trans rfl; have hfz44_0 := blk_frozen BK512.out 0; have hfz44_1 := blk_frozen BK512.out 1))
              go_roundg k2
              case measure => have := HJ10.out; have := HK2.out; omega
              case rel => exact ⟨(x12_2), (wrap64 (x75_2 + 1)), (by first | rfl | (simp; done) | (simp [*]; done)), (by first | rfl | (simp; done) | (simp [*]; done)), H', ⟨by have := HJ10.out; have := HK2.out; omega⟩, ⟨by (with_reducible repeat (first | apply Kd.R_alloc | apply Kd.R_drewN | apply Kd.R_drew)); exact Kd.R_mono (Kd.R_far (p := ⟨gb531, 3, none⟩) (Kd.R_far (p := ⟨gb531, 2, none⟩) (Kd.R_far (p := ⟨gb531, 1, none⟩) (Kd.R_far (p := ⟨gb531, 0, none⟩) (Kd.R_types HO_9.out BK531.out (by decide)) (fun _ hk => hk.2) (.int .i64 ((rd_T43 l0 x75_2).f0))) (fun _ hk => hk.2) (.int .i64 ((rd_T43 l0 x75_2).f1))) (fun _ hk => hk.2) (.int .i64 ((rd_T43 l0 x75_2).f2))) (fun _ hk => hk.2) (.int .i64 ((rd_T43 l0 x75_2).f3))) (fun _ hk => trivial)⟩, ⟨by (with_reducible repeat (first | refine blk_drewN ?_ _ | refine blk_drew ?_ | refine blk_alloc ?_ _)); refine blk_far ?_ NB512_531.out _; (with_reducible repeat (first | refine blk_drewN ?_ _ | refine blk_drew ?_ | refine blk_alloc ?_ _)); refine blk_far ?_ NB512_531.out _; (with_reducible repeat (first | refine blk_drewN ?_ _ | refine blk_drew ?_ | refine blk_alloc ?_ _)); refine blk_far ?_ NB512_531.out _; (with_reducible repeat (first | refine blk_drewN ?_ _ | refine blk_drew ?_ | refine blk_alloc ?_ _)); refine blk_far ?_ NB512_531.out _; (with_reducible repeat (first | refine blk_drewN ?_ _ | refine blk_drew ?_ | refine blk_alloc ?_ _)); exact BK512.out⟩, ⟨by repeat (first | (with_reducible first | exact HB.out | apply below_alloc | apply pw_below_drewN | apply below_drew1 | refine below_set ?_ GE512.out | refine below_set ?_ GE531.out) | exact HB.out)⟩⟩
            ·rw [if_neg c35] at H;have c35b0 : decide (t509 ≤ ((rd_T43 l0 x75_2).f1)) = false := decide_eq_false c35;clear c35;have H' := Aside0.mk H;clear H;have p530 : 0 ≤ (x75_2 : Int) := of_decide_eq_true (by first | (with_reducible assumption) | assumption);have q530 : x75_2 < (l0.length : Int) := of_decide_eq_true (by first | (with_reducible assumption) | assumption);obtain ⟨ad530, e530, hx530_0, hx530_1, hx530_2, hx530_3⟩ := at_T43 HR0.out x75_2 p530 q530;cases e530;replace hx530_0 := (HB.out.cell (World.block_lt_of_cell? w _ hx530_0)).trans hx530_0;replace hx530_1 := (HB.out.cell (World.block_lt_of_cell? w _ hx530_1)).trans hx530_1;replace hx530_2 := (HB.out.cell (World.block_lt_of_cell? w _ hx530_2)).trans hx530_2;replace hx530_3 := (HB.out.cell (World.block_lt_of_cell? w _ hx530_3)).trans hx530_3;replace p530 := eq_true p530;replace q530 := eq_true q530;go_wp2_with (first | ((with_reducible refine gate_dst (N := 14) rfl ?_); refine box_event ?hg (N := 14) ?hd (cs := #[.int .i64 0, .int .i64 0, .int .i64 0, .int .i64 0]) (t := 43) ?hr ?_; (case hd => rfl); (case hg => rfl); (case hr => first | (go_simp; done) | (go_simp; rfl)); intro gb531 hg w45 hbox hb; have n0_ := Aside0.mk (Kd.R_below (by (with_reducible repeat (first | apply Kd.R_alloc | apply Kd.R_drewN | apply Kd.R_drew)); exact HO_9.out) hb); have n1_ := Aside0.mk (blk_below (g := gb512) (o := .cells #[.int .i64 t509, .int .i64 t510] 64 (0, 0)) (by (with_reducible repeat (first | refine blk_drewN ?_ _ | refine blk_drew ?_ | refine blk_alloc ?_ _)); exact BK512.out) hb); have n2_ := Aside0.mk (below_step (by repeat (first | (with_reducible first | exact HB.out | apply below_alloc | apply pw_below_drewN | apply below_drew1 | refine below_set ?_ GE512.out) | exact HB.out)) hb); have n3_ := Aside0.mk (hbox); have n4_ := Aside0.mk ((by rw [hg]; exact (below_size (by repeat (first | (with_reducible first | exact HB.out | apply below_alloc | apply pw_below_drewN | apply below_drew1 | refine below_set ?_ GE512.out) | exact HB.out))) : w.heap.size ≤ gb531)); have n5_ := Aside0.mk ((by rw [hg]; exact (below_size (by repeat (first | (with_reducible first | exact HB.out | apply below_alloc | apply pw_below_drewN | apply below_drew1 | refine below_set ?_ GE512.out) | exact HB.out))) : w.heap.size ≤ gb531)); have n6_ := Aside0.mk ((by rw [hg]; exact Nat.ne_of_lt (blk_lt (g := gb512) (o := .cells #[.int .i64 t509, .int .i64 t510] 64 (0, 0)) (by (with_reducible repeat (first | refine blk_drewN ?_ _ | refine blk_drew ?_ | refine blk_alloc ?_ _)); exact BK512.out)) : gb512 ≠ gb531)); have n7_ := Aside0.mk ((by rw [hg]; exact Nat.ne_of_gt (blk_lt (g := gb512) (o := .cells #[.int .i64 t509, .int .i64 t510] 64 (0, 0)) (by (with_reducible repeat (first | refine blk_drewN ?_ _ | refine blk_drew ?_ | refine blk_alloc ?_ _)); exact BK512.out)) : gb531 ≠ gb512)); clear HO_9; clear BK512; clear HB; have HO_9 := n0_; have BK512 := n1_; have HB := n2_; have BK531 := n3_; have GW531 := n4_; have GE531 := n5_; have NB512_531 := n6_; have NB531_512 := n7_; clear n0_ n1_ n2_ n3_ n4_ n5_ n6_ n7_; clear hb hbox hg; have hnb46 := NB531_512.out; have hnc46 := NB512_531.out; have hcz47_0 : w45.cell? ⟨gb531, 0, none⟩ = some (.int .i64 0) := (blk_cell BK531.out 0).trans rfl; have hcz47_1 : w45.cell? ⟨gb531, 1, none⟩ = some (.int .i64 0) := (blk_cell BK531.out 1).trans rfl; have hcz47_2 : w45.cell? ⟨gb531, 2, none⟩ = some (.int .i64 0) := (blk_cell BK531.out 2).trans rfl; have hcz47_3 : w45.cell? ⟨gb531, 3, none⟩ = some (.int .i64 0) := (blk_cell BK531.out 3).trans rfl; have hfz47_0 := blk_frozen BK531.out 0; have hfz47_1 := blk_frozen BK531.out 1; have hfz47_2 := blk_frozen BK531.out 2; have hfz47_3 := blk_frozen BK531.out 3; have hcz48_0 : w45.cell? ⟨gb512, 0, none⟩ = some (.int .i64 t509) := (blk_cell BK512.out 0).trans rfl; have hcz48_1 : w45.cell? ⟨gb512, 1, none⟩ = some (.int .i64 t510) := (blk_cell BK512.out 1).trans rfl; have hfz48_0 := blk_frozen BK512.out 0; have hfz48_1 := blk_frozen BK512.out 1))
             go_roundg k2
             case measure => have := HJ10.out; have := HK2.out; omega
             case rel => exact ⟨(x12_2), (wrap64 (x75_2 + 1)), (by first | rfl | (simp; done) | (simp [*]; done)), (by first | rfl | (simp; done) | (simp [*]; done)), H', ⟨by have := HJ10.out; have := HK2.out; omega⟩, ⟨by (with_reducible repeat (first | apply Kd.R_alloc | apply Kd.R_drewN | apply Kd.R_drew)); exact Kd.R_mono (Kd.R_far (p := ⟨gb531, 3, none⟩) (Kd.R_far (p := ⟨gb531, 2, none⟩) (Kd.R_far (p := ⟨gb531, 1, none⟩) (Kd.R_far (p := ⟨gb531, 0, none⟩) (Kd.R_types HO_9.out BK531.out (by decide)) (fun _ hk => hk.2) (.int .i64 ((rd_T43 l0 x75_2).f0))) (fun _ hk => hk.2) (.int .i64 ((rd_T43 l0 x75_2).f1))) (fun _ hk => hk.2) (.int .i64 ((rd_T43 l0 x75_2).f2))) (fun _ hk => hk.2) (.int .i64 ((rd_T43 l0 x75_2).f3))) (fun _ hk => trivial)⟩, ⟨by (with_reducible repeat (first | refine blk_drewN ?_ _ | refine blk_drew ?_ | refine blk_alloc ?_ _)); refine blk_far ?_ NB512_531.out _; (with_reducible repeat (first | refine blk_drewN ?_ _ | refine blk_drew ?_ | refine blk_alloc ?_ _)); refine blk_far ?_ NB512_531.out _; (with_reducible repeat (first | refine blk_drewN ?_ _ | refine blk_drew ?_ | refine blk_alloc ?_ _)); refine blk_far ?_ NB512_531.out _; (with_reducible repeat (first | refine blk_drewN ?_ _ | refine blk_drew ?_ | refine blk_alloc ?_ _)); refine blk_far ?_ NB512_531.out _; (with_reducible repeat (first | refine blk_drewN ?_ _ | refine blk_drew ?_ | refine blk_alloc ?_ _)); exact BK512.out⟩, ⟨by repeat (first | (with_reducible first | exact HB.out | apply below_alloc | apply pw_below_drewN | apply below_drew1 | refine below_set ?_ GE512.out | refine below_set ?_ GE531.out) | exact HB.out)⟩⟩
           ·rw [if_neg c34] at H;exact absurd H (by simp)
          ·rw [if_neg c33] at H;exact absurd H (by simp)
         ·rw [if_neg c32] at H;have c32b0 : decide (x75_2 < (l0.length : Int)) = false := decide_eq_false c32;clear c32;by_cases c49 : t509 > t510
          ·rw [if_pos c49] at H;have c49b0 : decide (t510 < t509) = true := decide_eq_true c49;clear c49;exact Bool.noConfusion ((Option.some.inj H).trans hr)
          ·rw [if_neg c49] at H;have c49b0 : decide (t510 < t509) = false := decide_eq_false c49;clear c49;by_cases c51 : x12_2 ≤ (wrap64 (t510 - t509))
           ·rw [if_pos c51] at H;have c51b0 : decide (x12_2 ≤ (wrap64 (t510 - t509))) = true := decide_eq_true c51;clear c51;exact Bool.noConfusion ((Option.some.inj H).trans hr)
           ·rw [if_neg c51] at H;have c51b0 : decide (x12_2 ≤ (wrap64 (t510 - t509))) = false := decide_eq_false c51;clear c51;have H' := Aside0.mk H;clear H;have hcz53_0 : wr.cell? ⟨gb512, 0, none⟩ = some (.int .i64 t509) := (blk_cell BK512.out 0).trans rfl;have hcz53_1 : wr.cell? ⟨gb512, 1, none⟩ = some (.int .i64 t510) := (blk_cell BK512.out 1).trans rfl;have hfz53_0 := blk_frozen BK512.out 0;have hfz53_1 := blk_frozen BK512.out 1;go_wp2;go_meet
            case rel => exact ⟨_, H', ⟨by have := HJ10.out; have := HK2.out; first | omega | exact Nat.le_refl _⟩, ⟨by (with_reducible repeat (first | apply Kd.R_alloc | apply Kd.R_drewN | apply Kd.R_drew)); exact HO_9.out⟩, ⟨by (with_reducible repeat (first | refine blk_drewN ?_ _ | refine blk_drew ?_ | refine blk_alloc ?_ _)); exact BK512.out⟩, ⟨by repeat (first | (with_reducible first | exact HB.out | apply below_alloc | apply pw_below_drewN | apply below_drew1 | refine below_set ?_ GE512.out) | exact HB.out)⟩⟩
      ·rw [if_neg c31] at H;have c31b0 : (t511 == 0) = false := beq_eq_false_iff_ne.mpr c31;have c31b1 : (t511 != 0) = true := bne_iff_ne.mpr c31;(first | rw [c31b0] | (simp only [i64_w, i32_w]; rw [c31b0]) | skip);have H' := Aside0.mk H;clear H;go_wp2;go_meet
       case rel => exact ⟨_, H', ⟨by have := HJ10.out; first | omega | exact Nat.le_refl _⟩, ⟨by (with_reducible repeat (first | apply Kd.R_alloc | apply Kd.R_drewN | apply Kd.R_drew)); exact HO_9.out⟩, ⟨by (with_reducible repeat (first | refine blk_drewN ?_ _ | refine blk_drew ?_ | refine blk_alloc ?_ _)); exact BK512.out⟩, ⟨by repeat (first | (with_reducible first | exact HB.out | apply below_alloc | apply pw_below_drewN | apply below_drew1 | refine below_set ?_ GE512.out) | exact HB.out)⟩⟩
     case rest =>
      clear HC30;try clear c1
      try clear c2
      try clear p2
      try clear c3
      try clear c4
      try clear c5
      try clear p5
      try clear q5
      try clear hx5
      try clear p6
      try clear c10
      try clear c10b0
      try clear c10b1
      try clear c18
      try clear c25
      try clear c25b0
      try clear c25b1
      try clear c26
      try clear c26b0
      try clear c27
      try clear c27b0
      try clear c28
      try clear c28b0
      try clear c28b1
      try clear c29
      try clear c31
      try clear c31b0
      try clear c31b1
      try clear c32
      try clear c32b0
      try clear c33
      try clear c33b0
      try clear c34
      try clear c34b0
      try clear c35
      try clear c35b0
      try clear c36
      try clear c36b0
      try clear c38
      try clear c42
      try clear c46
      try clear c49
      try clear c49b0
      try clear c51
      try clear c51b0
      try clear p53
      try clear q53
      try clear hx53
      try clear hcz16_0
      try clear hcz16_1
      try clear hcz39_0
      try clear hcz39_1
      try clear hcz39_2
      try clear hcz39_3
      try clear hcz40_0
      try clear hcz40_1
      try clear hcz43_0
      try clear hcz43_1
      try clear hcz43_2
      try clear hcz43_3
      try clear hcz44_0
      try clear hcz44_1
      try clear hcz47_0
      try clear hcz47_1
      try clear hcz47_2
      try clear hcz47_3
      try clear hcz48_0
      try clear hcz48_1
      try clear hcz50_0
      try clear hcz50_1
      try clear hcz52_0
      try clear hcz52_1
      try clear hcz53_0
      try clear hcz53_1
      try clear hfz16_0
      try clear hfz16_1
      try clear hfz39_0
      try clear hfz39_1
      try clear hfz39_2
      try clear hfz39_3
      try clear hfz40_0
      try clear hfz40_1
      try clear hfz43_0
      try clear hfz43_1
      try clear hfz43_2
      try clear hfz43_3
      try clear hfz44_0
      try clear hfz44_1
      try clear hfz47_0
      try clear hfz47_1
      try clear hfz47_2
      try clear hfz47_3
      try clear hfz48_0
      try clear hfz48_1
      try clear hfz50_0
      try clear hfz50_1
      try clear hfz52_0
      try clear hfz52_1
      try clear hfz53_0
      try clear hfz53_1
      try clear hx530_0
      try clear hx530_1
      try clear hx530_2
      try clear hx530_3
      try clear p2
      try clear p530
      try clear q530
      obtain ⟨kq, HA, HJ29, HO_9, BK512, HB⟩ := hcut;cases kq with
      | zero => exact absurd HA.out (by simp [corrodylaw06_DatesEither.j2])
      | succ kj29 =>
       have H := HA.out;clear HA;simp only [corrodylaw06_DatesEither.j2] at H;by_cases c54 : t525 = true
       ·subst c54;have H1 : (if (t524.length : Int) = (l0.length : Int) then (corrodylaw06_DatesEither.l1 kj29 l0 t511 false t524 (t524.length : Int) 0) else (some false)) = some r := by rw [if_pos rfl] at H; exact H
        clear H;have H := H1;clear H1;by_cases c55 : (t524.length : Int) = (l0.length : Int)
        ·rw [if_pos c55] at H;have c55b0 : ((t524.length : Int) == (l0.length : Int)) = true := beq_iff_eq.mpr c55;have c55b1 : ((t524.length : Int) != (l0.length : Int)) = false := bne_eq_false_iff_eq.mpr c55;have c55b2 : (t524.length == l0.length) = true := by first | simpa using c55 | (simp at c55 ⊢; omega)
         clear c55;have H' := Aside0.mk H;clear H;obtain ⟨Ao56, co56, eo56⟩ := Kd.R_slice HO_9.out;subst eo56;go_wp2;go_loopg [15, 120] kj29 (fun kq v15 v120 w' => ∃ (x15_3 : Bool) (x120_3 : Int), v15 = .bool x15_3 ∧ v120 = .int .i64 x120_3 ∧ Aside0 (corrodylaw06_DatesEither.l1 kq l0 t511 x15_3 t524 (t524.length : Int) x120_3 = some r) ∧ Aside0 (kq ≤ kj29) ∧ Aside0 (Kd.R (Kd.int .i64) 3 w' w.heap.size (fun _ => True) (.slice Ao56 t524.length co56) t524) ∧ Aside0 (w'.heap[gb512]? = some (.cells #[.int .i64 t509, .int .i64 t510] 64 (0, 0))) ∧ Aside0 (Below w.heap.size w w'))
         case atStart => exact ⟨(false), (0), (by first | rfl | (simp; done) | (simp [*]; done)), (by first | rfl | (simp; done) | (simp [*]; done)), H', ⟨Nat.le_refl _⟩, ⟨by (with_reducible repeat (first | apply Kd.R_alloc | apply Kd.R_drewN | apply Kd.R_drew)); exact HO_9.out⟩, ⟨by (with_reducible repeat (first | refine blk_drewN ?_ _ | refine blk_drew ?_ | refine blk_alloc ?_ _)); exact BK512.out⟩, ⟨by repeat (first | (with_reducible first | exact HB.out | apply below_alloc | apply pw_below_drewN | apply below_drew1 | refine below_set ?_ GE512.out) | exact HB.out)⟩⟩
         case round =>
          clear H';try clear c1
          try clear c2
          try clear p2
          try clear c3
          try clear c4
          try clear c5
          try clear p5
          try clear q5
          try clear hx5
          try clear p6
          try clear c10
          try clear c10b0
          try clear c10b1
          try clear c18
          try clear c25
          try clear c25b0
          try clear c25b1
          try clear c26
          try clear c26b0
          try clear c27
          try clear c27b0
          try clear c28
          try clear c28b0
          try clear c28b1
          try clear c29
          try clear c31
          try clear c31b0
          try clear c31b1
          try clear c32
          try clear c32b0
          try clear c33
          try clear c33b0
          try clear c34
          try clear c34b0
          try clear c35
          try clear c35b0
          try clear c36
          try clear c36b0
          try clear c38
          try clear c42
          try clear c46
          try clear c49
          try clear c49b0
          try clear c51
          try clear c51b0
          try clear p53
          try clear q53
          try clear hx53
          try clear c54
          try clear c55
          try clear c55b0
          try clear c55b1
          try clear c55b2
          try clear hcz16_0
          try clear hcz16_1
          try clear hcz39_0
          try clear hcz39_1
          try clear hcz39_2
          try clear hcz39_3
          try clear hcz40_0
          try clear hcz40_1
          try clear hcz43_0
          try clear hcz43_1
          try clear hcz43_2
          try clear hcz43_3
          try clear hcz44_0
          try clear hcz44_1
          try clear hcz47_0
          try clear hcz47_1
          try clear hcz47_2
          try clear hcz47_3
          try clear hcz48_0
          try clear hcz48_1
          try clear hcz50_0
          try clear hcz50_1
          try clear hcz52_0
          try clear hcz52_1
          try clear hcz53_0
          try clear hcz53_1
          try clear hfz16_0
          try clear hfz16_1
          try clear hfz39_0
          try clear hfz39_1
          try clear hfz39_2
          try clear hfz39_3
          try clear hfz40_0
          try clear hfz40_1
          try clear hfz43_0
          try clear hfz43_1
          try clear hfz43_2
          try clear hfz43_3
          try clear hfz44_0
          try clear hfz44_1
          try clear hfz47_0
          try clear hfz47_1
          try clear hfz47_2
          try clear hfz47_3
          try clear hfz48_0
          try clear hfz48_1
          try clear hfz50_0
          try clear hfz50_1
          try clear hfz52_0
          try clear hfz52_1
          try clear hfz53_0
          try clear hfz53_1
          try clear hx530_0
          try clear hx530_1
          try clear hx530_2
          try clear hx530_3
          try clear p2
          try clear p5
          try clear p53
          try clear p530
          try clear p6
          try clear q5
          try clear q53
          try clear q530
          obtain ⟨x15_3, x120_3, rfl, rfl, HA, HK3, HO_118, BK512, HB⟩ := hrel;cases gk with
          | zero => exact absurd HA.out (by simp [corrodylaw06_DatesEither.l1])
          | succ k3 =>
           have H := HA.out;clear HA;simp only [corrodylaw06_DatesEither.l1] at H;by_cases c57 : x120_3 < (t524.length : Int)
           ·rw [if_pos c57] at H;have c57b0 : decide (x120_3 < (t524.length : Int)) = true := decide_eq_true c57;clear c57;by_cases c58 : 0 ≤ x120_3
            ·rw [if_pos c58] at H;have c58b0 : decide (0 ≤ x120_3) = true := decide_eq_true c58;clear c58;by_cases c59 : x120_3 < (t524.length : Int)
             ·rw [if_pos c59] at H;have c59b0 : decide (x120_3 < (t524.length : Int)) = true := decide_eq_true c59;clear c59;by_cases c60 : x15_3 = true
              ·subst c60;have H1 : (corrodylaw06_DatesEither.l1 k3 l0 t511 true t524 (t524.length : Int) (wrap64 (x120_3 + 1))) = some r := by rw [if_pos rfl] at H; exact H
               clear H;have H := H1;clear H1;have H' := Aside0.mk H;clear H;have p533 : 0 ≤ (x120_3 : Int) := of_decide_eq_true (by first | (with_reducible assumption) | assumption);have q533 : x120_3 < (t524.length : Int) := of_decide_eq_true (by first | (with_reducible assumption) | assumption);obtain ⟨ad533, e533, hx533_0⟩ := Kd.at_int (Kd.R_reads' HO_118.out).2.2 x120_3 p533 q533;cases e533;replace p533 := eq_true p533;replace q533 := eq_true q533;go_wp2;go_roundg k3
               case measure => have := HJ10.out; have := HJ29.out; have := HK3.out; omega
               case rel => exact ⟨(true), (wrap64 (x120_3 + 1)), (by first | rfl | (simp; done) | (simp [*]; done)), (by first | rfl | (simp; done) | (simp [*]; done)), H', ⟨by have := HJ10.out; have := HJ29.out; have := HK3.out; omega⟩, ⟨by (with_reducible repeat (first | apply Kd.R_alloc | apply Kd.R_drewN | apply Kd.R_drew)); exact HO_118.out⟩, ⟨by (with_reducible repeat (first | refine blk_drewN ?_ _ | refine blk_drew ?_ | refine blk_alloc ?_ _)); exact BK512.out⟩, ⟨by repeat (first | (with_reducible first | exact HB.out | apply below_alloc | apply pw_below_drewN | apply below_drew1 | refine below_set ?_ GE512.out) | exact HB.out)⟩⟩
              ·replace c60 := Bool.eq_false_iff.mpr c60;subst c60;have H1 : (if x120_3 < (l0.length : Int) then (corrodylaw06_DatesEither.l1 k3 l0 t511 (decide ((rd t524 x120_3) > ((rd_T43 l0 x120_3).f2))) t524 (t524.length : Int) (wrap64 (x120_3 + 1))) else (none)) = some r := by rw [if_neg (show ¬ (false = true) by decide)] at H; exact H
               clear H;have H := H1;clear H1;by_cases c61 : x120_3 < (l0.length : Int)
               ·rw [if_pos c61] at H;have c61b0 : decide (x120_3 < (l0.length : Int)) = true := decide_eq_true c61;clear c61;have H' := Aside0.mk H;clear H;have p533 : 0 ≤ (x120_3 : Int) := of_decide_eq_true (by first | (with_reducible assumption) | assumption);have q533 : x120_3 < (t524.length : Int) := of_decide_eq_true (by first | (with_reducible assumption) | assumption);obtain ⟨ad533, e533, hx533_0⟩ := Kd.at_int (Kd.R_reads' HO_118.out).2.2 x120_3 p533 q533;cases e533;replace p533 := eq_true p533;replace q533 := eq_true q533;have p534 : 0 ≤ (x120_3 : Int) := of_decide_eq_true (by first | (with_reducible assumption) | assumption);have q534 : x120_3 < (l0.length : Int) := of_decide_eq_true (by first | (with_reducible assumption) | assumption);obtain ⟨ad534, e534, hx534_0, hx534_1, hx534_2, hx534_3⟩ := at_T43 HR0.out x120_3 p534 q534;cases e534;replace hx534_0 := (HB.out.cell (World.block_lt_of_cell? w _ hx534_0)).trans hx534_0;replace hx534_1 := (HB.out.cell (World.block_lt_of_cell? w _ hx534_1)).trans hx534_1;replace hx534_2 := (HB.out.cell (World.block_lt_of_cell? w _ hx534_2)).trans hx534_2;replace hx534_3 := (HB.out.cell (World.block_lt_of_cell? w _ hx534_3)).trans hx534_3;replace p534 := eq_true p534;replace q534 := eq_true q534;go_wp2;go_roundg k3
                case measure => have := HJ10.out; have := HJ29.out; have := HK3.out; omega
                case rel => exact ⟨(decide ((rd t524 x120_3) > ((rd_T43 l0 x120_3).f2))), (wrap64 (x120_3 + 1)), (by first | rfl | (simp; done) | (simp [*]; done)), (by first | rfl | (simp; done) | (simp [*]; done)), H', ⟨by have := HJ10.out; have := HJ29.out; have := HK3.out; omega⟩, ⟨by (with_reducible repeat (first | apply Kd.R_alloc | apply Kd.R_drewN | apply Kd.R_drew)); exact HO_118.out⟩, ⟨by (with_reducible repeat (first | refine blk_drewN ?_ _ | refine blk_drew ?_ | refine blk_alloc ?_ _)); exact BK512.out⟩, ⟨by repeat (first | (with_reducible first | exact HB.out | apply below_alloc | apply pw_below_drewN | apply below_drew1 | refine below_set ?_ GE512.out) | exact HB.out)⟩⟩
               ·rw [if_neg c61] at H;exact absurd H (by simp)
             ·rw [if_neg c59] at H;exact absurd H (by simp)
            ·rw [if_neg c58] at H;exact absurd H (by simp)
           ·rw [if_neg c57] at H;have c57b0 : decide (x120_3 < (t524.length : Int)) = false := decide_eq_false c57;clear c57;by_cases c62 : x15_3 = true
            ·subst c62;have H1 : ((corrodylaw06_awake.f k3).bind fun t535 => (some t535)) = some r := by rw [if_pos rfl] at H; exact H
             clear H;have H := H1;clear H1;replace H := Option.bind_eq_some_iff.mp H;obtain ⟨t535, A630, H⟩ := H;replace H : (some t535) = some r := H;have A63 := Aside0.mk A630;clear A630;obtain rfl := Option.some.inj H;go_wp2_with (first | (go_at_call 20; (with_reducible refine (corrodylaw06_awake.calls k3  t535 _ A63.out).mono ?_); rintro e w64 ⟨rfl, hb⟩; have n0_ := Aside0.mk (Kd.R_below (by (with_reducible repeat (first | apply Kd.R_alloc | apply Kd.R_drewN | apply Kd.R_drew)); exact HO_118.out) hb); have n1_ := Aside0.mk (blk_below (g := gb512) (o := .cells #[.int .i64 t509, .int .i64 t510] 64 (0, 0)) (by (with_reducible repeat (first | refine blk_drewN ?_ _ | refine blk_drew ?_ | refine blk_alloc ?_ _)); exact BK512.out) hb); have n2_ := Aside0.mk (below_step (by repeat (first | (with_reducible first | exact HB.out | apply below_alloc | apply pw_below_drewN | apply below_drew1 | refine below_set ?_ GE512.out) | exact HB.out)) hb); clear HO_118; clear BK512; clear HB; have HO_118 := n0_; have BK512 := n1_; have HB := n2_; clear n0_ n1_ n2_; (try clear hb); (try clear hb2); (try clear hk); (try clear hi)));go_ret;exact ⟨by first | rfl | (simp [errW_none, errW_some] <;> rfl) | (simp [*, errW_none, errW_some] <;> rfl), by repeat (first | (with_reducible first | exact HB.out | apply below_alloc | apply pw_below_drewN | apply below_drew1 | refine below_set ?_ GE512.out) | exact HB.out)⟩
            ·replace c62 := Bool.eq_false_iff.mpr c62;subst c62;have H1 : (if t511 = 4 then ((corrodylaw06_awake.f k3).bind fun t536 => (some t536)) else (some false)) = some r := by rw [if_neg (show ¬ (false = true) by decide)] at H; exact H
             clear H;have H := H1;clear H1;by_cases c65 : t511 = 4
             ·rw [if_pos c65] at H;have c65b0 : (t511 == 4) = true := beq_iff_eq.mpr c65;have c65b1 : (t511 != 4) = false := bne_eq_false_iff_eq.mpr c65;clear c65;replace H := Option.bind_eq_some_iff.mp H;obtain ⟨t536, A660, H⟩ := H;replace H : (some t536) = some r := H;have A66 := Aside0.mk A660;clear A660;obtain rfl := Option.some.inj H;go_wp2_with (first | (go_at_call 20; (with_reducible refine (corrodylaw06_awake.calls k3  t536 _ A66.out).mono ?_); rintro e w67 ⟨rfl, hb⟩; have n0_ := Aside0.mk (Kd.R_below (by (with_reducible repeat (first | apply Kd.R_alloc | apply Kd.R_drewN | apply Kd.R_drew)); exact HO_118.out) hb); have n1_ := Aside0.mk (blk_below (g := gb512) (o := .cells #[.int .i64 t509, .int .i64 t510] 64 (0, 0)) (by (with_reducible repeat (first | refine blk_drewN ?_ _ | refine blk_drew ?_ | refine blk_alloc ?_ _)); exact BK512.out) hb); have n2_ := Aside0.mk (below_step (by repeat (first | (with_reducible first | exact HB.out | apply below_alloc | apply pw_below_drewN | apply below_drew1 | refine below_set ?_ GE512.out) | exact HB.out)) hb); clear HO_118; clear BK512; clear HB; have HO_118 := n0_; have BK512 := n1_; have HB := n2_; clear n0_ n1_ n2_; (try clear hb); (try clear hb2); (try clear hk); (try clear hi)));go_ret;exact ⟨by first | rfl | (simp [errW_none, errW_some] <;> rfl) | (simp [*, errW_none, errW_some] <;> rfl), by repeat (first | (with_reducible first | exact HB.out | apply below_alloc | apply pw_below_drewN | apply below_drew1 | refine below_set ?_ GE512.out) | exact HB.out)⟩
             ·rw [if_neg c65] at H;have c65b0 : (t511 == 4) = false := beq_eq_false_iff_ne.mpr c65;have c65b1 : (t511 != 4) = true := bne_iff_ne.mpr c65;exact Bool.noConfusion ((Option.some.inj H).trans hr)
        ·rw [if_neg c55] at H;have c55b0 : ((t524.length : Int) == (l0.length : Int)) = false := beq_eq_false_iff_ne.mpr c55;have c55b1 : ((t524.length : Int) != (l0.length : Int)) = true := bne_iff_ne.mpr c55;have c55b2 : (t524.length == l0.length) = false := by first | simpa using c55 | (simp at c55 ⊢; omega)
         exact Bool.noConfusion ((Option.some.inj H).trans hr)
       ·replace c54 := Bool.eq_false_iff.mpr c54;subst c54;have H1 : ((corrodylaw06_awake.f kj29).bind fun t532 => (some t532)) = some r := by rw [if_neg (show ¬ (false = true) by decide)] at H; exact H
        clear H;have H := H1;clear H1;replace H := Option.bind_eq_some_iff.mp H;obtain ⟨t532, A690, H⟩ := H;replace H : (some t532) = some r := H;have A69 := Aside0.mk A690;clear A690;obtain rfl := Option.some.inj H;go_wp2_with (first | ((with_reducible refine gate_callee (f := 20) rfl ?_); refine goesL_ (some 112) rfl rfl Try.func20 (by kernel_rfl) rfl #[] rfl (by (try simp only [List.map_toArray, List.map_cons, List.map_nil]); first | done | rfl | (simp only [List.length_drop, List.length_take]; rfl)) ?_; (with_reducible refine (corrodylaw06_awake.calls kj29  t532 _ A69.out).mono ?_); rintro e w70 ⟨rfl, hb⟩; refine ⟨_, rfl, ?_⟩; have n0_ := Aside0.mk (Kd.R_below (by (with_reducible repeat (first | apply Kd.R_alloc | apply Kd.R_drewN | apply Kd.R_drew)); exact HO_9.out) hb); have n1_ := Aside0.mk (blk_below (g := gb512) (o := .cells #[.int .i64 t509, .int .i64 t510] 64 (0, 0)) (by (with_reducible repeat (first | refine blk_drewN ?_ _ | refine blk_drew ?_ | refine blk_alloc ?_ _)); exact BK512.out) hb); have n2_ := Aside0.mk (below_step (by repeat (first | (with_reducible first | exact HB.out | apply below_alloc | apply pw_below_drewN | apply below_drew1 | refine below_set ?_ GE512.out) | exact HB.out)) hb); clear HO_9; clear BK512; clear HB; have HO_9 := n0_; have BK512 := n1_; have HB := n2_; clear n0_ n1_ n2_; (try clear hb); (try clear hb2); (try clear hk); (try clear hi)));go_ret;exact ⟨by first | rfl | (simp [errW_none, errW_some] <;> rfl) | (simp [*, errW_none, errW_some] <;> rfl), by repeat (first | (with_reducible first | exact HB.out | apply below_alloc | apply pw_below_drewN | apply below_drew1 | refine below_set ?_ GE512.out) | exact HB.out)⟩
 ·rw [if_neg c10] at H;have c10b0 : (t517 == 0) = false := beq_eq_false_iff_ne.mpr c10;have c10b1 : (t517 != 0) = true := bne_iff_ne.mpr c10;by_cases c71 : t511 = 2
  ·rw [if_pos c71] at H;have c71b0 : (t511 == 2) = true := beq_iff_eq.mpr c71;have c71b1 : (t511 != 2) = false := bne_eq_false_iff_eq.mpr c71;clear c71;by_cases c72 : t517 = 2
   ·rw [if_pos c72] at H;have c72b0 : (t517 == 2) = true := beq_iff_eq.mpr c72;have c72b1 : (t517 != 2) = false := bne_eq_false_iff_eq.mpr c72;clear c72;by_cases c73 : t526 = 2
    ·rw [if_pos c73] at H;have c73b0 : (t526 == 2) = true := beq_iff_eq.mpr c73;have c73b1 : (t526 != 2) = false := bne_eq_false_iff_eq.mpr c73;clear c73;replace H := Option.bind_eq_some_iff.mp H;obtain ⟨t529, A740, H⟩ := H;replace H : (some t529) = some r := H;have A74 := Aside0.mk A740;clear A740;obtain rfl := Option.some.inj H;go_enter Try.func10, Try.ntmps10;go_wp2_with (first | ((with_reducible refine gate_callee (f := 18) rfl ?_); refine goesL_ (some 20) rfl rfl Try.func18 (by kernel_rfl) rfl #[.slice A0 l0.length c0] rfl (by (try simp only [List.map_toArray, List.map_cons, List.map_nil]); first | done | rfl | (simp only [List.length_drop, List.length_take]; rfl)) ?_; (with_reducible refine (corrodylaw06_Of.calls k _ _ l0 t506 _ ?side1 ?side2 A3.out).mono ?_); (case side1 => repeat (first | exact HR0.out | (with_reducible refine Kd.C_alloc ?_ _) | (with_reducible refine Kd.C_drewN ?_ _) | (with_reducible refine Kd.C_drew ?_))); (case side2 => exact HC0.out); rintro e w75 ⟨v507, rfl, ho0, hb⟩; refine ⟨_, rfl, ?_⟩; have n0_ := Aside0.mk (Kd.R_lower ho0 (below_size (by repeat (first | (with_reducible first | exact HB.out | apply below_alloc | apply pw_below_drewN | apply below_drew1) | exact HB.out)))); have n1_ := Aside0.mk (below_step (by repeat (first | (with_reducible first | exact HB.out | apply below_alloc | apply pw_below_drewN | apply below_drew1) | exact HB.out)) hb); clear HB; have HO508 := n0_; have HB := n1_; clear n0_ n1_; (try clear hb); (try clear hb2); (try clear hk); (try clear hi); (try clear ho0); obtain ⟨Ao76, co76, eo76⟩ := Kd.R_slice HO508.out; subst eo76) | ((with_reducible refine gate_callee (f := 35) rfl ?_); refine goesL_ (some 21) rfl rfl Try.func35 (by kernel_rfl) rfl #[.slice Ao76 t506.length co76] rfl (by (try simp only [List.map_toArray, List.map_cons, List.map_nil]); first | done | rfl | (simp only [List.length_drop, List.length_take]; rfl)) ?_; (with_reducible refine (dates_Overload.calls k _ _ t506 t509 t510 t511 _ ?side1 ?side2 A4.out).mono ?_); (case side1 => repeat (first | exact (Kd.R_reads' HO508.out).2.2 | (with_reducible refine Kd.C_alloc ?_ _) | (with_reducible refine Kd.C_drewN ?_ _) | (with_reducible refine Kd.C_drew ?_))); (case side2 => exact (Kd.R_reads' HO508.out).2.1); rintro e w77 ⟨rfl, hb⟩; refine ⟨_, rfl, ?_⟩; have n0_ := Aside0.mk (Kd.R_below (by (with_reducible repeat (first | apply Kd.R_alloc | apply Kd.R_drewN | apply Kd.R_drew)); exact HO508.out) hb); have n1_ := Aside0.mk (below_step (by repeat (first | (with_reducible first | exact HB.out | apply below_alloc | apply pw_below_drewN | apply below_drew1) | exact HB.out)) hb); clear HO508; clear HB; have HO508 := n0_; have HB := n1_; clear n0_ n1_; (try clear hb); (try clear hb2); (try clear hk); (try clear hi)) | ((with_reducible refine gate_dst (N := 5) rfl ?_); refine box_event ?hg (N := 5) ?hd (cs := #[.int .i64 0, .int .i64 0]) (t := 64) ?hr ?_; (case hd => rfl); (case hg => rfl); (case hr => first | (go_simp; done) | (go_simp; rfl)); intro gb512 hg w78 hbox hb; have n0_ := Aside0.mk (Kd.R_below (by (with_reducible repeat (first | apply Kd.R_alloc | apply Kd.R_drewN | apply Kd.R_drew)); exact HO508.out) hb); have n1_ := Aside0.mk (below_step (by repeat (first | (with_reducible first | exact HB.out | apply below_alloc | apply pw_below_drewN | apply below_drew1) | exact HB.out)) hb); have n2_ := Aside0.mk (hbox); have n3_ := Aside0.mk ((by rw [hg]; exact (below_size (by repeat (first | (with_reducible first | exact HB.out | apply below_alloc | apply pw_below_drewN | apply below_drew1) | exact HB.out))) : w.heap.size ≤ gb512)); have n4_ := Aside0.mk ((by rw [hg]; exact (below_size (by repeat (first | (with_reducible first | exact HB.out | apply below_alloc | apply pw_below_drewN | apply below_drew1) | exact HB.out))) : w.heap.size ≤ gb512)); clear HO508; clear HB; have HO508 := n0_; have HB := n1_; have BK512 := n2_; have GW512 := n3_; have GE512 := n4_; clear n0_ n1_ n2_ n3_ n4_; clear hb hbox hg; have hcz79_0 : w78.cell? ⟨gb512, 0, none⟩ = some (.int .i64 0) := (blk_cell BK512.out 0).trans rfl; have hcz79_1 : w78.cell? ⟨gb512, 1, none⟩ = some (.int .i64 0) := (blk_cell BK512.out 1).trans rfl; have hfz79_0 := blk_frozen BK512.out 0; have hfz79_1 := blk_frozen BK512.out 1) | ((with_reducible refine gate_callee (f := 18) rfl ?_); refine goesL_ (some 26) rfl rfl Try.func18 (by kernel_rfl) rfl #[.slice A0 l0.length c0] rfl (by (try simp only [List.map_toArray, List.map_cons, List.map_nil]); first | done | rfl | (simp only [List.length_drop, List.length_take]; rfl)) ?_; (with_reducible refine (corrodylaw06_Of.calls k _ _ l0 t513 _ ?side1 ?side2 A5.out).mono ?_); (case side1 => exact Kd.C_below HR0.out (by repeat (first | (with_reducible first | exact HB.out | apply below_alloc | apply pw_below_drewN | apply below_drew1 | refine below_set ?_ GE512.out) | exact HB.out))); (case side2 => exact HC0.out); rintro e w80 ⟨v514, rfl, ho0, hb⟩; refine ⟨_, rfl, ?_⟩; have n0_ := Aside0.mk (Kd.R_elder' (by (with_reducible repeat (first | apply Kd.R_alloc | apply Kd.R_drewN | apply Kd.R_drew)); exact (Kd.R_mono (Kd.R_far (p := ⟨gb512, 1, none⟩) (Kd.R_far (p := ⟨gb512, 0, none⟩) (Kd.R_types HO508.out BK512.out (by decide)) (fun _ hk => hk.2) (.int .i64 t509)) (fun _ hk => hk.2) (.int .i64 t510)) (fun _ h_ => h_.1))) (Kd.R_base ho0) hb); have n1_ := Aside0.mk (Kd.R_lower (Kd.R_new' ho0 (Kd.R_lt (by (with_reducible repeat (first | apply Kd.R_alloc | apply Kd.R_drewN | apply Kd.R_drew)); exact (Kd.R_mono (Kd.R_far (p := ⟨gb512, 1, none⟩) (Kd.R_far (p := ⟨gb512, 0, none⟩) (Kd.R_types HO508.out BK512.out (by decide)) (fun _ hk => hk.2) (.int .i64 t509)) (fun _ hk => hk.2) (.int .i64 t510)) (fun _ h_ => h_.1))))) (below_size (by repeat (first | (with_reducible first | exact HB.out | apply below_alloc | apply pw_below_drewN | apply below_drew1 | refine below_set ?_ GE512.out) | exact HB.out)))); have n2_ := Aside0.mk (blk_below (g := gb512) (o := .cells #[.int .i64 t509, .int .i64 t510] 64 (0, 0)) (by (with_reducible repeat (first | refine blk_drewN ?_ _ | refine blk_drew ?_ | refine blk_alloc ?_ _)); refine blk_put (cs := #[.int .i64 t509, .int .i64 0]) ?_ 1 _ rfl; (with_reducible repeat (first | refine blk_drewN ?_ _ | refine blk_drew ?_ | refine blk_alloc ?_ _)); refine blk_put (cs := #[.int .i64 0, .int .i64 0]) ?_ 0 _ rfl; (with_reducible repeat (first | refine blk_drewN ?_ _ | refine blk_drew ?_ | refine blk_alloc ?_ _)); exact BK512.out) hb); have n3_ := Aside0.mk (below_step (by repeat (first | (with_reducible first | exact HB.out | apply below_alloc | apply pw_below_drewN | apply below_drew1 | refine below_set ?_ GE512.out) | exact HB.out)) hb); clear HO508; clear BK512; clear HB; have HO508 := n0_; have HO515 := n1_; have BK512 := n2_; have HB := n3_; clear n0_ n1_ n2_ n3_; (try clear hb); (try clear hb2); (try clear hk); (try clear hi); (try clear ho0); obtain ⟨Ao81, co81, eo81⟩ := Kd.R_slice HO515.out; subst eo81) | ((with_reducible refine gate_callee (f := 25) rfl ?_); refine goesL_ (some 27) rfl rfl Try.func25 (by kernel_rfl) rfl #[.slice Ao81 t513.length co81] rfl (by (try simp only [List.map_toArray, List.map_cons, List.map_nil]); first | done | rfl | (simp only [List.length_drop, List.length_take]; rfl)) ?_; (with_reducible refine (dates_Delay.calls k _ _ t513 t516 t517 _ ?side1 ?side2 A6.out).mono ?_); (case side1 => repeat (first | exact (Kd.R_reads' HO515.out).2.2 | (with_reducible refine Kd.C_alloc ?_ _) | (with_reducible refine Kd.C_drewN ?_ _) | (with_reducible refine Kd.C_drew ?_))); (case side2 => exact (Kd.R_reads' HO515.out).2.1); rintro e w82 ⟨rfl, hb⟩; refine ⟨_, rfl, ?_⟩; have n0_ := Aside0.mk (Kd.R_below (by (with_reducible repeat (first | apply Kd.R_alloc | apply Kd.R_drewN | apply Kd.R_drew)); exact HO508.out) hb); have n1_ := Aside0.mk (Kd.R_below (by (with_reducible repeat (first | apply Kd.R_alloc | apply Kd.R_drewN | apply Kd.R_drew)); exact HO515.out) hb); have n2_ := Aside0.mk (blk_below (g := gb512) (o := .cells #[.int .i64 t509, .int .i64 t510] 64 (0, 0)) (by (with_reducible repeat (first | refine blk_drewN ?_ _ | refine blk_drew ?_ | refine blk_alloc ?_ _)); exact BK512.out) hb); have n3_ := Aside0.mk (below_step (by repeat (first | (with_reducible first | exact HB.out | apply below_alloc | apply pw_below_drewN | apply below_drew1 | refine below_set ?_ GE512.out) | exact HB.out)) hb); clear HO508; clear HO515; clear BK512; clear HB; have HO508 := n0_; have HO515 := n1_; have BK512 := n2_; have HB := n3_; clear n0_ n1_ n2_ n3_; (try clear hb); (try clear hb2); (try clear hk); (try clear hi)) | ((with_reducible refine gate_callee (f := 18) rfl ?_); refine goesL_ (some 32) rfl rfl Try.func18 (by kernel_rfl) rfl #[.slice A0 l0.length c0] rfl (by (try simp only [List.map_toArray, List.map_cons, List.map_nil]); first | done | rfl | (simp only [List.length_drop, List.length_take]; rfl)) ?_; (with_reducible refine (corrodylaw06_Of.calls k _ _ l0 t518 _ ?side1 ?side2 A7.out).mono ?_); (case side1 => repeat (first | exact (Kd.C_below HR0.out HB.out) | (with_reducible refine Kd.C_alloc ?_ _) | (with_reducible refine Kd.C_drewN ?_ _) | (with_reducible refine Kd.C_drew ?_))); (case side2 => exact HC0.out); rintro e w83 ⟨v519, rfl, ho0, hb⟩; refine ⟨_, rfl, ?_⟩; have n0_ := Aside0.mk (Kd.R_elder' (by (with_reducible repeat (first | apply Kd.R_alloc | apply Kd.R_drewN | apply Kd.R_drew)); exact HO508.out) (Kd.R_base ho0) hb); have n1_ := Aside0.mk (Kd.R_elder' (by (with_reducible repeat (first | apply Kd.R_alloc | apply Kd.R_drewN | apply Kd.R_drew)); exact HO515.out) (Kd.R_base ho0) hb); have n2_ := Aside0.mk (Kd.R_lower (Kd.R_new' (Kd.R_new' ho0 (Kd.R_lt (by (with_reducible repeat (first | apply Kd.R_alloc | apply Kd.R_drewN | apply Kd.R_drew)); exact HO508.out))) (Kd.R_lt (by (with_reducible repeat (first | apply Kd.R_alloc | apply Kd.R_drewN | apply Kd.R_drew)); exact HO515.out))) (below_size (by repeat (first | (with_reducible first | exact HB.out | apply below_alloc | apply pw_below_drewN | apply below_drew1 | refine below_set ?_ GE512.out) | exact HB.out)))); have n3_ := Aside0.mk (blk_below (g := gb512) (o := .cells #[.int .i64 t509, .int .i64 t510] 64 (0, 0)) (by (with_reducible repeat (first | refine blk_drewN ?_ _ | refine blk_drew ?_ | refine blk_alloc ?_ _)); exact BK512.out) hb); have n4_ := Aside0.mk (below_step (by repeat (first | (with_reducible first | exact HB.out | apply below_alloc | apply pw_below_drewN | apply below_drew1 | refine below_set ?_ GE512.out) | exact HB.out)) hb); clear HO508; clear HO515; clear BK512; clear HB; have HO508 := n0_; have HO515 := n1_; have HO520 := n2_; have BK512 := n3_; have HB := n4_; clear n0_ n1_ n2_ n3_ n4_; (try clear hb); (try clear hb2); (try clear hk); (try clear hi); (try clear ho0)) | ((with_reducible refine gate_callee (f := 33) rfl ?_); refine goesL_ (some 34) rfl rfl Try.func33 (by kernel_rfl) rfl #[.slice A1 l1.length c1] rfl (by (try simp only [List.map_toArray, List.map_cons, List.map_nil]); first | done | rfl | (simp only [List.length_drop, List.length_take]; rfl)) ?_; (with_reducible refine (corrodylaw06_pieces.calls k _ _ l1 t521 _ ?side1 ?side2 A8.out).mono ?_); (case side1 => repeat (first | exact (Kd.C_below HR1.out HB.out) | (with_reducible refine Kd.C_alloc ?_ _) | (with_reducible refine Kd.C_drewN ?_ _) | (with_reducible refine Kd.C_drew ?_))); (case side2 => exact HC1.out); rintro e w84 ⟨v522, rfl, ho0, hb⟩; refine ⟨_, rfl, ?_⟩; have n0_ := Aside0.mk (Kd.R_below (by (with_reducible repeat (first | apply Kd.R_alloc | apply Kd.R_drewN | apply Kd.R_drew)); exact HO508.out) hb); have n1_ := Aside0.mk (Kd.R_below (by (with_reducible repeat (first | apply Kd.R_alloc | apply Kd.R_drewN | apply Kd.R_drew)); exact HO515.out) hb); have n2_ := Aside0.mk (Kd.R_below (by (with_reducible repeat (first | apply Kd.R_alloc | apply Kd.R_drewN | apply Kd.R_drew)); exact HO520.out) hb); have n3_ := Aside0.mk (Kd.R_lower ho0 (below_size (by repeat (first | (with_reducible first | exact HB.out | apply below_alloc | apply pw_below_drewN | apply below_drew1 | refine below_set ?_ GE512.out) | exact HB.out)))); have n4_ := Aside0.mk (blk_below (g := gb512) (o := .cells #[.int .i64 t509, .int .i64 t510] 64 (0, 0)) (by (with_reducible repeat (first | refine blk_drewN ?_ _ | refine blk_drew ?_ | refine blk_alloc ?_ _)); exact BK512.out) hb); have n5_ := Aside0.mk (below_step (by repeat (first | (with_reducible first | exact HB.out | apply below_alloc | apply pw_below_drewN | apply below_drew1 | refine below_set ?_ GE512.out) | exact HB.out)) hb); clear HO508; clear HO515; clear HO520; clear BK512; clear HB; have HO508 := n0_; have HO515 := n1_; have HO520 := n2_; have HO523 := n3_; have BK512 := n4_; have HB := n5_; clear n0_ n1_ n2_ n3_ n4_ n5_; (try clear hb); (try clear hb2); (try clear hk); (try clear hi); (try clear ho0); obtain ⟨Ao85, co85, eo85⟩ := Kd.R_slice HO520.out; subst eo85; obtain ⟨Ao86, co86, eo86⟩ := Kd.R_slice HO523.out; subst eo86) | ((with_reducible refine gate_callee (f := 32) rfl ?_); refine goesL_ (some 35) rfl rfl Try.func32 (by kernel_rfl) rfl #[.slice Ao85 t518.length co85, .slice Ao86 t521.length co86] rfl (by (try simp only [List.map_toArray, List.map_cons, List.map_nil]); first | done | rfl | (simp only [List.length_drop, List.length_take]; rfl)) ?_; (with_reducible refine (dates_Check.calls k _ _ t518 _ _ t521 t524 t525 t526 _ ?side1 ?side2 ?side3 ?side4 A9.out).mono ?_); (case side1 => repeat (first | exact (Kd.R_reads' HO520.out).2.2 | (with_reducible refine Kd.C_alloc ?_ _) | (with_reducible refine Kd.C_drewN ?_ _) | (with_reducible refine Kd.C_drew ?_))); (case side2 => exact (Kd.R_reads' HO520.out).2.1); (case side3 => repeat (first | exact (Kd.R_reads' HO523.out).2.2 | (with_reducible refine Kd.C_alloc ?_ _) | (with_reducible refine Kd.C_drewN ?_ _) | (with_reducible refine Kd.C_drew ?_))); (case side4 => exact (Kd.R_reads' HO523.out).2.1); rintro e w87 ⟨v527, rfl, ho0, hb⟩; refine ⟨_, rfl, ?_⟩; have n0_ := Aside0.mk (Kd.R_below (by (with_reducible repeat (first | apply Kd.R_alloc | apply Kd.R_drewN | apply Kd.R_drew)); exact HO508.out) hb); have n1_ := Aside0.mk (Kd.R_below (by (with_reducible repeat (first | apply Kd.R_alloc | apply Kd.R_drewN | apply Kd.R_drew)); exact HO515.out) hb); have n2_ := Aside0.mk (Kd.R_below (by (with_reducible repeat (first | apply Kd.R_alloc | apply Kd.R_drewN | apply Kd.R_drew)); exact HO520.out) hb); have n3_ := Aside0.mk (Kd.R_below (by (with_reducible repeat (first | apply Kd.R_alloc | apply Kd.R_drewN | apply Kd.R_drew)); exact HO523.out) hb); have n4_ := Aside0.mk (Kd.R_lower ho0 (below_size (by repeat (first | (with_reducible first | exact HB.out | apply below_alloc | apply pw_below_drewN | apply below_drew1 | refine below_set ?_ GE512.out) | exact HB.out)))); have n5_ := Aside0.mk (blk_below (g := gb512) (o := .cells #[.int .i64 t509, .int .i64 t510] 64 (0, 0)) (by (with_reducible repeat (first | refine blk_drewN ?_ _ | refine blk_drew ?_ | refine blk_alloc ?_ _)); exact BK512.out) hb); have n6_ := Aside0.mk (below_step (by repeat (first | (with_reducible first | exact HB.out | apply below_alloc | apply pw_below_drewN | apply below_drew1 | refine below_set ?_ GE512.out) | exact HB.out)) hb); clear HO508; clear HO515; clear HO520; clear HO523; clear BK512; clear HB; have HO508 := n0_; have HO515 := n1_; have HO520 := n2_; have HO523 := n3_; have HO528 := n4_; have BK512 := n5_; have HB := n6_; clear n0_ n1_ n2_ n3_ n4_ n5_ n6_; (try clear hb); (try clear hb2); (try clear hk); (try clear hi); (try clear ho0)) | (go_at_call 20; (with_reducible refine (corrodylaw06_awake.calls k  t529 _ A74.out).mono ?_); rintro e w88 ⟨rfl, hb⟩; have n0_ := Aside0.mk (Kd.R_below (by (with_reducible repeat (first | apply Kd.R_alloc | apply Kd.R_drewN | apply Kd.R_drew)); exact HO508.out) hb); have n1_ := Aside0.mk (Kd.R_below (by (with_reducible repeat (first | apply Kd.R_alloc | apply Kd.R_drewN | apply Kd.R_drew)); exact HO515.out) hb); have n2_ := Aside0.mk (Kd.R_below (by (with_reducible repeat (first | apply Kd.R_alloc | apply Kd.R_drewN | apply Kd.R_drew)); exact HO520.out) hb); have n3_ := Aside0.mk (Kd.R_below (by (with_reducible repeat (first | apply Kd.R_alloc | apply Kd.R_drewN | apply Kd.R_drew)); exact HO523.out) hb); have n4_ := Aside0.mk (Kd.R_below (by (with_reducible repeat (first | apply Kd.R_alloc | apply Kd.R_drewN | apply Kd.R_drew)); exact HO528.out) hb); have n5_ := Aside0.mk (blk_below (g := gb512) (o := .cells #[.int .i64 t509, .int .i64 t510] 64 (0, 0)) (by (with_reducible repeat (first | refine blk_drewN ?_ _ | refine blk_drew ?_ | refine blk_alloc ?_ _)); exact BK512.out) hb); have n6_ := Aside0.mk (below_step (by repeat (first | (with_reducible first | exact HB.out | apply below_alloc | apply pw_below_drewN | apply below_drew1 | refine below_set ?_ GE512.out) | exact HB.out)) hb); clear HO508; clear HO515; clear HO520; clear HO523; clear HO528; clear BK512; clear HB; have HO508 := n0_; have HO515 := n1_; have HO520 := n2_; have HO523 := n3_; have HO528 := n4_; have BK512 := n5_; have HB := n6_; clear n0_ n1_ n2_ n3_ n4_ n5_ n6_; (try clear hb); (try clear hb2); (try clear hk); (try clear hi)))
     go_ret;exact ⟨by first | rfl | (simp [errW_none, errW_some] <;> rfl) | (simp [*, errW_none, errW_some] <;> rfl), by repeat (first | (with_reducible first | exact HB.out | apply below_alloc | apply pw_below_drewN | apply below_drew1 | refine below_set ?_ GE512.out) | exact HB.out)⟩
    ·rw [if_neg c73] at H;have c73b0 : (t526 == 2) = false := beq_eq_false_iff_ne.mpr c73;have c73b1 : (t526 != 2) = true := bne_iff_ne.mpr c73;exact Bool.noConfusion ((Option.some.inj H).trans hr)
   ·rw [if_neg c72] at H;have c72b0 : (t517 == 2) = false := beq_eq_false_iff_ne.mpr c72;have c72b1 : (t517 != 2) = true := bne_iff_ne.mpr c72;exact Bool.noConfusion ((Option.some.inj H).trans hr)
  ·rw [if_neg c71] at H;have c71b0 : (t511 == 2) = false := beq_eq_false_iff_ne.mpr c71;have c71b1 : (t511 != 2) = true := bne_iff_ne.mpr c71;exact Bool.noConfusion ((Option.some.inj H).trans hr)
end Go.Proofs.Ytaboleeclpllpaa.P
