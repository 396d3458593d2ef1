/-
The program's functions as plain functions, each with its contract (written by the kit's printer, driven by a program of this repo; some by hand), put together into one text.
Conditions: each contract's own.
-/
import Derived.Maps.OwnSet
import Derived.Test.YtaboleeclpllpaaClaimProg1

namespace Go.Proofs.Ytaboleeclpllpaa.P
open Go.RowKit Go.Proofs.YtaboleeclpllpaaW.PrintWords Go.Proofs.YtaboleeclpllpaaW.PrintLast Go.Proofs.YtaboleeclpllpaaW.PrintMore
attribute [local go_sem] max2_int min2_int max_two min_two max_three min_three max_four min_four
set_option linter.unusedVariables false
set_option linter.unusedSimpArgs false
def dates_jobs_ends.l0 : Nat → List (S48) → List Int → Int → List Int → Int → Int → Option (List Int)
  | 0, _, _, _, _, _, _ => none
  | k + 1, x0, x5, x6, x12, x13, x14 => if x14 < x13 then (if 0 ≤ x14 then (if x14 < (x12.length : Int) then (if 0 ≤ (rd x12 x14) then (if (rd x12 x14) < (x0.length : Int) then (if (rd x12 x14) < (x5.length : Int) then (dates_jobs_ends.l0 k x0 (x5.set ((rd x12 x14) : Int).toNat (wrap64 (x6 + ((rd_T48 x0 (rd x12 x14)).f0)))) (wrap64 (x6 + ((rd_T48 x0 (rd x12 x14)).f0))) x12 x13 (wrap64 (x14 + 1))) else (none)) else (none)) else (none)) else (none)) else (none)) else (some x5)
def dates_jobs_ends.f (k : Nat) (l0 : List (S48)) (l1 : List Int) : Option (List Int) := if 0 ≤ (l0.length : Int) then (if ((l0.length : Int) : Int).toNat ≤ 35184372088832 then (dates_jobs_ends.l0 k l0 (List.replicate ((l0.length : Int) : Int).toNat 0) 0 l1 (l1.length : Int) 0) else (none)) else (none)
set_option maxHeartbeats 8000000 in
set_option maxRecDepth 100000 in
theorem dates_jobs_ends.calls (k : Nat) (A0 : Option Addr) (c0 : Nat) (l0 : List (S48)) (A1 : Option Addr) (c1 : Nat) (l1 : List Int) (r : List Int) (w : World) (hr0 : Kd.C k48 w A0 l0.length l0) (hc0 : l0.length ≤ c0) (hr1 : Kd.C (Kd.int .i64) w A1 l1.length l1) (hc1 : l1.length ≤ c1) (h : dates_jobs_ends.f k l0 l1 = some r) :
    Calls Try.prog 62 #[.slice A0 l0.length c0, .slice A1 l1.length c1] w fun e w' => ∃ v0_ : Value, e = .returned (v0_) ∧ Kd.R (Kd.int .i64) 3 w' w.heap.size (fun _ => True) v0_ r ∧ Below w.heap.size w w' := by
 have HR0 := Aside0.mk hr0;have HC0 := Aside0.mk hc0;clear hr0 hc0;have HR1 := Aside0.mk hr1;have HC1 := Aside0.mk hc1;clear hr1 hc1;have HB := Aside0.mk (Below.refl w.heap.size w);have H : (if 0 ≤ (l0.length : Int) then (if ((l0.length : Int) : Int).toNat ≤ 35184372088832 then (dates_jobs_ends.l0 k l0 (List.replicate ((l0.length : Int) : Int).toNat 0) 0 l1 (l1.length : Int) 0) else (none)) else (none)) = some r := h;clear h;by_cases c3 : 0 ≤ (l0.length : Int)
 ·rw [if_pos c3] at H;have c3b0 := eq_true c3;have c3b1 : decide (0 ≤ (l0.length : Int)) = true := decide_eq_true c3;clear c3;by_cases c4 : ((l0.length : Int) : Int).toNat ≤ 35184372088832
  ·rw [if_pos c4] at H;have c4b0 := eq_true c4;have c4b1 : decide (((l0.length : Int) : Int).toNat ≤ 35184372088832) = true := decide_eq_true c4;clear c4;obtain ⟨y371, hy371⟩ : ∃ y_ : List Int, y_ = (List.replicate ((l0.length : Int) : Int).toNat 0) := ⟨_, rfl⟩
   replace H : (dates_jobs_ends.l0 k l0 y371 0 l1 (l1.length : Int) 0) = some r := by first | (rw [hy371]; with_reducible exact H) | (have H2_ := (Option.bind_some _ _).symm.trans H; rw [hy371]; with_reducible exact H2_) | (have H2_ := (Option.bind_some _ _).symm.trans H; with_reducible exact H2_) | with_reducible exact H | (rw [hy371]; exact H) | exact H
   have Ny371 := Aside0.mk hy371;clear hy371;have H' := Aside0.mk H;clear H;go_enter Try.func62, Try.ntmps62;go_wp2_with (first | ((with_reducible refine gate_dst (N := 11) rfl ?_); refine Kd.R_make (Kd.int .i64) _ 3 rfl (N := 11) rfl 41 _ _ rfl (l0.length : Int) rfl rfl Try.underlying41 (.int .i64 0) 8 info3 rfl (by decide) (by omega) 0 (ok := fun _ => True) (okp := fun _ => True) rfl (fun _ hk => hk) trivial (of_decide_eq_true (by first | (with_reducible assumption) | assumption)) (Nat.le_trans (Nat.mul_le_mul_right _ (of_decide_eq_true (by first | (with_reducible assumption) | assumption) : (l0.length : Int).toNat ≤ 35184372088832)) (by omega)) (Below.refl _ _) (Nat.le_refl _) ?_; intro v372 w5 ho6 hb hg_ hnew_; clear hg_ hnew_; (first | rw [← Ny371.out] at ho6 | (simp only [Int.reduceToNat] at ho6; rw [← Ny371.out] at ho6)); have n0_ := Aside0.mk (Kd.R_lower ho6 (below_size (by repeat (first | (with_reducible first | exact HB.out | apply below_alloc | apply pw_below_drewN | apply below_drew1) | exact HB.out)))); have n1_ := Aside0.mk (below_step (by repeat (first | (with_reducible first | exact HB.out | apply below_alloc | apply pw_below_drewN | apply below_drew1) | exact HB.out)) hb); clear HB; have HO373 := n0_; have HB := n1_; clear n0_ n1_; clear hb ho6));go_loopg [6, 14] k (fun kq v6 v14 w' => ∃ (x5_1 : List Int) (x6_1 : Int) (x14_1 : Int), v6 = .int .i64 x6_1 ∧ v14 = .int .i64 x14_1 ∧ Aside0 (dates_jobs_ends.l0 kq l0 x5_1 x6_1 l1 (l1.length : Int) x14_1 = some r) ∧ Aside0 (kq ≤ k) ∧ Aside0 (Kd.R (Kd.int .i64) 3 w' w.heap.size (fun _ => True) v372 x5_1) ∧ Aside0 (Below w.heap.size w w'))
   case atStart => exact ⟨(y371), (0), (0), (by first | rfl | (simp; done) | (simp [*]; done)), (by first | rfl | (simp; done) | (simp [*]; done)), H', ⟨Nat.le_refl _⟩, ⟨by (with_reducible repeat (first | apply Kd.R_alloc | apply Kd.R_drewN | apply Kd.R_drew)); exact HO373.out⟩, ⟨by repeat (first | (with_reducible first | exact HB.out | apply below_alloc | apply pw_below_drewN | apply below_drew1) | exact HB.out)⟩⟩
   case round =>
    clear H';try clear c1
    try clear p2
    try clear c3
    try clear c3b0
    try clear c3b1
    try clear c4
    try clear c4b0
    try clear c4b1
    try clear c6
    obtain ⟨x5_1, x6_1, x14_1, rfl, rfl, HA, HK1, HO_5, HB⟩ := hrel;cases gk with
    | zero => exact absurd HA.out (by simp [dates_jobs_ends.l0])
    | succ k1 =>
     have H := HA.out;clear HA;simp only [dates_jobs_ends.l0] at H;by_cases c7 : x14_1 < (l1.length : Int)
     ·rw [if_pos c7] at H;have c7b0 : decide (x14_1 < (l1.length : Int)) = true := decide_eq_true c7;clear c7;by_cases c8 : 0 ≤ x14_1
      ·rw [if_pos c8] at H;have c8b0 : decide (0 ≤ x14_1) = true := decide_eq_true c8;clear c8;by_cases c9 : x14_1 < (l1.length : Int)
       ·rw [if_pos c9] at H;have c9b0 : decide (x14_1 < (l1.length : Int)) = true := decide_eq_true c9;clear c9;by_cases c10 : 0 ≤ (rd l1 x14_1)
        ·rw [if_pos c10] at H;have c10b0 : decide (0 ≤ (rd l1 x14_1)) = true := decide_eq_true c10;clear c10;by_cases c11 : (rd l1 x14_1) < (l0.length : Int)
         ·rw [if_pos c11] at H;have c11b0 : decide ((rd l1 x14_1) < (l0.length : Int)) = true := decide_eq_true c11;clear c11;by_cases c12 : (rd l1 x14_1) < (x5_1.length : Int)
          ·rw [if_pos c12] at H;have c12b0 : decide ((rd l1 x14_1) < (x5_1.length : Int)) = true := decide_eq_true c12;clear c12;obtain ⟨y376, hy376⟩ : ∃ y_ : List Int, y_ = (x5_1.set ((rd l1 x14_1) : Int).toNat (wrap64 (x6_1 + ((rd_T48 l0 (rd l1 x14_1)).f0)))) := ⟨_, rfl⟩
           replace H : (dates_jobs_ends.l0 k1 l0 y376 (wrap64 (x6_1 + ((rd_T48 l0 (rd l1 x14_1)).f0))) l1 (l1.length : Int) (wrap64 (x14_1 + 1))) = some r := by first | (rw [hy376]; with_reducible exact H) | (have H2_ := (Option.bind_some _ _).symm.trans H; rw [hy376]; with_reducible exact H2_) | (have H2_ := (Option.bind_some _ _).symm.trans H; with_reducible exact H2_) | with_reducible exact H | (rw [hy376]; exact H) | exact H
           have Ny376 := Aside0.mk hy376;clear hy376;have H' := Aside0.mk H;clear H;have p374 : 0 ≤ (x14_1 : Int) := of_decide_eq_true (by first | (with_reducible assumption) | assumption);have q374 : x14_1 < (l1.length : Int) := of_decide_eq_true (by first | (with_reducible assumption) | assumption);obtain ⟨ad374, e374, hx374_0⟩ := Kd.at_int HR1.out x14_1 p374 q374;cases e374;replace hx374_0 := (HB.out.cell (World.block_lt_of_cell? w _ hx374_0)).trans hx374_0;replace p374 := eq_true p374;replace q374 := eq_true q374;have p375 : 0 ≤ ((rd l1 x14_1) : Int) := of_decide_eq_true (by first | (with_reducible assumption) | assumption);have q375 : (rd l1 x14_1) < (l0.length : Int) := of_decide_eq_true (by first | (with_reducible assumption) | assumption);obtain ⟨ad375, e375, hx375_0, hx375_1, hx375_2, hx375_3⟩ := at_T48 HR0.out (rd l1 x14_1) p375 q375;cases e375;replace hx375_0 := (HB.out.cell (World.block_lt_of_cell? w _ hx375_0)).trans hx375_0;replace hx375_1 := (HB.out.cell (World.block_lt_of_cell? w _ hx375_1)).trans hx375_1;replace hx375_2 := (HB.out.cell (World.block_lt_of_cell? w _ hx375_2)).trans hx375_2;replace hx375_3 := (HB.out.cell (World.block_lt_of_cell? w _ hx375_3)).trans hx375_3;replace p375 := eq_true p375;replace q375 := eq_true q375;have p13 : 0 ≤ ((rd l1 x14_1) : Int) := of_decide_eq_true (by first | (with_reducible assumption) | assumption);have q13 : ((rd l1 x14_1) : Int) < ((x5_1.length : Int) : Int) := of_decide_eq_true (by first | (with_reducible assumption) | assumption);obtain ⟨go13, co13, eo13, gb13, gl13, cl13, HG13⟩ := Kd.R_form HO_5.out (by omega);(first | cases eo13 | (injection eo13 with ea_ en_ ec_; (first | subst ea_ | (injection ea_ with ea_; subst ea_)); subst ec_; clear en_));have GB13 := Aside0.mk gb13;have GG13 := Aside0.mk HG13;clear gb13 gl13 HG13;obtain ⟨hx13_0, hf13_0⟩ := Kd.R_celln 0 HO_5.out ((rd l1 x14_1) : Int) p13 q13;replace p13 := eq_true p13;replace q13 := eq_true q13;have HP14 := Kd.R_putg HO_5.out ((rd l1 x14_1) : Int) (wrap64 (x6_1 + ((rd_T48 l0 (rd l1 x14_1)).f0)));go_wp2_with (first | ((with_reducible refine gate_store (t := 3) (p := 28) rfl ?_); refine store_event (t := 3) (p := 28) (v := ?vo_w15) (w1 := (wr.setCell ⟨go13, ((rd l1 x14_1) : Int).toNat, none⟩ (.int .i64 (wrap64 (x6_1 + ((rd_T48 l0 (rd l1 x14_1)).f0)))))) ?hg ?ho ?hn ?hr ?_; (case ho => rfl); (case hg => rfl); (case hn => rfl); (case hr => first | (go_simp; done) | (go_simp; rfl)); intro w15 hw; have hg : wr.grownBy w15 (some go13) := (by rw [hw]; exact HP14.2); have hp_ : Kd.R (Kd.int .i64) 3 w15 w.heap.size (fun _ => True) (.slice (some ⟨go13, 0, none⟩) x5_1.length co13) y376 := (by rw [hw, Ny376.out]; exact HP14.1); clear HP14; have n0_ := Aside0.mk (hp_); have n1_ := Aside0.mk ((by rw [hw]; exact below_set (HB.out) GB13.out : Below w.heap.size w w15)); clear HO_5; clear HB; have HO_5 := n0_; have HB := n1_; clear n0_ n1_; clear hg hw hp_));go_roundg k1
           case measure => have := HK1.out; omega
           case rel => exact ⟨(y376), (wrap64 (x6_1 + ((rd_T48 l0 (rd l1 x14_1)).f0))), (wrap64 (x14_1 + 1)), (by first | rfl | (simp; done) | (simp [*]; done)), (by first | rfl | (simp; done) | (simp [*]; done)), H', ⟨by have := HK1.out; omega⟩, ⟨by (with_reducible repeat (first | apply Kd.R_alloc | apply Kd.R_drewN | apply Kd.R_drew)); exact HO_5.out⟩, ⟨by repeat (first | (with_reducible first | exact HB.out | apply below_alloc | apply pw_below_drewN | apply below_drew1) | exact HB.out)⟩⟩
          ·rw [if_neg c12] at H;exact absurd H (by simp)
         ·rw [if_neg c11] at H;exact absurd H (by simp)
        ·rw [if_neg c10] at H;exact absurd H (by simp)
       ·rw [if_neg c9] at H;exact absurd H (by simp)
      ·rw [if_neg c8] at H;exact absurd H (by simp)
     ·rw [if_neg c7] at H;have c7b0 : decide (x14_1 < (l1.length : Int)) = false := decide_eq_false c7;clear c7;obtain rfl := Option.some.inj H;go_wp2;go_ret;exact ⟨_, by first | rfl | (simp [errW_none, errW_some] <;> rfl) | (simp [*, errW_none, errW_some] <;> rfl), by (with_reducible repeat (first | apply Kd.R_alloc | apply Kd.R_drewN | apply Kd.R_drew)); exact HO_5.out, by repeat (first | (with_reducible first | exact HB.out | apply below_alloc | apply pw_below_drewN | apply below_drew1) | exact HB.out)⟩
  ·rw [if_neg c4] at H;exact absurd H (by simp)
 ·rw [if_neg c3] at H;exact absurd H (by simp)
end Go.Proofs.Ytaboleeclpllpaa.P


namespace Go.Proofs.Ytaboleeclpllpaa.P
open Go.RowKit Go.Proofs.YtaboleeclpllpaaW.PrintWords Go.Proofs.YtaboleeclpllpaaW.PrintLast Go.Proofs.YtaboleeclpllpaaW.PrintMore
attribute [local go_sem] max2_int min2_int max_two min_two max_three min_three max_four min_four
set_option linter.unusedVariables false
set_option linter.unusedSimpArgs false
def dates_Ends.f (k : Nat) (l0 : List (S48)) (l1 : List Int) : Option (List Int × Int) := (dates_jobs_valid.f k l0).bind fun t377 => (if t377 = true then ((dates_jobs_order.f k l0 l1).bind fun t378 => (if t378 = true then ((dates_jobs_ends.f k l0 l1).bind fun t379 => (some (t379, 0))) else (some (([] : List Int), 2)))) else (some (([] : List Int), 2)))
set_option maxHeartbeats 8000000 in
set_option maxRecDepth 100000 in
theorem dates_Ends.calls (k : Nat) (A0 : Option Addr) (c0 : Nat) (l0 : List (S48)) (A1 : Option Addr) (c1 : Nat) (l1 : List Int) (r1 : List Int) (r2 : Int) (w : World) (hr0 : Kd.C k48 w A0 l0.length l0) (hc0 : l0.length ≤ c0) (hr1 : Kd.C (Kd.int .i64) w A1 l1.length l1) (hc1 : l1.length ≤ c1) (h : dates_Ends.f k l0 l1 = some (r1, r2)) :
    Calls Try.prog 27 #[.slice A0 l0.length c0, .slice A1 l1.length c1] w fun e w' => ∃ v0_ : Value, e = .returned (.tuple #[v0_, .int .i64 r2]) ∧ Kd.R (Kd.int .i64) 3 w' w.heap.size (fun _ => True) v0_ r1 ∧ Below w.heap.size w w' := by
 have HR0 := Aside0.mk hr0;have HC0 := Aside0.mk hc0;clear hr0 hc0;have HR1 := Aside0.mk hr1;have HC1 := Aside0.mk hc1;clear hr1 hc1;have HB := Aside0.mk (Below.refl w.heap.size w);have H : ((dates_jobs_valid.f k l0).bind fun t377 => (if t377 = true then ((dates_jobs_order.f k l0 l1).bind fun t378 => (if t378 = true then ((dates_jobs_ends.f k l0 l1).bind fun t379 => (some (t379, 0))) else (some (([] : List Int), 2)))) else (some (([] : List Int), 2)))) = some (r1, r2) := h;clear h;replace H := Option.bind_eq_some_iff.mp H;obtain ⟨t377, A30, H⟩ := H;replace H : (if t377 = true then ((dates_jobs_order.f k l0 l1).bind fun t378 => (if t378 = true then ((dates_jobs_ends.f k l0 l1).bind fun t379 => (some (t379, 0))) else (some (([] : List Int), 2)))) else (some (([] : List Int), 2))) = some (r1, r2) := H;have A3 := Aside0.mk A30;clear A30;by_cases c4 : t377 = true
 ·subst c4;have H1 : ((dates_jobs_order.f k l0 l1).bind fun t378 => (if t378 = true then ((dates_jobs_ends.f k l0 l1).bind fun t379 => (some (t379, 0))) else (some (([] : List Int), 2)))) = some (r1, r2) := by rw [if_pos rfl] at H; exact H
  clear H;have H := H1;clear H1;replace H := Option.bind_eq_some_iff.mp H;obtain ⟨t378, A50, H⟩ := H;replace H : (if t378 = true then ((dates_jobs_ends.f k l0 l1).bind fun t379 => (some (t379, 0))) else (some (([] : List Int), 2))) = some (r1, r2) := H;have A5 := Aside0.mk A50;clear A50;by_cases c6 : t378 = true
  ·subst c6;have H1 : ((dates_jobs_ends.f k l0 l1).bind fun t379 => (some (t379, 0))) = some (r1, r2) := by rw [if_pos rfl] at H; exact H
   clear H;have H := H1;clear H1;replace H := Option.bind_eq_some_iff.mp H;obtain ⟨t379, A70, H⟩ := H;replace H : (some (t379, 0)) = some (r1, r2) := H;have A7 := Aside0.mk A70;clear A70;simp only [Option.some.injEq, Prod.mk.injEq] at H;obtain ⟨rfl, rfl⟩ := H;go_enter Try.func27, Try.ntmps27;go_wp2_with (first | ((with_reducible refine gate_callee (f := 54) rfl ?_); refine goesL_ (some 9) rfl rfl Try.func54 (by kernel_rfl) rfl #[.slice A0 l0.length c0] rfl (by (try simp only [List.map_toArray, List.map_cons, List.map_nil]); first | done | rfl | (simp only [List.length_drop, List.length_take]; rfl)) ?_; (with_reducible refine (dates_jobs_valid.calls k _ _ l0 true _ ?side1 ?side2 A3.out).mono ?_); (case side1 => repeat (first | exact HR0.out | (with_reducible refine Kd.C_alloc ?_ _) | (with_reducible refine Kd.C_drewN ?_ _) | (with_reducible refine Kd.C_drew ?_))); (case side2 => exact HC0.out); rintro e w8 ⟨rfl, hb⟩; refine ⟨_, rfl, ?_⟩; have n0_ := Aside0.mk (below_step (by repeat (first | (with_reducible first | exact HB.out | apply below_alloc | apply pw_below_drewN | apply below_drew1) | exact HB.out)) hb); clear HB; have HB := n0_; clear n0_; (try clear hb); (try clear hb2); (try clear hk); (try clear hi)) | (go_at_call 61; (with_reducible refine (dates_jobs_order.calls k _ _ l0 _ _ l1 true _ ?side1 ?side2 ?side3 ?side4 A5.out).mono ?_); (case side1 => repeat (first | exact (Kd.C_below HR0.out HB.out) | (with_reducible refine Kd.C_alloc ?_ _) | (with_reducible refine Kd.C_drewN ?_ _) | (with_reducible refine Kd.C_drew ?_))); (case side2 => exact HC0.out); (case side3 => repeat (first | exact (Kd.C_below HR1.out HB.out) | (with_reducible refine Kd.C_alloc ?_ _) | (with_reducible refine Kd.C_drewN ?_ _) | (with_reducible refine Kd.C_drew ?_))); (case side4 => exact HC1.out); rintro e w' ⟨rfl, ⟨nd, rfl⟩⟩) | ((with_reducible refine gate_callee (f := 62) rfl ?_); refine goesL_ (some 19) rfl rfl Try.func62 (by kernel_rfl) rfl #[.slice A0 l0.length c0, .slice A1 l1.length c1] rfl (by (try simp only [List.map_toArray, List.map_cons, List.map_nil]); first | done | rfl | (simp only [List.length_drop, List.length_take]; rfl)) ?_; (with_reducible refine (dates_jobs_ends.calls k _ _ l0 _ _ l1 t379 _ ?side1 ?side2 ?side3 ?side4 A7.out).mono ?_); (case side1 => repeat (first | exact (Kd.C_below HR0.out (by repeat (first | (with_reducible first | exact HB.out | apply below_alloc | apply pw_below_drewN | apply below_drew1) | exact HB.out))) | (with_reducible refine Kd.C_alloc ?_ _) | (with_reducible refine Kd.C_drewN ?_ _) | (with_reducible refine Kd.C_drew ?_))); (case side2 => exact HC0.out); (case side3 => repeat (first | exact (Kd.C_below HR1.out (by repeat (first | (with_reducible first | exact HB.out | apply below_alloc | apply pw_below_drewN | apply below_drew1) | exact HB.out))) | (with_reducible refine Kd.C_alloc ?_ _) | (with_reducible refine Kd.C_drewN ?_ _) | (with_reducible refine Kd.C_drew ?_))); (case side4 => exact HC1.out); rintro e w9 ⟨v380, rfl, ho0, hb⟩; refine ⟨_, rfl, ?_⟩; have n0_ := Aside0.mk (Kd.R_lower ho0 (below_size (by repeat (first | (with_reducible first | exact HB.out | apply below_alloc | apply pw_below_drewN | apply below_drew1) | exact HB.out)))); have n1_ := Aside0.mk (below_step (by repeat (first | (with_reducible first | exact HB.out | apply below_alloc | apply pw_below_drewN | apply below_drew1) | exact HB.out)) hb); clear HB; have HO381 := n0_; have HB := n1_; clear n0_ n1_; (try clear hb); (try clear hb2); (try clear hk); (try clear hi); (try clear ho0)));go_ret2;exact ⟨_, by first | rfl | (simp [errW_none, errW_some] <;> rfl) | (simp [*, errW_none, errW_some] <;> rfl), by (with_reducible repeat (first | apply Kd.R_alloc | apply Kd.R_drewN | apply Kd.R_drew)); exact HO381.out, by repeat (first | (with_reducible first | exact HB.out | apply below_alloc | apply pw_below_drewN | apply below_drew1) | exact HB.out)⟩
  ·replace c6 := Bool.eq_false_iff.mpr c6;subst c6;have H1 : (some (([] : List Int), 2)) = some (r1, r2) := by rw [if_neg (show ¬ (false = true) by decide)] at H; exact H
   clear H;have H := H1;clear H1;simp only [Option.some.injEq, Prod.mk.injEq] at H;obtain ⟨rfl, rfl⟩ := H;go_enter Try.func27, Try.ntmps27;go_wp2_with (first | ((with_reducible refine gate_callee (f := 54) rfl ?_); refine goesL_ (some 9) rfl rfl Try.func54 (by kernel_rfl) rfl #[.slice A0 l0.length c0] rfl (by (try simp only [List.map_toArray, List.map_cons, List.map_nil]); first | done | rfl | (simp only [List.length_drop, List.length_take]; rfl)) ?_; (with_reducible refine (dates_jobs_valid.calls k _ _ l0 true _ ?side1 ?side2 A3.out).mono ?_); (case side1 => repeat (first | exact HR0.out | (with_reducible refine Kd.C_alloc ?_ _) | (with_reducible refine Kd.C_drewN ?_ _) | (with_reducible refine Kd.C_drew ?_))); (case side2 => exact HC0.out); rintro e w10 ⟨rfl, hb⟩; refine ⟨_, rfl, ?_⟩; have n0_ := Aside0.mk (below_step (by repeat (first | (with_reducible first | exact HB.out | apply below_alloc | apply pw_below_drewN | apply below_drew1) | exact HB.out)) hb); clear HB; have HB := n0_; clear n0_; (try clear hb); (try clear hb2); (try clear hk); (try clear hi)) | (go_at_call 61; (with_reducible refine (dates_jobs_order.calls k _ _ l0 _ _ l1 false _ ?side1 ?side2 ?side3 ?side4 A5.out).mono ?_); (case side1 => repeat (first | exact (Kd.C_below HR0.out HB.out) | (with_reducible refine Kd.C_alloc ?_ _) | (with_reducible refine Kd.C_drewN ?_ _) | (with_reducible refine Kd.C_drew ?_))); (case side2 => exact HC0.out); (case side3 => repeat (first | exact (Kd.C_below HR1.out HB.out) | (with_reducible refine Kd.C_alloc ?_ _) | (with_reducible refine Kd.C_drewN ?_ _) | (with_reducible refine Kd.C_drew ?_))); (case side4 => exact HC1.out); rintro e w' ⟨rfl, ⟨nd, rfl⟩⟩));go_ret2;exact ⟨_, by first | rfl | (simp [errW_none, errW_some] <;> rfl) | (simp [*, errW_none, errW_some] <;> rfl), by first | exact Kd.R_nil _ _ _ _ _ | exact Kd.N_nil _ _ _ _ _ | exact Kd.V_nil _ _ _ _ _ | exact Kd.Q_nil _ _ _ _ _ | exact Kd.S_nil _ _ _ _ _, by repeat (first | (with_reducible first | exact HB.out | apply below_alloc | apply pw_below_drewN | apply below_drew1) | exact HB.out)⟩
 ·replace c4 := Bool.eq_false_iff.mpr c4;subst c4;have H1 : (some (([] : List Int), 2)) = some (r1, r2) := by rw [if_neg (show ¬ (false = true) by decide)] at H; exact H
  clear H;have H := H1;clear H1;simp only [Option.some.injEq, Prod.mk.injEq] at H;obtain ⟨rfl, rfl⟩ := H;go_enter Try.func27, Try.ntmps27;go_wp2_with (first | ((with_reducible refine gate_callee (f := 54) rfl ?_); refine goesL_ (some 9) rfl rfl Try.func54 (by kernel_rfl) rfl #[.slice A0 l0.length c0] rfl (by (try simp only [List.map_toArray, List.map_cons, List.map_nil]); first | done | rfl | (simp only [List.length_drop, List.length_take]; rfl)) ?_; (with_reducible refine (dates_jobs_valid.calls k _ _ l0 false _ ?side1 ?side2 A3.out).mono ?_); (case side1 => repeat (first | exact HR0.out | (with_reducible refine Kd.C_alloc ?_ _) | (with_reducible refine Kd.C_drewN ?_ _) | (with_reducible refine Kd.C_drew ?_))); (case side2 => exact HC0.out); rintro e w11 ⟨rfl, hb⟩; refine ⟨_, rfl, ?_⟩; have n0_ := Aside0.mk (below_step (by repeat (first | (with_reducible first | exact HB.out | apply below_alloc | apply pw_below_drewN | apply below_drew1) | exact HB.out)) hb); clear HB; have HB := n0_; clear n0_; (try clear hb); (try clear hb2); (try clear hk); (try clear hi)));go_ret2;exact ⟨_, by first | rfl | (simp [errW_none, errW_some] <;> rfl) | (simp [*, errW_none, errW_some] <;> rfl), by first | exact Kd.R_nil _ _ _ _ _ | exact Kd.N_nil _ _ _ _ _ | exact Kd.V_nil _ _ _ _ _ | exact Kd.Q_nil _ _ _ _ _ | exact Kd.S_nil _ _ _ _ _, by repeat (first | (with_reducible first | exact HB.out | apply below_alloc | apply pw_below_drewN | apply below_drew1) | exact HB.out)⟩
end Go.Proofs.Ytaboleeclpllpaa.P


namespace Go.Proofs.Ytaboleeclpllpaa.P
open Go.RowKit Go.Proofs.YtaboleeclpllpaaW.PrintWords Go.Proofs.YtaboleeclpllpaaW.PrintLast Go.Proofs.YtaboleeclpllpaaW.PrintMore
attribute [local go_sem] max2_int min2_int max_two min_two max_three min_three max_four min_four
set_option linter.unusedVariables false
set_option linter.unusedSimpArgs false
end Go.Proofs.Ytaboleeclpllpaa.P


namespace Go.Proofs.Ytaboleeclpllpaa.P
open Go.RowKit Go.Proofs.YtaboleeclpllpaaW.PrintWords Go.Proofs.YtaboleeclpllpaaW.PrintLast Go.Proofs.YtaboleeclpllpaaW.PrintMore
attribute [local go_sem] max2_int min2_int max_two min_two max_three min_three max_four min_four
set_option linter.unusedVariables false
set_option linter.unusedSimpArgs false
end Go.Proofs.Ytaboleeclpllpaa.P


namespace Go.Proofs.Ytaboleeclpllpaa.P
open Go.RowKit Go.Proofs.YtaboleeclpllpaaW.PrintWords Go.Proofs.YtaboleeclpllpaaW.PrintLast Go.Proofs.YtaboleeclpllpaaW.PrintMore
attribute [local go_sem] max2_int min2_int max_two min_two max_three min_three max_four min_four
set_option linter.unusedVariables false
set_option linter.unusedSimpArgs false
def slices_Clone_int_int.f (l0 : List Int) : Option (List Int) := (some (([] : List Int) : List Int)).bind fun y101 => (if y101.length + l0.length < 17592186044416 then (some (y101 ++ l0)) else (none))
set_option maxHeartbeats 8000000 in
set_option maxRecDepth 100000 in
theorem slices_Clone_int_int.calls_some (a0 : Addr) (c0 : Nat) (l0 : List Int) (r : List Int) (w : World) (hr0 : Kd.C (Kd.int .i64) w (some a0) l0.length l0) (hc0 : l0.length ≤ c0) (h : slices_Clone_int_int.f l0 = some r) :
    Calls Try.prog 63 #[.slice (some a0) l0.length c0] w fun e w' => ∃ v0_ : Value, e = .returned (v0_) ∧ Kd.R (Kd.int .i64) 3 w' w.heap.size (fun _ => True) v0_ r ∧ Below w.heap.size w w' := by
 have HR0 := Aside0.mk hr0;have HC0 := Aside0.mk hc0;clear hr0 hc0;have HB := Aside0.mk (Below.refl w.heap.size w);have H : ((some (([] : List Int) : List Int)).bind fun y101 => (if y101.length + l0.length < 17592186044416 then (some (y101 ++ l0)) else (none))) = some r := h;clear h;obtain ⟨y101, hy101⟩ : ∃ y_ : List Int, y_ = (([] : List Int)) := ⟨_, rfl⟩
 replace H : (if y101.length + l0.length < 17592186044416 then (some (y101 ++ l0)) else (none)) = some r := by first | (rw [hy101]; with_reducible exact H) | (have H2_ := (Option.bind_some _ _).symm.trans H; rw [hy101]; with_reducible exact H2_) | (have H2_ := (Option.bind_some _ _).symm.trans H; with_reducible exact H2_) | with_reducible exact H | (rw [hy101]; exact H) | exact H
 have Ny101 := Aside0.mk hy101;clear hy101;by_cases c2 : y101.length + l0.length < 17592186044416
 ·rw [if_pos c2] at H;have LMc2 := Aside0.mk c2;clear c2;obtain ⟨y104, hy104⟩ : ∃ y_ : List Int, y_ = (y101 ++ l0) := ⟨_, rfl⟩
  replace H : (some y104) = some r := by first | (rw [hy104]; with_reducible exact H) | (have H2_ := (Option.bind_some _ _).symm.trans H; rw [hy104]; with_reducible exact H2_) | (have H2_ := (Option.bind_some _ _).symm.trans H; with_reducible exact H2_) | with_reducible exact H | (rw [hy104]; exact H) | exact H
  have Ny104 := Aside0.mk hy104;clear hy104;obtain rfl := Option.some.inj H;have hnil : ∀ W : World, (binOp .eql 41 (.slice (some a0) l0.length c0) (.slice none 0 0)).run Try.prog W = .ok (.bool false) W := fun W => Lib.run_eql_slice_nil W 41 3 (some a0) _ _ _ _ Try.underlying41
  go_enter Try.func63, Try.ntmps63;go_wp2_with (first | ((with_reducible refine gate_dst (N := 5) rfl ?_); refine Kd.R_lit (Kd.int .i64) _ 3 ?hg (N := 5) ?hd (xs := ([] : List Int)) (inner := []) (ok := fun _ => True) (okp := fun _ => True) ?hr ?hp (fun _ hk => hk) trivial (Below.refl _ _) (Nat.le_refl _) (by simp) ?_; (case hd => rfl); (case hg => rfl); (case hr => first | (go_simp; done) | (go_simp; rfl)); (case hp => exact (Reps.none _ _)); intro v102 w3 ho4 hb hg_ hnew_; clear hg_ hnew_; (first | rw [← Ny101.out] at ho4 | (simp only [Int.reduceToNat] at ho4; rw [← Ny101.out] at ho4)); have n0_ := Aside0.mk (Kd.R_lower ho4 (below_size (by repeat (first | (with_reducible first | exact HB.out | apply below_alloc | apply pw_below_drewN | apply below_drew1) | exact HB.out)))); have n1_ := Aside0.mk (below_step (by repeat (first | (with_reducible first | exact HB.out | apply below_alloc | apply pw_below_drewN | apply below_drew1) | exact HB.out)) hb); clear HB; have HO103 := n0_; have HB := n1_; clear n0_ n1_; clear hb ho4) | ((with_reducible refine gate_builtin (b := .append) (xs := #[.tmp 5, .tmp 6]) rfl ?_); at_builtin; refine Kd.R_append_rows (Kd.int .i64) (w0 := w) w.heap.size rfl (.tmp 5) (.tmp 6) 41 3 (.int .i64 0) 8 rfl Try.underlying41 info3 rfl (by decide) (by omega) v102 y101 l0 _ _ _ (fun _ => True) (fun _ => False) rfl rfl ?aO ?aR (fun _ _ h => h) (fun _ h => h.elim) ?aF ?aB ?aS ?aL ?_; (case aR => repeat (first | exact (Kd.C_below HR0.out HB.out) | (with_reducible refine Kd.C_alloc ?_ _) | (with_reducible refine Kd.C_drewN ?_ _) | (with_reducible refine Kd.C_drew ?_))); (case aB => exact (by repeat (first | (with_reducible first | exact HB.out | apply below_alloc | apply pw_below_drewN | apply below_drew1) | exact HB.out))); (case aF => exact (fun _ _ => trivial)); (case aO => exact (by (with_reducible repeat (first | apply Kd.R_alloc | apply Kd.R_drewN | apply Kd.R_drew)); exact HO103.out)); (case aS => exact (below_size (by repeat (first | (with_reducible first | exact HB.out | apply below_alloc | apply pw_below_drewN | apply below_drew1) | exact HB.out)))); (case aL => have := LMc2.out; omega); intro v105 w5 ho hb hg hat; rw [← Ny104.out] at ho; have n0_ := Aside0.mk (hb); have n1_ := Aside0.mk (ho); clear HB; clear HO103; have HB := n0_; have HO106 := n1_; clear n0_ n1_; clear ho hb hg hat));go_ret;exact ⟨_, by first | rfl | (simp [errW_none, errW_some] <;> rfl) | (simp [*, errW_none, errW_some] <;> rfl), by (with_reducible repeat (first | apply Kd.R_alloc | apply Kd.R_drewN | apply Kd.R_drew)); exact HO106.out, by repeat (first | (with_reducible first | exact HB.out | apply below_alloc | apply pw_below_drewN | apply below_drew1) | exact HB.out)⟩
 ·rw [if_neg c2] at H;exact absurd H (by simp)
set_option maxHeartbeats 8000000 in
set_option maxRecDepth 100000 in
theorem slices_Clone_int_int.calls (A0 : Option Addr) (c0 : Nat) (l0 : List Int) (r : List Int) (w : World) (hr0 : Kd.C (Kd.int .i64) w A0 l0.length l0) (hc0 : l0.length ≤ c0) (h : slices_Clone_int_int.f l0 = some r) :
    Calls Try.prog 63 #[.slice A0 l0.length c0] w fun e w' => ∃ v0_ : Value, e = .returned (v0_) ∧ Kd.R (Kd.int .i64) 3 w' w.heap.size (fun _ => True) v0_ r ∧ Below w.heap.size w w' := by
 cases A0 with
 | some a0 => exact slices_Clone_int_int.calls_some a0 c0 l0 r w hr0 hc0 h
 | none =>
  have hl : l0 = [] := by
   rcases Nat.eq_zero_or_pos l0.length with h0 | h0
   ·exact List.eq_nil_of_length_eq_zero h0
   ·obtain ⟨ad, he, _⟩ := hr0.2.2 h0;cases he
  subst hl;have hr : r = [] := by
   simp [slices_Clone_int_int.f] at h;exact h
  subst hr;clear h hr0 hc0;have hnil : ∀ W : World, (binOp .eql 41 (.slice none 0 c0) (.slice none 0 0)).run Try.prog W = .ok (.bool true) W := fun W => Lib.run_eql_slice_nil W 41 3 none _ _ _ _ Try.underlying41
  have hB := Aside0.mk (Below.refl w.heap.size w);show Calls Try.prog 63 #[.slice none 0 c0] w _
  go_enter Try.func63, Try.ntmps63;go_wp2;go_ret;exact ⟨_, rfl, Kd.R_nil _ _ _ _ _, hB.out⟩
end Go.Proofs.Ytaboleeclpllpaa.P


namespace Go.Proofs.Ytaboleeclpllpaa.P
open Go.RowKit Go.Proofs.YtaboleeclpllpaaW.PrintWords Go.Proofs.YtaboleeclpllpaaW.PrintLast Go.Proofs.YtaboleeclpllpaaW.PrintMore
attribute [local go_sem] max2_int min2_int max_two min_two max_three min_three max_four min_four
set_option linter.unusedVariables false
set_option linter.unusedSimpArgs false
def corrodylaw06_list.f (l0 : List Int) : Option (List Int) := if 0 ≤ (mn (l0.length : Int) 10) then (if (mn (l0.length : Int) 10) ≤ (l0.length : Int) then ((slices_Clone_int_int.f (l0.take ((mn (l0.length : Int) 10) : Int).toNat)).bind fun t383 => (some t383)) else (none)) else (none)
set_option maxHeartbeats 8000000 in
set_option maxRecDepth 100000 in
theorem corrodylaw06_list.calls (A0 : Option Addr) (c0 : Nat) (l0 : List Int) (r : List Int) (w : World) (hr0 : Kd.C (Kd.int .i64) w A0 l0.length l0) (hc0 : l0.length ≤ c0) (h : corrodylaw06_list.f l0 = some r) :
    Calls Try.prog 28 #[.slice A0 l0.length c0] w fun e w' => ∃ v0_ : Value, e = .returned (v0_) ∧ Kd.R (Kd.int .i64) 3 w' w.heap.size (fun _ => True) v0_ r ∧ Below w.heap.size w w' := by
 have HR0 := Aside0.mk hr0;have HC0 := Aside0.mk hc0;clear hr0 hc0;have HB := Aside0.mk (Below.refl w.heap.size w);have H : (if 0 ≤ (mn (l0.length : Int) 10) then (if (mn (l0.length : Int) 10) ≤ (l0.length : Int) then ((slices_Clone_int_int.f (l0.take ((mn (l0.length : Int) 10) : Int).toNat)).bind fun t383 => (some t383)) else (none)) else (none)) = some r := h;clear h;obtain ⟨ji2, hji2⟩ : ∃ j_ : Int, (mn (l0.length : Int) 10) = j_ := ⟨_, rfl⟩
 replace H : (if 0 ≤ (ji2) then (if (ji2) ≤ (l0.length : Int) then ((slices_Clone_int_int.f (l0.take ((ji2) : Int).toNat)).bind fun t383 => (some t383)) else (none)) else (none)) = some r := by first | (rw [hji2] at H; exact H) | (simp only [hji2] at H ⊢; exact H)
 (try (have hji2h : ji2 ≤ 10 := by (rw [← hji2]; unfold mn; (repeat' split) <;> omega)));(try (have hji2g : ji2 ≤ 64 := by omega));(try (have hji2l : 0 ≤ ji2 := by (rw [← hji2]; unfold mn; (repeat' split) <;> omega)));(try (have hji2m : 0 ≤ ji2 := by omega));have hji2_ : (if 10 < (l0.length : Int) then 10 else (l0.length : Int)) = ji2 := hji2;by_cases c3 : 0 ≤ (ji2)
 ·rw [if_pos c3] at H;have c3b0 := eq_true c3;have c3b1 : decide (0 ≤ (ji2)) = true := decide_eq_true c3;clear c3;by_cases c4 : (ji2) ≤ (l0.length : Int)
  ·rw [if_pos c4] at H;have c4b0 := eq_true c4;have c4b1 : decide ((ji2) ≤ (l0.length : Int)) = true := decide_eq_true c4;clear c4;replace H := Option.bind_eq_some_iff.mp H;obtain ⟨t383, A50, H⟩ := H;replace H : (some t383) = some r := H;have A5 := Aside0.mk A50;clear A50;obtain rfl := Option.some.inj H;obtain ⟨i06, hi06, _, hsz6, _⟩ := info_parts info3;obtain ⟨hcut6, hA6, hC6⟩ := print_take_of (P := Try.prog) (Value.int .i64) 0 41 3 .i64 Try.underlying41 hi06 hsz6 A0 c0 l0 (ji2) (of_decide_eq_true (by first | (with_reducible assumption) | assumption)) (of_decide_eq_true (by first | (with_reducible assumption) | assumption)) HC0.out;have HR382 := Aside0.mk (Kd.C_of_reads (h1 := fun _ => rfl) (hA6 _ (Kd.reads_of_C HR0.out)));have HC382 := Aside0.mk hC6;clear hA6 hC6 hi06 hsz6;go_enter Try.func28, Try.ntmps28;go_wp2_with (first | ((with_reducible refine gate_callee (f := 63) rfl ?_); refine goesL_ (some 8) rfl rfl Try.func63 (by kernel_rfl) rfl #[.slice A0 (l0.take ((ji2) : Int).toNat).length c0] rfl (by (try simp only [List.map_toArray, List.map_cons, List.map_nil]); first | done | (rw [show (l0.take ((ji2) : Int).toNat).length = (ji2).toNat from (by rw [List.length_take]; have h_ : ((ji2) : Int) ≤ (l0.length : Int) := of_decide_eq_true (by first | (with_reducible assumption) | assumption); omega)] <;> rfl) | (simp only [hji2]; rfl) | rfl | (simp only [List.length_drop, List.length_take]; rfl)) ?_; (with_reducible refine (slices_Clone_int_int.calls _ _ (l0.take ((ji2) : Int).toNat) t383 _ ?side1 ?side2 A5.out).mono ?_); (case side1 => repeat (first | exact HR382.out | (with_reducible refine Kd.C_alloc ?_ _) | (with_reducible refine Kd.C_drewN ?_ _) | (with_reducible refine Kd.C_drew ?_))); (case side2 => exact HC382.out); rintro e w7 ⟨v384, rfl, ho0, hb⟩; refine ⟨_, rfl, ?_⟩; have n0_ := Aside0.mk (Kd.R_lower ho0 (below_size (by repeat (first | (with_reducible first | exact HB.out | apply below_alloc | apply pw_below_drewN | apply below_drew1) | exact HB.out)))); have n1_ := Aside0.mk (below_step (by repeat (first | (with_reducible first | exact HB.out | apply below_alloc | apply pw_below_drewN | apply below_drew1) | exact HB.out)) hb); clear HB; have HO385 := n0_; have HB := n1_; clear n0_ n1_; (try clear hb); (try clear hb2); (try clear hk); (try clear hi); (try clear ho0)));go_ret;exact ⟨_, by first | rfl | (simp [errW_none, errW_some] <;> rfl) | (simp only [← hji2]; first | rfl | (simp [errW_none, errW_some] <;> rfl)) | (simp [*, errW_none, errW_some] <;> rfl), by (with_reducible repeat (first | apply Kd.R_alloc | apply Kd.R_drewN | apply Kd.R_drew)); exact HO385.out, by repeat (first | (with_reducible first | exact HB.out | apply below_alloc | apply pw_below_drewN | apply below_drew1) | exact HB.out)⟩
  ·rw [if_neg c4] at H;exact absurd H (by simp)
 ·rw [if_neg c3] at H;exact absurd H (by simp)
end Go.Proofs.Ytaboleeclpllpaa.P


namespace Go.Proofs.Ytaboleeclpllpaa.P
open Go.RowKit Go.Proofs.YtaboleeclpllpaaW.PrintWords Go.Proofs.YtaboleeclpllpaaW.PrintLast Go.Proofs.YtaboleeclpllpaaW.PrintMore
attribute [local go_sem] max2_int min2_int max_two min_two max_three min_three max_four min_four
set_option linter.unusedVariables false
set_option linter.unusedSimpArgs false
def bits_OnesCount64.f (a0 : Int) : Option (Int) := some (Go.bits .and .i64 (wrap64 (IntKind.u64.wrap ((IntKind.u64.wrap ((IntKind.u64.wrap ((Go.bits .and .u64 (IntKind.u64.wrap (((IntKind.u64.wrap ((Go.bits .and .u64 ((IntKind.u64.wrap ((Go.bits .and .u64 (a0 / 2) 6148914691236517205) + (Go.bits .and .u64 a0 6148914691236517205))) / 4) 3689348814741910323) + (Go.bits .and .u64 (IntKind.u64.wrap ((Go.bits .and .u64 (a0 / 2) 6148914691236517205) + (Go.bits .and .u64 a0 6148914691236517205))) 3689348814741910323))) / 16) + (IntKind.u64.wrap ((Go.bits .and .u64 ((IntKind.u64.wrap ((Go.bits .and .u64 (a0 / 2) 6148914691236517205) + (Go.bits .and .u64 a0 6148914691236517205))) / 4) 3689348814741910323) + (Go.bits .and .u64 (IntKind.u64.wrap ((Go.bits .and .u64 (a0 / 2) 6148914691236517205) + (Go.bits .and .u64 a0 6148914691236517205))) 3689348814741910323))))) 1085102592571150095) + ((Go.bits .and .u64 (IntKind.u64.wrap (((IntKind.u64.wrap ((Go.bits .and .u64 ((IntKind.u64.wrap ((Go.bits .and .u64 (a0 / 2) 6148914691236517205) + (Go.bits .and .u64 a0 6148914691236517205))) / 4) 3689348814741910323) + (Go.bits .and .u64 (IntKind.u64.wrap ((Go.bits .and .u64 (a0 / 2) 6148914691236517205) + (Go.bits .and .u64 a0 6148914691236517205))) 3689348814741910323))) / 16) + (IntKind.u64.wrap ((Go.bits .and .u64 ((IntKind.u64.wrap ((Go.bits .and .u64 (a0 / 2) 6148914691236517205) + (Go.bits .and .u64 a0 6148914691236517205))) / 4) 3689348814741910323) + (Go.bits .and .u64 (IntKind.u64.wrap ((Go.bits .and .u64 (a0 / 2) 6148914691236517205) + (Go.bits .and .u64 a0 6148914691236517205))) 3689348814741910323))))) 1085102592571150095) / 256))) + ((IntKind.u64.wrap ((Go.bits .and .u64 (IntKind.u64.wrap (((IntKind.u64.wrap ((Go.bits .and .u64 ((IntKind.u64.wrap ((Go.bits .and .u64 (a0 / 2) 6148914691236517205) + (Go.bits .and .u64 a0 6148914691236517205))) / 4) 3689348814741910323) + (Go.bits .and .u64 (IntKind.u64.wrap ((Go.bits .and .u64 (a0 / 2) 6148914691236517205) + (Go.bits .and .u64 a0 6148914691236517205))) 3689348814741910323))) / 16) + (IntKind.u64.wrap ((Go.bits .and .u64 ((IntKind.u64.wrap ((Go.bits .and .u64 (a0 / 2) 6148914691236517205) + (Go.bits .and .u64 a0 6148914691236517205))) / 4) 3689348814741910323) + (Go.bits .and .u64 (IntKind.u64.wrap ((Go.bits .and .u64 (a0 / 2) 6148914691236517205) + (Go.bits .and .u64 a0 6148914691236517205))) 3689348814741910323))))) 1085102592571150095) + ((Go.bits .and .u64 (IntKind.u64.wrap (((IntKind.u64.wrap ((Go.bits .and .u64 ((IntKind.u64.wrap ((Go.bits .and .u64 (a0 / 2) 6148914691236517205) + (Go.bits .and .u64 a0 6148914691236517205))) / 4) 3689348814741910323) + (Go.bits .and .u64 (IntKind.u64.wrap ((Go.bits .and .u64 (a0 / 2) 6148914691236517205) + (Go.bits .and .u64 a0 6148914691236517205))) 3689348814741910323))) / 16) + (IntKind.u64.wrap ((Go.bits .and .u64 ((IntKind.u64.wrap ((Go.bits .and .u64 (a0 / 2) 6148914691236517205) + (Go.bits .and .u64 a0 6148914691236517205))) / 4) 3689348814741910323) + (Go.bits .and .u64 (IntKind.u64.wrap ((Go.bits .and .u64 (a0 / 2) 6148914691236517205) + (Go.bits .and .u64 a0 6148914691236517205))) 3689348814741910323))))) 1085102592571150095) / 256))) / 65536))) + ((IntKind.u64.wrap ((IntKind.u64.wrap ((Go.bits .and .u64 (IntKind.u64.wrap (((IntKind.u64.wrap ((Go.bits .and .u64 ((IntKind.u64.wrap ((Go.bits .and .u64 (a0 / 2) 6148914691236517205) + (Go.bits .and .u64 a0 6148914691236517205))) / 4) 3689348814741910323) + (Go.bits .and .u64 (IntKind.u64.wrap ((Go.bits .and .u64 (a0 / 2) 6148914691236517205) + (Go.bits .and .u64 a0 6148914691236517205))) 3689348814741910323))) / 16) + (IntKind.u64.wrap ((Go.bits .and .u64 ((IntKind.u64.wrap ((Go.bits .and .u64 (a0 / 2) 6148914691236517205) + (Go.bits .and .u64 a0 6148914691236517205))) / 4) 3689348814741910323) + (Go.bits .and .u64 (IntKind.u64.wrap ((Go.bits .and .u64 (a0 / 2) 6148914691236517205) + (Go.bits .and .u64 a0 6148914691236517205))) 3689348814741910323))))) 1085102592571150095) + ((Go.bits .and .u64 (IntKind.u64.wrap (((IntKind.u64.wrap ((Go.bits .and .u64 ((IntKind.u64.wrap ((Go.bits .and .u64 (a0 / 2) 6148914691236517205) + (Go.bits .and .u64 a0 6148914691236517205))) / 4) 3689348814741910323) + (Go.bits .and .u64 (IntKind.u64.wrap ((Go.bits .and .u64 (a0 / 2) 6148914691236517205) + (Go.bits .and .u64 a0 6148914691236517205))) 3689348814741910323))) / 16) + (IntKind.u64.wrap ((Go.bits .and .u64 ((IntKind.u64.wrap ((Go.bits .and .u64 (a0 / 2) 6148914691236517205) + (Go.bits .and .u64 a0 6148914691236517205))) / 4) 3689348814741910323) + (Go.bits .and .u64 (IntKind.u64.wrap ((Go.bits .and .u64 (a0 / 2) 6148914691236517205) + (Go.bits .and .u64 a0 6148914691236517205))) 3689348814741910323))))) 1085102592571150095) / 256))) + ((IntKind.u64.wrap ((Go.bits .and .u64 (IntKind.u64.wrap (((IntKind.u64.wrap ((Go.bits .and .u64 ((IntKind.u64.wrap ((Go.bits .and .u64 (a0 / 2) 6148914691236517205) + (Go.bits .and .u64 a0 6148914691236517205))) / 4) 3689348814741910323) + (Go.bits .and .u64 (IntKind.u64.wrap ((Go.bits .and .u64 (a0 / 2) 6148914691236517205) + (Go.bits .and .u64 a0 6148914691236517205))) 3689348814741910323))) / 16) + (IntKind.u64.wrap ((Go.bits .and .u64 ((IntKind.u64.wrap ((Go.bits .and .u64 (a0 / 2) 6148914691236517205) + (Go.bits .and .u64 a0 6148914691236517205))) / 4) 3689348814741910323) + (Go.bits .and .u64 (IntKind.u64.wrap ((Go.bits .and .u64 (a0 / 2) 6148914691236517205) + (Go.bits .and .u64 a0 6148914691236517205))) 3689348814741910323))))) 1085102592571150095) + ((Go.bits .and .u64 (IntKind.u64.wrap (((IntKind.u64.wrap ((Go.bits .and .u64 ((IntKind.u64.wrap ((Go.bits .and .u64 (a0 / 2) 6148914691236517205) + (Go.bits .and .u64 a0 6148914691236517205))) / 4) 3689348814741910323) + (Go.bits .and .u64 (IntKind.u64.wrap ((Go.bits .and .u64 (a0 / 2) 6148914691236517205) + (Go.bits .and .u64 a0 6148914691236517205))) 3689348814741910323))) / 16) + (IntKind.u64.wrap ((Go.bits .and .u64 ((IntKind.u64.wrap ((Go.bits .and .u64 (a0 / 2) 6148914691236517205) + (Go.bits .and .u64 a0 6148914691236517205))) / 4) 3689348814741910323) + (Go.bits .and .u64 (IntKind.u64.wrap ((Go.bits .and .u64 (a0 / 2) 6148914691236517205) + (Go.bits .and .u64 a0 6148914691236517205))) 3689348814741910323))))) 1085102592571150095) / 256))) / 65536))) / 4294967296)))) 127)
set_option maxHeartbeats 8000000 in
set_option maxRecDepth 100000 in
theorem bits_OnesCount64.calls (a0 : Int) (r : Int) (w : World) (h : bits_OnesCount64.f a0 = some r) :
    Calls Try.prog 86 #[.int .u64 a0] w fun e w' => e = .returned (.int .i64 r) ∧ Drawn0 w w' := by
 have H : (some (Go.bits .and .i64 (wrap64 (IntKind.u64.wrap ((IntKind.u64.wrap ((IntKind.u64.wrap ((Go.bits .and .u64 (IntKind.u64.wrap (((IntKind.u64.wrap ((Go.bits .and .u64 ((IntKind.u64.wrap ((Go.bits .and .u64 (a0 / 2) 6148914691236517205) + (Go.bits .and .u64 a0 6148914691236517205))) / 4) 3689348814741910323) + (Go.bits .and .u64 (IntKind.u64.wrap ((Go.bits .and .u64 (a0 / 2) 6148914691236517205) + (Go.bits .and .u64 a0 6148914691236517205))) 3689348814741910323))) / 16) + (IntKind.u64.wrap ((Go.bits .and .u64 ((IntKind.u64.wrap ((Go.bits .and .u64 (a0 / 2) 6148914691236517205) + (Go.bits .and .u64 a0 6148914691236517205))) / 4) 3689348814741910323) + (Go.bits .and .u64 (IntKind.u64.wrap ((Go.bits .and .u64 (a0 / 2) 6148914691236517205) + (Go.bits .and .u64 a0 6148914691236517205))) 3689348814741910323))))) 1085102592571150095) + ((Go.bits .and .u64 (IntKind.u64.wrap (((IntKind.u64.wrap ((Go.bits .and .u64 ((IntKind.u64.wrap ((Go.bits .and .u64 (a0 / 2) 6148914691236517205) + (Go.bits .and .u64 a0 6148914691236517205))) / 4) 3689348814741910323) + (Go.bits .and .u64 (IntKind.u64.wrap ((Go.bits .and .u64 (a0 / 2) 6148914691236517205) + (Go.bits .and .u64 a0 6148914691236517205))) 3689348814741910323))) / 16) + (IntKind.u64.wrap ((Go.bits .and .u64 ((IntKind.u64.wrap ((Go.bits .and .u64 (a0 / 2) 6148914691236517205) + (Go.bits .and .u64 a0 6148914691236517205))) / 4) 3689348814741910323) + (Go.bits .and .u64 (IntKind.u64.wrap ((Go.bits .and .u64 (a0 / 2) 6148914691236517205) + (Go.bits .and .u64 a0 6148914691236517205))) 3689348814741910323))))) 1085102592571150095) / 256))) + ((IntKind.u64.wrap ((Go.bits .and .u64 (IntKind.u64.wrap (((IntKind.u64.wrap ((Go.bits .and .u64 ((IntKind.u64.wrap ((Go.bits .and .u64 (a0 / 2) 6148914691236517205) + (Go.bits .and .u64 a0 6148914691236517205))) / 4) 3689348814741910323) + (Go.bits .and .u64 (IntKind.u64.wrap ((Go.bits .and .u64 (a0 / 2) 6148914691236517205) + (Go.bits .and .u64 a0 6148914691236517205))) 3689348814741910323))) / 16) + (IntKind.u64.wrap ((Go.bits .and .u64 ((IntKind.u64.wrap ((Go.bits .and .u64 (a0 / 2) 6148914691236517205) + (Go.bits .and .u64 a0 6148914691236517205))) / 4) 3689348814741910323) + (Go.bits .and .u64 (IntKind.u64.wrap ((Go.bits .and .u64 (a0 / 2) 6148914691236517205) + (Go.bits .and .u64 a0 6148914691236517205))) 3689348814741910323))))) 1085102592571150095) + ((Go.bits .and .u64 (IntKind.u64.wrap (((IntKind.u64.wrap ((Go.bits .and .u64 ((IntKind.u64.wrap ((Go.bits .and .u64 (a0 / 2) 6148914691236517205) + (Go.bits .and .u64 a0 6148914691236517205))) / 4) 3689348814741910323) + (Go.bits .and .u64 (IntKind.u64.wrap ((Go.bits .and .u64 (a0 / 2) 6148914691236517205) + (Go.bits .and .u64 a0 6148914691236517205))) 3689348814741910323))) / 16) + (IntKind.u64.wrap ((Go.bits .and .u64 ((IntKind.u64.wrap ((Go.bits .and .u64 (a0 / 2) 6148914691236517205) + (Go.bits .and .u64 a0 6148914691236517205))) / 4) 3689348814741910323) + (Go.bits .and .u64 (IntKind.u64.wrap ((Go.bits .and .u64 (a0 / 2) 6148914691236517205) + (Go.bits .and .u64 a0 6148914691236517205))) 3689348814741910323))))) 1085102592571150095) / 256))) / 65536))) + ((IntKind.u64.wrap ((IntKind.u64.wrap ((Go.bits .and .u64 (IntKind.u64.wrap (((IntKind.u64.wrap ((Go.bits .and .u64 ((IntKind.u64.wrap ((Go.bits .and .u64 (a0 / 2) 6148914691236517205) + (Go.bits .and .u64 a0 6148914691236517205))) / 4) 3689348814741910323) + (Go.bits .and .u64 (IntKind.u64.wrap ((Go.bits .and .u64 (a0 / 2) 6148914691236517205) + (Go.bits .and .u64 a0 6148914691236517205))) 3689348814741910323))) / 16) + (IntKind.u64.wrap ((Go.bits .and .u64 ((IntKind.u64.wrap ((Go.bits .and .u64 (a0 / 2) 6148914691236517205) + (Go.bits .and .u64 a0 6148914691236517205))) / 4) 3689348814741910323) + (Go.bits .and .u64 (IntKind.u64.wrap ((Go.bits .and .u64 (a0 / 2) 6148914691236517205) + (Go.bits .and .u64 a0 6148914691236517205))) 3689348814741910323))))) 1085102592571150095) + ((Go.bits .and .u64 (IntKind.u64.wrap (((IntKind.u64.wrap ((Go.bits .and .u64 ((IntKind.u64.wrap ((Go.bits .and .u64 (a0 / 2) 6148914691236517205) + (Go.bits .and .u64 a0 6148914691236517205))) / 4) 3689348814741910323) + (Go.bits .and .u64 (IntKind.u64.wrap ((Go.bits .and .u64 (a0 / 2) 6148914691236517205) + (Go.bits .and .u64 a0 6148914691236517205))) 3689348814741910323))) / 16) + (IntKind.u64.wrap ((Go.bits .and .u64 ((IntKind.u64.wrap ((Go.bits .and .u64 (a0 / 2) 6148914691236517205) + (Go.bits .and .u64 a0 6148914691236517205))) / 4) 3689348814741910323) + (Go.bits .and .u64 (IntKind.u64.wrap ((Go.bits .and .u64 (a0 / 2) 6148914691236517205) + (Go.bits .and .u64 a0 6148914691236517205))) 3689348814741910323))))) 1085102592571150095) / 256))) + ((IntKind.u64.wrap ((Go.bits .and .u64 (IntKind.u64.wrap (((IntKind.u64.wrap ((Go.bits .and .u64 ((IntKind.u64.wrap ((Go.bits .and .u64 (a0 / 2) 6148914691236517205) + (Go.bits .and .u64 a0 6148914691236517205))) / 4) 3689348814741910323) + (Go.bits .and .u64 (IntKind.u64.wrap ((Go.bits .and .u64 (a0 / 2) 6148914691236517205) + (Go.bits .and .u64 a0 6148914691236517205))) 3689348814741910323))) / 16) + (IntKind.u64.wrap ((Go.bits .and .u64 ((IntKind.u64.wrap ((Go.bits .and .u64 (a0 / 2) 6148914691236517205) + (Go.bits .and .u64 a0 6148914691236517205))) / 4) 3689348814741910323) + (Go.bits .and .u64 (IntKind.u64.wrap ((Go.bits .and .u64 (a0 / 2) 6148914691236517205) + (Go.bits .and .u64 a0 6148914691236517205))) 3689348814741910323))))) 1085102592571150095) + ((Go.bits .and .u64 (IntKind.u64.wrap (((IntKind.u64.wrap ((Go.bits .and .u64 ((IntKind.u64.wrap ((Go.bits .and .u64 (a0 / 2) 6148914691236517205) + (Go.bits .and .u64 a0 6148914691236517205))) / 4) 3689348814741910323) + (Go.bits .and .u64 (IntKind.u64.wrap ((Go.bits .and .u64 (a0 / 2) 6148914691236517205) + (Go.bits .and .u64 a0 6148914691236517205))) 3689348814741910323))) / 16) + (IntKind.u64.wrap ((Go.bits .and .u64 ((IntKind.u64.wrap ((Go.bits .and .u64 (a0 / 2) 6148914691236517205) + (Go.bits .and .u64 a0 6148914691236517205))) / 4) 3689348814741910323) + (Go.bits .and .u64 (IntKind.u64.wrap ((Go.bits .and .u64 (a0 / 2) 6148914691236517205) + (Go.bits .and .u64 a0 6148914691236517205))) 3689348814741910323))))) 1085102592571150095) / 256))) / 65536))) / 4294967296)))) 127)) = some r := h
 clear h;obtain rfl := Option.some.inj H;go_enter Try.func86, Try.ntmps86;go_wp2;go_ret;exact ⟨by first | rfl | (simp; done) | (simp [*]; done), by repeat (first | exact Drawn0.refl _ | apply Drawn0.step)⟩
end Go.Proofs.Ytaboleeclpllpaa.P


namespace Go.Proofs.Ytaboleeclpllpaa.P
open Go.RowKit Go.Proofs.YtaboleeclpllpaaW.PrintWords Go.Proofs.YtaboleeclpllpaaW.PrintLast Go.Proofs.YtaboleeclpllpaaW.PrintMore
attribute [local go_sem] max2_int min2_int max_two min_two max_three min_three max_four min_four
set_option linter.unusedVariables false
set_option linter.unusedSimpArgs false
def bits_OnesCount.f (a0 : Int) : Option (Int) := (bits_OnesCount64.f a0).bind fun t108 => (some t108)
set_option maxHeartbeats 8000000 in
set_option maxRecDepth 100000 in
theorem bits_OnesCount.calls (a0 : Int) (r : Int) (w : World) (h : bits_OnesCount.f a0 = some r) :
    Calls Try.prog 73 #[.int .u64 a0] w fun e w' => e = .returned (.int .i64 r) ∧ Drawn0 w w' := by
 have H : ((bits_OnesCount64.f a0).bind fun t108 => (some t108)) = some r := h;clear h;replace H := Option.bind_eq_some_iff.mp H;obtain ⟨t108, A20, H⟩ := H;replace H : (some t108) = some r := H;have A2 := Aside0.mk A20;clear A20;obtain rfl := Option.some.inj H;go_enter Try.func73, Try.ntmps73;go_wp2_with (first | ((with_reducible refine gate_callee (f := 86) rfl ?_); refine goesL_ (some 7) rfl rfl Try.func86 (by kernel_rfl) rfl #[.int .u64 a0] rfl (by (try simp only [List.map_toArray, List.map_cons, List.map_nil]); first | done | rfl | (simp only [List.length_drop, List.length_take]; rfl)) ?_; (with_reducible refine (bits_OnesCount64.calls a0 t108 _ A2.out).mono ?_); rintro e w' ⟨rfl, ⟨nd, rfl⟩⟩; refine ⟨_, rfl, ?_⟩));go_ret;exact ⟨by first | rfl | (simp; done) | (simp [*]; done), by repeat (first | exact Drawn0.refl _ | apply Drawn0.step)⟩
end Go.Proofs.Ytaboleeclpllpaa.P


namespace Go.Proofs.Ytaboleeclpllpaa.P
open Go.RowKit Go.Proofs.YtaboleeclpllpaaW.PrintWords Go.Proofs.YtaboleeclpllpaaW.PrintLast Go.Proofs.YtaboleeclpllpaaW.PrintMore
attribute [local go_sem] max2_int min2_int max_two min_two max_three min_three max_four min_four
set_option linter.unusedVariables false
set_option linter.unusedSimpArgs false
def dates_Most_1.f (a0 : Int) : Option (Int) := (bits_OnesCount.f (IntKind.u64.wrap (a0))).bind fun t109 => (some t109)
set_option maxHeartbeats 8000000 in
set_option maxRecDepth 100000 in
theorem dates_Most_1.calls (a0 : Int) (r : Int) (w : World) (h : dates_Most_1.f a0 = some r) :
    Calls Try.prog 72 #[.int .i64 a0] w fun e w' => e = .returned (.int .i64 r) ∧ Drawn0 w w' := by
 have H : ((bits_OnesCount.f (IntKind.u64.wrap (a0))).bind fun t109 => (some t109)) = some r := h;clear h;replace H := Option.bind_eq_some_iff.mp H;obtain ⟨t109, A20, H⟩ := H;replace H : (some t109) = some r := H;have A2 := Aside0.mk A20;clear A20;obtain rfl := Option.some.inj H;go_enter Try.func72, Try.ntmps72;go_wp2_with (first | ((with_reducible refine gate_callee (f := 73) rfl ?_); refine goesL_ (some 5) rfl rfl Try.func73 (by kernel_rfl) rfl #[.int .u64 (IntKind.u64.wrap (a0))] rfl (by (try simp only [List.map_toArray, List.map_cons, List.map_nil]); first | done | rfl | (simp only [List.length_drop, List.length_take]; rfl)) ?_; (with_reducible refine (bits_OnesCount.calls (IntKind.u64.wrap (a0)) t109 _ A2.out).mono ?_); rintro e w' ⟨rfl, ⟨nd, rfl⟩⟩; refine ⟨_, rfl, ?_⟩));go_ret;exact ⟨by first | rfl | (simp; done) | (simp [*]; done), by repeat (first | exact Drawn0.refl _ | apply Drawn0.step)⟩
end Go.Proofs.Ytaboleeclpllpaa.P


namespace Go.Proofs.Ytaboleeclpllpaa.P
open Go.RowKit Go.Proofs.YtaboleeclpllpaaW.PrintWords Go.Proofs.YtaboleeclpllpaaW.PrintLast Go.Proofs.YtaboleeclpllpaaW.PrintMore
attribute [local go_sem] max2_int min2_int max_two min_two max_three min_three max_four min_four
set_option linter.unusedVariables false
set_option linter.unusedSimpArgs false
theorem dates_Most.below_drawn {w w1 : World} (h : Drawn0 w w1) : Below w.heap.size w w1 := by obtain ⟨n, rfl⟩ := h.out; exact pw_below_drewN (Below.refl _ _) n
def dates_Most.bestL (k : Nat) (l : List S48) : Nat → Nat → Int → Option Int
  | 0, _, best => some best
  | m + 1, set, best => (dates_Most_1.f (set : Int)).bind fun a => (dates_Most_1.f best).bind fun b => if a > b then (dates_jobs_fits.f k l (set : Int)).bind fun t => dates_Most.bestL k l m (set + 1) (if t = true then (set : Int) else best) else dates_Most.bestL k l m (set + 1) best
set_option maxHeartbeats 8000000 in
set_option maxRecDepth 100000 in
theorem dates_Most.bestcalls (k : Nat) (A0 : Option Addr) (c0 : Nat) (l : List (S48)) (r : Int) (w : World) (hr0 : Kd.C k48 w A0 l.length l) (hc0 : l.length ≤ c0) (h8 : l.length ≤ 8) (h : dates_Most.bestL k l (2 ^ l.length) 0 0 = some r) :
    Calls Try.prog 71 #[.slice A0 l.length c0, .func (.func 72) #[] #[]] w fun e w' => e = .returned (.int .i64 r) ∧ Below w.heap.size w w' := by
 have HR0 := Aside0.mk hr0;have HC0 := Aside0.mk hc0;have H8 := Aside0.mk h8;have H := Aside0.mk h;have HB := Aside0.mk (Below.refl w.heap.size w);have hpow : (2 : Nat) ^ l.length ≤ 256 := Nat.pow_le_pow_right (n := 2) (by omega) h8;obtain ⟨N, hN⟩ : ∃ N, (2 : Nat) ^ l.length = N := ⟨_, rfl⟩
 rw [hN] at hpow;have HN := Aside0.mk hN;have HW := Aside0.mk (show wrap64 ((2 : Int) ^ min l.length 64) = (N : Int) by
  rw [← hN];have : ∀ n : Fin 9, wrap64 ((2 : Int) ^ min (n : Nat) 64) = (((2 : Nat) ^ (n : Nat) : Nat) : Int) := by decide +kernel
  exact this ⟨l.length, by omega⟩)
 clear hr0 hc0 h8 h hN;go_enter Try.func71, Try.ntmps71;go_wp2;go_loopg [5, 10] N (fun kq v5 v10 w' => ∃ (set : Nat) (best : Int), v5 = .int .i64 best ∧ v10 = .int .i64 (set : Int) ∧ Aside0 (set + kq = N) ∧ Aside0 (dates_Most.bestL k l (N - set) set best = some r) ∧ Aside0 (Below w.heap.size w w'))
 case atStart => exact ⟨0, 0, rfl, rfl, ⟨by omega⟩, ⟨by rw [← HN.out]; exact H.out⟩, HB⟩
 case round =>
  clear HB H;obtain ⟨set, best, rfl, rfl, HK, HS, HB⟩ := hrel;by_cases hlt : set < N
  ·have d1 : decide ((set : Int) < wrap64 ((2 : Int) ^ min l.length 64)) = true := decide_eq_true (by rw [HW.out]; omega);have HS2 := HS.out;rw [show N - set = (N - (set + 1)) + 1 by omega, dates_Most.bestL] at HS2;replace HS2 := Option.bind_eq_some_iff.mp HS2;obtain ⟨a, ha, HS2⟩ := HS2;replace HS2 := Option.bind_eq_some_iff.mp HS2;obtain ⟨b, hb0, HS2⟩ := HS2;have HA := Aside0.mk ha;have HBB := Aside0.mk hb0;clear HS ha hb0;obtain ⟨k1, rfl⟩ : ∃ k1, gk = k1 + 1 := ⟨gk - 1, by have := HK.out; omega⟩
   by_cases u : a > b
   ·rw [if_pos u] at HS2;replace HS2 := Option.bind_eq_some_iff.mp HS2;obtain ⟨t, hft, HS2⟩ := HS2;have HF := Aside0.mk hft;have HS3 := Aside0.mk HS2;have u1 : decide (b < a) = true := decide_eq_true u;clear HS2 hft u;go_wp2_with fail;refine (dates_Most_1.calls (set : Int) a _ HA.out).mono ?_;rintro e w1 ⟨rfl, hb⟩;replace HB := Aside0.mk (below_step HB.out (dates_Most.below_drawn hb));clear hb;go_wp2_with fail;refine (dates_Most_1.calls best b _ HBB.out).mono ?_;rintro e w2 ⟨rfl, hb⟩;replace HB := Aside0.mk (below_step HB.out (dates_Most.below_drawn hb));clear hb;go_wp2_with fail;refine (dates_jobs_fits.calls k A0 c0 l (set : Int) t _ (Kd.C_below HR0.out HB.out) HC0.out HF.out).mono ?_;rintro e w3 ⟨rfl, hb⟩;replace HB := Aside0.mk (below_step HB.out hb);clear hb;cases t with
    | true =>
     go_wp2;go_roundg k1
     case measure => omega
     case rel => exact ⟨set + 1, (set : Int), rfl, by go_num, ⟨by have := HK.out; omega⟩, HS3, HB⟩
    | false =>
     go_wp2;go_roundg k1
     case measure => omega
     case rel => exact ⟨set + 1, best, rfl, by go_num, ⟨by have := HK.out; omega⟩, HS3, HB⟩
   ·rw [if_neg u] at HS2;have HS3 := Aside0.mk HS2;have u1 : decide (b < a) = false := decide_eq_false u;clear HS2 u;go_wp2_with fail;refine (dates_Most_1.calls (set : Int) a _ HA.out).mono ?_;rintro e w1 ⟨rfl, hb⟩;replace HB := Aside0.mk (below_step HB.out (dates_Most.below_drawn hb));clear hb;go_wp2_with fail;refine (dates_Most_1.calls best b _ HBB.out).mono ?_;rintro e w2 ⟨rfl, hb⟩;replace HB := Aside0.mk (below_step HB.out (dates_Most.below_drawn hb));clear hb;go_wp2;go_roundg k1
    case measure => omega
    case rel => exact ⟨set + 1, best, rfl, by go_num, ⟨by have := HK.out; omega⟩, HS3, HB⟩
  ·have d1 : decide ((set : Int) < wrap64 ((2 : Int) ^ min l.length 64)) = false := decide_eq_false (by rw [HW.out]; omega);have hr : best = r := by
    have h := HS.out;rw [show N - set = 0 by omega, dates_Most.bestL] at h;exact Option.some.inj h
   subst hr;go_wp2;go_ret;exact ⟨rfl, HB.out⟩
def dates_Most.f (k : Nat) (l : List S48) : Option (Int × Int) := (dates_jobs_valid.f k l).bind fun v => if v = true then (if l.length ≤ 8 then (dates_Most.bestL k l (2 ^ l.length) 0 0).bind fun r => some (r, 0) else none) else some (0, 2)
set_option maxHeartbeats 8000000 in
set_option maxRecDepth 100000 in
theorem dates_Most.calls (k : Nat) (A0 : Option Addr) (c0 : Nat) (l0 : List (S48)) (r1 : Int) (r2 : Int) (w : World) (hr0 : Kd.C k48 w A0 l0.length l0) (hc0 : l0.length ≤ c0) (h : dates_Most.f k l0 = some (r1, r2)) :
    Calls Try.prog 49 #[.slice A0 l0.length c0] w fun e w' => e = .returned (.tuple #[.int .i64 r1, .int .i64 r2]) ∧ Below w.heap.size w w' := by
 have HR0 := Aside0.mk hr0;have HC0 := Aside0.mk hc0;have HB := Aside0.mk (Below.refl w.heap.size w);unfold dates_Most.f at h;replace h := Option.bind_eq_some_iff.mp h;obtain ⟨v, hv, h⟩ := h;have HV := Aside0.mk hv;clear hr0 hc0 hv;by_cases c : v = true
 ·subst c;rw [if_pos rfl] at h;by_cases c8 : l0.length ≤ 8
  ·rw [if_pos c8] at h;replace h := Option.bind_eq_some_iff.mp h;obtain ⟨r, hr, h⟩ := h;simp only [Option.some.injEq, Prod.mk.injEq] at h;obtain ⟨rfl, rfl⟩ := h;have HR := Aside0.mk hr;have H8 := Aside0.mk c8;clear hr c8;go_enter Try.func49, Try.ntmps49;go_wp2_with fail;refine (dates_jobs_valid.calls k A0 c0 l0 true _ (Kd.C_below HR0.out HB.out) HC0.out HV.out).mono ?_;rintro e w1 ⟨rfl, hb⟩;replace HB := Aside0.mk (below_step HB.out hb);clear hb;go_wp2_with fail;refine (dates_Most.bestcalls k A0 c0 l0 r _ (Kd.C_below HR0.out HB.out) HC0.out H8.out HR.out).mono ?_;rintro e w2 ⟨rfl, hb⟩;replace HB := Aside0.mk (below_step HB.out hb);clear hb;go_wp2;go_ret2;exact ⟨rfl, HB.out⟩
  ·rw [if_neg c8] at h;exact absurd h (by simp)
 ·rw [if_neg c] at h;replace c := Bool.eq_false_iff.mpr c;subst c;simp only [Option.some.injEq, Prod.mk.injEq] at h;obtain ⟨rfl, rfl⟩ := h;go_enter Try.func49, Try.ntmps49;go_wp2_with fail;refine (dates_jobs_valid.calls k A0 c0 l0 false _ (Kd.C_below HR0.out HB.out) HC0.out HV.out).mono ?_;rintro e w1 ⟨rfl, hb⟩;replace HB := Aside0.mk (below_step HB.out hb);clear hb;go_wp2;go_ret2;exact ⟨rfl, HB.out⟩
end Go.Proofs.Ytaboleeclpllpaa.P


namespace Go.Proofs.Ytaboleeclpllpaa.P
open Go.RowKit Go.Proofs.YtaboleeclpllpaaW.PrintWords Go.Proofs.YtaboleeclpllpaaW.PrintLast Go.Proofs.YtaboleeclpllpaaW.PrintMore
attribute [local go_sem] max2_int min2_int max_two min_two max_three min_three max_four min_four
set_option linter.unusedVariables false
set_option linter.unusedSimpArgs false
def dates_jobs_weight.l0 : Nat → Int → Int → List (S48) → Int → Int → Option (Int)
  | 0, _, _, _, _, _ => none
  | k + 1, x1, x5, x8, x9, x10 => if x10 < x9 then (if 0 ≤ x10 then (if x10 < (x8.length : Int) then (dates_jobs_weight.l0 k x1 (wrap64 (x5 + (wrap64 (((rd_T48 x8 x10).f3) * (Go.bits .and .i64 (shr .i64 x1 x10) 1))))) x8 x9 (wrap64 (x10 + 1))) else (none)) else (none)) else (some x5)
def dates_jobs_weight.f (k : Nat) (l0 : List (S48)) (a1 : Int) : Option (Int) := dates_jobs_weight.l0 k a1 0 l0 (l0.length : Int) 0
set_option maxHeartbeats 8000000 in
set_option maxRecDepth 100000 in
theorem dates_jobs_weight.calls (k : Nat) (A0 : Option Addr) (c0 : Nat) (l0 : List (S48)) (a1 : Int) (r : Int) (w : World) (hr0 : Kd.C k48 w A0 l0.length l0) (hc0 : l0.length ≤ c0) (h : dates_jobs_weight.f k l0 a1 = some r) :
    Calls Try.prog 74 #[.slice A0 l0.length c0, .int .i64 a1] w fun e w' => e = .returned (.int .i64 r) ∧ Below w.heap.size w w' := by
 have hu48 := Try.underlying48;have HR0 := Aside0.mk hr0;have HC0 := Aside0.mk hc0;clear hr0 hc0;have HB := Aside0.mk (Below.refl w.heap.size w);have H : (dates_jobs_weight.l0 k a1 0 l0 (l0.length : Int) 0) = some r := h;clear h;have H' := Aside0.mk H;clear H;go_enter Try.func74, Try.ntmps74;go_wp2;repeat (go_quiet (fail); try go_wp2)
 go_loopg [5, 10] k (fun kq v5 v10 w' => ∃ (x5_1 : Int) (x10_1 : Int), v5 = .int .i64 x5_1 ∧ v10 = .int .i64 x10_1 ∧ Aside0 (dates_jobs_weight.l0 kq a1 x5_1 l0 (l0.length : Int) x10_1 = some r) ∧ Aside0 (kq ≤ k) ∧ Aside0 (Below w.heap.size w w'))
 case atStart => exact ⟨(0), (0), (by first | rfl | (simp; done) | (simp [*]; done)), (by first | rfl | (simp; done) | (simp [*]; done)), H', ⟨Nat.le_refl _⟩, ⟨by repeat (first | (with_reducible first | exact HB.out | apply below_alloc | apply pw_below_drewN | apply below_drew1) | exact HB.out)⟩⟩
 case round =>
  clear H';try clear p2
  obtain ⟨x5_1, x10_1, rfl, rfl, HA, HK1, HB⟩ := hrel;cases gk with
  | zero => exact absurd HA.out (by simp [dates_jobs_weight.l0])
  | succ k1 =>
   have H := HA.out;clear HA;simp only [dates_jobs_weight.l0] at H;by_cases c3 : x10_1 < (l0.length : Int)
   ·rw [if_pos c3] at H;have c3b0 : decide (x10_1 < (l0.length : Int)) = true := decide_eq_true c3;clear c3;by_cases c4 : 0 ≤ x10_1
    ·rw [if_pos c4] at H;have c4b0 : decide (0 ≤ x10_1) = true := decide_eq_true c4;clear c4;by_cases c5 : x10_1 < (l0.length : Int)
     ·rw [if_pos c5] at H;have c5b0 : decide (x10_1 < (l0.length : Int)) = true := decide_eq_true c5;clear c5;have c6b0 := eq_true (of_decide_eq_true (by first | (with_reducible assumption) | assumption) : 0 ≤ x10_1);obtain ⟨ji7, hji7⟩ : ∃ j_ : Int, (shr .i64 a1 x10_1) = j_ := ⟨_, rfl⟩
      replace H : (dates_jobs_weight.l0 k1 a1 (wrap64 (x5_1 + (wrap64 (((rd_T48 l0 x10_1).f3) * (Go.bits .and .i64 (ji7) 1))))) l0 (l0.length : Int) (wrap64 (x10_1 + 1))) = some r := by first | (rw [hji7] at H; exact H) | (simp only [hji7] at H ⊢; exact H)
      have hji7_ : (a1 / 2 ^ min x10_1.toNat 64) = ji7 := hji7;have hji7z : x10_1 ≤ 64 → (a1 / 2 ^ x10_1.toNat) = ji7 := shr_small hji7
      have H' := Aside0.mk H;clear H;have p110 : 0 ≤ (x10_1 : Int) := of_decide_eq_true (by first | (with_reducible assumption) | assumption);have q110 : x10_1 < (l0.length : Int) := of_decide_eq_true (by first | (with_reducible assumption) | assumption);obtain ⟨ad110, e110, hx110_0, hx110_1, hx110_2, hx110_3⟩ := at_T48 HR0.out x10_1 p110 q110;cases e110;replace hx110_0 := (HB.out.cell (World.block_lt_of_cell? w _ hx110_0)).trans hx110_0;replace hx110_1 := (HB.out.cell (World.block_lt_of_cell? w _ hx110_1)).trans hx110_1;replace hx110_2 := (HB.out.cell (World.block_lt_of_cell? w _ hx110_2)).trans hx110_2;replace hx110_3 := (HB.out.cell (World.block_lt_of_cell? w _ hx110_3)).trans hx110_3;replace p110 := eq_true p110;replace q110 := eq_true q110;go_wp2_with (first | ((with_reducible refine gate_dst (N := 7) rfl ?_); refine box_event ?hg (N := 7) ?hd (cs := #[.int .i64 0, .int .i64 0, .int .i64 0, .int .i64 0]) (t := 48) ?hr ?_; (case hd => rfl); (case hg => rfl); (case hr => first | (go_simp; done) | (go_simp; rfl)); intro gb111 hg w8 hbox hb; have n0_ := Aside0.mk (below_step (by repeat (first | (with_reducible first | exact HB.out | apply below_alloc | apply pw_below_drewN | apply below_drew1) | exact HB.out)) hb); have n1_ := Aside0.mk (hbox); have n2_ := Aside0.mk ((by rw [hg]; exact (below_size (by repeat (first | (with_reducible first | exact HB.out | apply below_alloc | apply pw_below_drewN | apply below_drew1) | exact HB.out))) : w.heap.size ≤ gb111)); have n3_ := Aside0.mk ((by rw [hg]; exact (below_size (by repeat (first | (with_reducible first | exact HB.out | apply below_alloc | apply pw_below_drewN | apply below_drew1) | exact HB.out))) : w.heap.size ≤ gb111)); clear HB; have HB := n0_; have BK111 := n1_; have GW111 := n2_; have GE111 := n3_; clear n0_ n1_ n2_ n3_; clear hb hbox hg; have hcz9_0 : w8.cell? ⟨gb111, 0, none⟩ = some (.int .i64 0) := (blk_cell BK111.out 0).trans rfl; have hcz9_1 : w8.cell? ⟨gb111, 1, none⟩ = some (.int .i64 0) := (blk_cell BK111.out 1).trans rfl; have hcz9_2 : w8.cell? ⟨gb111, 2, none⟩ = some (.int .i64 0) := (blk_cell BK111.out 2).trans rfl; have hcz9_3 : w8.cell? ⟨gb111, 3, none⟩ = some (.int .i64 0) := (blk_cell BK111.out 3).trans rfl; have hfz9_0 := blk_frozen BK111.out 0; have hfz9_1 := blk_frozen BK111.out 1; have hfz9_2 := blk_frozen BK111.out 2; have hfz9_3 := blk_frozen BK111.out 3));repeat (go_quiet (first | ((with_reducible refine gate_dst (N := 7) rfl ?_); refine box_event ?hg (N := 7) ?hd (cs := #[.int .i64 0, .int .i64 0, .int .i64 0, .int .i64 0]) (t := 48) ?hr ?_; (case hd => rfl); (case hg => rfl); (case hr => first | (go_simp; done) | (go_simp; rfl)); intro gb111 hg w8 hbox hb; have n0_ := Aside0.mk (below_step (by repeat (first | (with_reducible first | exact HB.out | apply below_alloc | apply pw_below_drewN | apply below_drew1) | exact HB.out)) hb); have n1_ := Aside0.mk (hbox); have n2_ := Aside0.mk ((by rw [hg]; exact (below_size (by repeat (first | (with_reducible first | exact HB.out | apply below_alloc | apply pw_below_drewN | apply below_drew1) | exact HB.out))) : w.heap.size ≤ gb111)); have n3_ := Aside0.mk ((by rw [hg]; exact (below_size (by repeat (first | (with_reducible first | exact HB.out | apply below_alloc | apply pw_below_drewN | apply below_drew1) | exact HB.out))) : w.heap.size ≤ gb111)); clear HB; have HB := n0_; have BK111 := n1_; have GW111 := n2_; have GE111 := n3_; clear n0_ n1_ n2_ n3_; clear hb hbox hg; have hcz9_0 : w8.cell? ⟨gb111, 0, none⟩ = some (.int .i64 0) := (blk_cell BK111.out 0).trans rfl; have hcz9_1 : w8.cell? ⟨gb111, 1, none⟩ = some (.int .i64 0) := (blk_cell BK111.out 1).trans rfl; have hcz9_2 : w8.cell? ⟨gb111, 2, none⟩ = some (.int .i64 0) := (blk_cell BK111.out 2).trans rfl; have hcz9_3 : w8.cell? ⟨gb111, 3, none⟩ = some (.int .i64 0) := (blk_cell BK111.out 3).trans rfl; have hfz9_0 := blk_frozen BK111.out 0; have hfz9_1 := blk_frozen BK111.out 1; have hfz9_2 := blk_frozen BK111.out 2; have hfz9_3 := blk_frozen BK111.out 3)); try go_wp2_with (first | ((with_reducible refine gate_dst (N := 7) rfl ?_); refine box_event ?hg (N := 7) ?hd (cs := #[.int .i64 0, .int .i64 0, .int .i64 0, .int .i64 0]) (t := 48) ?hr ?_; (case hd => rfl); (case hg => rfl); (case hr => first | (go_simp; done) | (go_simp; rfl)); intro gb111 hg w8 hbox hb; have n0_ := Aside0.mk (below_step (by repeat (first | (with_reducible first | exact HB.out | apply below_alloc | apply pw_below_drewN | apply below_drew1) | exact HB.out)) hb); have n1_ := Aside0.mk (hbox); have n2_ := Aside0.mk ((by rw [hg]; exact (below_size (by repeat (first | (with_reducible first | exact HB.out | apply below_alloc | apply pw_below_drewN | apply below_drew1) | exact HB.out))) : w.heap.size ≤ gb111)); have n3_ := Aside0.mk ((by rw [hg]; exact (below_size (by repeat (first | (with_reducible first | exact HB.out | apply below_alloc | apply pw_below_drewN | apply below_drew1) | exact HB.out))) : w.heap.size ≤ gb111)); clear HB; have HB := n0_; have BK111 := n1_; have GW111 := n2_; have GE111 := n3_; clear n0_ n1_ n2_ n3_; clear hb hbox hg; have hcz9_0 : w8.cell? ⟨gb111, 0, none⟩ = some (.int .i64 0) := (blk_cell BK111.out 0).trans rfl; have hcz9_1 : w8.cell? ⟨gb111, 1, none⟩ = some (.int .i64 0) := (blk_cell BK111.out 1).trans rfl; have hcz9_2 : w8.cell? ⟨gb111, 2, none⟩ = some (.int .i64 0) := (blk_cell BK111.out 2).trans rfl; have hcz9_3 : w8.cell? ⟨gb111, 3, none⟩ = some (.int .i64 0) := (blk_cell BK111.out 3).trans rfl; have hfz9_0 := blk_frozen BK111.out 0; have hfz9_1 := blk_frozen BK111.out 1; have hfz9_2 := blk_frozen BK111.out 2; have hfz9_3 := blk_frozen BK111.out 3)))
      go_roundg k1
      case measure => have := HK1.out; omega
      case rel => exact ⟨(wrap64 (x5_1 + (wrap64 (((rd_T48 l0 x10_1).f3) * (Go.bits .and .i64 (ji7) 1))))), (wrap64 (x10_1 + 1)), (by first | rfl | (simp; done) | (simp only [← hji7] <;> (first | rfl | simp)) | (simp [*]; done)), (by first | rfl | (simp; done) | (simp [*]; done)), H', ⟨by have := HK1.out; omega⟩, ⟨by repeat (first | (with_reducible first | exact HB.out | apply below_alloc | apply pw_below_drewN | apply below_drew1 | refine below_set ?_ GE111.out) | exact HB.out)⟩⟩
     ·rw [if_neg c5] at H;exact absurd H (by simp)
    ·rw [if_neg c4] at H;exact absurd H (by simp)
   ·rw [if_neg c3] at H;have c3b0 : decide (x10_1 < (l0.length : Int)) = false := decide_eq_false c3;clear c3;obtain rfl := Option.some.inj H;go_wp2;repeat (go_quiet (fail); try go_wp2)
    go_ret;exact ⟨by first | rfl | (simp [errW_none, errW_some] <;> rfl) | (simp [*, errW_none, errW_some] <;> rfl), by repeat (first | (with_reducible first | exact HB.out | apply below_alloc | apply pw_below_drewN | apply below_drew1) | exact HB.out)⟩
end Go.Proofs.Ytaboleeclpllpaa.P


namespace Go.Proofs.Ytaboleeclpllpaa.P
open Go.RowKit Go.Proofs.YtaboleeclpllpaaW.PrintWords Go.Proofs.YtaboleeclpllpaaW.PrintLast Go.Proofs.YtaboleeclpllpaaW.PrintMore
attribute [local go_sem] max2_int min2_int max_two min_two max_three min_three max_four min_four
set_option linter.unusedVariables false
set_option linter.unusedSimpArgs false
def dates_Weigh.bestL (k : Nat) (l : List S48) : Nat → Nat → Int → Option Int
  | 0, _, best => some best
  | m + 1, set, best => (dates_jobs_weight.f k l (set : Int)).bind fun a => (dates_jobs_weight.f k l best).bind fun b => if a > b then (dates_jobs_fits.f k l (set : Int)).bind fun t => dates_Weigh.bestL k l m (set + 1) (if t = true then (set : Int) else best) else dates_Weigh.bestL k l m (set + 1) best
set_option maxHeartbeats 8000000 in
set_option maxRecDepth 100000 in
theorem dates_Weigh.bestcalls (k : Nat) (A0 : Option Addr) (c0 : Nat) (l : List (S48)) (r : Int) (w : World) (hr0 : Kd.C k48 w A0 l.length l) (hc0 : l.length ≤ c0) (h8 : l.length ≤ 8) (h : dates_Weigh.bestL k l (2 ^ l.length) 0 0 = some r) :
    Calls Try.prog 71 #[.slice A0 l.length c0, .func (.func 74) #[.slice A0 l.length c0] #[]] w fun e w' => e = .returned (.int .i64 r) ∧ Below w.heap.size w w' := by
 have HR0 := Aside0.mk hr0;have HC0 := Aside0.mk hc0;have H8 := Aside0.mk h8;have H := Aside0.mk h;have HB := Aside0.mk (Below.refl w.heap.size w);have hpow : (2 : Nat) ^ l.length ≤ 256 := Nat.pow_le_pow_right (n := 2) (by omega) h8;obtain ⟨N, hN⟩ : ∃ N, (2 : Nat) ^ l.length = N := ⟨_, rfl⟩
 rw [hN] at hpow;have HN := Aside0.mk hN;have HW := Aside0.mk (show wrap64 ((2 : Int) ^ min l.length 64) = (N : Int) by
  rw [← hN];have : ∀ n : Fin 9, wrap64 ((2 : Int) ^ min (n : Nat) 64) = (((2 : Nat) ^ (n : Nat) : Nat) : Int) := by decide +kernel
  exact this ⟨l.length, by omega⟩)
 clear hr0 hc0 h8 h hN;go_enter Try.func71, Try.ntmps71;go_wp2;go_loopg [5, 10] N (fun kq v5 v10 w' => ∃ (set : Nat) (best : Int), v5 = .int .i64 best ∧ v10 = .int .i64 (set : Int) ∧ Aside0 (set + kq = N) ∧ Aside0 (dates_Weigh.bestL k l (N - set) set best = some r) ∧ Aside0 (Below w.heap.size w w'))
 case atStart => exact ⟨0, 0, rfl, rfl, ⟨by omega⟩, ⟨by rw [← HN.out]; exact H.out⟩, HB⟩
 case round =>
  clear HB H;obtain ⟨set, best, rfl, rfl, HK, HS, HB⟩ := hrel;by_cases hlt : set < N
  ·have d1 : decide ((set : Int) < wrap64 ((2 : Int) ^ min l.length 64)) = true := decide_eq_true (by rw [HW.out]; omega);have HS2 := HS.out;rw [show N - set = (N - (set + 1)) + 1 by omega, dates_Weigh.bestL] at HS2;replace HS2 := Option.bind_eq_some_iff.mp HS2;obtain ⟨a, ha, HS2⟩ := HS2;replace HS2 := Option.bind_eq_some_iff.mp HS2;obtain ⟨b, hb0, HS2⟩ := HS2;have HA := Aside0.mk ha;have HBB := Aside0.mk hb0;clear HS ha hb0;obtain ⟨k1, rfl⟩ : ∃ k1, gk = k1 + 1 := ⟨gk - 1, by have := HK.out; omega⟩
   by_cases u : a > b
   ·rw [if_pos u] at HS2;replace HS2 := Option.bind_eq_some_iff.mp HS2;obtain ⟨t, hft, HS2⟩ := HS2;have HF := Aside0.mk hft;have HS3 := Aside0.mk HS2;have u1 : decide (b < a) = true := decide_eq_true u;clear HS2 hft u;go_wp2_with fail;refine (dates_jobs_weight.calls k A0 c0 l (set : Int) a _ (Kd.C_below HR0.out HB.out) HC0.out HA.out).mono ?_;rintro e w1 ⟨rfl, hb⟩;replace HB := Aside0.mk (below_step HB.out (hb));clear hb;go_wp2_with fail;refine (dates_jobs_weight.calls k A0 c0 l best b _ (Kd.C_below HR0.out HB.out) HC0.out HBB.out).mono ?_;rintro e w2 ⟨rfl, hb⟩;replace HB := Aside0.mk (below_step HB.out (hb));clear hb;go_wp2_with fail;refine (dates_jobs_fits.calls k A0 c0 l (set : Int) t _ (Kd.C_below HR0.out HB.out) HC0.out HF.out).mono ?_;rintro e w3 ⟨rfl, hb⟩;replace HB := Aside0.mk (below_step HB.out hb);clear hb;cases t with
    | true =>
     go_wp2;go_roundg k1
     case measure => omega
     case rel => exact ⟨set + 1, (set : Int), rfl, by go_num, ⟨by have := HK.out; omega⟩, HS3, HB⟩
    | false =>
     go_wp2;go_roundg k1
     case measure => omega
     case rel => exact ⟨set + 1, best, rfl, by go_num, ⟨by have := HK.out; omega⟩, HS3, HB⟩
   ·rw [if_neg u] at HS2;have HS3 := Aside0.mk HS2;have u1 : decide (b < a) = false := decide_eq_false u;clear HS2 u;go_wp2_with fail;refine (dates_jobs_weight.calls k A0 c0 l (set : Int) a _ (Kd.C_below HR0.out HB.out) HC0.out HA.out).mono ?_;rintro e w1 ⟨rfl, hb⟩;replace HB := Aside0.mk (below_step HB.out (hb));clear hb;go_wp2_with fail;refine (dates_jobs_weight.calls k A0 c0 l best b _ (Kd.C_below HR0.out HB.out) HC0.out HBB.out).mono ?_;rintro e w2 ⟨rfl, hb⟩;replace HB := Aside0.mk (below_step HB.out (hb));clear hb;go_wp2;go_roundg k1
    case measure => omega
    case rel => exact ⟨set + 1, best, rfl, by go_num, ⟨by have := HK.out; omega⟩, HS3, HB⟩
  ·have d1 : decide ((set : Int) < wrap64 ((2 : Int) ^ min l.length 64)) = false := decide_eq_false (by rw [HW.out]; omega);have hr : best = r := by
    have h := HS.out;rw [show N - set = 0 by omega, dates_Weigh.bestL] at h;exact Option.some.inj h
   subst hr;go_wp2;go_ret;exact ⟨rfl, HB.out⟩
def dates_Weigh.f (k : Nat) (l : List S48) : Option (Int × Int × Int) := (dates_jobs_valid.f k l).bind fun v => if v = true then (if l.length ≤ 8 then (dates_Weigh.bestL k l (2 ^ l.length) 0 0).bind fun r => (dates_jobs_weight.f k l r).bind fun n => some (r, n, 0) else none) else some (0, 0, 2)
set_option maxHeartbeats 8000000 in
set_option maxRecDepth 100000 in
theorem dates_Weigh.calls (k : Nat) (A0 : Option Addr) (c0 : Nat) (l0 : List (S48)) (r1 : Int) (r2 : Int) (r3 : Int) (w : World) (hr0 : Kd.C k48 w A0 l0.length l0) (hc0 : l0.length ≤ c0) (h : dates_Weigh.f k l0 = some (r1, r2, r3)) :
    Calls Try.prog 50 #[.slice A0 l0.length c0] w fun e w' => e = .returned (.tuple #[.int .i64 r1, .int .i64 r2, .int .i64 r3]) ∧ Below w.heap.size w w' := by
 have HR0 := Aside0.mk hr0;have HC0 := Aside0.mk hc0;have HB := Aside0.mk (Below.refl w.heap.size w);unfold dates_Weigh.f at h;replace h := Option.bind_eq_some_iff.mp h;obtain ⟨v, hv, h⟩ := h;have HV := Aside0.mk hv;clear hr0 hc0 hv;by_cases c : v = true
 ·subst c;rw [if_pos rfl] at h;by_cases c8 : l0.length ≤ 8
  ·rw [if_pos c8] at h;replace h := Option.bind_eq_some_iff.mp h;obtain ⟨r, hr, h⟩ := h;replace h := Option.bind_eq_some_iff.mp h;obtain ⟨n, hn, h⟩ := h;simp only [Option.some.injEq, Prod.mk.injEq] at h;obtain ⟨rfl, rfl, rfl⟩ := h;have HR := Aside0.mk hr;have HN := Aside0.mk hn;have H8 := Aside0.mk c8;clear hr hn c8;go_enter Try.func50, Try.ntmps50;go_wp2_with fail;refine (dates_jobs_valid.calls k A0 c0 l0 true _ (Kd.C_below HR0.out HB.out) HC0.out HV.out).mono ?_;rintro e w1 ⟨rfl, hb⟩;replace HB := Aside0.mk (below_step HB.out hb);clear hb;go_wp2_with fail;refine (dates_Weigh.bestcalls k A0 c0 l0 r _ (Kd.C_below HR0.out HB.out) HC0.out H8.out HR.out).mono ?_;rintro e w2 ⟨rfl, hb⟩;replace HB := Aside0.mk (below_step HB.out hb);clear hb;go_wp2_with fail;refine (dates_jobs_weight.calls k A0 c0 l0 r n _ (Kd.C_below HR0.out HB.out) HC0.out HN.out).mono ?_;rintro e w3 ⟨rfl, hb⟩;replace HB := Aside0.mk (below_step HB.out hb);clear hb;go_wp2;go_ret3;exact ⟨rfl, HB.out⟩
  ·rw [if_neg c8] at h;exact absurd h (by simp)
 ·rw [if_neg c] at h;replace c := Bool.eq_false_iff.mpr c;subst c;simp only [Option.some.injEq, Prod.mk.injEq] at h;obtain ⟨rfl, rfl, rfl⟩ := h;go_enter Try.func50, Try.ntmps50;go_wp2_with fail;refine (dates_jobs_valid.calls k A0 c0 l0 false _ (Kd.C_below HR0.out HB.out) HC0.out HV.out).mono ?_;rintro e w1 ⟨rfl, hb⟩;replace HB := Aside0.mk (below_step HB.out hb);clear hb;go_wp2;go_ret3;exact ⟨rfl, HB.out⟩
end Go.Proofs.Ytaboleeclpllpaa.P


namespace Go.Proofs.Ytaboleeclpllpaa.P
open Go.RowKit Go.Proofs.YtaboleeclpllpaaW.PrintWords Go.Proofs.YtaboleeclpllpaaW.PrintLast Go.Proofs.YtaboleeclpllpaaW.PrintMore
attribute [local go_sem] max2_int min2_int max_two min_two max_three min_three max_four min_four
set_option linter.unusedVariables false
set_option linter.unusedSimpArgs false
end Go.Proofs.Ytaboleeclpllpaa.P


namespace Go.Proofs.Ytaboleeclpllpaa.P
open Go.RowKit Go.Proofs.YtaboleeclpllpaaW.PrintWords Go.Proofs.YtaboleeclpllpaaW.PrintLast Go.Proofs.YtaboleeclpllpaaW.PrintMore
attribute [local go_sem] max2_int min2_int max_two min_two max_three min_three max_four min_four
set_option linter.unusedVariables false
set_option linter.unusedSimpArgs false
end Go.Proofs.Ytaboleeclpllpaa.P


namespace Go.Proofs.Ytaboleeclpllpaa.P
open Go.RowKit Go.Proofs.YtaboleeclpllpaaW.PrintWords Go.Proofs.YtaboleeclpllpaaW.PrintLast Go.Proofs.YtaboleeclpllpaaW.PrintMore
attribute [local go_sem] max2_int min2_int max_two min_two max_three min_three max_four min_four
set_option linter.unusedVariables false
set_option linter.unusedSimpArgs false
end Go.Proofs.Ytaboleeclpllpaa.P


namespace Go.Proofs.Ytaboleeclpllpaa.P
open Go.RowKit Go.Proofs.YtaboleeclpllpaaW.PrintWords Go.Proofs.YtaboleeclpllpaaW.PrintLast Go.Proofs.YtaboleeclpllpaaW.PrintMore
attribute [local go_sem] max2_int min2_int max_two min_two max_three min_three max_four min_four
set_option linter.unusedVariables false
set_option linter.unusedSimpArgs false
def dates_jobs_worst.wf (x : Int) : Prop := (Lit.int .i64 x).wf = true
instance (x : Int) : Decidable (dates_jobs_worst.wf x) := inferInstanceAs (Decidable ((Lit.int .i64 x).wf = true))
end Go.Proofs.Ytaboleeclpllpaa.P


namespace Go.Proofs.Ytaboleeclpllpaa.P
open Go.RowKit Go.Proofs.YtaboleeclpllpaaW.PrintWords Go.Proofs.YtaboleeclpllpaaW.PrintLast Go.Proofs.YtaboleeclpllpaaW.PrintMore
attribute [local go_sem] max2_int min2_int max_two min_two max_three min_three max_four min_four
set_option linter.unusedVariables false
set_option linter.unusedSimpArgs false
end Go.Proofs.Ytaboleeclpllpaa.P


namespace Go.Proofs.Ytaboleeclpllpaa.P
open Go.RowKit Go.Proofs.YtaboleeclpllpaaW.PrintWords Go.Proofs.YtaboleeclpllpaaW.PrintLast Go.Proofs.YtaboleeclpllpaaW.PrintMore
attribute [local go_sem] max2_int min2_int max_two min_two max_three min_three max_four min_four
set_option linter.unusedVariables false
set_option linter.unusedSimpArgs false
end Go.Proofs.Ytaboleeclpllpaa.P


namespace Go.Proofs.Ytaboleeclpllpaa.P
open Go.RowKit Go.Proofs.YtaboleeclpllpaaW.PrintWords Go.Proofs.YtaboleeclpllpaaW.PrintLast Go.Proofs.YtaboleeclpllpaaW.PrintMore
attribute [local go_sem] max2_int min2_int max_two min_two max_three min_three max_four min_four
set_option linter.unusedVariables false
set_option linter.unusedSimpArgs false
end Go.Proofs.Ytaboleeclpllpaa.P


namespace Go.Proofs.Ytaboleeclpllpaa.P
open Go.RowKit Go.Proofs.YtaboleeclpllpaaW.PrintWords Go.Proofs.YtaboleeclpllpaaW.PrintLast Go.Proofs.YtaboleeclpllpaaW.PrintMore
attribute [local go_sem] max2_int min2_int max_two min_two max_three min_three max_four min_four
set_option linter.unusedVariables false
set_option linter.unusedSimpArgs false
end Go.Proofs.Ytaboleeclpllpaa.P


namespace Go.Proofs.Ytaboleeclpllpaa.P
open Go.RowKit Go.Proofs.YtaboleeclpllpaaW.PrintWords Go.Proofs.YtaboleeclpllpaaW.PrintLast Go.Proofs.YtaboleeclpllpaaW.PrintMore
attribute [local go_sem] max2_int min2_int max_two min_two max_three min_three max_four min_four
set_option linter.unusedVariables false
set_option linter.unusedSimpArgs false
end Go.Proofs.Ytaboleeclpllpaa.P


namespace Go.Proofs.Ytaboleeclpllpaa.P
open Go.RowKit Go.Proofs.YtaboleeclpllpaaW.PrintWords Go.Proofs.YtaboleeclpllpaaW.PrintLast Go.Proofs.YtaboleeclpllpaaW.PrintMore
attribute [local go_sem] max2_int min2_int max_two min_two max_three min_three max_four min_four
set_option linter.unusedVariables false
set_option linter.unusedSimpArgs false
end Go.Proofs.Ytaboleeclpllpaa.P


namespace Go.Proofs.Ytaboleeclpllpaa.P
open Go.RowKit Go.Proofs.YtaboleeclpllpaaW.PrintWords Go.Proofs.YtaboleeclpllpaaW.PrintLast Go.Proofs.YtaboleeclpllpaaW.PrintMore
attribute [local go_sem] max2_int min2_int max_two min_two max_three min_three max_four min_four
set_option linter.unusedVariables false
set_option linter.unusedSimpArgs false
end Go.Proofs.Ytaboleeclpllpaa.P


namespace Go.Proofs.Ytaboleeclpllpaa.P
open Go.RowKit Go.Proofs.YtaboleeclpllpaaW.PrintWords Go.Proofs.YtaboleeclpllpaaW.PrintLast Go.Proofs.YtaboleeclpllpaaW.PrintMore
attribute [local go_sem] max2_int min2_int max_two min_two max_three min_three max_four min_four
set_option linter.unusedVariables false
set_option linter.unusedSimpArgs false
end Go.Proofs.Ytaboleeclpllpaa.P


namespace Go.Proofs.Ytaboleeclpllpaa.P
open Go.RowKit Go.Proofs.YtaboleeclpllpaaW.PrintWords Go.Proofs.YtaboleeclpllpaaW.PrintLast Go.Proofs.YtaboleeclpllpaaW.PrintMore
attribute [local go_sem] max2_int min2_int max_two min_two max_three min_three max_four min_four
set_option linter.unusedVariables false
set_option linter.unusedSimpArgs false
end Go.Proofs.Ytaboleeclpllpaa.P

namespace Go.Proofs.Ytaboleeclpllpaa.P
open Go.RowKit Go.Proofs.YtaboleeclpllpaaW.PrintWords Go.Proofs.YtaboleeclpllpaaW.PrintLast Go.Proofs.YtaboleeclpllpaaW.PrintMore
attribute [local go_sem] max2_int min2_int max_two min_two max_three min_three max_four min_four
set_option linter.unusedVariables false
set_option linter.unusedSimpArgs false
theorem app2.old {P : Program} {w : World} {base : Nat} {t ty e : TypeId} {i : TypeInfo} {z : Value} {size bytes : Nat} (ht : P.underlying t = some (.slice e)) (hi : P.info? e = some i) (hz : i.zero = some z)
    (hsize : i.size = size) (hby : i.bytes = bytes) (hzs : z.cells.size = size) (hsz : 0 < size) {v : Value} {n : Nat} {xs : List Value} (hown : w.ownsRow base e size v n xs)
    {a : Addr} {m c : Nat} {news : List Value} (hl : news.length = m * size) (hnews : ∀ j u, news[j]? = some u → w.cell? (a.add j) = some u) (h1 : ∀ u ∈ news, u.oneCell' = true)
    (h63 : n + m ≤ maxLen) (hbytes : (n + m) * bytes ≤ 140737488355328) {v' : Value} {w' : World} (hrun : (Builtin.append_ #[t, t] ty #[v, .slice (some a) m c]).run P w = .ok v' w') : w'.ownsRow base e size v n xs := by
 rcases hown.2 with ⟨rfl, rfl⟩ | ⟨g, cap, cur, rfl, hbg, hg, hnc, hcm, hcs, htake⟩
 ·obtain rfl : xs = [] := List.eq_nil_of_length_eq_zero (by simpa using hown.1);exact World.ownsRow_nil _ _ _ _
 ·by_cases hroom : n + m ≤ cap
  ·subst hsize;have hfit : n * i.size + news.length ≤ cur.size := by rw [hl, hcs, ← Nat.add_mul]; exact Nat.mul_le_mul_right _ hroom
   have hr := run_append_room (P := P) w t ty e i ht hi g n cap cur hg a m c news hl hnews h1 hroom hfit;rw [hr] at hrun;injection hrun with _ hw
   subst hw;refine ⟨hown.1, .inr ⟨g, cap, _, rfl, hbg, setRow_heap w g cur _ e _ hg, hnc, hcm, ?_, ?_⟩⟩
   ·simp only [List.size_toArray, List.length_append, List.length_take, List.length_drop, Array.length_toList];omega
   ·rw [htake];have hx : xs.length = n * i.size := hown.1;simp only [List.append_assoc];rw [← hx];exact List.take_left
  ·obtain ⟨v2, w2, hr, _, hg2⟩ := run_append_arg_grows (P := P) w t ty e i z size bytes ht hi hz hsize hby hzs hsz ⟨g, 0, none⟩ n cap xs hown.1 (hown.cells (g := g) rfl) a m c news hl hnews (by omega) h63 hbytes;rw [hr] at hrun;injection hrun with _ hw
   subst hw;exact hown.kept hg2 (.inr (by simp [Value.ownBlock]))
theorem app2.encs_cells {w : World} {A : Addr} {ys : List Int} {m : Nat} (h : Kd.C (Kd.int .i64) w (some A) m ys) (hm : ys.length = m) : ∀ j u, (encs (Value.int .i64) ys)[j]? = some u → w.cell? (A.add j) = some u := by
 intro j u hj;have hlt : j < ys.length := by
  have := (List.getElem?_eq_some_iff.1 hj).1;rwa [encs_length] at this
 obtain ⟨ad, e1, hx⟩ := Kd.at_int h (j : Int) (by omega) (by omega);cases e1;rw [Int.toNat_natCast] at hx;rw [hx, ← hj];simp [encs, rd, List.getD_eq_getElem?_getD, List.getElem?_eq_getElem hlt]
theorem app2.law {ops : Array Oper} {rest : List Oper} {o : Oper} {a : Act} {Q : Exit → Act → World → Prop} {W : World} (base : Nat) (hgd : o.guard = none) (s x : Operand) (ho : o.op = .call { callee := .builtin .append, args := #[s, x], argTypes := #[41, 41] })
    (v : Value) (xs ys : List Int) (A : Option Addr) (m c : Nat) (ok : Nat → Prop) (hs : a.eval s = v) (hx : a.eval x = .slice A m c) (HO : Kd.R (Kd.int .i64) 3 W base ok v xs) (HR : Kd.C (Kd.int .i64) W A m ys) (hbase : base ≤ W.heap.size) (hl : (xs.length + m) * 8 ≤ 140737488355328)
    (h : ∀ v1 w1, Kd.R (Kd.int .i64) 3 w1 base (fun _ => True) v1 (xs ++ ys) → Kd.R (Kd.int .i64) 3 w1 base ok v xs → W.grownBy w1 v.ownBlock → wpList Try.prog ops Q rest (a.put o.dst v1) w1) :
    wpList Try.prog ops Q (o :: rest) a W := by
 refine wpList_plain hgd fun K hK => ?_
 obtain ⟨i0, hi0, hz0, hz1, hz2⟩ := info_parts info3;have hm : ys.length = m := HR.1;have hown := Kd.own_of_R HO;have hmax : xs.length + m ≤ maxLen := by unfold maxLen; omega
 have hrun : ∃ v1 w1, (Builtin.append_ #[41, 41] o.type #[v, .slice A m c]).run Try.prog W = .ok v1 w1 ∧ Kd.R (Kd.int .i64) 3 w1 base (fun _ => True) v1 (xs ++ ys) ∧ Kd.R (Kd.int .i64) 3 w1 base ok v xs ∧ W.grownBy w1 v.ownBlock := by
  rcases A with _ | ad
  ·have h0 : m = 0 := by
    rcases Nat.eq_zero_or_pos m with h0 | h0
    ·exact h0
    ·obtain ⟨ad, h, _⟩ := HR.2.2 h0;cases h
   subst h0;obtain rfl : ys = [] := List.eq_nil_of_length_eq_zero hm;refine ⟨v, W, ?_, by rw [List.append_nil]; exact Kd.R_mono HO (fun _ _ => trivial), HO, World.grownBy.refl W _⟩;rcases hown.2 with ⟨rfl, hn⟩ | ⟨g, cap, cur, rfl, _, _, hnc, _⟩
   ·simp [Builtin.append_, run_underlying Try.underlying41, sizeOf, typeInfo, hi0, Builtin.lenOf, Builtin.firstCells]
   ·simp [Builtin.append_, run_underlying Try.underlying41, sizeOf, typeInfo, hi0, Builtin.lenOf, Builtin.firstCells, hnc, storeCells]
  ·have hnl : (encs (Value.int .i64) ys).length = m * 1 := by rw [encs_length, hm, Nat.mul_one]
   have hnc := app2.encs_cells HR hm;have hone : ∀ u ∈ encs (Value.int .i64) ys, u.oneCell' = true := fun u hu => by obtain ⟨q, _, rfl⟩ := List.mem_map.1 hu; rfl
   obtain ⟨v1, w1, hr, hown1, hg1, _⟩ := run_append_own (P := Try.prog) W base 41 o.type 3 i0 (.int .i64 0) 1 8 Try.underlying41 hi0 hz0 hz1 hz2 rfl (by decide) v xs.length _ hown ad m c _ hnl hnc hone hmax hl hbase;have hold := app2.old (P := Try.prog) (ty := o.type) Try.underlying41 hi0 hz0 hz1 hz2 rfl (by decide) hown hnl hnc hone hmax hl hr;refine ⟨v1, w1, hr, Kd.R_of_own (enc := Value.int .i64) (h1 := fun _ => rfl) ?_ (fun _ _ => trivial), Kd.R_of_own (enc := Value.int .i64) (h1 := fun _ => rfl) hold HO.1, hg1⟩;rw [List.length_append, hm, encs_append];exact hown1
 obtain ⟨v1, w1, hr, h1, h2, h3⟩ := hrun;unfold Oper.wp execOp;simp only [ho, resolve, invoke, builtin, Sem.run_bind, Sem.run_pure, Result.andThen_ok, List.map_toArray, List.map_cons, List.map_nil, hs, hx, hr];exact hK _ _ (h v1 w1 h1 h2 h3)
def corrodylaw06_DatesOnTime_srt.lt (l : List S43) (x y : Int) : Bool := decide (wrap64 ((rd_T43 l x).f2 - (rd_T43 l y).f2) < 0)
set_option maxHeartbeats 8000000 in
set_option maxRecDepth 100000 in
theorem corrodylaw06_DatesOnTime_srt.cmpcalls (A0 : Option Addr) (c0 : Nat) (l0 : List S43) (gl : Nat) (x y : Int) (w : World) (hb0 : w.cell? ⟨gl, 0, none⟩ = some (.slice A0 l0.length c0)) (hr0 : Kd.C k43 w A0 l0.length l0) (hx : 0 ≤ x ∧ x < (l0.length : Int)) (hy : 0 ≤ y ∧ y < (l0.length : Int)) (r : Int) (h : r = wrap64 ((rd_T43 l0 x).f2 - (rd_T43 l0 y).f2)) :
    Calls Try.prog 53 #[.int .i64 x, .int .i64 y, .pointer (some ⟨gl, 0, none⟩)] w fun e w' => e = .returned (.int .i64 r) ∧ ∃ n, w' = w.drewN n := by
 have hu43 := Try.underlying43;obtain ⟨ad0, e0, ha0, ha1, ha2, ha3⟩ := at_T43 hr0 x hx.1 hx.2;cases e0;obtain ⟨ad1, e1, hb1, hb2, hb3, hb4⟩ := at_T43 hr0 y hy.1 hy.2;cases e1;have p0 := eq_true hx.1;have q0 := eq_true hx.2;have p1 := eq_true hy.1;have q1 := eq_true hy.2;have H := Aside0.mk h;clear hr0 hx hy h ha0 ha1 ha3 hb1 hb2 hb4;go_enter Try.func53, Try.ntmps53;go_wp2;go_quiet (fail);go_wp2;go_ret;exact ⟨by rw [H.out]; first | rfl | (rw [i64_w]), _, rfl⟩
set_option maxHeartbeats 8000000 in
set_option maxRecDepth 100000 in
theorem corrodylaw06_DatesOnTime_srt.calls (A0 : Option Addr) (c0 : Nat) (l0 : List S43) (gl B cap : Nat) (xs : List Int) (w0 w : World) (hr0 : Kd.C k43 w0 A0 l0.length l0) (hB : Below w0.heap.size w0 w) (hbk : w.heap[gl]? = some (.cells #[.slice A0 l0.length c0] 22 (0, 0))) (hgl : w0.heap.size ≤ gl) (hgB : w0.heap.size ≤ B) (hne : gl ≠ B)
    (hR : Kd.R (Kd.int .i64) 3 w w0.heap.size (fun _ => True) (.slice (some ⟨B, 0, none⟩) xs.length cap) xs) (hok : dates_jobs_byDue.srt.ok l0.length xs) (hlen : xs.length ≤ 1000) :
    Calls Try.prog 82 #[.slice (some ⟨B, 0, none⟩) xs.length cap, .int .i64 0, .int .i64 xs.length, .func (.func 53) #[] #[.pointer (some ⟨gl, 0, none⟩)]] w fun e w' => e = .returned (.tuple #[]) ∧ Kd.R (Kd.int .i64) 3 w' w0.heap.size (fun _ => True) (.slice (some ⟨B, 0, none⟩) xs.length cap) (dates_jobs_byDue.srt.sort (corrodylaw06_DatesOnTime_srt.lt l0) xs) ∧ w'.heap[gl]? = some (.cells #[.slice A0 l0.length c0] 22 (0, 0)) ∧ Below w0.heap.size w0 w' ∧ KeepBut w w' B none := by
 have HR0 := Aside0.mk hr0;have HGL := Aside0.mk hgl;have HGB := Aside0.mk hgB;have HNE := Aside0.mk hne;have HLEN := Aside0.mk hlen;have HB := Aside0.mk hB;have BK := Aside0.mk hbk;have HO := Aside0.mk hR;have HOK := Aside0.mk hok;have HKB := Aside0.mk (KeepBut.refl w B none);clear hr0 hgl hgB hne hB hbk hR hok;go_enter Try.func82, Try.ntmps82;go_wp2;go_loopg [8] xs.length (fun kq v8 w' => ∃ (i : Nat) (d : List Int), v8 = .int .i64 (i : Int) ∧ Aside0 (1 ≤ i ∧ i + kq = xs.length + 1) ∧ Aside0 (d.length = xs.length) ∧ Aside0 (dates_jobs_byDue.srt.ok l0.length d) ∧ Aside0 (dates_jobs_byDue.srt.sort (corrodylaw06_DatesOnTime_srt.lt l0) xs = dates_jobs_byDue.srt.from (corrodylaw06_DatesOnTime_srt.lt l0) (xs.length - i) i d) ∧ Aside0 (Kd.R (Kd.int .i64) 3 w' w0.heap.size (fun _ => True) (.slice (some ⟨B, 0, none⟩) xs.length cap) d) ∧ Aside0 (w'.heap[gl]? = some (.cells #[.slice A0 l0.length c0] 22 (0, 0))) ∧ Aside0 (Below w0.heap.size w0 w') ∧ Aside0 (KeepBut w w' B none))
 case atStart => exact ⟨1, xs, rfl, ⟨by omega⟩, ⟨rfl⟩, HOK, ⟨rfl⟩, HO, BK, HB, HKB⟩
 case round =>
  clear HKB HO BK HB HOK;obtain ⟨i, d, rfl, HK, HD, HOK, HS, HO, BK, HB, HKB⟩ := hrel;by_cases hlt : i < xs.length
  ·have d1 : decide ((i : Int) < (xs.length : Int)) = true := decide_eq_true (by omega);have HIL := Aside0.mk hlt;obtain ⟨ko, rfl⟩ : ∃ ko, gk = ko + 1 := ⟨gk - 1, by have := HK.out; omega⟩
   go_wp2;go_loopg [9] i (fun kq v9 w' => ∃ (j : Nat) (d : List Int), v9 = .int .i64 (j : Int) ∧ Aside0 (j = kq ∧ j < xs.length) ∧ Aside0 (d.length = xs.length) ∧ Aside0 (dates_jobs_byDue.srt.ok l0.length d) ∧ Aside0 (dates_jobs_byDue.srt.sort (corrodylaw06_DatesOnTime_srt.lt l0) xs = dates_jobs_byDue.srt.from (corrodylaw06_DatesOnTime_srt.lt l0) (xs.length - (i + 1)) (i + 1) (dates_jobs_byDue.srt.ins (corrodylaw06_DatesOnTime_srt.lt l0) j d)) ∧ Aside0 (Kd.R (Kd.int .i64) 3 w' w0.heap.size (fun _ => True) (.slice (some ⟨B, 0, none⟩) xs.length cap) d) ∧ Aside0 (w'.heap[gl]? = some (.cells #[.slice A0 l0.length c0] 22 (0, 0))) ∧ Aside0 (Below w0.heap.size w0 w') ∧ Aside0 (KeepBut w w' B none))
   case atStart => exact ⟨i, d, rfl, ⟨rfl, hlt⟩, HD, HOK, ⟨by rw [HS.out, show xs.length - i = (xs.length - (i + 1)) + 1 by omega, dates_jobs_byDue.srt.from]⟩, HO, BK, HB, HKB⟩
   case round =>
    clear HKB HO BK HB HOK HD HS;obtain ⟨j, d, rfl, HJ, HD, HOK, HS, HO, BK, HB, HKB⟩ := hrel;by_cases hj0 : j = 0
    ·have e1 : decide ((0 : Int) < (j : Int)) = false := decide_eq_false (by omega);have e2 : decide (0 < j) = false := decide_eq_false (by omega);have HS2 : Aside0 (dates_jobs_byDue.srt.sort (corrodylaw06_DatesOnTime_srt.lt l0) xs = dates_jobs_byDue.srt.from (corrodylaw06_DatesOnTime_srt.lt l0) (xs.length - (i + 1)) (i + 1) d) := ⟨by rw [HS.out, hj0]; rfl⟩;clear hj0;go_upto_region 4 with (fail)
     go_quiet (fail);go_wp2;go_roundg ko
     case measure => omega
     case rel => exact ⟨i + 1, d, by go_num, ⟨by have := HK.out; omega⟩, HD, HOK, HS2, ⟨Kd.R_drewN HO.out nq⟩, ⟨blk_drewN BK.out nq⟩, ⟨pw_below_drewN HB.out nq⟩, ⟨keep_drewN HKB.out nq⟩⟩
    ·obtain ⟨jj, hjj⟩ : ∃ jj, j = jj + 1 := ⟨j - 1, by omega⟩
     have hjl : j < d.length := by have := HJ.out; have := HD.out; omega
     have e1 : decide ((0 : Int) < (j : Int)) = true := decide_eq_true (by omega);have e2 : decide (0 < j) = true := decide_eq_true (by omega);obtain ⟨m, hm⟩ : ∃ m, IntKind.i64.wrap ((j : Int) - 1) = m := ⟨_, rfl⟩
     have hw : m = (jj : Int) := by rw [← hm, i64_w]; unfold wrap64; have := HJ.out; have := HLEN.out; omega
     have HJJ := Aside0.mk hjj;obtain ⟨hx1, hf1⟩ := Kd.R_celln 0 HO.out (j : Int) (by omega) (by have := HD.out; omega);obtain ⟨hx0, hf0⟩ := Kd.R_celln 0 HO.out m (by omega) (by have := HD.out; omega);have p1 := eq_true (show 0 ≤ (j : Int) by omega);have q1 := eq_true (show (j : Int) < (xs.length : Int) by have := HD.out; omega);have p0 := eq_true (show 0 ≤ m by omega);have q0 := eq_true (show m < (xs.length : Int) by have := HD.out; omega);obtain ⟨X, hX⟩ : ∃ X, X = rd d (j : Int) := ⟨_, rfl⟩
     obtain ⟨Y, hY⟩ : ∃ Y, Y = rd d m := ⟨_, rfl⟩
     have HX := Aside0.mk hX;have HY := Aside0.mk (show Y = rd d (jj : Int) by rw [hY, hw]);have hXb : 0 ≤ X ∧ X < (l0.length : Int) := by rw [hX]; exact dates_jobs_byDue.srt.ok_rd HOK.out j hjl
     have hYb : 0 ≤ Y ∧ Y < (l0.length : Int) := by rw [HY.out]; exact dates_jobs_byDue.srt.ok_rd HOK.out jj (by omega)
     replace hx1 : wr.cell? ⟨B, ((j : Int)).toNat, none⟩ = some (.int .i64 X) := by rw [hX]; exact hx1
     replace hx0 : wr.cell? ⟨B, m.toNat, none⟩ = some (.int .i64 Y) := by rw [hY]; exact hx0
     have HPb := Aside0.mk (Kd.R_putg (Kd.R_putg HO.out (j : Int) Y).1 m X).1;have HJL := Aside0.mk hjl;have HW := Aside0.mk hw;obtain ⟨r, hr⟩ : ∃ r, r = wrap64 ((rd_T43 l0 X).f2 - (rd_T43 l0 Y).f2) := ⟨_, rfl⟩
     have hrl : decide (r < 0) = decide (wrap64 ((rd_T43 l0 X).f2 - (rd_T43 l0 Y).f2) < 0) := by rw [hr]
     have HXb := Aside0.mk hXb;have HYb := Aside0.mk hYb;have HRr := Aside0.mk hr;have HRl := Aside0.mk hrl;clear hX hY hXb hYb hjl hw hr hrl hj0 hjj;simp only [Int.toNat_natCast] at hx1 hf1;by_cases u : r < 0
     ·have u1 : decide (r < 0) = true := decide_eq_true u;have HLT : Aside0 (corrodylaw06_DatesOnTime_srt.lt l0 X Y = true) := ⟨by unfold corrodylaw06_DatesOnTime_srt.lt; rw [← HRl.out]; exact u1⟩;clear u;go_upto_region 4 with (fail)
      go_quiet (exact Calls.quiet_of (corrodylaw06_DatesOnTime_srt.cmpcalls A0 c0 l0 gl X Y _ ((blk_cell (blk_drewN BK.out _) 0).trans rfl) (Kd.C_below HR0.out (pw_below_drewN HB.out _)) HXb.out HYb.out r HRr.out));have hmj : ¬ (m.toNat = j) := by have := HW.out; have := HJJ.out; omega
      have hmj1 := eq_false hmj;have hmj2 := eq_false (fun e : j = m.toNat => hmj e.symm);go_upto_region 6 with (fail)
      go_region;go_wp2;have hmj3 : m.toNat = jj := by have := HW.out; omega
      obtain ⟨k2, rfl⟩ : ∃ k2, gk = k2 + 1 := ⟨gk - 1, by have := HJ.out; have := HJJ.out; omega⟩
      go_roundg k2
      case measure => omega
      case rel =>
       refine ⟨jj, (d.set j Y).set m.toNat X, by rw [HW.out], ⟨by have := HJ.out; have := HJJ.out; omega⟩, ⟨by rw [List.length_set, List.length_set]; exact HD.out⟩, ⟨dates_jobs_byDue.srt.ok_set (dates_jobs_byDue.srt.ok_set HOK.out j Y HYb.out) m.toNat X HXb.out⟩, ⟨?_⟩, ⟨(Kd.R_putg (Kd.R_putg (Kd.R_drewN HO.out _) (j : Int) Y).1 m X).1⟩, ⟨blk_far (blk_far (blk_drewN BK.out _) HNE.out _) HNE.out _⟩, ⟨below_set (below_set (pw_below_drewN HB.out _) HGB.out) HGB.out⟩, ⟨KeepBut.set_ (KeepBut.set_ (keep_drewN HKB.out _) _ _) _ _⟩⟩;rw [HS.out, hmj3, HJJ.out, dates_jobs_byDue.srt.ins, ← HJJ.out, ← HX.out, ← HY.out, HLT.out, if_pos rfl]
     ·have u1 : decide (r < 0) = false := decide_eq_false u;have HLT : Aside0 (corrodylaw06_DatesOnTime_srt.lt l0 X Y = false) := ⟨by unfold corrodylaw06_DatesOnTime_srt.lt; rw [← HRl.out]; exact u1⟩;clear u;have HS2 : Aside0 (dates_jobs_byDue.srt.sort (corrodylaw06_DatesOnTime_srt.lt l0) xs = dates_jobs_byDue.srt.from (corrodylaw06_DatesOnTime_srt.lt l0) (xs.length - (i + 1)) (i + 1) d) := ⟨by rw [HS.out, HJJ.out, dates_jobs_byDue.srt.ins, ← HJJ.out, ← HX.out, ← HY.out, HLT.out]; rfl⟩;go_upto_region 4 with (fail)
      go_quiet (exact Calls.quiet_of (corrodylaw06_DatesOnTime_srt.cmpcalls A0 c0 l0 gl X Y _ ((blk_cell (blk_drewN BK.out _) 0).trans rfl) (Kd.C_below HR0.out (pw_below_drewN HB.out _)) HXb.out HYb.out r HRr.out));go_wp2;go_roundg ko
      case measure => omega
      case rel => exact ⟨i + 1, d, by go_num, ⟨by have := HK.out; omega⟩, HD, HOK, HS2, ⟨Kd.R_drewN HO.out nq⟩, ⟨blk_drewN BK.out nq⟩, ⟨pw_below_drewN HB.out nq⟩, ⟨keep_drewN HKB.out nq⟩⟩
  ·have hi : xs.length - i = 0 := by omega
   have d1 : decide ((i : Int) < (xs.length : Int)) = false := decide_eq_false (by omega);have HS2 : Aside0 (dates_jobs_byDue.srt.sort (corrodylaw06_DatesOnTime_srt.lt l0) xs = d) := ⟨by rw [HS.out, hi]; rfl⟩;clear hi d1;go_wp2;go_end0;exact ⟨rfl, by rw [HS2.out]; exact HO.out, BK.out, HB.out, HKB.out⟩
set_option maxHeartbeats 8000000 in
set_option maxRecDepth 100000 in
theorem corrodylaw06_DatesOnTime_srt.calls70 (A0 : Option Addr) (c0 : Nat) (l0 : List S43) (gl B cap : Nat) (xs : List Int) (w0 w : World) (hr0 : Kd.C k43 w0 A0 l0.length l0) (hB : Below w0.heap.size w0 w) (hbk : w.heap[gl]? = some (.cells #[.slice A0 l0.length c0] 22 (0, 0))) (hgl : w0.heap.size ≤ gl) (hgB : w0.heap.size ≤ B) (hne : gl ≠ B)
    (hR : Kd.R (Kd.int .i64) 3 w w0.heap.size (fun _ => True) (.slice (some ⟨B, 0, none⟩) xs.length cap) xs) (hok : dates_jobs_byDue.srt.ok l0.length xs) (hlen : xs.length < 20) :
    Calls Try.prog 70 #[.slice (some ⟨B, 0, none⟩) xs.length cap, .int .i64 xs.length, .func (.func 53) #[] #[.pointer (some ⟨gl, 0, none⟩)]] w fun e w' => e = .returned (.tuple #[]) ∧ Kd.R (Kd.int .i64) 3 w' w0.heap.size (fun _ => True) (.slice (some ⟨B, 0, none⟩) xs.length cap) (dates_jobs_byDue.srt.sort (corrodylaw06_DatesOnTime_srt.lt l0) xs) ∧ w'.heap[gl]? = some (.cells #[.slice A0 l0.length c0] 22 (0, 0)) ∧ Below w0.heap.size w0 w' ∧ KeepBut w w' B none := by
 have hc := Aside0.mk (corrodylaw06_DatesOnTime_srt.calls A0 c0 l0 gl B cap xs w0 w hr0 hB hbk hgl hgB hne hR hok (by omega));have HLEN := Aside0.mk hlen;have d1 : decide ((20 : Int) ≤ (xs.length : Int)) = false := decide_eq_false (by omega);have d2 : decide ((20 : Int) < (xs.length : Int)) = false := decide_eq_false (by omega);have d3 : decide (20 ≤ xs.length) = false := decide_eq_false (by omega);have d4 : decide (20 < xs.length) = false := decide_eq_false (by omega);clear hr0 hB hbk hgl hgB hne hR hok hlen;go_enter Try.func70, Try.ntmps70;go_wp2;refine wp_loop_rounds 1 ?_;rw [rounds_succ];go_wp2_with fail;refine hc.out.mono ?_;rintro e w1 ⟨rfl, hR1, hbk1, hb1, hk1⟩;have HR1 := Aside0.mk hR1;have HBK1 := Aside0.mk hbk1;have HB1 := Aside0.mk hb1;have HK1 := Aside0.mk hk1;clear hR1 hbk1 hb1 hk1 hc;go_wp2;refine wp_loop_rounds 1 ?_;rw [rounds_succ];go_wp2;go_end0;exact ⟨rfl, HR1.out, HBK1.out, HB1.out, HK1.out⟩
set_option maxHeartbeats 8000000 in
set_option maxRecDepth 100000 in
theorem corrodylaw06_DatesOnTime_srt.calls45 (A0 : Option Addr) (c0 : Nat) (l0 : List S43) (gl B cap : Nat) (xs : List Int) (w0 w : World) (hr0 : Kd.C k43 w0 A0 l0.length l0) (hB : Below w0.heap.size w0 w) (hbk : w.heap[gl]? = some (.cells #[.slice A0 l0.length c0] 22 (0, 0))) (hgl : w0.heap.size ≤ gl) (hgB : w0.heap.size ≤ B) (hne : gl ≠ B)
    (hR : Kd.R (Kd.int .i64) 3 w w0.heap.size (fun _ => True) (.slice (some ⟨B, 0, none⟩) xs.length cap) xs) (hok : dates_jobs_byDue.srt.ok l0.length xs) (hlen : xs.length < 20) :
    Calls Try.prog 45 #[.slice (some ⟨B, 0, none⟩) xs.length cap, .func (.func 53) #[] #[.pointer (some ⟨gl, 0, none⟩)]] w fun e w' => e = .returned (.tuple #[]) ∧ Kd.R (Kd.int .i64) 3 w' w0.heap.size (fun _ => True) (.slice (some ⟨B, 0, none⟩) xs.length cap) (dates_jobs_byDue.srt.sort (corrodylaw06_DatesOnTime_srt.lt l0) xs) ∧ w'.heap[gl]? = some (.cells #[.slice A0 l0.length c0] 22 (0, 0)) ∧ Below w0.heap.size w0 w' ∧ KeepBut w w' B none := by
 have hc := Aside0.mk (corrodylaw06_DatesOnTime_srt.calls70 A0 c0 l0 gl B cap xs w0 w hr0 hB hbk hgl hgB hne hR hok hlen);clear hr0 hB hbk hgl hgB hne hR hok hlen;go_enter Try.func45, Try.ntmps45;go_wp2_with fail;refine hc.out.mono ?_;rintro e w1 ⟨rfl, hR1, hbk1, hb1, hk1⟩;have HR1 := Aside0.mk hR1;have HBK1 := Aside0.mk hbk1;have HB1 := Aside0.mk hb1;have HK1 := Aside0.mk hk1;clear hR1 hbk1 hb1 hk1 hc;go_wp2;go_end0;exact ⟨rfl, HR1.out, HBK1.out, HB1.out, HK1.out⟩
set_option maxHeartbeats 8000000 in
set_option maxRecDepth 100000 in
theorem corrodylaw06_DatesOnTime_srt.calls82_nil (f : Value) (w : World) : Calls Try.prog 82 #[.slice none 0 0, .int .i64 0, .int .i64 0, f] w fun e w' => e = .returned (.tuple #[]) ∧ w' = w := by
 go_enter Try.func82, Try.ntmps82;go_wp2;refine wp_loop_rounds 1 ?_;rw [rounds_succ];go_wp2;go_end0;exact ⟨rfl, rfl⟩
set_option maxHeartbeats 8000000 in
set_option maxRecDepth 100000 in
theorem corrodylaw06_DatesOnTime_srt.calls70_nil (f : Value) (w : World) : Calls Try.prog 70 #[.slice none 0 0, .int .i64 0, f] w fun e w' => e = .returned (.tuple #[]) ∧ w' = w := by
 go_enter Try.func70, Try.ntmps70;go_wp2;refine wp_loop_rounds 1 ?_;rw [rounds_succ];go_wp2_with fail;refine (corrodylaw06_DatesOnTime_srt.calls82_nil f w).mono ?_;rintro e w1 ⟨rfl, rfl⟩;go_wp2;refine wp_loop_rounds 1 ?_;rw [rounds_succ];go_wp2;go_end0;exact ⟨rfl, rfl⟩
set_option maxHeartbeats 8000000 in
set_option maxRecDepth 100000 in
theorem corrodylaw06_DatesOnTime_srt.calls45_nil (f : Value) (w : World) : Calls Try.prog 45 #[.slice none 0 0, f] w fun e w' => e = .returned (.tuple #[]) ∧ w' = w := by
 go_enter Try.func45, Try.ntmps45;go_wp2_with fail;refine (corrodylaw06_DatesOnTime_srt.calls70_nil f w).mono ?_;rintro e w1 ⟨rfl, rfl⟩;go_wp2;go_end0;exact ⟨rfl, rfl⟩
end Go.Proofs.Ytaboleeclpllpaa.P

namespace Go.Proofs.Ytaboleeclpllpaa.P
open Go.RowKit Go.Proofs.YtaboleeclpllpaaW.PrintWords Go.Proofs.YtaboleeclpllpaaW.PrintLast Go.Proofs.YtaboleeclpllpaaW.PrintMore
attribute [local go_sem] max2_int min2_int max_two min_two max_three min_three max_four min_four
set_option linter.unusedVariables false
set_option linter.unusedSimpArgs false
def corrodylaw06_DatesOnTime.split (s : Int) : Nat → Nat → List Int → List Int → List Int × List Int
  | 0, _, a, b => (a, b)
  | m + 1, i, a, b => if Go.bits .and .i64 (shr .i64 s (i : Int)) 1 = 1 then corrodylaw06_DatesOnTime.split s m (i + 1) (a ++ [(i : Int)]) b else corrodylaw06_DatesOnTime.split s m (i + 1) a (b ++ [(i : Int)])
def corrodylaw06_DatesOnTime.first (l : List S43) (s : Int) : List Int := dates_jobs_byDue.srt.sort (corrodylaw06_DatesOnTime_srt.lt l) (corrodylaw06_DatesOnTime.split s l.length 0 [] []).1
def corrodylaw06_DatesOnTime.rest (l : List S43) (s : Int) : List Int := (corrodylaw06_DatesOnTime.split s l.length 0 [] []).2
def corrodylaw06_DatesOnTime.round (k : Nat) (l : List S43) (t : List S48) (s : Int) : Option Int :=
  (dates_Ends.f k t (corrodylaw06_DatesOnTime.first l s ++ corrodylaw06_DatesOnTime.rest l s)).bind fun xe => if xe.2 = 0 ∧ xe.1.length = l.length ∧ ∀ j ∈ corrodylaw06_DatesOnTime.first l s, rd xe.1 j ≤ (rd_T43 l j).f2 then some ((corrodylaw06_DatesOnTime.first l s).length : Int) else none
def corrodylaw06_DatesOnTime.go2 (k : Nat) (l : List S43) (t : List S48) (a : Int) : List Int → Int → Option Int
  | [], m => some m
  | s :: r, m => (corrodylaw06_DatesOnTime.round k l t s).bind fun f => corrodylaw06_DatesOnTime.go2 k l t a r (if s = a then f else m)
def corrodylaw06_DatesOnTime.wl (l : List S43) (b : Int) : Nat → Nat → Int → Int
  | 0, _, w => w
  | m + 1, i, w => corrodylaw06_DatesOnTime.wl l b m (i + 1) (wrap64 (w + wrap64 (Go.bits .and .i64 (shr .i64 b (i : Int)) 1 * (rd_T43 l (i : Int)).f3)))
def corrodylaw06_DatesOnTime.cl (l : List S43) (x : List Int) : Nat → Nat → Int → Int → Int × Int
  | 0, _, c, h => (c, h)
  | m + 1, i, c, h => if rd x (i : Int) ≤ (rd_T43 l (i : Int)).f2 then corrodylaw06_DatesOnTime.cl l x m (i + 1) (wrap64 (c + 1)) (wrap64 (h + (rd_T43 l (i : Int)).f3)) else corrodylaw06_DatesOnTime.cl l x m (i + 1) c h
def corrodylaw06_DatesOnTime.f (k : Nat) (l : List S43) (o : List Int) : Option Bool :=
  (corrodylaw06_Of.f k l).bind fun t => (dates_Most.f k t).bind fun bm => (dates_Weigh.f k t).bind fun bw =>
    if bm.2 = 2 then (if bw.2.2 = 2 then corrodylaw06_awake.f k else none)
    else if bm.2 = 0 ∧ bw.2.2 = 0 then (corrodyref06_Valid.f k l).bind fun v => if v = true ∧ 1 ≤ l.length ∧ l.length ≤ 8 then
      (corrodylaw06_DatesOnTime.go2 k l t bm.1 [bm.1, bw.1] 0).bind fun most => (corrodylaw06_list.f o).bind fun o2 => (dates_Ends.f k t o2).bind fun xe =>
        if xe.2 = 0 then (if xe.1.length = l.length ∧ corrodylaw06_DatesOnTime.wl l bw.1 l.length 0 0 = bw.2.1 ∧ (corrodylaw06_DatesOnTime.cl l xe.1 l.length 0 0 0).1 ≤ most ∧ (corrodylaw06_DatesOnTime.cl l xe.1 l.length 0 0 0).2 ≤ bw.2.1 then corrodylaw06_awake.f k else none)
        else if xe.2 = 2 ∧ corrodylaw06_DatesOnTime.wl l bw.1 l.length 0 0 = bw.2.1 then corrodylaw06_awake.f k else none
      else none
    else none
theorem corrodylaw06_DatesOnTime.rd_ok {n : Nat} {d : List Int} (h : dates_jobs_byDue.srt.ok n d) (hn : 1 ≤ n) (i : Int) : 0 ≤ rd d i ∧ rd d i < (n : Int) := by
 unfold rd;rw [List.getD_eq_getElem?_getD];cases e : d[i.toNat]? with
 | none => simp; omega
 | some x => exact h x (List.mem_of_getElem? e)
theorem corrodylaw06_DatesOnTime.ins_ok {n : Nat} (hn : 1 ≤ n) (lt : Int → Int → Bool) : ∀ (j : Nat) (d : List Int), dates_jobs_byDue.srt.ok n d → dates_jobs_byDue.srt.ok n (dates_jobs_byDue.srt.ins lt j d)
  | 0, d, h => h
  | j + 1, d, h => by
    rw [dates_jobs_byDue.srt.ins]
    split
    · exact corrodylaw06_DatesOnTime.ins_ok hn lt j _ (dates_jobs_byDue.srt.ok_set (dates_jobs_byDue.srt.ok_set h _ _ (corrodylaw06_DatesOnTime.rd_ok h hn _)) _ _ (corrodylaw06_DatesOnTime.rd_ok h hn _))
    · exact h
theorem corrodylaw06_DatesOnTime.from_ok {n : Nat} (hn : 1 ≤ n) (lt : Int → Int → Bool) : ∀ (m i : Nat) (d : List Int), dates_jobs_byDue.srt.ok n d → dates_jobs_byDue.srt.ok n (dates_jobs_byDue.srt.from lt m i d)
  | 0, _, _, h => h
  | m + 1, i, d, h => by
    rw [dates_jobs_byDue.srt.from]
    exact corrodylaw06_DatesOnTime.from_ok hn lt m (i + 1) _ (corrodylaw06_DatesOnTime.ins_ok hn lt i d h)
theorem corrodylaw06_DatesOnTime.ins_len (lt : Int → Int → Bool) : ∀ (j : Nat) (d : List Int), (dates_jobs_byDue.srt.ins lt j d).length = d.length
  | 0, d => rfl
  | j + 1, d => by
    rw [dates_jobs_byDue.srt.ins]
    split
    · rw [corrodylaw06_DatesOnTime.ins_len lt j, List.length_set, List.length_set]
    · rfl
theorem corrodylaw06_DatesOnTime.from_len (lt : Int → Int → Bool) : ∀ (m i : Nat) (d : List Int), (dates_jobs_byDue.srt.from lt m i d).length = d.length
  | 0, _, _ => rfl
  | m + 1, i, d => by rw [dates_jobs_byDue.srt.from, corrodylaw06_DatesOnTime.from_len lt m, corrodylaw06_DatesOnTime.ins_len]
theorem corrodylaw06_DatesOnTime.sort_len (lt : Int → Int → Bool) (d : List Int) : (dates_jobs_byDue.srt.sort lt d).length = d.length := corrodylaw06_DatesOnTime.from_len lt _ _ _
theorem corrodylaw06_DatesOnTime.sort_ok {n : Nat} (hn : 1 ≤ n) (lt : Int → Int → Bool) {d : List Int} (h : dates_jobs_byDue.srt.ok n d) : dates_jobs_byDue.srt.ok n (dates_jobs_byDue.srt.sort lt d) := corrodylaw06_DatesOnTime.from_ok hn lt _ _ _ h
theorem corrodylaw06_DatesOnTime.below_keep {w0 wB W w1 : World} {B : Nat} (h : Below wB.heap.size wB W) (h0 : Below w0.heap.size w0 W) (h1 : Below w0.heap.size w0 w1) (hk : KeepBut W w1 B none) (hB : wB.heap.size ≤ B) : Below wB.heap.size wB w1 :=
  ⟨h1.os.trans (h0.os.symm.trans h.os), h1.tape.trans (h0.tape.symm.trans h.tape), h1.output.trans (h0.output.symm.trans h.output), Nat.le_trans h.size hk.1, fun i hi => (hk.2 i (Nat.lt_of_lt_of_le hi h.size) (by omega) (by simp)).trans (h.block i hi)⟩
theorem corrodylaw06_DatesOnTime.ok_snoc {n : Nat} {d : List Int} (h : dates_jobs_byDue.srt.ok n d) {i : Nat} (hi : i < n) : dates_jobs_byDue.srt.ok n (d ++ [(i : Int)]) := by
 intro x hx;rcases List.mem_append.1 hx with hx | hx
 ·exact h x hx
 ·rw [List.mem_singleton.1 hx];omega
theorem corrodylaw06_DatesOnTime.sorts (A0 : Option Addr) (c0 : Nat) (l : List S43) (gl : Nat) (A14 : Option Addr) (c14 : Nat) (xs : List Int) (w0 wB W : World) (hr0 : Kd.C k43 w0 A0 l.length l) (hB : Below w0.heap.size w0 W) (hbk : W.heap[gl]? = some (.cells #[.slice A0 l.length c0] 22 (0, 0))) (hgl : w0.heap.size ≤ gl)
    (hR : Kd.R (Kd.int .i64) 3 W wB.heap.size (fun _ => True) (.slice A14 xs.length c14) xs) (hwB : w0.heap.size ≤ wB.heap.size) (hBW : wB.heap.size ≤ W.heap.size) (hnil : xs = [] → Value.slice A14 xs.length c14 = .slice none 0 0) (hok : dates_jobs_byDue.srt.ok l.length xs) (hlen : xs.length < 20) :
    Calls Try.prog 45 #[.slice A14 xs.length c14, .func (.func 53) #[] #[.pointer (some ⟨gl, 0, none⟩)]] W fun e w' => e = .returned (.tuple #[]) ∧ ∃ B, KeepBut W w' B none ∧ wB.heap.size ≤ B ∧ (W.heap.size ≤ B ∨ (Value.slice A14 xs.length c14).ownBlock = some B) ∧ Kd.R (Kd.int .i64) 3 w' w0.heap.size (fun _ => True) (.slice A14 xs.length c14) (dates_jobs_byDue.srt.sort (corrodylaw06_DatesOnTime_srt.lt l) xs) ∧ w'.heap[gl]? = some (.cells #[.slice A0 l.length c0] 22 (0, 0)) ∧ Below w0.heap.size w0 w' := by
 by_cases hx : xs = []
 ·have h0 := hnil hx;rw [h0];refine (corrodylaw06_DatesOnTime_srt.calls45_nil _ W).mono ?_;rintro e w' ⟨rfl, rfl⟩;subst hx;exact ⟨rfl, w'.heap.size, KeepBut.refl _ _ _, hBW, Or.inl (Nat.le_refl _), Kd.R_nil _ _ _ _ _, hbk, hB⟩
 ·have hpos : 0 < xs.length := List.length_pos_iff.2 hx;obtain ⟨g, cap, hv, hg, hgl2, cells, hcells⟩ := Kd.R_form hR hpos;rw [hv] at hR ⊢;have hne := blk_ne hbk hcells (by decide);refine (corrodylaw06_DatesOnTime_srt.calls45 A0 c0 l gl g cap xs w0 W hr0 hB hbk hgl (Nat.le_trans hwB hg) hne (Kd.R_lower hR hwB) hok hlen).mono ?_;rintro e w' ⟨rfl, h1, h2, h3, h4⟩;exact ⟨rfl, g, h4, hg, Or.inr rfl, h1, h2, h3⟩
set_option maxHeartbeats 16000000 in
set_option maxRecDepth 100000 in
theorem corrodylaw06_DatesOnTime.calls (k : Nat) (A0 : Option Addr) (c0 : Nat) (l : List (S43)) (A1 : Option Addr) (c1 : Nat) (o : List Int) (r : Bool) (w : World) (hr0 : Kd.C k43 w A0 l.length l) (hc0 : l.length ≤ c0) (hr1 : Kd.C (Kd.int .i64) w A1 o.length o) (hc1 : o.length ≤ c1) (h : corrodylaw06_DatesOnTime.f k l o = some r) (hr : r = true) :
    Calls Try.prog 15 #[.slice A0 l.length c0, .slice A1 o.length c1] w fun e w' => e = .returned (.bool r) ∧ Below w.heap.size w w' := by
 have hu43 := Try.underlying43;have HR0 := Aside0.mk hr0;have HC0 := Aside0.mk hc0;have HR1 := Aside0.mk hr1;have HC1 := Aside0.mk hc1;clear hr0 hc0 hr1 hc1 hr;unfold corrodylaw06_DatesOnTime.f at h;obtain ⟨t, hOf, h⟩ := Option.bind_eq_some_iff.mp h;obtain ⟨⟨ma, me⟩, hM, h⟩ := Option.bind_eq_some_iff.mp h;obtain ⟨⟨wa, wn, we⟩, hWe, h⟩ := Option.bind_eq_some_iff.mp h;replace hOf := Aside0.mk hOf;replace hM := Aside0.mk hM;replace hWe := Aside0.mk hWe;dsimp only at h;by_cases b1 : me = 2
 ·subst b1;rw [if_pos rfl] at h;by_cases b2 : we = 2
  ·subst b2;rw [if_pos rfl] at h;have hA := Aside0.mk h;clear h;go_enter Try.func15, Try.ntmps15;go_wp2_with (first | ((with_reducible refine gate_dst (N := 2) rfl ?_); refine box_event ?hg (N := 2) ?hd (cs := #[.slice A0 l.length c0]) (t := 22) ?hr ?_; (case hd => rfl); (case hg => rfl); (case hr => first | (go_simp; done) | (go_simp; rfl)); intro gl hg w0 hbox hb; have BK := Aside0.mk hbox; have GL := Aside0.mk (Nat.le_of_eq hg.symm : w.heap.size ≤ gl); have HB := Aside0.mk hb; clear hbox hb hg; have hbx : w0.cell? ⟨gl, 0, none⟩ = some (.slice A0 l.length c0) := (blk_cell BK.out 0).trans rfl));go_wp2_with fail;refine (corrodylaw06_Of.calls k _ _ l t _ (Kd.C_below HR0.out HB.out) HC0.out hOf.out).mono ?_;rintro e w1 ⟨v, rfl, ho, hb⟩;replace BK := Aside0.mk (blk_below BK.out hb);have HT1 := Aside0.mk (Kd.R_lower ho (below_size HB.out));clear ho;replace HB := Aside0.mk (below_step HB.out hb);clear hb hbx;obtain ⟨AHT1, cHT1, hvHT1⟩ := Kd.R_slice HT1.out;subst hvHT1;have hbx : w1.cell? ⟨gl, 0, none⟩ = some (.slice A0 l.length c0) := (blk_cell BK.out 0).trans rfl;go_wp2_with fail;refine (dates_Most.calls k _ _ t ma 2 _ (Kd.R_reads' HT1.out).2.2 (Kd.R_reads' HT1.out).2.1 hM.out).mono ?_;rintro e w2 ⟨rfl, hb⟩;replace BK := Aside0.mk (blk_below BK.out hb);replace HB := Aside0.mk (below_step HB.out hb);clear hb hbx;have hbx : w2.cell? ⟨gl, 0, none⟩ = some (.slice A0 l.length c0) := (blk_cell BK.out 0).trans rfl;go_wp2_with fail;refine (corrodylaw06_Of.calls k _ _ l t _ (Kd.C_below HR0.out HB.out) HC0.out hOf.out).mono ?_;rintro e w3 ⟨v, rfl, ho, hb⟩;replace BK := Aside0.mk (blk_below BK.out hb);have HT3 := Aside0.mk (Kd.R_lower ho (below_size HB.out));clear ho;replace HB := Aside0.mk (below_step HB.out hb);clear hb hbx;obtain ⟨AHT3, cHT3, hvHT3⟩ := Kd.R_slice HT3.out;subst hvHT3;have hbx : w3.cell? ⟨gl, 0, none⟩ = some (.slice A0 l.length c0) := (blk_cell BK.out 0).trans rfl;go_wp2_with fail;refine (dates_Weigh.calls k _ _ t wa wn 2 _ (Kd.R_reads' HT3.out).2.2 (Kd.R_reads' HT3.out).2.1 hWe.out).mono ?_;rintro e w4 ⟨rfl, hb⟩;replace BK := Aside0.mk (blk_below BK.out hb);replace HB := Aside0.mk (below_step HB.out hb);clear hb hbx;have hbx : w4.cell? ⟨gl, 0, none⟩ = some (.slice A0 l.length c0) := (blk_cell BK.out 0).trans rfl;go_wp2_with fail;refine (corrodylaw06_awake.calls k r _ hA.out).mono ?_;rintro e w5 ⟨rfl, hb⟩;replace BK := Aside0.mk (blk_below BK.out hb);replace HB := Aside0.mk (below_step HB.out hb);clear hb hbx;have hbx : w5.cell? ⟨gl, 0, none⟩ = some (.slice A0 l.length c0) := (blk_cell BK.out 0).trans rfl;go_wp2;go_ret;exact ⟨rfl, HB.out⟩
  ·rw [if_neg b2] at h;exact absurd h (by simp)
 ·rw [if_neg b1] at h;by_cases b2 : me = 0 ∧ we = 0
  ·rw [if_pos b2] at h;obtain ⟨rfl, rfl⟩ := b2;clear b1;obtain ⟨v, hV, h⟩ := Option.bind_eq_some_iff.mp h;replace hV := Aside0.mk hV;by_cases b3 : v = true ∧ 1 ≤ l.length ∧ l.length ≤ 8
   ·rw [if_pos b3] at h;obtain ⟨rfl, hl1, hl8⟩ := b3;have HL1 := Aside0.mk hl1;have HL8 := Aside0.mk hl8;clear hl1 hl8;obtain ⟨most, hG, h⟩ := Option.bind_eq_some_iff.mp h;obtain ⟨o2, hO2, h⟩ := Option.bind_eq_some_iff.mp h;obtain ⟨⟨ex, ee⟩, hE, h⟩ := Option.bind_eq_some_iff.mp h;replace hG := Aside0.mk hG;replace hO2 := Aside0.mk hO2;replace hE := Aside0.mk hE;replace h := Aside0.mk h;go_enter Try.func15, Try.ntmps15;go_wp2_with (first | ((with_reducible refine gate_dst (N := 2) rfl ?_); refine box_event ?hg (N := 2) ?hd (cs := #[.slice A0 l.length c0]) (t := 22) ?hr ?_; (case hd => rfl); (case hg => rfl); (case hr => first | (go_simp; done) | (go_simp; rfl)); intro gl hg w0 hbox hb; have BK := Aside0.mk hbox; have GL := Aside0.mk (Nat.le_of_eq hg.symm : w.heap.size ≤ gl); have HB := Aside0.mk hb; clear hbox hb hg; have hbx : w0.cell? ⟨gl, 0, none⟩ = some (.slice A0 l.length c0) := (blk_cell BK.out 0).trans rfl));go_wp2_with fail;refine (corrodylaw06_Of.calls k _ _ l t _ (Kd.C_below HR0.out HB.out) HC0.out hOf.out).mono ?_;rintro e w6 ⟨v, rfl, ho, hb⟩;replace BK := Aside0.mk (blk_below BK.out hb);have HT6 := Aside0.mk (Kd.R_lower ho (below_size HB.out));clear ho;replace HB := Aside0.mk (below_step HB.out hb);clear hb hbx;obtain ⟨AHT6, cHT6, hvHT6⟩ := Kd.R_slice HT6.out;subst hvHT6;have hbx : w6.cell? ⟨gl, 0, none⟩ = some (.slice A0 l.length c0) := (blk_cell BK.out 0).trans rfl;go_wp2_with fail;refine (dates_Most.calls k _ _ t ma 0 _ (Kd.R_reads' HT6.out).2.2 (Kd.R_reads' HT6.out).2.1 hM.out).mono ?_;rintro e w7 ⟨rfl, hb⟩;replace BK := Aside0.mk (blk_below BK.out hb);replace HB := Aside0.mk (below_step HB.out hb);clear hb hbx;have hbx : w7.cell? ⟨gl, 0, none⟩ = some (.slice A0 l.length c0) := (blk_cell BK.out 0).trans rfl;go_wp2_with fail;refine (corrodylaw06_Of.calls k _ _ l t _ (Kd.C_below HR0.out HB.out) HC0.out hOf.out).mono ?_;rintro e w8 ⟨v, rfl, ho, hb⟩;replace BK := Aside0.mk (blk_below BK.out hb);have HT8 := Aside0.mk (Kd.R_lower ho (below_size HB.out));clear ho;replace HB := Aside0.mk (below_step HB.out hb);clear hb hbx;obtain ⟨AHT8, cHT8, hvHT8⟩ := Kd.R_slice HT8.out;subst hvHT8;have hbx : w8.cell? ⟨gl, 0, none⟩ = some (.slice A0 l.length c0) := (blk_cell BK.out 0).trans rfl;go_wp2_with fail;refine (dates_Weigh.calls k _ _ t wa wn 0 _ (Kd.R_reads' HT8.out).2.2 (Kd.R_reads' HT8.out).2.1 hWe.out).mono ?_;rintro e w9 ⟨rfl, hb⟩;replace BK := Aside0.mk (blk_below BK.out hb);replace HB := Aside0.mk (below_step HB.out hb);clear hb hbx;have hbx : w9.cell? ⟨gl, 0, none⟩ = some (.slice A0 l.length c0) := (blk_cell BK.out 0).trans rfl;go_wp2_with fail;refine (corrodyref06_Valid.calls k _ _ l true _ (Kd.C_below HR0.out HB.out) HC0.out hV.out).mono ?_;rintro e w10 ⟨rfl, hb⟩;replace BK := Aside0.mk (blk_below BK.out hb);replace HB := Aside0.mk (below_step HB.out hb);clear hb hbx;have hbx : w10.cell? ⟨gl, 0, none⟩ = some (.slice A0 l.length c0) := (blk_cell BK.out 0).trans rfl;go_wp2_with (first | ((with_reducible refine gate_dst (N := 61) rfl ?_); refine Kd.R_lit (Kd.int .i64) _ 3 ?hg (N := 61) ?hd (xs := [ma, wa]) (inner := [.int .i64 ma, .int .i64 wa]) (ok := fun _ => True) (okp := fun _ => True) ?hr ?hp (fun _ hk => hk) trivial (Below.refl _ _) (Nat.le_refl _) (by simp) ?_; (case hd => rfl); (case hg => rfl); (case hr => first | (go_simp; done) | (go_simp; rfl)); (case hp => exact Kd.reps_scalar [ma, wa]); intro v61 wB ho4 hb hg_ hnew_; clear hg_ hnew_; have HLI := Aside0.mk ho4; have HBw := Aside0.mk (below_step HB.out hb); have BKB := Aside0.mk (blk_below BK.out hb); clear hb ho4 hbx HB BK; obtain ⟨AL, cL, hvL⟩ := Kd.R_slice HLI.out; subst hvL; have HLC := Aside0.mk (Kd.R_reads' HLI.out).2.2));go_loopg [10, 63] 2 (fun kq v10 v63 w' => ∃ (q : Nat) (m : Int), v10 = .int .i64 m ∧ v63 = .int .i64 (q : Int) ∧ Aside0 (q + kq = 2) ∧ Aside0 (corrodylaw06_DatesOnTime.go2 k l t ma (([ma, wa] : List Int).drop q) m = some most) ∧ Aside0 (Below wB.heap.size wB w'))
    case atStart => exact ⟨0, 0, rfl, rfl, ⟨rfl⟩, hG, ⟨Below.refl _ _⟩⟩
    case round =>
     obtain ⟨q, m, rfl, rfl, HQ, HG, HB⟩ := hrel;have BK := Aside0.mk (blk_below BKB.out HB.out);have HBw2 := Aside0.mk (below_step HBw.out HB.out);have hbx : wr.cell? ⟨gl, 0, none⟩ = some (.slice A0 l.length c0) := (blk_cell BK.out 0).trans rfl;by_cases hq : q < 2
     ·have dq1 : decide ((q : Int) < 2) = true := decide_eq_true (by omega);have dq2 := eq_true (show (q : Int) < 2 by omega);have dq3 := eq_true hq;have dq4 : decide (q < 2) = true := decide_eq_true hq;obtain ⟨ko, rfl⟩ : ∃ ko, gk = ko + 1 := ⟨gk - 1, by have := HQ.out; omega⟩
      obtain ⟨adL, eL, hxL⟩ := Kd.at_int HLC.out (q : Int) (by omega) (by simp; omega);cases eL;replace hxL := (HB.out.cell (World.block_lt_of_cell? wB _ hxL)).trans hxL;simp only [Int.toNat_natCast] at hxL;obtain ⟨s, hs⟩ : ∃ s, rd ([ma, wa] : List Int) (q : Int) = s := ⟨_, rfl⟩
      rw [hs] at hxL;have hd : ([ma, wa] : List Int).drop q = s :: ([ma, wa] : List Int).drop (q + 1) := by
       rw [List.drop_eq_getElem_cons (show q < ([ma, wa] : List Int).length from hq), ← hs];congr 1;simp [rd, List.getD_eq_getElem?_getD, List.getElem?_eq_getElem (show q < ([ma, wa] : List Int).length from hq)]
      have h2 := HG.out;rw [hd, corrodylaw06_DatesOnTime.go2] at h2;obtain ⟨fl, hR, h2⟩ := Option.bind_eq_some_iff.mp h2;have HGN := Aside0.mk h2;unfold corrodylaw06_DatesOnTime.round at hR;obtain ⟨⟨x, xe⟩, hX, hR⟩ := Option.bind_eq_some_iff.mp hR;have HX := Aside0.mk hX;dsimp only at hR;by_cases b4 : xe = 0 ∧ x.length = l.length ∧ ∀ j ∈ corrodylaw06_DatesOnTime.first l s, rd x j ≤ (rd_T43 l j).f2
      ·rw [if_pos b4] at hR;obtain ⟨rfl, hxl, hall⟩ := b4;have HXL := Aside0.mk hxl;have HALL := Aside0.mk hall;have HFL := Aside0.mk (Option.some.inj hR);have HQ2 := Aside0.mk hq;clear h2 hR hX hd hs hxl hall hq HG;go_wp2;go_loopg [14, 15, 69] l.length (fun kq v14 v15 v69 w' => ∃ (i : Nat) (xa xb : List Int), v69 = .int .i64 (i : Int) ∧ Aside0 (i + kq = l.length) ∧ Aside0 (corrodylaw06_DatesOnTime.split s l.length 0 [] [] = corrodylaw06_DatesOnTime.split s (l.length - i) i xa xb) ∧ Aside0 (xa.length + xb.length = i) ∧ Aside0 (dates_jobs_byDue.srt.ok l.length xa) ∧ Aside0 (xa = [] → v14 = .slice none 0 0) ∧ Aside0 (Kd.R (Kd.int .i64) 3 w' wB.heap.size (fun j => True ∧ some j ≠ v15.ownBlock) v14 xa) ∧ Aside0 (Kd.R (Kd.int .i64) 3 w' wB.heap.size (fun j => True ∧ some j ≠ v14.ownBlock) v15 xb) ∧ Aside0 (Below wB.heap.size wB w'))
       case atStart => exact ⟨0, [], [], rfl, ⟨by omega⟩, ⟨rfl⟩, ⟨rfl⟩, ⟨fun _ h => absurd h (by simp)⟩, ⟨fun _ => rfl⟩, ⟨Kd.R_nil _ _ _ _ _⟩, ⟨Kd.R_nil _ _ _ _ _⟩, HB⟩
       case round =>
        clear HB BK HBw2 hbx hxL;obtain ⟨i, xa, xb, rfl, HK, HSP, HLN, HOK, HNI, HRA, HRB, HB⟩ := hrel;have BK := Aside0.mk (blk_below BKB.out HB.out);have HBw2 := Aside0.mk (below_step HBw.out HB.out);have hbx : wr.cell? ⟨gl, 0, none⟩ = some (.slice A0 l.length c0) := (blk_cell BK.out 0).trans rfl;by_cases hi : i < l.length
        ·have d1 : decide ((i : Int) < (l.length : Int)) = true := decide_eq_true (by omega);have d2 : decide (i < l.length) = true := decide_eq_true hi;obtain ⟨k1, rfl⟩ : ∃ k1, gk = k1 + 1 := ⟨gk - 1, by have := HK.out; omega⟩
         obtain ⟨J, hJ⟩ : ∃ J, shr .i64 s (i : Int) = J := ⟨_, rfl⟩
         have hJ1 : (s / 2 ^ min i 64) = J := hJ;have hJ2 : (s / 2 ^ i) = J := by rw [← hJ1, Nat.min_eq_left (by have := HL8.out; omega)]
         have h2 := HSP.out;rw [show l.length - i = (l.length - (i + 1)) + 1 by omega, corrodylaw06_DatesOnTime.split, hJ] at h2;have HIN := Aside0.mk hi;obtain ⟨A14, c14, hv14⟩ := Kd.R_slice HRA.out;subst hv14;obtain ⟨A15, c15, hv15⟩ := Kd.R_slice HRB.out;subst hv15;clear hJ hi HSP;by_cases t1 : Go.bits .and .i64 J 1 = 1
         ·rw [if_pos t1] at h2;have t1b : (Go.bits .and .i64 J 1 == 1) = true := by simp [t1]
          have HSP2 := Aside0.mk h2;clear h2 t1;have HLL : Aside0 ((xa.length + 1) * 8 ≤ 140737488355328) := ⟨by have := HLN.out; have := HIN.out; have := HL8.out; omega⟩;go_wp2_with (first | ((with_reducible refine gate_builtin (b := .append) (xs := #[.tmp 77, .tmp 79]) rfl ?_); at_builtin; refine Kd.R_append (Kd.int .i64) (w0 := wB) wB.heap.size rfl (.tmp 77) (.tmp 79) 41 3 (.int .i64 0) 8 rfl Try.underlying41 info3 rfl (by decide) (by omega) (.slice A14 xa.length c14) xa (i : Int) [.int .i64 (i : Int)] (fun j => True ∧ some j ≠ (Value.slice A15 xb.length c15).ownBlock) (fun _ => False) rfl (by first | (go_simp; done) | (go_simp; rfl)) ?aP (fun _ hk => hk.elim) ?aF ?aO ?aB ?aS ?aL ?_; (case aP => exact rfl); (case aB => exact HB.out); (case aF => exact (fun j hj => ⟨trivial, Kd.fresh_ok HRB.out j hj⟩)); (case aO => exact HRA.out); (case aS => exact (below_size HB.out)); (case aL => exact HLL.out); intro v80 w9 ho hb hg hat; have HRA9 := Aside0.mk ho; have HRB9 := Aside0.mk (Kd.R_after HRB.out hg hat); have HB9 := Aside0.mk hb; clear ho hb hg hat));go_roundg k1
          case measure => omega
          case rel => exact ⟨i + 1, xa ++ [(i : Int)], xb, (by congr 1; unfold wrap64; have := HL8.out; have := HIN.out; omega), ⟨by have := HK.out; omega⟩, HSP2, ⟨by rw [List.length_append, List.length_singleton]; have := HLN.out; omega⟩, ⟨corrodylaw06_DatesOnTime.ok_snoc HOK.out HIN.out⟩, ⟨fun e => absurd e (by simp)⟩, HRA9, HRB9, HB9⟩
         ·rw [if_neg t1] at h2;have t1b : (Go.bits .and .i64 J 1 == 1) = false := by simp [t1]
          have HSP2 := Aside0.mk h2;clear h2 t1;have HLL : Aside0 ((xb.length + 1) * 8 ≤ 140737488355328) := ⟨by have := HLN.out; have := HIN.out; have := HL8.out; omega⟩;go_wp2_with (first | ((with_reducible refine gate_builtin (b := .append) (xs := #[.tmp 81, .tmp 83]) rfl ?_); at_builtin; refine Kd.R_append (Kd.int .i64) (w0 := wB) wB.heap.size rfl (.tmp 81) (.tmp 83) 41 3 (.int .i64 0) 8 rfl Try.underlying41 info3 rfl (by decide) (by omega) (.slice A15 xb.length c15) xb (i : Int) [.int .i64 (i : Int)] (fun j => True ∧ some j ≠ (Value.slice A14 xa.length c14).ownBlock) (fun _ => False) rfl (by first | (go_simp; done) | (go_simp; rfl)) ?aP (fun _ hk => hk.elim) ?aF ?aO ?aB ?aS ?aL ?_; (case aP => exact rfl); (case aB => exact HB.out); (case aF => exact (fun j hj => ⟨trivial, Kd.fresh_ok HRA.out j hj⟩)); (case aO => exact HRB.out); (case aS => exact (below_size HB.out)); (case aL => exact HLL.out); intro v84 w9 ho hb hg hat; have HRB9 := Aside0.mk ho; have HRA9 := Aside0.mk (Kd.R_after HRA.out hg hat); have HB9 := Aside0.mk hb; clear ho hb hg hat));go_roundg k1
          case measure => omega
          case rel => exact ⟨i + 1, xa, xb ++ [(i : Int)], (by congr 1; unfold wrap64; have := HL8.out; have := HIN.out; omega), ⟨by have := HK.out; omega⟩, HSP2, ⟨by rw [List.length_append, List.length_singleton]; have := HLN.out; omega⟩, HOK, HNI, HRA9, HRB9, HB9⟩
        ·have d1 : decide ((i : Int) < (l.length : Int)) = false := decide_eq_false (by omega);have d2 : decide (i < l.length) = false := decide_eq_false hi;have hsp : corrodylaw06_DatesOnTime.split s l.length 0 [] [] = (xa, xb) := by
          have h2 := HSP.out;rw [show l.length - i = 0 by omega, corrodylaw06_DatesOnTime.split] at h2;exact h2
         obtain ⟨A14, c14, hv14⟩ := Kd.R_slice HRA.out;subst hv14;obtain ⟨A15, c15, hv15⟩ := Kd.R_slice HRB.out;subst hv15;obtain ⟨fs, hfs⟩ : ∃ fs, fs = dates_jobs_byDue.srt.sort (corrodylaw06_DatesOnTime_srt.lt l) xa := ⟨_, rfl⟩
         have e1 : corrodylaw06_DatesOnTime.first l s = fs := by unfold corrodylaw06_DatesOnTime.first; rw [hsp, hfs]
         have e2 : corrodylaw06_DatesOnTime.rest l s = xb := by unfold corrodylaw06_DatesOnTime.rest; rw [hsp]
         obtain ⟨fx, hfx⟩ : ∃ fx, fx = fs ++ xb := ⟨_, rfl⟩
         have HX2 : Aside0 (dates_Ends.f k t fx = some (x, 0)) := ⟨by rw [hfx, ← e1, ← e2]; exact HX.out⟩;have HALL2 : Aside0 (∀ j ∈ fs, rd x j ≤ (rd_T43 l j).f2) := ⟨by rw [← e1]; exact HALL.out⟩;have HFL2 : Aside0 ((fs.length : Int) = fl) := ⟨by rw [← e1]; exact HFL.out⟩;have HFX := Aside0.mk hfx;have HFS := Aside0.mk hfs;have HLF : Aside0 (fs.length = xa.length) := ⟨by rw [hfs]; exact corrodylaw06_DatesOnTime.sort_len _ _⟩;have HOKF : Aside0 (dates_jobs_byDue.srt.ok l.length fs) := ⟨by rw [hfs]; exact corrodylaw06_DatesOnTime.sort_ok HL1.out _ HOK.out⟩;have HLN2 : Aside0 (xa.length + xb.length ≤ 8) := ⟨by have := HLN.out; have := HL8.out; have := HK.out; omega⟩;have HBASE : Aside0 (∀ j, (Value.slice A14 xa.length c14).ownBlock = some j → wB.heap.size ≤ j) := ⟨fun j hj => by
          rcases Kd.R_base2 HRA.out with h | ⟨k9, h, hle⟩
          ·rw [h] at hj; cases hj
          ·rw [h] at hj; cases hj; exact hle⟩
         have HSO := Aside0.mk (corrodylaw06_DatesOnTime.sorts A0 c0 l gl A14 c14 xa w wB wr HR0.out HBw2.out BK.out GL.out (Kd.R_mono HRA.out (fun _ _ => trivial)) (below_size HBw.out) (below_size HB.out) HNI.out HOK.out (by have := HLN2.out; omega));clear hfs hfx e1 e2 hsp HSP HX HALL HFL HNI hi;go_wp2_with fail;refine HSO.out.mono ?_;rintro e w5 ⟨rfl, B, hkb, hB1, hB2, hRs, hbk, hbw⟩;have HB5 := Aside0.mk (corrodylaw06_DatesOnTime.below_keep HB.out HBw2.out hbw hkb hB1);have HRA5 := Aside0.mk hRs;rw [← HFS.out] at HRA5;have HRB5 : Aside0 (Kd.R (Kd.int .i64) 3 w5 wB.heap.size (fun j => True ∧ some j ≠ (Value.slice A14 xa.length c14).ownBlock) (.slice A15 xb.length c15) xb) := ⟨Kd.R_mono (Kd.R_keep (Kd.R_bound HRB.out) hkb (fun j hj e => by
          rcases hB2 with h | h
          ·have := hj.2.2.1; omega
          ·exact hj.1.2 (by rw [h, e]))) (fun j hj => hj.1)⟩
         replace BK := Aside0.mk hbk;clear hkb hB1 hB2 hRs hbk hbw HSO HRA HRB HB HBw2 hbx;have HBw5 := Aside0.mk (below_step HBw.out HB5.out);have hbx : w5.cell? ⟨gl, 0, none⟩ = some (.slice A0 l.length c0) := (blk_cell BK.out 0).trans rfl;go_wp2_with fail;refine (corrodylaw06_Of.calls k _ _ l t _ (Kd.C_below HR0.out HBw5.out) HC0.out hOf.out).mono ?_;rintro e w6 ⟨v91, rfl, ho, hb⟩;have HT6 := Aside0.mk (Kd.R_bound ho);have HLT := Aside0.mk (Kd.R_lt HRA5.out);have HRA6 := Aside0.mk (Kd.R_below HRA5.out hb);have HRB6 := Aside0.mk (Kd.R_below HRB5.out hb);have HB6 := Aside0.mk (below_step HB5.out hb);replace BK := Aside0.mk (blk_below BK.out hb);clear ho hb hbx HRA5 HRB5 HB5;have HBw6 := Aside0.mk (below_step HBw.out HB6.out);go_wp2_with (first | ((with_reducible refine gate_builtin (b := .append) (xs := #[.tmp 92, .tmp 93]) rfl ?_); at_builtin; refine app2.law w.heap.size rfl (.tmp 92) (.tmp 93) rfl (.slice A14 xa.length c14) fs xb A15 xb.length c15 (fun _ => True) rfl rfl HRA6.out (Kd.R_reads' HRB6.out).2.2 (below_size HBw6.out) (by have := HLN2.out; have := HLF.out; omega) ?_; intro v94 w7 h94 h14 hg; rw [← HFX.out] at h94; have HR94 := Aside0.mk h94; have HRA7 := Aside0.mk h14; have HT7 := Aside0.mk (Kd.R_grown HT6.out hg (fun j hj e => by have := HLT.out j e.symm; have := hj.2.1; omega)); have HB7 := Aside0.mk (HB6.out.grown hg (below_size HB6.out) HBASE.out); have BK7 := Aside0.mk (blk_grown BK.out hg (Kd.R_ne HRA6.out BK.out (by decide))); clear h94 h14 hg BK HB6 HRA6 HRB6 HT6 HBw6; obtain ⟨A94, c94, hv94⟩ := Kd.R_slice HR94.out; subst hv94; obtain ⟨A91, c91, hv91⟩ := Kd.R_slice HT7.out; subst hv91));refine (dates_Ends.calls k A91 c91 t A94 c94 fx x 0 _ (Kd.R_reads' HT7.out).2.2 (Kd.R_reads' HT7.out).2.1 (Kd.R_reads' HR94.out).2.2 (Kd.R_reads' HR94.out).2.1 HX2.out).mono ?_;rintro e w8 ⟨v17, rfl, ho, hb⟩;have HRX := Aside0.mk ho;have HRA8 := Aside0.mk (Kd.R_below HRA7.out hb);have HB8 := Aside0.mk (below_step HB7.out hb);have BK8 := Aside0.mk (blk_below BK7.out hb);clear ho hb HRA7 HB7 BK7 HR94 HT7;obtain ⟨A17, c17, hv17⟩ := Kd.R_slice HRX.out;subst hv17;have xl0 : ((x.length : Int) != (l.length : Int)) = false := by simp [HXL.out]
         have xl1 : (x.length != l.length) = false := by simp [HXL.out]
         have hbx : w8.cell? ⟨gl, 0, none⟩ = some (.slice A0 l.length c0) := (blk_cell BK8.out 0).trans rfl;go_wp2;clear hbx;go_loopg [109] xa.length (fun kq v109 w' => ∃ (i : Nat), v109 = .int .i64 (i : Int) ∧ Aside0 (i + kq = xa.length) ∧ Aside0 (Kd.R (Kd.int .i64) 3 w' w.heap.size (fun _ => True) (.slice A14 xa.length c14) fs) ∧ Aside0 (Kd.R (Kd.int .i64) 3 w' w7.heap.size (fun _ => True) (.slice A17 x.length c17) x) ∧ Aside0 (Below wB.heap.size wB w'))
         case atStart => exact ⟨0, rfl, ⟨by omega⟩, HRA8, HRX, HB8⟩
         case round =>
          clear HRA8 HRX HB8 BK8;obtain ⟨i, rfl, HK2, HRA, HRX, HB⟩ := hrel;have BK := Aside0.mk (blk_below BKB.out HB.out);have HBw2 := Aside0.mk (below_step HBw.out HB.out);have hbx : wr.cell? ⟨gl, 0, none⟩ = some (.slice A0 l.length c0) := (blk_cell BK.out 0).trans rfl;by_cases hi : i < xa.length
          ·have d3 : decide ((i : Int) < (xa.length : Int)) = true := decide_eq_true (by omega);have d4 : decide (i < xa.length) = true := decide_eq_true hi;have d5 := eq_true (show (i : Int) < (xa.length : Int) by omega);have d6 := eq_true hi;obtain ⟨k1, rfl⟩ : ∃ k1, gk = k1 + 1 := ⟨gk - 1, by have := HK2.out; omega⟩
           have hif : i < fs.length := by have := HLF.out; omega
           obtain ⟨ad3, e3, hx3⟩ := Kd.at_int (Kd.R_reads' HRA.out).2.2 (i : Int) (by omega) (by omega);cases e3;simp only [Int.toNat_natCast] at hx3;have hjm : rd fs (i : Int) ∈ fs := by simp [rd, List.getD_eq_getElem?_getD, List.getElem?_eq_getElem hif]
           obtain ⟨j, hj⟩ : ∃ j, rd fs (i : Int) = j := ⟨_, rfl⟩
           rw [hj] at hx3 hjm;have hjb := HOKF.out j hjm;have hjd := HALL2.out j hjm;obtain ⟨ad4, e4, hx4⟩ := Kd.at_int (Kd.R_reads' HRX.out).2.2 j hjb.1 (by rw [HXL.out]; exact hjb.2);cases e4;obtain ⟨ad5, e5, _, _, hx5, _⟩ := at_T43 HR0.out j hjb.1 hjb.2;cases e5;replace hx5 := (HBw2.out.cell (World.block_lt_of_cell? w _ hx5)).trans hx5;obtain ⟨X, hX⟩ : ∃ X, rd x j = X := ⟨_, rfl⟩
           obtain ⟨Y, hY⟩ : ∃ Y, (rd_T43 l j).f2 = Y := ⟨_, rfl⟩
           rw [hX] at hx4 hjd;rw [hY] at hx5 hjd;have g1 : decide (Y < X) = false := decide_eq_false (by omega);have p0 := eq_true hjb.1;have p1 := eq_true hjb.2;have p2 := eq_true (show j < (x.length : Int) by rw [HXL.out]; exact hjb.2);have HI2 := Aside0.mk hi;clear hX hY hj hjm hjb hjd hif hi;go_wp2;go_quiet (fail);go_wp2;go_roundg k1
           case measure => omega
           case rel => exact ⟨i + 1, (by congr 1; unfold wrap64; have := HLN2.out; have := HI2.out; omega), ⟨by have := HK2.out; omega⟩, ⟨Kd.R_drewN HRA.out nq⟩, ⟨Kd.R_drewN HRX.out nq⟩, ⟨pw_below_drewN HB.out nq⟩⟩
          ·have d3 : decide ((i : Int) < (xa.length : Int)) = false := decide_eq_false (by omega);have d4 : decide (i < xa.length) = false := decide_eq_false hi;by_cases u : s = ma
           ·have u1 : (s == ma) = true := by simp [u]
            have HGN2 : Aside0 (corrodylaw06_DatesOnTime.go2 k l t ma (([ma, wa] : List Int).drop (q + 1)) (xa.length : Int) = some most) := ⟨by have h := HGN.out; rw [if_pos u, ← HFL2.out, HLF.out] at h; exact h⟩;clear u hi;go_wp2;go_roundg ko
            case measure => omega
            case rel => exact ⟨q + 1, (xa.length : Int), rfl, (by congr 1; unfold wrap64; have := HQ2.out; omega), ⟨by have := HQ.out; omega⟩, HGN2, HB⟩
           ·have u1 : (s == ma) = false := by simp [u]
            have HGN2 : Aside0 (corrodylaw06_DatesOnTime.go2 k l t ma (([ma, wa] : List Int).drop (q + 1)) m = some most) := ⟨by have h := HGN.out; rw [if_neg u] at h; exact h⟩;clear u hi;go_wp2;go_roundg ko
            case measure => omega
            case rel => exact ⟨q + 1, m, rfl, (by congr 1; unfold wrap64; have := HQ2.out; omega), ⟨by have := HQ.out; omega⟩, HGN2, HB⟩
      ·rw [if_neg b4] at hR;exact absurd hR (by simp)
     ·have dq1 : decide ((q : Int) < 2) = false := decide_eq_false (by omega);have dq4 : decide (q < 2) = false := decide_eq_false hq;have dq2 := eq_false (show ¬ ((q : Int) < 2) by omega);have hmost : m = most := by
       have h2 := HG.out;rw [show q = 2 by have := HQ.out; omega] at h2;exact Option.some.inj h2
      subst hmost;clear hq HG HQ;have hw := h.out;go_wp2;clear hbx;go_loopg [11, 132] l.length (fun kq v11 v132 w' => ∃ (i : Nat) (wv : Int), v11 = .int .i64 wv ∧ v132 = .int .i64 (i : Int) ∧ Aside0 (i + kq = l.length) ∧ Aside0 (corrodylaw06_DatesOnTime.wl l wa l.length 0 0 = corrodylaw06_DatesOnTime.wl l wa (l.length - i) i wv) ∧ Aside0 (Below wB.heap.size wB w'))
      case atStart => exact ⟨0, 0, rfl, rfl, ⟨by omega⟩, ⟨rfl⟩, HB⟩
      case round =>
       clear HB BK HBw2;obtain ⟨i, wv, rfl, rfl, HK, HW, HB⟩ := hrel;have BK := Aside0.mk (blk_below BKB.out HB.out);have HBw2 := Aside0.mk (below_step HBw.out HB.out);have hbx : wr.cell? ⟨gl, 0, none⟩ = some (.slice A0 l.length c0) := (blk_cell BK.out 0).trans rfl;by_cases hi : i < l.length
       ·have d3 : decide ((i : Int) < (l.length : Int)) = true := decide_eq_true (by omega);have d4 : decide (i < l.length) = true := decide_eq_true hi;have d5 := eq_true (show (i : Int) < (l.length : Int) by omega);have d6 := eq_true hi;obtain ⟨k1, rfl⟩ : ∃ k1, gk = k1 + 1 := ⟨gk - 1, by have := HK.out; omega⟩
        obtain ⟨J, hJ⟩ : ∃ J, shr .i64 wa (i : Int) = J := ⟨_, rfl⟩
        have hJ1 : (wa / 2 ^ min i 64) = J := hJ;have hJ2 : (wa / 2 ^ i) = J := by rw [← hJ1, Nat.min_eq_left (by have := HL8.out; omega)]
        obtain ⟨ad5, e5, _, _, _, hx5⟩ := at_T43 HR0.out (i : Int) (by omega) (by omega);cases e5;replace hx5 := (HBw2.out.cell (World.block_lt_of_cell? w _ hx5)).trans hx5;obtain ⟨Y, hY⟩ : ∃ Y, (rd_T43 l (i : Int)).f3 = Y := ⟨_, rfl⟩
        rw [hY] at hx5;simp only [Int.toNat_natCast] at hx5;have h2 := HW.out;rw [show l.length - i = (l.length - (i + 1)) + 1 by omega, corrodylaw06_DatesOnTime.wl, hJ, hY] at h2;have HW2 := Aside0.mk h2;have HI2 := Aside0.mk hi;clear h2 hJ hY hi HW hw;go_wp2;go_quiet (fail);go_wp2;go_roundg k1
        case measure => omega
        case rel => exact ⟨i + 1, _, rfl, (by congr 1; unfold wrap64; have := HL8.out; have := HI2.out; omega), ⟨by have := HK.out; omega⟩, HW2, ⟨pw_below_drewN HB.out nq⟩⟩
       ·have d3 : decide ((i : Int) < (l.length : Int)) = false := decide_eq_false (by omega);have d4 : decide (i < l.length) = false := decide_eq_false hi;have hwv : corrodylaw06_DatesOnTime.wl l wa l.length 0 0 = wv := by
         have h2 := HW.out;rw [show l.length - i = 0 by omega, corrodylaw06_DatesOnTime.wl] at h2;exact h2
        rw [hwv] at hw;clear hwv HW hi;by_cases b5 : ee = 0
        ·subst b5;rw [if_pos rfl] at hw;by_cases b6 : ex.length = l.length ∧ wv = wn ∧ (corrodylaw06_DatesOnTime.cl l ex l.length 0 0 0).1 ≤ m ∧ (corrodylaw06_DatesOnTime.cl l ex l.length 0 0 0).2 ≤ wn
         ·rw [if_pos b6] at hw;obtain ⟨hxl, rfl, hc1', hc2'⟩ := b6;have HXL := Aside0.mk hxl;have HC3 := Aside0.mk hc1';have HC4 := Aside0.mk hc2';have hA := Aside0.mk hw;clear hw hxl hc1' hc2' h;go_wp2_with fail;refine (corrodylaw06_Of.calls k _ _ l t _ (Kd.C_below HR0.out HBw2.out) HC0.out hOf.out).mono ?_;rintro e w3 ⟨v150, rfl, ho, hb⟩;have HT3 := Aside0.mk ho;have HB3 := Aside0.mk (below_step HB.out hb);clear ho hb hbx HB HBw2;obtain ⟨A150, c150, hv150⟩ := Kd.R_slice HT3.out;subst hv150;have HBw3 := Aside0.mk (below_step HBw.out HB3.out);go_wp2_with fail;refine (corrodylaw06_list.calls A1 c1 o o2 _ (Kd.C_below HR1.out HBw3.out) HC1.out hO2.out).mono ?_;rintro e w4 ⟨v152, rfl, ho, hb⟩;have HO4 := Aside0.mk ho;have HT4 := Aside0.mk (Kd.R_below HT3.out hb);have HB4 := Aside0.mk (below_step HB3.out hb);clear ho hb HT3 HB3 HBw3;obtain ⟨A152, c152, hv152⟩ := Kd.R_slice HO4.out;subst hv152;go_wp2_with fail;refine (dates_Ends.calls k A150 c150 t A152 c152 o2 ex 0 _ (Kd.R_reads' HT4.out).2.2 (Kd.R_reads' HT4.out).2.1 (Kd.R_reads' HO4.out).2.2 (Kd.R_reads' HO4.out).2.1 hE.out).mono ?_;rintro e w5 ⟨v22, rfl, ho, hb⟩;have HX5 := Aside0.mk ho;have HB5 := Aside0.mk (below_step HB4.out hb);clear ho hb HT4 HO4 HB4;have HBw5 := Aside0.mk (below_step HBw.out HB5.out);obtain ⟨A22, c22, hv22⟩ := Kd.R_slice HX5.out;subst hv22;have BK5 := Aside0.mk (blk_below BKB.out HB5.out);have hbx : w5.cell? ⟨gl, 0, none⟩ = some (.slice A0 l.length c0) := (blk_cell BK5.out 0).trans rfl;go_wp2;clear hbx;go_loopg [23, 24, 170] l.length (fun kq v23 v24 v170 w' => ∃ (i : Nat) (cc hh : Int), v23 = .int .i64 cc ∧ v24 = .int .i64 hh ∧ v170 = .int .i64 (i : Int) ∧ Aside0 (i + kq = l.length) ∧ Aside0 (corrodylaw06_DatesOnTime.cl l ex l.length 0 0 0 = corrodylaw06_DatesOnTime.cl l ex (l.length - i) i cc hh) ∧ Aside0 (Kd.R (Kd.int .i64) 3 w' w4.heap.size (fun _ => True) (.slice A22 ex.length c22) ex) ∧ Aside0 (Below wB.heap.size wB w'))
          case atStart => exact ⟨0, 0, 0, rfl, rfl, rfl, ⟨by omega⟩, ⟨rfl⟩, HX5, HB5⟩
          case round =>
           clear HX5 HB5 HBw5 BK5;obtain ⟨i, cc, hh, rfl, rfl, rfl, HK3, HCL, HX, HB⟩ := hrel;have BK := Aside0.mk (blk_below BKB.out HB.out);have HBw6 := Aside0.mk (below_step HBw.out HB.out);have hbx : wr.cell? ⟨gl, 0, none⟩ = some (.slice A0 l.length c0) := (blk_cell BK.out 0).trans rfl;by_cases hi : i < l.length
           ·have d7 : decide ((i : Int) < (l.length : Int)) = true := decide_eq_true (by omega);have d8 : decide (i < l.length) = true := decide_eq_true hi;have d9 := eq_true (show (i : Int) < (l.length : Int) by omega);have d10 := eq_true hi;have d11 := eq_true (show (i : Int) < (ex.length : Int) by rw [HXL.out]; omega);have d12 := eq_true (show i < ex.length by rw [HXL.out]; exact hi);obtain ⟨k1, rfl⟩ : ∃ k1, gk = k1 + 1 := ⟨gk - 1, by have := HK3.out; omega⟩
            obtain ⟨ad5, e5, _, _, hy5, hx5⟩ := at_T43 HR0.out (i : Int) (by omega) (by omega);cases e5;replace hx5 := (HBw6.out.cell (World.block_lt_of_cell? w _ hx5)).trans hx5;replace hy5 := (HBw6.out.cell (World.block_lt_of_cell? w _ hy5)).trans hy5;obtain ⟨ad4, e4, hx4⟩ := Kd.at_int (Kd.R_reads' HX.out).2.2 (i : Int) (by omega) (by rw [HXL.out]; omega);cases e4;obtain ⟨Y, hY⟩ : ∃ Y, (rd_T43 l (i : Int)).f3 = Y := ⟨_, rfl⟩
            obtain ⟨Z, hZ⟩ : ∃ Z, (rd_T43 l (i : Int)).f2 = Z := ⟨_, rfl⟩
            obtain ⟨X, hX⟩ : ∃ X, rd ex (i : Int) = X := ⟨_, rfl⟩
            rw [hY] at hx5;rw [hZ] at hy5;rw [hX] at hx4;simp only [Int.toNat_natCast] at hx5 hy5 hx4;have h2 := HCL.out;rw [show l.length - i = (l.length - (i + 1)) + 1 by omega, corrodylaw06_DatesOnTime.cl, hX, hY, hZ] at h2;have HI2 := Aside0.mk hi;clear hY hZ hX hi HCL;by_cases u : X ≤ Z
            ·rw [if_pos u] at h2;have u1 : decide (X ≤ Z) = true := decide_eq_true u;have HCL2 := Aside0.mk h2;clear h2 u;go_wp2;go_quiet (fail);go_wp2;go_roundg k1
             case measure => omega
             case rel => exact ⟨i + 1, _, _, rfl, rfl, (by congr 1; unfold wrap64; have := HL8.out; have := HI2.out; omega), ⟨by have := HK3.out; omega⟩, HCL2, ⟨Kd.R_drewN HX.out nq⟩, ⟨pw_below_drewN HB.out nq⟩⟩
            ·rw [if_neg u] at h2;have u1 : decide (X ≤ Z) = false := decide_eq_false u;have HCL2 := Aside0.mk h2;clear h2 u;go_wp2;go_quiet (fail);go_wp2;go_roundg k1
             case measure => omega
             case rel => exact ⟨i + 1, cc, hh, rfl, rfl, (by congr 1; unfold wrap64; have := HL8.out; have := HI2.out; omega), ⟨by have := HK3.out; omega⟩, HCL2, ⟨Kd.R_drewN HX.out nq⟩, ⟨pw_below_drewN HB.out nq⟩⟩
           ·have d7 : decide ((i : Int) < (l.length : Int)) = false := decide_eq_false (by omega);have d8 : decide (i < l.length) = false := decide_eq_false hi;have hcl : corrodylaw06_DatesOnTime.cl l ex l.length 0 0 0 = (cc, hh) := by
             have h2 := HCL.out;rw [show l.length - i = 0 by omega, corrodylaw06_DatesOnTime.cl] at h2;exact h2
            have g1 : decide (cc ≤ m) = true := decide_eq_true (by have := HC3.out; rw [hcl] at this; exact this);have g2 : decide (hh ≤ wv) = true := decide_eq_true (by have := HC4.out; rw [hcl] at this; exact this);clear hcl HCL hi;go_wp2_with fail;refine (corrodylaw06_awake.calls k r _ hA.out).mono ?_;rintro e w9 ⟨rfl, hb⟩;have HBf := Aside0.mk (below_step HBw6.out hb);clear hb;go_wp2;go_ret;exact ⟨rfl, HBf.out⟩
         ·rw [if_neg b6] at hw;exact absurd hw (by simp)
        ·rw [if_neg b5] at hw;by_cases b6 : ee = 2 ∧ wv = wn
         ·rw [if_pos b6] at hw;obtain ⟨rfl, rfl⟩ := b6;have hA := Aside0.mk hw;clear hw h b5;go_wp2_with fail;refine (corrodylaw06_Of.calls k _ _ l t _ (Kd.C_below HR0.out HBw2.out) HC0.out hOf.out).mono ?_;rintro e w3 ⟨v150, rfl, ho, hb⟩;have HT3 := Aside0.mk ho;have HB3 := Aside0.mk (below_step HB.out hb);clear ho hb hbx HB HBw2;obtain ⟨A150, c150, hv150⟩ := Kd.R_slice HT3.out;subst hv150;have HBw3 := Aside0.mk (below_step HBw.out HB3.out);go_wp2_with fail;refine (corrodylaw06_list.calls A1 c1 o o2 _ (Kd.C_below HR1.out HBw3.out) HC1.out hO2.out).mono ?_;rintro e w4 ⟨v152, rfl, ho, hb⟩;have HO4 := Aside0.mk ho;have HT4 := Aside0.mk (Kd.R_below HT3.out hb);have HB4 := Aside0.mk (below_step HB3.out hb);clear ho hb HT3 HB3 HBw3;obtain ⟨A152, c152, hv152⟩ := Kd.R_slice HO4.out;subst hv152;go_wp2_with fail;refine (dates_Ends.calls k A150 c150 t A152 c152 o2 ex 2 _ (Kd.R_reads' HT4.out).2.2 (Kd.R_reads' HT4.out).2.1 (Kd.R_reads' HO4.out).2.2 (Kd.R_reads' HO4.out).2.1 hE.out).mono ?_;rintro e w5 ⟨v22, rfl, ho, hb⟩;have HX5 := Aside0.mk ho;have HB5 := Aside0.mk (below_step HB4.out hb);clear ho hb HT4 HO4 HB4;have HBw5 := Aside0.mk (below_step HBw.out HB5.out);have HBw6 := HBw5;go_wp2_with fail;refine (corrodylaw06_awake.calls k r _ hA.out).mono ?_;rintro e w9 ⟨rfl, hb⟩;have HBf := Aside0.mk (below_step HBw6.out hb);clear hb;go_wp2;go_ret;exact ⟨rfl, HBf.out⟩
         ·rw [if_neg b6] at hw;exact absurd hw (by simp)
   ·rw [if_neg b3] at h;exact absurd h (by simp)
  ·rw [if_neg b2] at h;exact absurd h (by simp)
end Go.Proofs.Ytaboleeclpllpaa.P
