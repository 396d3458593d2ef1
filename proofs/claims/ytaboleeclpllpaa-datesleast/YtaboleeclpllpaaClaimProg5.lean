/-
The program's functions as plain functions, each with its contract (written by the kit's printer, driven by a program of this repo; some by hand), put together into one text.
Conditions: each contract's own.
-/
import Derived.Maps.OwnSet
import Derived.Test.YtaboleeclpllpaaClaimProg1
import Derived.Test.YtaboleeclpllpaaClaimProg3
import Derived.Test.YtaboleeclpllpaaClaimProg4

namespace Go.Proofs.Ytaboleeclpllpaa.P
open Go.RowKit Go.Proofs.YtaboleeclpllpaaW.PrintWords Go.Proofs.YtaboleeclpllpaaW.PrintLast Go.Proofs.YtaboleeclpllpaaW.PrintMore
attribute [local go_sem] max2_int min2_int max_two min_two max_three min_three max_four min_four
set_option linter.unusedVariables false
set_option linter.unusedSimpArgs false
def dates_jobs_worst.at (l : List S48) (set : Int) : Nat → Nat → Int → Int
  | 0, _, a => a
  | m + 1, i, a => dates_jobs_worst.at l set m (i + 1) (wrap64 (a + wrap64 ((rd_T48 l (i : Int)).f0 * (Go.bits .and .i64 (shr .i64 set (i : Int)) 1))))
def dates_jobs_worst.scan (rec : Int → Option (Int × Bool)) (l : List S48) (bs : List Int) (set at_ : Int) : Nat → Nat → Int → Bool → Option (Int × Bool)
  | 0, _, best, found => some (best, found)
  | m + 1, i, best, found => if Go.bits .and .i64 (shr .i64 set (i : Int)) 1 = 1 then dates_jobs_worst.scan rec l bs set at_ m (i + 1) best found else if i < bs.length then (if Go.bits .andNot .i64 (rd bs (i : Int)) set ≠ 0 then dates_jobs_worst.scan rec l bs set at_ m (i + 1) best found else (rec (Go.bits .or .i64 set (shl .i64 1 (i : Int)))).bind fun rr => if rr.2 = true then (if found = true then (if mx rr.1 (wrap64 (wrap64 (at_ + (rd_T48 l (i : Int)).f0) - (rd_T48 l (i : Int)).f2)) < best then dates_jobs_worst.scan rec l bs set at_ m (i + 1) (mx rr.1 (wrap64 (wrap64 (at_ + (rd_T48 l (i : Int)).f0) - (rd_T48 l (i : Int)).f2))) true else dates_jobs_worst.scan rec l bs set at_ m (i + 1) best found) else dates_jobs_worst.scan rec l bs set at_ m (i + 1) (mx rr.1 (wrap64 (wrap64 (at_ + (rd_T48 l (i : Int)).f0) - (rd_T48 l (i : Int)).f2))) true) else dates_jobs_worst.scan rec l bs set at_ m (i + 1) best found) else none
def dates_jobs_worst.f : Nat → List S48 → List Int → Int → Option (Int × Bool)
  | 0, _, _, _ => none
  | k + 1, l, bs, set => if set = wrap64 (shl .i64 1 (l.length : Int) - 1) then some (-1000, true) else dates_jobs_worst.scan (dates_jobs_worst.f k l bs) l bs set (dates_jobs_worst.at l set l.length 0 0) l.length 0 0 false
theorem dates_jobs_worst.scan_le {r1 r2 : Int → Option (Int × Bool)} (h : ∀ s, LeO (r1 s) (r2 s)) (l : List S48) (bs : List Int) (set at_ : Int) : ∀ (m i : Nat) (b : Int) (f : Bool), LeO (dates_jobs_worst.scan r1 l bs set at_ m i b f) (dates_jobs_worst.scan r2 l bs set at_ m i b f)
  | 0, _, _, _ => LeO.refl _
  | m + 1, i, b, f => by
    have ih := dates_jobs_worst.scan_le h l bs set at_ m
    unfold dates_jobs_worst.scan
    exact LeO.ite (ih _ _ _) (LeO.ite (LeO.ite (ih _ _ _) (LeO.bind (h _) (fun rr => LeO.ite (LeO.ite (LeO.ite (ih _ _ _) (ih _ _ _)) (ih _ _ _)) (ih _ _ _)))) (LeO.refl _))
theorem dates_jobs_worst.mono (l : List S48) (bs : List Int) : ∀ k s, LeO (dates_jobs_worst.f k l bs s) (dates_jobs_worst.f (k + 1) l bs s)
  | 0, s => LeO.none _
  | k + 1, s => by
    rw [dates_jobs_worst.f, dates_jobs_worst.f]
    exact LeO.ite (LeO.refl _) (dates_jobs_worst.scan_le (dates_jobs_worst.mono l bs k) l bs s _ _ _ _ _)
theorem dates_jobs_worst.mono' (l : List S48) (bs : List Int) (k : Nat) (s : Int) (r : Int × Bool) (h : dates_jobs_worst.f k l bs s = some r) : ∀ d, dates_jobs_worst.f (k + d) l bs s = some r
  | 0 => h
  | d + 1 => dates_jobs_worst.mono l bs (k + d) s _ (dates_jobs_worst.mono' l bs k s r h d)
theorem dates_jobs_worst.det (l : List S48) (bs : List Int) {k k' : Nat} {s : Int} {r r' : Int × Bool} (h : dates_jobs_worst.f k l bs s = some r) (h' : dates_jobs_worst.f k' l bs s = some r') : r' = r := by
 have h1 := dates_jobs_worst.mono' l bs k s r h k';have h2 := dates_jobs_worst.mono' l bs k' s r' h' k;rw [Nat.add_comm k' k] at h2;exact Option.some.inj (h2.symm.trans h1)
def dates_jobs_worst.Inv (l : List S48) (bs : List Int) (D : DataW Unit) : Prop := ∀ a : Int, Maps.has D (.int .i64 a) = true → ∃ x : Int, (∀ z, D.atKey (.int .i64 a) z = .lit (.int .i64 x)) ∧ ∀ k r, dates_jobs_worst.f k l bs a = some r → r = (x, true)
def dates_jobs_worst.Known (l : List S48) (bs : List Int) (mb n : Nat) (w : World) : Prop := ∃ D : DataW Unit, w.ownsMap Try.prog 3 (plainElem Try.prog 3) mb n D ∧ dates_jobs_worst.Inv l bs D
theorem dates_jobs_worst.inv_empty (l : List S48) (bs : List Int) : dates_jobs_worst.Inv l bs (.map []) := by
 intro a h;simp [Maps.has_eq] at h
theorem dates_jobs_worst.inv_put {l : List S48} {bs : List Int} {D : DataW Unit} (hi : dates_jobs_worst.Inv l bs D) (hD : Maps.IsMap D) {a x : Int} {k : Nat} (h : dates_jobs_worst.f k l bs a = some (x, true)) : dates_jobs_worst.Inv l bs (D.put (.int .i64 a) (.lit (.int .i64 x))) := by
 intro a' h';by_cases e : a' = a
 ·subst e;exact ⟨x, fun z => Maps.atKey_put_same hD (by simp [WideAt.IsKeyLit]) _ z, fun k' r hr => dates_jobs_worst.det l bs h hr⟩
 ·have hne : (Lit.int .i64 a') ≠ (Lit.int .i64 a) := by
   intro q;cases q;exact e rfl
  rw [Maps.has_put_other hne] at h';obtain ⟨y, h1, h2⟩ := hi a' h';exact ⟨y, fun z => by rw [Maps.atKey_put_other hne]; exact h1 z, h2⟩
def dates_jobs_worst.T : Nat → Nat
  | 0 => 0
  | k + 1 => 8 * dates_jobs_worst.T k + 1
theorem dates_jobs_worst.zero3 (w : World) : (zeroValue 3).run Try.prog w = .ok (.int .i64 0) w := by kernel_rfl
theorem dates_jobs_worst.keyed3 : Maps.Keyed Try.prog 3 := Maps.int_keyed Try.underlying3
theorem dates_jobs_worst.own_below {w w1 : World} {b n : Nat} {D : DataW Unit} (h : w.ownsMap Try.prog 3 (plainElem Try.prog 3) b n D) (hb : Below w.heap.size w w1) : w1.ownsMap Try.prog 3 (plainElem Try.prog 3) b n D := by
 obtain ⟨es, clock, h1, h2⟩ := h;exact ⟨es, clock, blk_below h1 hb, h2⟩
theorem dates_jobs_worst.own_drewN {w : World} {b n : Nat} {D : DataW Unit} (h : w.ownsMap Try.prog 3 (plainElem Try.prog 3) b n D) (m : Nat) : (w.drewN m).ownsMap Try.prog 3 (plainElem Try.prog 3) b n D := h
theorem dates_jobs_worst.own_set {w : World} {b n : Nat} {D : DataW Unit} (h : w.ownsMap Try.prog 3 (plainElem Try.prog 3) b n D) {g i : Nat} (hg : b ≠ g) (v : Value) : (w.setCell ⟨g, i, none⟩ v).ownsMap Try.prog 3 (plainElem Try.prog 3) b n D := h.setCell (a := ⟨g, i, none⟩) hg v
theorem dates_jobs_worst.known_below {l : List S48} {bs : List Int} {w w1 : World} {b n : Nat} (h : dates_jobs_worst.Known l bs b n w) (hb : Below w.heap.size w w1) : dates_jobs_worst.Known l bs b n w1 := by
 obtain ⟨D, h1, h2⟩ := h;exact ⟨D, dates_jobs_worst.own_below h1 hb, h2⟩
theorem dates_jobs_worst.known_set {l : List S48} {bs : List Int} {w : World} {b n : Nat} (h : dates_jobs_worst.Known l bs b n w) {g i : Nat} (hg : b ≠ g) (v : Value) : dates_jobs_worst.Known l bs b n (w.setCell ⟨g, i, none⟩ v) := by
 obtain ⟨D, h1, h2⟩ := h;exact ⟨D, dates_jobs_worst.own_set h1 hg v, h2⟩
theorem dates_jobs_worst.known_le {l : List S48} {bs : List Int} {w : World} {b n n' : Nat} (h : dates_jobs_worst.Known l bs b n w) (hn : n ≤ n') : dates_jobs_worst.Known l bs b n' w := by
 obtain ⟨D, h1, h2⟩ := h;exact ⟨D, h1.mono hn, h2⟩
theorem dates_jobs_worst.known_lt {l : List S48} {bs : List Int} {w : World} {b n : Nat} (h : dates_jobs_worst.Known l bs b n w) : b < w.heap.size := by
 obtain ⟨D, h1, h2⟩ := h;exact h1.lt
theorem dates_jobs_worst.keep_map {w w1 : World} {b : Nat} (h : w.grownBy w1 (some b)) : KeepBut w w1 b none := ⟨h.size, fun i hi hne _ => h.block i hi (fun e => hne (Option.some.inj e))⟩
def dates_jobs_worst.wf (x : Int) : Prop := (Lit.int .i64 x).wf = true
instance (x : Int) : Decidable (dates_jobs_worst.wf x) := inferInstanceAs (Decidable ((Lit.int .i64 x).wf = true))
theorem dates_jobs_worst.wf_wrap (x : Int) : dates_jobs_worst.wf (wrap64 x) := wrap64_wf x
theorem dates_jobs_worst.wf_mx {x y : Int} (hx : dates_jobs_worst.wf x) (hy : dates_jobs_worst.wf y) : dates_jobs_worst.wf (mx x y) := by
 unfold mx;split
 ·exact hy
 ·exact hx
theorem dates_jobs_worst.scan_wf {rec : Int → Option (Int × Bool)} (h : ∀ s r, rec s = some r → dates_jobs_worst.wf r.1) (l : List S48) (bs : List Int) (set at_ : Int) : ∀ (m i : Nat) (b : Int) (f : Bool) (r : Int × Bool), dates_jobs_worst.wf b → dates_jobs_worst.scan rec l bs set at_ m i b f = some r → dates_jobs_worst.wf r.1
  | 0, _, b, f, r, hb, hr => by
    rw [dates_jobs_worst.scan] at hr
    cases hr
    exact hb
  | m + 1, i, b, f, r, hb, hr => by
    have ih := dates_jobs_worst.scan_wf h l bs set at_ m
    rw [dates_jobs_worst.scan] at hr
    split at hr
    · exact ih _ _ _ _ hb hr
    · split at hr
      · split at hr
        · exact ih _ _ _ _ hb hr
        · obtain ⟨rr, h1, hr⟩ := Option.bind_eq_some_iff.mp hr
          have hx := dates_jobs_worst.wf_mx (h _ _ h1) (dates_jobs_worst.wf_wrap (wrap64 (at_ + (rd_T48 l (i : Int)).f0) - (rd_T48 l (i : Int)).f2))
          split at hr
          · split at hr
            · split at hr
              · exact ih _ _ _ _ hx hr
              · exact ih _ _ _ _ hb hr
            · exact ih _ _ _ _ hx hr
          · exact ih _ _ _ _ hb hr
      · exact absurd hr (by simp)
theorem dates_jobs_worst.f_wf (l : List S48) (bs : List Int) : ∀ (k : Nat) (s : Int) (r : Int × Bool), dates_jobs_worst.f k l bs s = some r → dates_jobs_worst.wf r.1
  | 0, _, _, h => absurd h (by simp [dates_jobs_worst.f])
  | k + 1, s, r, h => by
    rw [dates_jobs_worst.f] at h
    split at h
    · cases h
      decide
    · exact dates_jobs_worst.scan_wf (dates_jobs_worst.f_wf l bs k) l bs s _ _ _ _ _ _ (by decide) h
theorem dates_jobs_worst.at_one (l : List S48) (set : Int) (i : Nat) (a : Int) (h : i < l.length) : dates_jobs_worst.at l set (l.length - i) i a = dates_jobs_worst.at l set (l.length - (i + 1)) (i + 1) (wrap64 (a + wrap64 ((rd_T48 l (i : Int)).f0 * (Go.bits .and .i64 (shr .i64 set (i : Int)) 1)))) := by
 rw [show l.length - i = (l.length - (i + 1)) + 1 by omega, dates_jobs_worst.at]
theorem dates_jobs_worst.or0 : ∀ s : Fin 256, ∀ i : Fin 8, 0 ≤ Go.bits .or .i64 ((s : Nat) : Int) (shl .i64 1 ((i : Nat) : Int)) ∧ Go.bits .or .i64 ((s : Nat) : Int) (shl .i64 1 ((i : Nat) : Int)) < 256 := by decide +kernel
theorem dates_jobs_worst.or_lt {s : Int} (h0 : 0 ≤ s) (h1 : s < 256) {i : Nat} (hi : i < 8) : 0 ≤ Go.bits .or .i64 s (shl .i64 1 (i : Int)) ∧ Go.bits .or .i64 s (shl .i64 1 (i : Int)) < 256 := by
 have := dates_jobs_worst.or0 ⟨s.toNat, by omega⟩ ⟨i, hi⟩;simp only at this;rw [show ((s.toNat : Nat) : Int) = s by omega] at this;exact this
set_option maxHeartbeats 8000000 in
set_option maxRecDepth 100000 in
theorem dates_jobs_worst.calls (l : List S48) (bs : List Int) (A0 A1 : Option Addr) (c0 c1 mb : Nat) (w0 : World) (hr0 : Kd.C k48 w0 A0 l.length l) (hr1 : Kd.C (Kd.int .i64) w0 A1 bs.length bs) (hmb : w0.heap.size ≤ mb) (h8 : l.length ≤ 8) : ∀ (k n : Nat) (set : Int) (r : Int × Bool) (w : World), 0 ≤ set → set < 256 → Below w0.heap.size w0 w → dates_jobs_worst.Known l bs mb n w → n + dates_jobs_worst.T k ≤ 1000000000000 → dates_jobs_worst.f k l bs set = some r →
    Calls Try.prog 67 #[.slice A0 l.length c0, .int .i64 set, .slice A1 bs.length c1, .map (some mb)] w fun e w' => e = .returned (.tuple #[.int .i64 r.1, .bool r.2]) ∧ dates_jobs_worst.Known l bs mb (n + dates_jobs_worst.T k) w' ∧ Below w0.heap.size w0 w' ∧ KeepBut w w' mb none := by
 have HR0 := Aside0.mk hr0;have HR1 := Aside0.mk hr1;have HMB := Aside0.mk hmb;have H8 := Aside0.mk h8;clear hr0 hr1 hmb h8;intro k;induction k with
 | zero =>
  intro n set r w _ _ _ _ _ h;exact absurd h (by simp [dates_jobs_worst.f])
 | succ k ih =>
  intro n set r w hs0 hs1 hB hM hn h;have HRW : Aside0 (dates_jobs_worst.wf r.1) := ⟨dates_jobs_worst.f_wf l bs (k + 1) set r h⟩;have HF := Aside0.mk h;have IH := Aside0.mk ih;have HB := Aside0.mk hB;have HN := Aside0.mk hn;have HS0 := Aside0.mk hs0;have HS1 := Aside0.mk hs1;have HKW : Aside0 (dates_jobs_worst.wf set) := ⟨WalkArith.wf_i64 ⟨by omega, by omega⟩⟩;have HML := Aside0.mk (dates_jobs_worst.known_lt hM);have HKB := Aside0.mk (KeepBut.refl w mb none);obtain ⟨D, hown, hinv⟩ := hM;have HO := Aside0.mk hown;have HI := Aside0.mk hinv;clear ih hB hn hs0 hs1 hown hinv;rw [dates_jobs_worst.f] at h;obtain ⟨F, hF⟩ : ∃ F, wrap64 (wrap64 (2 ^ min l.length 64) - 1) = F := ⟨_, rfl⟩
  have hF0 : wrap64 (shl .i64 1 (l.length : Int) - 1) = F := by
   show wrap64 (IntKind.i64.wrap (1 * 2 ^ min ((l.length : Int)).toNat 64) - 1) = F
   rw [i64_w, Int.one_mul, Int.toNat_natCast];exact hF
  rw [hF0] at h;clear hF0;by_cases c9 : set = F
  ·rw [if_pos c9] at h;have c9b : (set == F) = true := by simp [c9]
   clear c9;obtain rfl := Option.some.inj h;clear h;go_enter Try.func67, Try.ntmps67;go_wp2;go_ret2;exact ⟨rfl, dates_jobs_worst.known_le ⟨D, HO.out, HI.out⟩ (by omega), HB.out, HKB.out⟩
  ·rw [if_neg c9] at h;have c9b : (set == F) = false := by simp [c9]
   clear c9;have H := Aside0.mk h;clear h;by_cases hh : Maps.has D (.int .i64 set) = true
   ·obtain ⟨x, hx, hxr⟩ := HI.out set hh;have hr := hxr (k + 1) r HF.out;subst hr;have HX := Aside0.mk hx;clear hx hxr;go_enter Try.func67, Try.ntmps67;go_wp2_with (first | (at_lookup; refine wpList_lookup_own_ok_int _ rfl _ _ 102 rfl 3 3 .i64 dates_jobs_worst.keyed3 Try.underlying102 Try.underlying3 (dates_jobs_worst.zero3 _) mb n D rfl HO.out _ _ rfl (Maps.keyOf_int_mk Try.underlying3 HKW.out) ?_; intro c hat hwc; have hcx : c = x := (by have := HX.out (.lit (.int .i64 0)); rw [hat] at this; injection this with this; injection this); subst hcx; clear hat hwc));go_ret2;exact ⟨rfl, dates_jobs_worst.known_le ⟨D, HO.out, HI.out⟩ (by omega), HB.out, HKB.out⟩
   ·replace hh := Bool.eq_false_iff.mpr hh;go_enter Try.func67, Try.ntmps67;go_wp2_with (first | (at_lookup; refine wpList_lookup_own_ok_int _ rfl _ _ 102 rfl 3 3 .i64 dates_jobs_worst.keyed3 Try.underlying102 Try.underlying3 (dates_jobs_worst.zero3 _) mb n D rfl HO.out _ _ rfl (Maps.keyOf_int_mk Try.underlying3 HKW.out) ?_; intro c hat hwc; clear hat hwc));go_loopg [12, 38] l.length (fun kq v12 v38 w' => ∃ (i : Nat) (a : Int), v12 = .int .i64 a ∧ v38 = .int .i64 (i : Int) ∧ Aside0 (i + kq = l.length) ∧ Aside0 (dates_jobs_worst.at l set l.length 0 0 = dates_jobs_worst.at l set (l.length - i) i a) ∧ Aside0 (w'.ownsMap Try.prog 3 (plainElem Try.prog 3) mb n D) ∧ Aside0 (KeepBut w w' mb none) ∧ Aside0 (Below w0.heap.size w0 w'))
    case atStart => exact ⟨0, 0, rfl, rfl, ⟨by omega⟩, ⟨rfl⟩, HO, HKB, HB⟩
    case round =>
     clear HO HKB HB hh c9b hF;obtain ⟨i, a, rfl, rfl, HK, HA, HO, HKB, HB⟩ := hrel;by_cases hlt : i < l.length
     ·have p1 : (0 : Int) ≤ (i : Int) := by omega
      have q1 : (i : Int) < (l.length : Int) := by omega
      obtain ⟨ad0, e0, hj0, hj1, hj2, hj3⟩ := at_T48 HR0.out (i : Int) p1 q1;cases e0;replace hj0 := (HB.out.cell (World.block_lt_of_cell? w0 _ hj0)).trans hj0;replace hj1 := (HB.out.cell (World.block_lt_of_cell? w0 _ hj1)).trans hj1;replace hj2 := (HB.out.cell (World.block_lt_of_cell? w0 _ hj2)).trans hj2;replace hj3 := (HB.out.cell (World.block_lt_of_cell? w0 _ hj3)).trans hj3;have HAA := Aside0.mk (dates_jobs_worst.at_one l set i a hlt);have HMG := Aside0.mk (HO.out.lt);clear p1 q1;obtain ⟨J, hJ⟩ : ∃ J, shr .i64 set (i : Int) = J := ⟨_, rfl⟩
      have hJ1 : (set / 2 ^ min i 64) = J := hJ;have HJ := Aside0.mk hJ;have hJ2 : (set / 2 ^ i) = J := by rw [← hJ1, Nat.min_eq_left (by have := H8.out; omega)]
      obtain ⟨X0, hX0⟩ : ∃ X0, (rd_T48 l (i : Int)).f0 = X0 := ⟨_, rfl⟩
      rw [hX0] at hj0;have HX0 := Aside0.mk hX0;clear hX0 hJ;simp only [Int.toNat_natCast] at hj0 hj1 hj2 hj3;go_wp2_with (first | ((with_reducible refine gate_dst (N := 14) rfl ?_); refine box_event ?hg (N := 14) ?hd (cs := #[.int .i64 0, .int .i64 0, .int .i64 0, .int .i64 0]) (t := 48) ?hr ?_; (case hd => rfl); (case hg => rfl); (case hr => first | (go_simp; done) | (go_simp; rfl)); intro gb hg w8 hbox hb; have HGM : Aside0 (mb ≠ gb) := ⟨by rw [hg]; exact Nat.ne_of_lt HMG.out⟩; have HGW : Aside0 (w.heap.size ≤ gb) := ⟨by rw [hg]; exact HKB.out.1⟩; have HG0 : Aside0 (w0.heap.size ≤ gb) := ⟨by rw [hg]; exact below_size HB.out⟩; have HO8 := Aside0.mk (dates_jobs_worst.own_below HO.out hb); have HKB8 : Aside0 (KeepBut w w8 mb none) := ⟨HKB.out.trans (KeepBut.of_below hb mb none) (.inl rfl)⟩; have HB8 := Aside0.mk (below_step HB.out hb); have BK := Aside0.mk hbox; clear hb hbox hg; have hcz0 : w8.cell? ⟨gb, 0, none⟩ = some (.int .i64 0) := (blk_cell BK.out 0).trans rfl; have hcz1 : w8.cell? ⟨gb, 1, none⟩ = some (.int .i64 0) := (blk_cell BK.out 1).trans rfl; have hcz2 : w8.cell? ⟨gb, 2, none⟩ = some (.int .i64 0) := (blk_cell BK.out 2).trans rfl; have hcz3 : w8.cell? ⟨gb, 3, none⟩ = some (.int .i64 0) := (blk_cell BK.out 3).trans rfl; have hfz0 := blk_frozen BK.out 0; have hfz1 := blk_frozen BK.out 1; have hfz2 := blk_frozen BK.out 2; have hfz3 := blk_frozen BK.out 3));go_quiet (fail);go_wp2;obtain ⟨k1, rfl⟩ : ∃ k1, gk = k1 + 1 := ⟨gk - 1, by have := HK.out; omega⟩
      go_roundg k1
      case measure => omega
      case rel => exact ⟨i + 1, _, rfl, (by congr 1; unfold wrap64; have := H8.out; omega), ⟨by have := HK.out; omega⟩, ⟨by rw [HA.out, HAA.out, HX0.out, HJ.out]⟩, ⟨dates_jobs_worst.own_drewN (dates_jobs_worst.own_set (dates_jobs_worst.own_set (dates_jobs_worst.own_set (dates_jobs_worst.own_set HO8.out HGM.out _) HGM.out _) HGM.out _) HGM.out _) _⟩, ⟨keep_drewN (keep_far (keep_far (keep_far (keep_far HKB8.out HGW.out _) HGW.out _) HGW.out _) HGW.out _) _⟩, ⟨pw_below_drewN (below_set (below_set (below_set (below_set HB8.out HG0.out) HG0.out) HG0.out) HG0.out) _⟩⟩
     ·have hi : i = l.length := by have := HK.out; omega
      have ha : dates_jobs_worst.at l set l.length 0 0 = a := by
       have h := HA.out;rw [hi, Nat.sub_self] at h;exact h
      rw [ha] at H;clear hi ha HA HK;have HM0 : Aside0 (dates_jobs_worst.Known l bs mb (n + 0 * dates_jobs_worst.T k) wr) := ⟨dates_jobs_worst.known_le ⟨D, HO.out, HI.out⟩ (by omega)⟩;go_wp2;go_loopg [15, 16, 55] l.length (fun kq v15 v16 v55 w' => ∃ (i : Nat) (b : Int) (f : Bool), v15 = .int .i64 b ∧ v16 = .bool f ∧ v55 = .int .i64 (i : Int) ∧ Aside0 (i + kq = l.length) ∧ Aside0 (dates_jobs_worst.wf b) ∧ Aside0 (dates_jobs_worst.scan (dates_jobs_worst.f k l bs) l bs set a (l.length - i) i b f = some r) ∧ Aside0 (dates_jobs_worst.Known l bs mb (n + i * dates_jobs_worst.T k) w') ∧ Aside0 (KeepBut w w' mb none) ∧ Aside0 (Below w0.heap.size w0 w'))
      case atStart => exact ⟨0, 0, false, rfl, rfl, rfl, ⟨by omega⟩, ⟨by decide⟩, H, HM0, HKB, HB⟩
      case round =>
       clear HM0 HKB HB H HO;obtain ⟨i, b, f, rfl, rfl, rfl, HK, HWB, HS, HM, HKB, HB⟩ := hrel;by_cases hlt : i < l.length
       ·have p1 : (0 : Int) ≤ (i : Int) := by omega
        have q1 : (i : Int) < (l.length : Int) := by omega
        obtain ⟨ad0, e0, hj0, hj1, hj2, hj3⟩ := at_T48 HR0.out (i : Int) p1 q1;cases e0;replace hj0 := (HB.out.cell (World.block_lt_of_cell? w0 _ hj0)).trans hj0;replace hj1 := (HB.out.cell (World.block_lt_of_cell? w0 _ hj1)).trans hj1;replace hj2 := (HB.out.cell (World.block_lt_of_cell? w0 _ hj2)).trans hj2;replace hj3 := (HB.out.cell (World.block_lt_of_cell? w0 _ hj3)).trans hj3;have HMG := Aside0.mk (dates_jobs_worst.known_lt HM.out);clear p1 q1;obtain ⟨J, hJ⟩ : ∃ J, shr .i64 set (i : Int) = J := ⟨_, rfl⟩
        have hJ1 : (set / 2 ^ min i 64) = J := hJ;have hJ2 : (set / 2 ^ i) = J := by rw [← hJ1, Nat.min_eq_left (by have := H8.out; omega)]
        obtain ⟨X0, hX0⟩ : ∃ X0, (rd_T48 l (i : Int)).f0 = X0 := ⟨_, rfl⟩
        obtain ⟨X2, hX2⟩ : ∃ X2, (rd_T48 l (i : Int)).f2 = X2 := ⟨_, rfl⟩
        obtain ⟨X1, hX1⟩ : ∃ X1, (rd_T48 l (i : Int)).f1 = X1 := ⟨_, rfl⟩
        obtain ⟨X3, hX3⟩ : ∃ X3, (rd_T48 l (i : Int)).f3 = X3 := ⟨_, rfl⟩
        rw [hX0] at hj0;rw [hX1] at hj1;rw [hX2] at hj2;rw [hX3] at hj3;have h := HS.out;rw [show l.length - i = (l.length - (i + 1)) + 1 by omega, dates_jobs_worst.scan, hX0, hX2, hJ] at h;clear hX0 hX1 hX2 hX3 hJ HS;simp only [Int.toNat_natCast] at hj0 hj1 hj2 hj3;obtain ⟨k1, rfl⟩ : ∃ k1, gk = k1 + 1 := ⟨gk - 1, by have := HK.out; omega⟩
        have HT : Aside0 (n + i * dates_jobs_worst.T k ≤ n + (i + 1) * dates_jobs_worst.T k ∧ n + i * dates_jobs_worst.T k + dates_jobs_worst.T k = n + (i + 1) * dates_jobs_worst.T k) := ⟨by rw [Nat.succ_mul]; constructor <;> omega⟩;by_cases t1 : Go.bits .and .i64 J 1 = 1
        ·rw [if_pos t1] at h;have t1b : (Go.bits .and .i64 J 1 == 1) = true := by simp [t1]
         have HS3 := Aside0.mk h;clear h t1;go_wp2_with (first | ((with_reducible refine gate_dst (N := 18) rfl ?_); refine box_event ?hg (N := 18) ?hd (cs := #[.int .i64 0, .int .i64 0, .int .i64 0, .int .i64 0]) (t := 48) ?hr ?_; (case hd => rfl); (case hg => rfl); (case hr => first | (go_simp; done) | (go_simp; rfl)); intro gb hg w8 hbox hb; have HGM : Aside0 (mb ≠ gb) := ⟨by rw [hg]; exact Nat.ne_of_lt HMG.out⟩; have HGW : Aside0 (w.heap.size ≤ gb) := ⟨by rw [hg]; exact HKB.out.1⟩; have HG0 : Aside0 (w0.heap.size ≤ gb) := ⟨by rw [hg]; exact below_size HB.out⟩; have HM8 := Aside0.mk (dates_jobs_worst.known_below HM.out hb); have HKB8 : Aside0 (KeepBut w w8 mb none) := ⟨HKB.out.trans (KeepBut.of_below hb mb none) (.inl rfl)⟩; have HB8 := Aside0.mk (below_step HB.out hb); have BK := Aside0.mk hbox; clear hb hbox hg; have hcz0 : w8.cell? ⟨gb, 0, none⟩ = some (.int .i64 0) := (blk_cell BK.out 0).trans rfl; have hcz1 : w8.cell? ⟨gb, 1, none⟩ = some (.int .i64 0) := (blk_cell BK.out 1).trans rfl; have hcz2 : w8.cell? ⟨gb, 2, none⟩ = some (.int .i64 0) := (blk_cell BK.out 2).trans rfl; have hcz3 : w8.cell? ⟨gb, 3, none⟩ = some (.int .i64 0) := (blk_cell BK.out 3).trans rfl; have hfz0 := blk_frozen BK.out 0; have hfz1 := blk_frozen BK.out 1; have hfz2 := blk_frozen BK.out 2; have hfz3 := blk_frozen BK.out 3));go_roundg k1
         case measure => omega
         case rel => exact ⟨i + 1, b, f, rfl, rfl, (by congr 1; unfold wrap64; have := H8.out; omega), ⟨by have := HK.out; omega⟩, HWB, HS3, ⟨dates_jobs_worst.known_le (dates_jobs_worst.known_set (dates_jobs_worst.known_set (dates_jobs_worst.known_set (dates_jobs_worst.known_set HM8.out HGM.out _) HGM.out _) HGM.out _) HGM.out _) HT.out.1⟩, ⟨keep_far (keep_far (keep_far (keep_far HKB8.out HGW.out _) HGW.out _) HGW.out _) HGW.out _⟩, ⟨below_set (below_set (below_set (below_set HB8.out HG0.out) HG0.out) HG0.out) HG0.out⟩⟩
        ·rw [if_neg t1] at h;have t1b : (Go.bits .and .i64 J 1 == 1) = false := by simp [t1]
         clear t1;by_cases t2 : i < bs.length
         ·rw [if_pos t2] at h;obtain ⟨ad1, e1, hx1⟩ := Kd.at_int HR1.out (i : Int) (by omega) (by omega);cases e1;have hx0 := hx1;replace hx1 := (HB.out.cell (World.block_lt_of_cell? w0 _ hx1)).trans hx1;obtain ⟨Bv, hBv⟩ : ∃ Bv, rd bs (i : Int) = Bv := ⟨_, rfl⟩
          rw [hBv] at hx1 h;simp only [Int.toNat_natCast] at hx1;clear hBv;have HX1 := Aside0.mk hx1;have HA1 : Aside0 (ad1.block < w0.heap.size) := ⟨by have := World.block_lt_of_cell? w0 _ hx0; rwa [add_block] at this⟩;clear hx1 hx0;by_cases t3 : Go.bits .andNot .i64 Bv set ≠ 0
          ·rw [if_pos t3] at h;have t3b : (Go.bits .andNot .i64 Bv set != 0) = true := by simp [t3]
           have HS3 := Aside0.mk h;clear h t3;go_wp2_with (first | ((with_reducible refine gate_dst (N := 18) rfl ?_); refine box_event ?hg (N := 18) ?hd (cs := #[.int .i64 0, .int .i64 0, .int .i64 0, .int .i64 0]) (t := 48) ?hr ?_; (case hd => rfl); (case hg => rfl); (case hr => first | (go_simp; done) | (go_simp; rfl)); intro gb hg w8 hbox hb; have HGM : Aside0 (mb ≠ gb) := ⟨by rw [hg]; exact Nat.ne_of_lt HMG.out⟩; have HGW : Aside0 (w.heap.size ≤ gb) := ⟨by rw [hg]; exact HKB.out.1⟩; have HG0 : Aside0 (w0.heap.size ≤ gb) := ⟨by rw [hg]; exact below_size HB.out⟩; have HM8 := Aside0.mk (dates_jobs_worst.known_below HM.out hb); have HKB8 : Aside0 (KeepBut w w8 mb none) := ⟨HKB.out.trans (KeepBut.of_below hb mb none) (.inl rfl)⟩; have HB8 := Aside0.mk (below_step HB.out hb); have BK := Aside0.mk hbox; have hx8 := (hb.cell (World.block_lt_of_cell? wr _ HX1.out)).trans HX1.out; have hn2 : gb ≠ (ad1.add i).block := (by rw [add_block]; have := HA1.out; have := HG0.out; omega); have hx9 : ((((w8.setCell ⟨gb, 0, none⟩ (.int .i64 X0)).setCell ⟨gb, 1, none⟩ (.int .i64 X1)).setCell ⟨gb, 2, none⟩ (.int .i64 X2)).setCell ⟨gb, 3, none⟩ (.int .i64 X3)).cell? (ad1.add i) = some (.int .i64 Bv) := (by rw [World.cell?_setCell_far _ _ _ _ hn2, World.cell?_setCell_far _ _ _ _ hn2, World.cell?_setCell_far _ _ _ _ hn2, World.cell?_setCell_far _ _ _ _ hn2]; exact hx8); clear hx8 hn2; clear hb hbox hg; have hcz0 : w8.cell? ⟨gb, 0, none⟩ = some (.int .i64 0) := (blk_cell BK.out 0).trans rfl; have hcz1 : w8.cell? ⟨gb, 1, none⟩ = some (.int .i64 0) := (blk_cell BK.out 1).trans rfl; have hcz2 : w8.cell? ⟨gb, 2, none⟩ = some (.int .i64 0) := (blk_cell BK.out 2).trans rfl; have hcz3 : w8.cell? ⟨gb, 3, none⟩ = some (.int .i64 0) := (blk_cell BK.out 3).trans rfl; have hfz0 := blk_frozen BK.out 0; have hfz1 := blk_frozen BK.out 1; have hfz2 := blk_frozen BK.out 2; have hfz3 := blk_frozen BK.out 3));go_roundg k1
           case measure => omega
           case rel => exact ⟨i + 1, b, f, rfl, rfl, (by congr 1; unfold wrap64; have := H8.out; omega), ⟨by have := HK.out; omega⟩, HWB, HS3, ⟨dates_jobs_worst.known_le (dates_jobs_worst.known_set (dates_jobs_worst.known_set (dates_jobs_worst.known_set (dates_jobs_worst.known_set HM8.out HGM.out _) HGM.out _) HGM.out _) HGM.out _) HT.out.1⟩, ⟨keep_far (keep_far (keep_far (keep_far HKB8.out HGW.out _) HGW.out _) HGW.out _) HGW.out _⟩, ⟨below_set (below_set (below_set (below_set HB8.out HG0.out) HG0.out) HG0.out) HG0.out⟩⟩
          ·rw [if_neg t3] at h;have t3b : (Go.bits .andNot .i64 Bv set != 0) = false := by simpa using t3
           clear t3;obtain ⟨rr, hrr, h⟩ := Option.bind_eq_some_iff.mp h;obtain ⟨rx, rok⟩ := rr;dsimp only at h;have HRX : Aside0 (dates_jobs_worst.wf rx) := ⟨dates_jobs_worst.f_wf l bs k _ _ hrr⟩;have HRR := Aside0.mk hrr;clear hrr;obtain ⟨Y, hY⟩ : ∃ Y, mx rx (wrap64 (wrap64 (a + X0) - X2)) = Y := ⟨_, rfl⟩
           rw [hY] at h;have HWX : Aside0 (dates_jobs_worst.wf Y) := ⟨by rw [← hY]; exact dates_jobs_worst.wf_mx HRX.out (dates_jobs_worst.wf_wrap _)⟩;have HY := Aside0.mk hY;have HS3 := Aside0.mk h;clear hY h;have hS := dates_jobs_worst.or_lt HS0.out HS1.out (i := i) (by have := H8.out; omega);obtain ⟨s2, hs2⟩ : ∃ s2, Go.bits .or .i64 set (shl .i64 1 (i : Int)) = s2 := ⟨_, rfl⟩
           rw [hs2] at hS HRR;have HSS := Aside0.mk hS;have hs3 : Go.bits .or .i64 set (wrap64 (2 ^ min i 64)) = s2 := by
            rw [← hs2];show _ = Go.bits .or .i64 set (IntKind.i64.wrap (1 * 2 ^ min ((i : Int)).toNat 64))
            rw [i64_w, Int.one_mul, Int.toNat_natCast]
           clear hS hs2;go_wp2_with (first | ((with_reducible refine gate_dst (N := 18) rfl ?_); refine box_event ?hg (N := 18) ?hd (cs := #[.int .i64 0, .int .i64 0, .int .i64 0, .int .i64 0]) (t := 48) ?hr ?_; (case hd => rfl); (case hg => rfl); (case hr => first | (go_simp; done) | (go_simp; rfl)); intro gb hg w8 hbox hb; have HGM : Aside0 (mb ≠ gb) := ⟨by rw [hg]; exact Nat.ne_of_lt HMG.out⟩; have HGW : Aside0 (w.heap.size ≤ gb) := ⟨by rw [hg]; exact HKB.out.1⟩; have HG0 : Aside0 (w0.heap.size ≤ gb) := ⟨by rw [hg]; exact below_size HB.out⟩; have HM8 := Aside0.mk (dates_jobs_worst.known_below HM.out hb); have HKB8 : Aside0 (KeepBut w w8 mb none) := ⟨HKB.out.trans (KeepBut.of_below hb mb none) (.inl rfl)⟩; have HB8 := Aside0.mk (below_step HB.out hb); have BK := Aside0.mk hbox; have hx8 := (hb.cell (World.block_lt_of_cell? wr _ HX1.out)).trans HX1.out; have hn2 : gb ≠ (ad1.add i).block := (by rw [add_block]; have := HA1.out; have := HG0.out; omega); have hx9 : ((((w8.setCell ⟨gb, 0, none⟩ (.int .i64 X0)).setCell ⟨gb, 1, none⟩ (.int .i64 X1)).setCell ⟨gb, 2, none⟩ (.int .i64 X2)).setCell ⟨gb, 3, none⟩ (.int .i64 X3)).cell? (ad1.add i) = some (.int .i64 Bv) := (by rw [World.cell?_setCell_far _ _ _ _ hn2, World.cell?_setCell_far _ _ _ _ hn2, World.cell?_setCell_far _ _ _ _ hn2, World.cell?_setCell_far _ _ _ _ hn2]; exact hx8); clear hx8 hn2; clear hb hbox hg; have hcz0 : w8.cell? ⟨gb, 0, none⟩ = some (.int .i64 0) := (blk_cell BK.out 0).trans rfl; have hcz1 : w8.cell? ⟨gb, 1, none⟩ = some (.int .i64 0) := (blk_cell BK.out 1).trans rfl; have hcz2 : w8.cell? ⟨gb, 2, none⟩ = some (.int .i64 0) := (blk_cell BK.out 2).trans rfl; have hcz3 : w8.cell? ⟨gb, 3, none⟩ = some (.int .i64 0) := (blk_cell BK.out 3).trans rfl; have hfz0 := blk_frozen BK.out 0; have hfz1 := blk_frozen BK.out 1; have hfz2 := blk_frozen BK.out 2; have hfz3 := blk_frozen BK.out 3));refine (IH.out (n + i * dates_jobs_worst.T k) s2 (rx, rok) _ HSS.out.1 HSS.out.2 (below_set (below_set (below_set (below_set HB8.out HG0.out) HG0.out) HG0.out) HG0.out) (dates_jobs_worst.known_set (dates_jobs_worst.known_set (dates_jobs_worst.known_set (dates_jobs_worst.known_set HM8.out HGM.out _) HGM.out _) HGM.out _) HGM.out _) (by rw [HT.out.2]; have h1 := HN.out; have h2 : (i + 1) * dates_jobs_worst.T k ≤ 8 * dates_jobs_worst.T k := Nat.mul_le_mul_right _ (by have := H8.out; omega); rw [dates_jobs_worst.T] at h1; omega) HRR.out).mono ?_;rintro e w9 ⟨rfl, hm9, hb9, hk9⟩;have BK9 := Aside0.mk (hk9.blk (blk_set (blk_set (blk_set (blk_set BK.out 0 (.int .i64 X0)) 1 (.int .i64 X1)) 2 (.int .i64 X2)) 3 (.int .i64 X3)) (Ne.symm HGM.out) (by simp));have HM9 : Aside0 (dates_jobs_worst.Known l bs mb (n + (i + 1) * dates_jobs_worst.T k) w9) := ⟨by rw [← HT.out.2]; exact hm9⟩;have HB9 := Aside0.mk hb9;have HKB9 : Aside0 (KeepBut w w9 mb none) := ⟨KeepBut.trans (keep_far (keep_far (keep_far (keep_far HKB8.out HGW.out _) HGW.out _) HGW.out _) HGW.out _) hk9 (.inl rfl)⟩;clear hm9 hb9 hk9 hx9 hcz0 hcz1 hcz2 hcz3 hfz0 hfz1 hfz2 hfz3;have hc0 : w9.cell? ⟨gb, 0, none⟩ = some (.int .i64 X0) := (blk_cell BK9.out 0).trans rfl;have hc2 : w9.cell? ⟨gb, 2, none⟩ = some (.int .i64 X2) := (blk_cell BK9.out 2).trans rfl;have hY1 : (if rx < wrap64 (wrap64 (a + X0) - X2) then wrap64 (wrap64 (a + X0) - X2) else rx) = Y := HY.out;cases rok with
           | false =>
            replace HS3 : Aside0 (dates_jobs_worst.scan (dates_jobs_worst.f k l bs) l bs set a (l.length - (i + 1)) (i + 1) b f = some r) := ⟨by have h := HS3.out; rw [if_neg (by simp)] at h; exact h⟩;go_wp2;go_roundg k1
            case measure => omega
            case rel => exact ⟨i + 1, b, f, rfl, rfl, (by congr 1; unfold wrap64; have := H8.out; omega), ⟨by have := HK.out; omega⟩, HWB, HS3, HM9, HKB9, HB9⟩
           | true =>
            cases f with
            | false =>
             replace HS3 : Aside0 (dates_jobs_worst.scan (dates_jobs_worst.f k l bs) l bs set a (l.length - (i + 1)) (i + 1) Y true = some r) := ⟨by have h := HS3.out; rw [if_pos rfl, if_neg (by simp)] at h; exact h⟩;go_wp2;go_roundg k1
             case measure => omega
             case rel => exact ⟨i + 1, Y, true, rfl, rfl, (by congr 1; unfold wrap64; have := H8.out; omega), ⟨by have := HK.out; omega⟩, HWX, HS3, HM9, HKB9, HB9⟩
            | true =>
             by_cases u : Y < b
             ·have u1 : decide (Y < b) = true := decide_eq_true u;have HS4 : Aside0 (dates_jobs_worst.scan (dates_jobs_worst.f k l bs) l bs set a (l.length - (i + 1)) (i + 1) Y true = some r) := ⟨by have h := HS3.out; rw [if_pos rfl, if_pos rfl, if_pos u] at h; exact h⟩;clear u;go_wp2;go_roundg k1
              case measure => omega
              case rel => exact ⟨i + 1, Y, true, rfl, rfl, (by congr 1; unfold wrap64; have := H8.out; omega), ⟨by have := HK.out; omega⟩, HWX, HS4, HM9, HKB9, HB9⟩
             ·have u1 : decide (Y < b) = false := decide_eq_false u;have HS4 : Aside0 (dates_jobs_worst.scan (dates_jobs_worst.f k l bs) l bs set a (l.length - (i + 1)) (i + 1) b true = some r) := ⟨by have h := HS3.out; rw [if_pos rfl, if_pos rfl, if_neg u] at h; exact h⟩;clear u;go_wp2;go_roundg k1
              case measure => omega
              case rel => exact ⟨i + 1, b, true, rfl, rfl, (by congr 1; unfold wrap64; have := H8.out; omega), ⟨by have := HK.out; omega⟩, HWB, HS4, HM9, HKB9, HB9⟩
         ·rw [if_neg t2] at h;exact absurd h (by simp)
       ·have hi : i = l.length := by have := HK.out; omega
        have hr : r = (b, f) := by
         have h := HS.out;rw [hi, Nat.sub_self, dates_jobs_worst.scan] at h;exact (Option.some.inj h).symm
        have HT : Aside0 (n + i * dates_jobs_worst.T k + 1 ≤ n + dates_jobs_worst.T (k + 1)) := ⟨by rw [dates_jobs_worst.T]; have : i * dates_jobs_worst.T k ≤ 8 * dates_jobs_worst.T k := Nat.mul_le_mul_right _ (by have := H8.out; omega); omega⟩;have HTM : Aside0 (n + i * dates_jobs_worst.T k < maxLen) := ⟨by have h1 := HT.out; have h2 := HN.out; unfold maxLen; omega⟩;subst hr;clear hi HS;obtain ⟨D2, hown2, hinv2⟩ := HM.out;have HO2 := Aside0.mk hown2;have HI2 := Aside0.mk hinv2;clear hown2 hinv2;cases f with
        | false =>
         go_wp2;go_ret2;exact ⟨rfl, dates_jobs_worst.known_le HM.out (by have := HT.out; omega), HB.out, HKB.out⟩
        | true =>
         go_wp2_with (first | (at_mapUpdate; refine wpList_mapUpdate_own _ rfl _ _ _ 102 rfl 3 3 dates_jobs_worst.keyed3 Try.underlying102 _ mb _ D2 rfl HO2.out HTM.out _ _ _ rfl rfl (Maps.keyOf_int_mk Try.underlying3 HKW.out) _ [] (plainElem_int Try.underlying3 HWB.out) ?_; intro w1 hown1 hgrow1; have HO3 := Aside0.mk hown1; have HB3 := Aside0.mk (HB.out.grown hgrow1 (below_size HB.out) (fun j hj => by cases hj; exact HMB.out)); have HKB3 : Aside0 (KeepBut w w1 mb none) := ⟨HKB.out.trans (dates_jobs_worst.keep_map hgrow1) (.inl rfl)⟩; clear hown1 hgrow1));go_ret2;exact ⟨rfl, dates_jobs_worst.known_le ⟨_, HO3.out, dates_jobs_worst.inv_put HI2.out HO2.out.isMap HF.out⟩ HT.out, HB3.out, HKB3.out⟩
def dates_Least.pick (l : List S48) (bs : List Int) (set at_ least : Int) : Nat → Nat → Option Nat
  | 0, _ => none
  | m + 1, i => if Go.bits .and .i64 (shr .i64 set (i : Int)) 1 = 1 then dates_Least.pick l bs set at_ least m (i + 1) else if i < bs.length then (if Go.bits .andNot .i64 (rd bs (i : Int)) set ≠ 0 then dates_Least.pick l bs set at_ least m (i + 1) else if wrap64 (wrap64 (at_ + (rd_T48 l (i : Int)).f0) - (rd_T48 l (i : Int)).f2) > least then dates_Least.pick l bs set at_ least m (i + 1) else (dates_jobs_worst.f 9 l bs (Go.bits .or .i64 set (shl .i64 1 (i : Int)))).bind fun rr => if rr.2 = true then (if rr.1 ≤ least then some i else dates_Least.pick l bs set at_ least m (i + 1)) else dates_Least.pick l bs set at_ least m (i + 1)) else none
def dates_Least.go (l : List S48) (bs : List Int) (least : Int) : Nat → List Int → Int → Int → Option (List Int)
  | 0, out, _, _ => some out
  | m + 1, out, set, at_ => (dates_Least.pick l bs set at_ least l.length 0).bind fun i => dates_Least.go l bs least m (out ++ [(i : Int)]) (Go.bits .or .i64 set (shl .i64 1 (i : Int))) (wrap64 (at_ + (rd_T48 l (i : Int)).f0))
def dates_Least.f (k : Nat) (l : List S48) (ps : List S64) : Option (List Int × Int × Int) := (dates_jobs_valid.f k l).bind fun v => if v = true then (dates_jobs_befores.f k l ps).bind fun bb => if bb.2 = true then (if l.length ≤ 8 then (dates_jobs_worst.f 9 l bb.1 0).bind fun rr => if rr.2 = true then (dates_Least.go l bb.1 rr.1 l.length [] 0 0).bind fun o => some (o, rr.1, 0) else some ([], 0, 6) else none) else some ([], 0, 2) else some ([], 0, 2)
theorem dates_Least.mono : ∀ a0 a1 k, LeO (dates_Least.f k a0 a1) (dates_Least.f (k + 1) a0 a1) := by
 intro a0 a1 k;unfold dates_Least.f;exact LeO.bind (dates_jobs_valid.mono _ _) (fun v => LeO.ite (LeO.bind (dates_jobs_befores.mono _ _ _) (fun bb => LeO.ite (LeO.refl _) (LeO.refl _))) (LeO.refl _))
theorem dates_Least.cnt1 {n k c x m : Nat} (h : n + (k + 1) * c + x ≤ m) : n + k * c + x ≤ m := by
 rw [Nat.succ_mul] at h;omega
theorem dates_Least.cnt2 {n k c x m t : Nat} (h : n + (k + 1) * c + x ≤ m) (e : t = c) : n + t + k * c + x ≤ m := by
 rw [Nat.succ_mul] at h;omega
theorem dates_Least.cnt3 {n k c x m t : Nat} (h : n + (k + 1) * c + x ≤ m) (e : t = c) : n + t + x ≤ m := by
 rw [Nat.succ_mul] at h;omega
theorem dates_Least.T9 : dates_jobs_worst.T 9 = 19173961 := by decide +kernel
theorem dates_Least.known_grown {l : List S48} {bs : List Int} {w w1 : World} {b n : Nat} {row : Option Nat} (h : dates_jobs_worst.Known l bs b n w) (hg : w.grownBy w1 row) (hne : some b ≠ row) : dates_jobs_worst.Known l bs b n w1 := by
 obtain ⟨D, h1, h2⟩ := h;exact ⟨D, h1.kept hg hne, h2⟩
set_option maxHeartbeats 8000000 in
set_option maxRecDepth 100000 in
theorem dates_Least.calls (k : Nat) (A0 : Option Addr) (c0 : Nat) (l : List (S48)) (A1 : Option Addr) (c1 : Nat) (l1 : List (S64)) (r1 : List Int) (r2 : Int) (r3 : Int) (w : World) (hr0 : Kd.C k48 w A0 l.length l) (hc0 : l.length ≤ c0) (hr1 : Kd.C k64 w A1 l1.length l1) (hc1 : l1.length ≤ c1) (h : dates_Least.f k l l1 = some (r1, r2, r3)) :
    Calls Try.prog 40 #[.slice A0 l.length c0, .slice A1 l1.length c1] w fun e w' => ∃ v0_ : Value, e = .returned (.tuple #[v0_, .int .i64 r2, .int .i64 r3]) ∧ Kd.R (Kd.int .i64) 3 w' w.heap.size (fun _ => True) v0_ r1 ∧ Below w.heap.size w w' := by
 have HR0 := Aside0.mk hr0;have HC0 := Aside0.mk hc0;have HR1 := Aside0.mk hr1;have HC1 := Aside0.mk hc1;have HB := Aside0.mk (Below.refl w.heap.size w);clear hr0 hc0 hr1 hc1;unfold dates_Least.f at h;obtain ⟨v, hv, h⟩ := Option.bind_eq_some_iff.mp h;have HV := Aside0.mk hv;clear hv;by_cases b1 : v = true
 ·rw [if_pos b1] at h;subst b1;obtain ⟨⟨bs, bok⟩, hbb, h⟩ := Option.bind_eq_some_iff.mp h;have HBB := Aside0.mk hbb;dsimp only at h;clear hbb;by_cases b2 : bok = true
  ·rw [if_pos b2] at h;subst b2;by_cases b3 : l.length ≤ 8
   ·rw [if_pos b3] at h;have H8 := Aside0.mk b3;clear b3;obtain ⟨⟨least, lok⟩, hw, h⟩ := Option.bind_eq_some_iff.mp h;have HW := Aside0.mk hw;dsimp only at h;have HH := Aside0.mk h;clear hw h;have hmm := @run_makeMap Try.prog;go_enter Try.func40, Try.ntmps40;go_wp2_with fail;refine (dates_jobs_valid.calls k A0 c0 l true _ (Kd.C_below HR0.out HB.out) HC0.out HV.out).mono ?_;rintro e w1 ⟨rfl, hb⟩;replace HB := Aside0.mk (below_step HB.out hb);clear hb;go_wp2_with fail;refine (dates_jobs_befores.calls k A0 c0 l A1 c1 l1 bs true _ (Kd.C_below HR0.out HB.out) HC0.out (Kd.C_below HR1.out HB.out) HC1.out HBB.out).mono ?_;rintro e w2 ⟨v, rfl, ho, hb⟩;have HBS := Aside0.mk ho;replace HB := Aside0.mk (below_step HB.out hb);clear hb ho;obtain ⟨AB, cB, rfl⟩ := Kd.R_slice HBS.out;have HRB : Aside0 (Kd.C (Kd.int .i64) w2 AB bs.length bs) := ⟨(Kd.R_reads' HBS.out).2.2⟩;have HRJ : Aside0 (Kd.C k48 w2 A0 l.length l) := ⟨Kd.C_below HR0.out HB.out⟩;clear HBS;go_wp2_with fail;refine (dates_jobs_worst.calls l bs A0 AB c0 cB w2.heap.size w2 HRJ.out HRB.out (Nat.le_refl _) H8.out 9 0 0 (least, lok) _ (by omega) (by omega) ((Below.refl _ _).alloc (Nat.le_refl _) _) ⟨.map [], World.ownsMap_made _ _ _ _, dates_jobs_worst.inv_empty l bs⟩ (by rw [dates_Least.T9]; omega) HW.out).mono ?_;rintro e w3 ⟨rfl, hm, hb, _⟩;have HM := Aside0.mk hm;have HB2 := Aside0.mk hb;clear hm hb;by_cases b4 : lok = true
    ·subst b4;have hh := HH.out;rw [if_pos rfl] at hh;obtain ⟨o, hgo, hh⟩ := Option.bind_eq_some_iff.mp hh;simp only [Option.some.injEq, Prod.mk.injEq] at hh;obtain ⟨rfl, rfl, rfl⟩ := hh;have HGO := Aside0.mk hgo;clear hgo HH HW;have HT : Aside0 (dates_jobs_worst.T 9 = 19173961) := ⟨dates_Least.T9⟩;go_wp2;go_loopg [12, 13, 14] l.length (fun kq v12 v13 v14 w' => ∃ (out : List Int) (set a : Int) (n : Nat), v13 = .int .i64 set ∧ v14 = .int .i64 a ∧ Aside0 (out.length + kq = l.length) ∧ Aside0 (0 ≤ set ∧ set < 256) ∧ Aside0 (dates_Least.go l bs least kq out set a = some o) ∧ Aside0 (n + kq * 200000000 ≤ 2000000000) ∧ Aside0 (dates_jobs_worst.Known l bs w2.heap.size n w') ∧ Aside0 (Kd.R (Kd.int .i64) 3 w' w2.heap.size (fun k => k ≠ w2.heap.size) v12 out) ∧ Aside0 (Below w2.heap.size w2 w'))
     case atStart => exact ⟨[], 0, 0, _, rfl, rfl, ⟨by simp⟩, ⟨by omega⟩, HGO, ⟨by have := HT.out; have := H8.out; omega⟩, HM, ⟨Kd.R_nil _ _ _ _ _⟩, HB2⟩
     case round =>
      clear HM HB2 HGO;obtain ⟨out, set, a, n, rfl, rfl, HK, HS, HGO, HN, HM, HR, HB2⟩ := hrel;obtain ⟨A12, c12, hA12⟩ := Kd.R_slice HR.out;subst hA12;by_cases hlt : out.length < l.length
      ·have d1 : decide ((out.length : Int) < (l.length : Int)) = true := decide_eq_true (by omega);have d2 : decide (out.length < l.length) = true := decide_eq_true hlt;obtain ⟨ko, rfl⟩ : ∃ ko, gk = ko + 1 := ⟨gk - 1, by have := HK.out; omega⟩
       have h := HGO.out;rw [dates_Least.go] at h;obtain ⟨ix, hpick, h⟩ := Option.bind_eq_some_iff.mp h;have HP := Aside0.mk hpick;have HG2 := Aside0.mk h;have HL := Aside0.mk hlt;clear hpick h HGO hlt;go_wp2;go_loopg [12, 13, 14, 48] l.length (fun kq x12 x13 x14 v48 w' => ∃ (i n : Nat), x12 = .slice A12 out.length c12 ∧ x13 = .int .i64 set ∧ x14 = .int .i64 a ∧ v48 = .int .i64 (i : Int) ∧ Aside0 (i + kq = l.length) ∧ Aside0 (dates_Least.pick l bs set a least (l.length - i) i = some ix) ∧ Aside0 (n + kq * 19173961 + ko * 200000000 ≤ 2000000000) ∧ Aside0 (dates_jobs_worst.Known l bs w2.heap.size n w') ∧ Aside0 (Kd.R (Kd.int .i64) 3 w' w2.heap.size (fun k => k ≠ w2.heap.size) (.slice A12 out.length c12) out) ∧ Aside0 (Below w2.heap.size w2 w'))
       case atStart => exact ⟨0, n, rfl, rfl, rfl, rfl, ⟨by omega⟩, HP, ⟨by have := HN.out; have := H8.out; omega⟩, HM, HR, HB2⟩
       case round =>
        clear HM HR HB2 HP HN;obtain ⟨i, n, rfl, rfl, rfl, rfl, HK2, HP, HN, HM, HR, HB2⟩ := hrel;by_cases hlt : i < l.length
        ·have p1 : (0 : Int) ≤ (i : Int) := by omega
         have q1 : (i : Int) < (l.length : Int) := by omega
         obtain ⟨ad0, e0, hj0, hj1, hj2, hj3⟩ := at_T48 HRJ.out (i : Int) p1 q1;cases e0;replace hj0 := (HB2.out.cell (World.block_lt_of_cell? w2 _ hj0)).trans hj0;replace hj1 := (HB2.out.cell (World.block_lt_of_cell? w2 _ hj1)).trans hj1;replace hj2 := (HB2.out.cell (World.block_lt_of_cell? w2 _ hj2)).trans hj2;replace hj3 := (HB2.out.cell (World.block_lt_of_cell? w2 _ hj3)).trans hj3;have HMG := Aside0.mk (dates_jobs_worst.known_lt HM.out);clear p1 q1;obtain ⟨J, hJ⟩ : ∃ J, shr .i64 set (i : Int) = J := ⟨_, rfl⟩
         have hJ1 : (set / 2 ^ min i 64) = J := hJ;have hJ2 : (set / 2 ^ i) = J := by rw [← hJ1, Nat.min_eq_left (by have := H8.out; omega)]
         obtain ⟨X0, hX0⟩ : ∃ X0, (rd_T48 l (i : Int)).f0 = X0 := ⟨_, rfl⟩
         obtain ⟨X2, hX2⟩ : ∃ X2, (rd_T48 l (i : Int)).f2 = X2 := ⟨_, rfl⟩
         obtain ⟨X1, hX1⟩ : ∃ X1, (rd_T48 l (i : Int)).f1 = X1 := ⟨_, rfl⟩
         obtain ⟨X3, hX3⟩ : ∃ X3, (rd_T48 l (i : Int)).f3 = X3 := ⟨_, rfl⟩
         rw [hX0] at hj0;rw [hX1] at hj1;rw [hX2] at hj2;rw [hX3] at hj3;have h := HP.out;have HX0 := Aside0.mk hX0;rw [show l.length - i = (l.length - (i + 1)) + 1 by omega, dates_Least.pick, hX0, hX2, hJ] at h;clear hX0 hX1 hX2 hX3 hJ HP;simp only [Int.toNat_natCast] at hj0 hj1 hj2 hj3;obtain ⟨k2, rfl⟩ : ∃ k2, gk = k2 + 1 := ⟨gk - 1, by have := HK2.out; omega⟩
         have HN3 : Aside0 (n + k2 * 19173961 + ko * 200000000 ≤ 2000000000) := ⟨dates_Least.cnt1 HN.out⟩;have HN4 : Aside0 (n + dates_jobs_worst.T 9 + k2 * 19173961 + ko * 200000000 ≤ 2000000000) := ⟨dates_Least.cnt2 HN.out HT.out⟩;have HN5 : Aside0 (n + dates_jobs_worst.T 9 + ko * 200000000 ≤ 2000000000) := ⟨dates_Least.cnt3 HN.out HT.out⟩;by_cases t1 : Go.bits .and .i64 J 1 = 1
         ·rw [if_pos t1] at h;have t1b : (Go.bits .and .i64 J 1 == 1) = true := by simp [t1]
          have HP3 := Aside0.mk h;clear h t1;go_wp2_with (first | ((with_reducible refine gate_dst (N := 16) rfl ?_); refine box_event ?hg (N := 16) ?hd (cs := #[.int .i64 0, .int .i64 0, .int .i64 0, .int .i64 0]) (t := 48) ?hr ?_; (case hd => rfl); (case hg => rfl); (case hr => first | (go_simp; done) | (go_simp; rfl)); intro gb hg w8 hbox hb; have HGM : Aside0 (w2.heap.size ≠ gb) := ⟨by rw [hg]; exact Nat.ne_of_lt HMG.out⟩; have HG0 : Aside0 (w2.heap.size ≤ gb) := ⟨by rw [hg]; exact below_size HB2.out⟩; have HM8 := Aside0.mk (dates_jobs_worst.known_below HM.out hb); have HR8 := Aside0.mk (Kd.R_below (Kd.R_mono (ok' := fun k => k ≠ w2.heap.size ∧ k ≠ gb) (Kd.R_bound HR.out) (fun k hk => ⟨hk.1, by rw [hg]; exact Nat.ne_of_lt hk.2.2.1⟩)) hb); have HB8 := Aside0.mk (below_step HB2.out hb); have BK := Aside0.mk hbox; clear hb hbox hg; have hcz0 : w8.cell? ⟨gb, 0, none⟩ = some (.int .i64 0) := (blk_cell BK.out 0).trans rfl; have hcz1 : w8.cell? ⟨gb, 1, none⟩ = some (.int .i64 0) := (blk_cell BK.out 1).trans rfl; have hcz2 : w8.cell? ⟨gb, 2, none⟩ = some (.int .i64 0) := (blk_cell BK.out 2).trans rfl; have hcz3 : w8.cell? ⟨gb, 3, none⟩ = some (.int .i64 0) := (blk_cell BK.out 3).trans rfl; have hfz0 := blk_frozen BK.out 0; have hfz1 := blk_frozen BK.out 1; have hfz2 := blk_frozen BK.out 2; have hfz3 := blk_frozen BK.out 3));go_roundg k2
          case measure => omega
          case rel => exact ⟨i + 1, n, rfl, rfl, rfl, (by congr 1; unfold wrap64; have := H8.out; omega), ⟨by have := HK2.out; omega⟩, HP3, HN3, ⟨dates_jobs_worst.known_set (dates_jobs_worst.known_set (dates_jobs_worst.known_set (dates_jobs_worst.known_set HM8.out HGM.out _) HGM.out _) HGM.out _) HGM.out _⟩, ⟨Kd.R_mono (Kd.R_far (Kd.R_far (Kd.R_far (Kd.R_far HR8.out (p := ⟨gb, 0, none⟩) (fun _ hk => hk.2) _) (p := ⟨gb, 1, none⟩) (fun _ hk => hk.2) _) (p := ⟨gb, 2, none⟩) (fun _ hk => hk.2) _) (p := ⟨gb, 3, none⟩) (fun _ hk => hk.2) _) (fun _ hk => hk.1)⟩, ⟨below_set (below_set (below_set (below_set HB8.out HG0.out) HG0.out) HG0.out) HG0.out⟩⟩
         ·rw [if_neg t1] at h;have t1b : (Go.bits .and .i64 J 1 == 1) = false := by simp [t1]
          clear t1;by_cases t2 : i < bs.length
          ·rw [if_pos t2] at h;obtain ⟨ad1, e1, hx1⟩ := Kd.at_int HRB.out (i : Int) (by omega) (by omega);cases e1;have hx0 := hx1;replace hx1 := (HB2.out.cell (World.block_lt_of_cell? w2 _ hx1)).trans hx1;obtain ⟨Bv, hBv⟩ : ∃ Bv, rd bs (i : Int) = Bv := ⟨_, rfl⟩
           rw [hBv] at hx1 h;simp only [Int.toNat_natCast] at hx1;clear hBv;have HX1 := Aside0.mk hx1;have HA1 : Aside0 (ad1.block < w2.heap.size) := ⟨by have := World.block_lt_of_cell? w2 _ hx0; rwa [add_block] at this⟩;clear hx1 hx0;by_cases t3 : Go.bits .andNot .i64 Bv set ≠ 0
           ·rw [if_pos t3] at h;have t3b : (Go.bits .andNot .i64 Bv set != 0) = true := by simp [t3]
            have HP3 := Aside0.mk h;clear h t3;go_wp2_with (first | ((with_reducible refine gate_dst (N := 16) rfl ?_); refine box_event ?hg (N := 16) ?hd (cs := #[.int .i64 0, .int .i64 0, .int .i64 0, .int .i64 0]) (t := 48) ?hr ?_; (case hd => rfl); (case hg => rfl); (case hr => first | (go_simp; done) | (go_simp; rfl)); intro gb hg w8 hbox hb; have HGM : Aside0 (w2.heap.size ≠ gb) := ⟨by rw [hg]; exact Nat.ne_of_lt HMG.out⟩; have HG0 : Aside0 (w2.heap.size ≤ gb) := ⟨by rw [hg]; exact below_size HB2.out⟩; have HM8 := Aside0.mk (dates_jobs_worst.known_below HM.out hb); have HR8 := Aside0.mk (Kd.R_below (Kd.R_mono (ok' := fun k => k ≠ w2.heap.size ∧ k ≠ gb) (Kd.R_bound HR.out) (fun k hk => ⟨hk.1, by rw [hg]; exact Nat.ne_of_lt hk.2.2.1⟩)) hb); have HB8 := Aside0.mk (below_step HB2.out hb); have BK := Aside0.mk hbox; have hx8 := (hb.cell (World.block_lt_of_cell? wr _ HX1.out)).trans HX1.out; have hn2 : gb ≠ (ad1.add i).block := (by rw [add_block]; have := HA1.out; have := HG0.out; omega); have hx9 : ((((w8.setCell ⟨gb, 0, none⟩ (.int .i64 X0)).setCell ⟨gb, 1, none⟩ (.int .i64 X1)).setCell ⟨gb, 2, none⟩ (.int .i64 X2)).setCell ⟨gb, 3, none⟩ (.int .i64 X3)).cell? (ad1.add i) = some (.int .i64 Bv) := (by rw [World.cell?_setCell_far _ _ _ _ hn2, World.cell?_setCell_far _ _ _ _ hn2, World.cell?_setCell_far _ _ _ _ hn2, World.cell?_setCell_far _ _ _ _ hn2]; exact hx8); clear hx8 hn2; clear hb hbox hg; have hcz0 : w8.cell? ⟨gb, 0, none⟩ = some (.int .i64 0) := (blk_cell BK.out 0).trans rfl; have hcz1 : w8.cell? ⟨gb, 1, none⟩ = some (.int .i64 0) := (blk_cell BK.out 1).trans rfl; have hcz2 : w8.cell? ⟨gb, 2, none⟩ = some (.int .i64 0) := (blk_cell BK.out 2).trans rfl; have hcz3 : w8.cell? ⟨gb, 3, none⟩ = some (.int .i64 0) := (blk_cell BK.out 3).trans rfl; have hfz0 := blk_frozen BK.out 0; have hfz1 := blk_frozen BK.out 1; have hfz2 := blk_frozen BK.out 2; have hfz3 := blk_frozen BK.out 3));go_roundg k2
            case measure => omega
            case rel => exact ⟨i + 1, n, rfl, rfl, rfl, (by congr 1; unfold wrap64; have := H8.out; omega), ⟨by have := HK2.out; omega⟩, HP3, HN3, ⟨dates_jobs_worst.known_set (dates_jobs_worst.known_set (dates_jobs_worst.known_set (dates_jobs_worst.known_set HM8.out HGM.out _) HGM.out _) HGM.out _) HGM.out _⟩, ⟨Kd.R_mono (Kd.R_far (Kd.R_far (Kd.R_far (Kd.R_far HR8.out (p := ⟨gb, 0, none⟩) (fun _ hk => hk.2) _) (p := ⟨gb, 1, none⟩) (fun _ hk => hk.2) _) (p := ⟨gb, 2, none⟩) (fun _ hk => hk.2) _) (p := ⟨gb, 3, none⟩) (fun _ hk => hk.2) _) (fun _ hk => hk.1)⟩, ⟨below_set (below_set (below_set (below_set HB8.out HG0.out) HG0.out) HG0.out) HG0.out⟩⟩
           ·rw [if_neg t3] at h;have t3b : (Go.bits .andNot .i64 Bv set != 0) = false := by simpa using t3
            clear t3;by_cases t4 : wrap64 (wrap64 (a + X0) - X2) > least
            ·rw [if_pos t4] at h;have t4b : decide (least < wrap64 (wrap64 (a + X0) - X2)) = true := decide_eq_true t4;have HP3 := Aside0.mk h;clear h t4;go_wp2_with (first | ((with_reducible refine gate_dst (N := 16) rfl ?_); refine box_event ?hg (N := 16) ?hd (cs := #[.int .i64 0, .int .i64 0, .int .i64 0, .int .i64 0]) (t := 48) ?hr ?_; (case hd => rfl); (case hg => rfl); (case hr => first | (go_simp; done) | (go_simp; rfl)); intro gb hg w8 hbox hb; have HGM : Aside0 (w2.heap.size ≠ gb) := ⟨by rw [hg]; exact Nat.ne_of_lt HMG.out⟩; have HG0 : Aside0 (w2.heap.size ≤ gb) := ⟨by rw [hg]; exact below_size HB2.out⟩; have HM8 := Aside0.mk (dates_jobs_worst.known_below HM.out hb); have HR8 := Aside0.mk (Kd.R_below (Kd.R_mono (ok' := fun k => k ≠ w2.heap.size ∧ k ≠ gb) (Kd.R_bound HR.out) (fun k hk => ⟨hk.1, by rw [hg]; exact Nat.ne_of_lt hk.2.2.1⟩)) hb); have HB8 := Aside0.mk (below_step HB2.out hb); have BK := Aside0.mk hbox; have hx8 := (hb.cell (World.block_lt_of_cell? wr _ HX1.out)).trans HX1.out; have hn2 : gb ≠ (ad1.add i).block := (by rw [add_block]; have := HA1.out; have := HG0.out; omega); have hx9 : ((((w8.setCell ⟨gb, 0, none⟩ (.int .i64 X0)).setCell ⟨gb, 1, none⟩ (.int .i64 X1)).setCell ⟨gb, 2, none⟩ (.int .i64 X2)).setCell ⟨gb, 3, none⟩ (.int .i64 X3)).cell? (ad1.add i) = some (.int .i64 Bv) := (by rw [World.cell?_setCell_far _ _ _ _ hn2, World.cell?_setCell_far _ _ _ _ hn2, World.cell?_setCell_far _ _ _ _ hn2, World.cell?_setCell_far _ _ _ _ hn2]; exact hx8); clear hx8 hn2; clear hb hbox hg; have hcz0 : w8.cell? ⟨gb, 0, none⟩ = some (.int .i64 0) := (blk_cell BK.out 0).trans rfl; have hcz1 : w8.cell? ⟨gb, 1, none⟩ = some (.int .i64 0) := (blk_cell BK.out 1).trans rfl; have hcz2 : w8.cell? ⟨gb, 2, none⟩ = some (.int .i64 0) := (blk_cell BK.out 2).trans rfl; have hcz3 : w8.cell? ⟨gb, 3, none⟩ = some (.int .i64 0) := (blk_cell BK.out 3).trans rfl; have hfz0 := blk_frozen BK.out 0; have hfz1 := blk_frozen BK.out 1; have hfz2 := blk_frozen BK.out 2; have hfz3 := blk_frozen BK.out 3));go_roundg k2
             case measure => omega
             case rel => exact ⟨i + 1, n, rfl, rfl, rfl, (by congr 1; unfold wrap64; have := H8.out; omega), ⟨by have := HK2.out; omega⟩, HP3, HN3, ⟨dates_jobs_worst.known_set (dates_jobs_worst.known_set (dates_jobs_worst.known_set (dates_jobs_worst.known_set HM8.out HGM.out _) HGM.out _) HGM.out _) HGM.out _⟩, ⟨Kd.R_mono (Kd.R_far (Kd.R_far (Kd.R_far (Kd.R_far HR8.out (p := ⟨gb, 0, none⟩) (fun _ hk => hk.2) _) (p := ⟨gb, 1, none⟩) (fun _ hk => hk.2) _) (p := ⟨gb, 2, none⟩) (fun _ hk => hk.2) _) (p := ⟨gb, 3, none⟩) (fun _ hk => hk.2) _) (fun _ hk => hk.1)⟩, ⟨below_set (below_set (below_set (below_set HB8.out HG0.out) HG0.out) HG0.out) HG0.out⟩⟩
            ·rw [if_neg t4] at h;have t4b : decide (least < wrap64 (wrap64 (a + X0) - X2)) = false := decide_eq_false t4;clear t4;obtain ⟨⟨rx, rok⟩, hrr, h⟩ := Option.bind_eq_some_iff.mp h;dsimp only at h;have HRR := Aside0.mk hrr;have HP3 := Aside0.mk h;clear hrr h;have hS := dates_jobs_worst.or_lt HS.out.1 HS.out.2 (i := i) (by have := H8.out; omega);obtain ⟨s2, hs2⟩ : ∃ s2, Go.bits .or .i64 set (shl .i64 1 (i : Int)) = s2 := ⟨_, rfl⟩
             rw [hs2] at hS HRR;have HSS := Aside0.mk hS;have HS2 := Aside0.mk hs2;have hs3 : Go.bits .or .i64 set (wrap64 (2 ^ min i 64)) = s2 := by
              rw [← hs2];show _ = Go.bits .or .i64 set (IntKind.i64.wrap (1 * 2 ^ min ((i : Int)).toNat 64))
              rw [i64_w, Int.one_mul, Int.toNat_natCast]
             clear hS hs2;go_wp2_with (first | ((with_reducible refine gate_dst (N := 16) rfl ?_); refine box_event ?hg (N := 16) ?hd (cs := #[.int .i64 0, .int .i64 0, .int .i64 0, .int .i64 0]) (t := 48) ?hr ?_; (case hd => rfl); (case hg => rfl); (case hr => first | (go_simp; done) | (go_simp; rfl)); intro gb hg w8 hbox hb; have HGM : Aside0 (w2.heap.size ≠ gb) := ⟨by rw [hg]; exact Nat.ne_of_lt HMG.out⟩; have HG0 : Aside0 (w2.heap.size ≤ gb) := ⟨by rw [hg]; exact below_size HB2.out⟩; have HM8 := Aside0.mk (dates_jobs_worst.known_below HM.out hb); have HR8 := Aside0.mk (Kd.R_below (Kd.R_mono (ok' := fun k => k ≠ w2.heap.size ∧ k ≠ gb) (Kd.R_bound HR.out) (fun k hk => ⟨hk.1, by rw [hg]; exact Nat.ne_of_lt hk.2.2.1⟩)) hb); have HB8 := Aside0.mk (below_step HB2.out hb); have BK := Aside0.mk hbox; have hx8 := (hb.cell (World.block_lt_of_cell? wr _ HX1.out)).trans HX1.out; have hn2 : gb ≠ (ad1.add i).block := (by rw [add_block]; have := HA1.out; have := HG0.out; omega); have hx9 : ((((w8.setCell ⟨gb, 0, none⟩ (.int .i64 X0)).setCell ⟨gb, 1, none⟩ (.int .i64 X1)).setCell ⟨gb, 2, none⟩ (.int .i64 X2)).setCell ⟨gb, 3, none⟩ (.int .i64 X3)).cell? (ad1.add i) = some (.int .i64 Bv) := (by rw [World.cell?_setCell_far _ _ _ _ hn2, World.cell?_setCell_far _ _ _ _ hn2, World.cell?_setCell_far _ _ _ _ hn2, World.cell?_setCell_far _ _ _ _ hn2]; exact hx8); clear hx8 hn2; clear hb hbox hg; have hcz0 : w8.cell? ⟨gb, 0, none⟩ = some (.int .i64 0) := (blk_cell BK.out 0).trans rfl; have hcz1 : w8.cell? ⟨gb, 1, none⟩ = some (.int .i64 0) := (blk_cell BK.out 1).trans rfl; have hcz2 : w8.cell? ⟨gb, 2, none⟩ = some (.int .i64 0) := (blk_cell BK.out 2).trans rfl; have hcz3 : w8.cell? ⟨gb, 3, none⟩ = some (.int .i64 0) := (blk_cell BK.out 3).trans rfl; have hfz0 := blk_frozen BK.out 0; have hfz1 := blk_frozen BK.out 1; have hfz2 := blk_frozen BK.out 2; have hfz3 := blk_frozen BK.out 3));refine (dates_jobs_worst.calls l bs _ _ c0 cB w2.heap.size w2 HRJ.out HRB.out (Nat.le_refl _) H8.out 9 n s2 (rx, rok) _ HSS.out.1 HSS.out.2 (below_set (below_set (below_set (below_set HB8.out HG0.out) HG0.out) HG0.out) HG0.out) (dates_jobs_worst.known_set (dates_jobs_worst.known_set (dates_jobs_worst.known_set (dates_jobs_worst.known_set HM8.out HGM.out _) HGM.out _) HGM.out _) HGM.out _) (by rw [HT.out]; have := HN.out; omega) HRR.out).mono ?_;rintro e w9 ⟨rfl, hm9, hb9, hk9⟩;have BK9 := Aside0.mk (hk9.blk (blk_set (blk_set (blk_set (blk_set BK.out 0 (.int .i64 X0)) 1 (.int .i64 X1)) 2 (.int .i64 X2)) 3 (.int .i64 X3)) (Ne.symm HGM.out) (by simp));have HM9 := Aside0.mk hm9;have HB9 := Aside0.mk hb9;have HR9 := Aside0.mk (Kd.R_keep (Kd.R_far (Kd.R_far (Kd.R_far (Kd.R_far HR8.out (p := ⟨gb, 0, none⟩) (fun _ hk => hk.2) _) (p := ⟨gb, 1, none⟩) (fun _ hk => hk.2) _) (p := ⟨gb, 2, none⟩) (fun _ hk => hk.2) _) (p := ⟨gb, 3, none⟩) (fun _ hk => hk.2) _) hk9 (fun _ hk => hk.1));clear hm9 hb9 hk9 hx9 hcz0 hcz1 hcz2 hcz3 hfz0 hfz1 hfz2 hfz3;have hc0 : w9.cell? ⟨gb, 0, none⟩ = some (.int .i64 X0) := (blk_cell BK9.out 0).trans rfl;cases rok with
             | false =>
              replace HP3 : Aside0 (dates_Least.pick l bs set a least (l.length - (i + 1)) (i + 1) = some ix) := ⟨by have h := HP3.out; rw [if_neg (by simp)] at h; exact h⟩;go_wp2;go_roundg k2
              case measure => omega
              case rel => exact ⟨i + 1, (n + dates_jobs_worst.T 9), rfl, rfl, rfl, (by congr 1; unfold wrap64; have := H8.out; omega), ⟨by have := HK2.out; omega⟩, HP3, HN4, HM9, ⟨Kd.R_mono HR9.out (fun _ hk => hk.1)⟩, HB9⟩
             | true =>
              by_cases u : rx ≤ least
              ·have u1 : decide (rx ≤ least) = true := decide_eq_true u;have hix : i = ix := by
                have h := HP3.out;rw [if_pos rfl, if_pos u] at h;exact Option.some.inj h
               subst hix;clear u HP3;have HG3 : Aside0 (dates_Least.go l bs least ko (out ++ [(i : Int)]) s2 (wrap64 (a + X0)) = some o) := ⟨by have h := HG2.out; rw [HS2.out, HX0.out] at h; exact h⟩;have HLL : Aside0 ((out.length + 1) * 8 ≤ 140737488355328) := ⟨by have := HL.out; have := H8.out; omega⟩;go_wp2_with (first | ((with_reducible refine gate_builtin (b := .append) (xs := #[.tmp 95, .tmp 97]) rfl ?_); at_builtin; refine Kd.R_append (Kd.int .i64) (w0 := w2) w2.heap.size rfl (.tmp 95) (.tmp 97) 41 3 (.int .i64 0) 8 rfl Try.underlying41 info3 rfl (by decide) (by omega) (.slice A12 out.length c12) out (i : Int) [.int .i64 (i : Int)] (fun k => k ≠ w2.heap.size ∧ k ≠ gb) (fun _ => False) rfl (by first | (go_simp; done) | (go_simp; rfl)) ?aP (fun _ hk => hk.elim) ?aF ?aO ?aB ?aS ?aL ?_; (case aP => exact rfl); (case aB => exact HB9.out); (case aF => exact (fun j hj => ⟨by have := dates_jobs_worst.known_lt HM9.out; omega, by have := blk_lt BK9.out; omega⟩)); (case aO => exact HR9.out); (case aS => exact (below_size HB9.out)); (case aL => exact HLL.out); intro v98 w10 ho hb hg hat; have HR10 := Aside0.mk ho; have HB10 := Aside0.mk hb; have HM10 : Aside0 (dates_jobs_worst.Known l bs w2.heap.size (n + dates_jobs_worst.T 9) w10) := ⟨dates_Least.known_grown HM9.out hg (fun e => (HR9.out.1 _ e.symm).1 rfl)⟩; have BK10 := Aside0.mk (blk_grown BK9.out hg (fun e => (HR9.out.1 _ e.symm).2 rfl)); clear ho hb hg hat hc0; have hc0 : w10.cell? ⟨gb, 0, none⟩ = some (.int .i64 X0) := (blk_cell BK10.out 0).trans rfl));go_roundg ko
               case measure => omega
               case rel => exact ⟨out ++ [(i : Int)], s2, wrap64 (a + X0), _, rfl, rfl, ⟨by rw [List.length_append, List.length_singleton]; have := HK.out; omega⟩, HSS, HG3, HN5, HM10, ⟨Kd.R_mono HR10.out (fun _ hk => hk.1)⟩, HB10⟩
              ·have u1 : decide (rx ≤ least) = false := decide_eq_false u;replace HP3 : Aside0 (dates_Least.pick l bs set a least (l.length - (i + 1)) (i + 1) = some ix) := ⟨by have h := HP3.out; rw [if_pos rfl, if_neg u] at h; exact h⟩;clear u;go_wp2;go_roundg k2
               case measure => omega
               case rel => exact ⟨i + 1, (n + dates_jobs_worst.T 9), rfl, rfl, rfl, (by congr 1; unfold wrap64; have := H8.out; omega), ⟨by have := HK2.out; omega⟩, HP3, HN4, HM9, ⟨Kd.R_mono HR9.out (fun _ hk => hk.1)⟩, HB9⟩
          ·rw [if_neg t2] at h;exact absurd h (by simp)
        ·have h := HP.out;rw [show l.length - i = 0 by omega, dates_Least.pick] at h;exact absurd h (by simp)
      ·have d1 : decide ((out.length : Int) < (l.length : Int)) = false := decide_eq_false (by omega);have d2 : decide (out.length < l.length) = false := decide_eq_false hlt;have ho : o = out := by
        have h := HGO.out;rw [show gk = 0 by have := HK.out; omega, dates_Least.go] at h;exact (Option.some.inj h).symm
       subst ho;clear hlt;go_wp2;go_ret3;exact ⟨_, rfl, Kd.R_lower (Kd.R_mono HR.out (fun _ _ => trivial)) (below_size HB.out), below_step HB.out HB2.out⟩
    ·have hh := HH.out;replace b4 := Bool.eq_false_iff.mpr b4;subst b4;rw [if_neg (by simp)] at hh;simp only [Option.some.injEq, Prod.mk.injEq] at hh;obtain ⟨rfl, rfl, rfl⟩ := hh;clear HH HW;go_wp2;go_ret3;exact ⟨_, rfl, Kd.R_nil _ _ _ _ _, below_step HB.out HB2.out⟩
   ·rw [if_neg b3] at h;exact absurd h (by simp)
  ·rw [if_neg b2] at h;replace b2 := Bool.eq_false_iff.mpr b2;subst b2;simp only [Option.some.injEq, Prod.mk.injEq] at h;obtain ⟨rfl, rfl, rfl⟩ := h;go_enter Try.func40, Try.ntmps40;go_wp2_with fail;refine (dates_jobs_valid.calls k A0 c0 l true _ (Kd.C_below HR0.out HB.out) HC0.out HV.out).mono ?_;rintro e w1 ⟨rfl, hb⟩;replace HB := Aside0.mk (below_step HB.out hb);clear hb;go_wp2_with fail;refine (dates_jobs_befores.calls k A0 c0 l A1 c1 l1 bs false _ (Kd.C_below HR0.out HB.out) HC0.out (Kd.C_below HR1.out HB.out) HC1.out HBB.out).mono ?_;rintro e w2 ⟨v, rfl, ho, hb⟩;replace HB := Aside0.mk (below_step HB.out hb);clear hb ho;go_wp2;go_ret3;exact ⟨_, rfl, Kd.R_nil _ _ _ _ _, HB.out⟩
 ·rw [if_neg b1] at h;replace b1 := Bool.eq_false_iff.mpr b1;subst b1;simp only [Option.some.injEq, Prod.mk.injEq] at h;obtain ⟨rfl, rfl, rfl⟩ := h;go_enter Try.func40, Try.ntmps40;go_wp2_with fail;refine (dates_jobs_valid.calls k A0 c0 l false _ (Kd.C_below HR0.out HB.out) HC0.out HV.out).mono ?_;rintro e w1 ⟨rfl, hb⟩;replace HB := Aside0.mk (below_step HB.out hb);clear hb;go_wp2;go_ret3;exact ⟨_, rfl, Kd.R_nil _ _ _ _ _, HB.out⟩
end Go.Proofs.Ytaboleeclpllpaa.P


namespace Go.Proofs.Ytaboleeclpllpaa.P
open Go.RowKit Go.Proofs.YtaboleeclpllpaaW.PrintWords Go.Proofs.YtaboleeclpllpaaW.PrintLast Go.Proofs.YtaboleeclpllpaaW.PrintMore
attribute [local go_sem] max2_int min2_int max_two min_two max_three min_three max_four min_four
set_option linter.unusedVariables false
set_option linter.unusedSimpArgs false
def slices_Clone_2_int_2_int.f (l0 : List S64) : Option (List S64) := (some (([] : List S64) : List S64)).bind fun y101 => (if y101.length + l0.length < 8796093022208 then (some (y101 ++ l0)) else (none))
theorem slices_Clone_2_int_2_int.info64 : (Try.prog.info? 64).map (fun i => (i.zero, i.size, i.bytes)) = some (some (.agg #[(.int .i64 0), (.int .i64 0)]), 2, 16) := by kernel_rfl
set_option maxHeartbeats 8000000 in
set_option maxRecDepth 100000 in
theorem slices_Clone_2_int_2_int.calls_some (a0 : Addr) (c0 : Nat) (l0 : List S64) (r : List S64) (w : World) (hr0 : Kd.C k64 w (some a0) l0.length l0) (hc0 : l0.length ≤ c0) (h : slices_Clone_2_int_2_int.f l0 = some r) :
    Calls Try.prog 68 #[.slice (some a0) l0.length c0] w fun e w' => ∃ v0_ : Value, e = .returned (v0_) ∧ Kd.R k64 64 w' w.heap.size (fun _ => True) v0_ r ∧ Below w.heap.size w w' := by
 have HR0 := Aside0.mk hr0;have HC0 := Aside0.mk hc0;clear hr0 hc0;have HB := Aside0.mk (Below.refl w.heap.size w);have H : ((some (([] : List S64) : List S64)).bind fun y101 => (if y101.length + l0.length < 8796093022208 then (some (y101 ++ l0)) else (none))) = some r := h;clear h;obtain ⟨y101, hy101⟩ : ∃ y_ : List S64, y_ = (([] : List S64)) := ⟨_, rfl⟩
 replace H : (if y101.length + l0.length < 8796093022208 then (some (y101 ++ l0)) else (none)) = some r := by first | (rw [hy101]; with_reducible exact H) | (have H2_ := (Option.bind_some _ _).symm.trans H; rw [hy101]; with_reducible exact H2_) | (have H2_ := (Option.bind_some _ _).symm.trans H; with_reducible exact H2_) | with_reducible exact H | (rw [hy101]; exact H) | exact H
 have Ny101 := Aside0.mk hy101;clear hy101;by_cases c2 : y101.length + l0.length < 8796093022208
 ·rw [if_pos c2] at H;have LMc2 := Aside0.mk c2;clear c2;obtain ⟨y104, hy104⟩ : ∃ y_ : List S64, y_ = (y101 ++ l0) := ⟨_, rfl⟩
  replace H : (some y104) = some r := by first | (rw [hy104]; with_reducible exact H) | (have H2_ := (Option.bind_some _ _).symm.trans H; rw [hy104]; with_reducible exact H2_) | (have H2_ := (Option.bind_some _ _).symm.trans H; with_reducible exact H2_) | with_reducible exact H | (rw [hy104]; exact H) | exact H
  have Ny104 := Aside0.mk hy104;clear hy104;obtain rfl := Option.some.inj H;have hnil : ∀ W : World, (binOp .eql 72 (.slice (some a0) l0.length c0) (.slice none 0 0)).run Try.prog W = .ok (.bool false) W := fun W => Lib.run_eql_slice_nil W 72 64 (some a0) _ _ _ _ Try.underlying72
  go_enter Try.func68, Try.ntmps68;go_wp2_with (first | ((with_reducible refine gate_dst (N := 5) rfl ?_); refine Kd.R_lit k64 _ 64 ?hg (N := 5) ?hd (xs := ([] : List S64)) (inner := []) (ok := fun _ => True) (okp := fun _ => True) ?hr ?hp (fun _ hk => hk) trivial (Below.refl _ _) (Nat.le_refl _) (by simp) ?_; (case hd => rfl); (case hg => rfl); (case hr => first | (go_simp; done) | (go_simp; rfl)); (case hp => exact (Reps.none _ _)); intro v102 w3 ho4 hb hg_ hnew_; clear hg_ hnew_; (first | rw [← Ny101.out] at ho4 | (simp only [Int.reduceToNat] at ho4; rw [← Ny101.out] at ho4)); have n0_ := Aside0.mk (Kd.R_lower ho4 (below_size (by repeat (first | (with_reducible first | exact HB.out | apply below_alloc | apply pw_below_drewN | apply below_drew1) | exact HB.out)))); have n1_ := Aside0.mk (below_step (by repeat (first | (with_reducible first | exact HB.out | apply below_alloc | apply pw_below_drewN | apply below_drew1) | exact HB.out)) hb); clear HB; have HO103 := n0_; have HB := n1_; clear n0_ n1_; clear hb ho4) | ((with_reducible refine gate_builtin (b := .append) (xs := #[.tmp 5, .tmp 6]) rfl ?_); at_builtin; refine Kd.R_append_rows k64 (w0 := w) w.heap.size rfl (.tmp 5) (.tmp 6) 72 64 (.agg #[(.int .i64 0), (.int .i64 0)]) 16 rfl Try.underlying72 slices_Clone_2_int_2_int.info64 rfl (by decide) (by omega) v102 y101 l0 _ _ _ (fun _ => True) (fun _ => False) rfl rfl ?aO (Kd.C_below HR0.out HB.out) ?aK (fun _ h => h.elim) ?aF ?aB ?aS ?aL ?_; (case aK => intro x cs h; rw [k64_open h]; exact k64_mkM _ _ _ x); (case aB => exact (by repeat (first | (with_reducible first | exact HB.out | apply below_alloc | apply pw_below_drewN | apply below_drew1) | exact HB.out))); (case aF => exact (fun _ _ => trivial)); (case aO => exact (by (with_reducible repeat (first | apply Kd.R_alloc | apply Kd.R_drewN | apply Kd.R_drew)); exact HO103.out)); (case aS => exact (below_size (by repeat (first | (with_reducible first | exact HB.out | apply below_alloc | apply pw_below_drewN | apply below_drew1) | exact HB.out)))); (case aL => have := LMc2.out; omega); intro v105 w5 ho hb hg hat; rw [← Ny104.out] at ho; have n0_ := Aside0.mk (hb); have n1_ := Aside0.mk (ho); clear HB; clear HO103; have HB := n0_; have HO106 := n1_; clear n0_ n1_; clear ho hb hg hat));go_ret;exact ⟨_, by first | rfl | (simp [errW_none, errW_some] <;> rfl) | (simp [*, errW_none, errW_some] <;> rfl), by (with_reducible repeat (first | apply Kd.R_alloc | apply Kd.R_drewN | apply Kd.R_drew)); exact HO106.out, by repeat (first | (with_reducible first | exact HB.out | apply below_alloc | apply pw_below_drewN | apply below_drew1) | exact HB.out)⟩
 ·rw [if_neg c2] at H;exact absurd H (by simp)
set_option maxHeartbeats 8000000 in
set_option maxRecDepth 100000 in
theorem slices_Clone_2_int_2_int.calls (A0 : Option Addr) (c0 : Nat) (l0 : List S64) (r : List S64) (w : World) (hr0 : Kd.C k64 w A0 l0.length l0) (hc0 : l0.length ≤ c0) (h : slices_Clone_2_int_2_int.f l0 = some r) :
    Calls Try.prog 68 #[.slice A0 l0.length c0] w fun e w' => ∃ v0_ : Value, e = .returned (v0_) ∧ Kd.R k64 64 w' w.heap.size (fun _ => True) v0_ r ∧ Below w.heap.size w w' := by
 cases A0 with
 | some a0 => exact slices_Clone_2_int_2_int.calls_some a0 c0 l0 r w hr0 hc0 h
 | none =>
  have hl : l0 = [] := by
   rcases Nat.eq_zero_or_pos l0.length with h0 | h0
   ·exact List.eq_nil_of_length_eq_zero h0
   ·obtain ⟨ad, he, _⟩ := hr0.2.2 h0;cases he
  subst hl;have hr : r = [] := by
   simp [slices_Clone_2_int_2_int.f] at h;exact h
  subst hr;clear h hr0 hc0;have hnil : ∀ W : World, (binOp .eql 72 (.slice none 0 c0) (.slice none 0 0)).run Try.prog W = .ok (.bool true) W := fun W => Lib.run_eql_slice_nil W 72 64 none _ _ _ _ Try.underlying72
  have hB := Aside0.mk (Below.refl w.heap.size w);show Calls Try.prog 68 #[.slice none 0 c0] w _
  go_enter Try.func68, Try.ntmps68;go_wp2;go_ret;exact ⟨_, rfl, Kd.R_nil _ _ _ _ _, hB.out⟩
end Go.Proofs.Ytaboleeclpllpaa.P


namespace Go.Proofs.Ytaboleeclpllpaa.P
open Go.RowKit Go.Proofs.YtaboleeclpllpaaW.PrintWords Go.Proofs.YtaboleeclpllpaaW.PrintLast Go.Proofs.YtaboleeclpllpaaW.PrintMore
attribute [local go_sem] max2_int min2_int max_two min_two max_three min_three max_four min_four
set_option linter.unusedVariables false
set_option linter.unusedSimpArgs false
def corrodylaw06_pairs.f (l0 : List (S64)) : Option ((List (S64))) := if 0 ≤ (mn (l0.length : Int) 18) then (if (mn (l0.length : Int) 18) ≤ (l0.length : Int) then ((slices_Clone_2_int_2_int.f (l0.take ((mn (l0.length : Int) 18) : Int).toNat)).bind fun t562 => (some t562)) else (none)) else (none)
set_option maxHeartbeats 8000000 in
set_option maxRecDepth 100000 in
theorem corrodylaw06_pairs.calls (A0 : Option Addr) (c0 : Nat) (l0 : List (S64)) (r : List (S64)) (w : World) (hr0 : Kd.C k64 w A0 l0.length l0) (hc0 : l0.length ≤ c0) (h : corrodylaw06_pairs.f l0 = some r) :
    Calls Try.prog 41 #[.slice A0 l0.length c0] w fun e w' => ∃ v0_ : Value, e = .returned (v0_) ∧ Kd.R k64 64 w' w.heap.size (fun _ => True) v0_ r ∧ Below w.heap.size w w' := by
 have HR0 := Aside0.mk hr0;have HC0 := Aside0.mk hc0;clear hr0 hc0;have HB := Aside0.mk (Below.refl w.heap.size w);have H : (if 0 ≤ (mn (l0.length : Int) 18) then (if (mn (l0.length : Int) 18) ≤ (l0.length : Int) then ((slices_Clone_2_int_2_int.f (l0.take ((mn (l0.length : Int) 18) : Int).toNat)).bind fun t562 => (some t562)) else (none)) else (none)) = some r := h;clear h;obtain ⟨ji2, hji2⟩ : ∃ j_ : Int, (mn (l0.length : Int) 18) = j_ := ⟨_, rfl⟩
 replace H : (if 0 ≤ (ji2) then (if (ji2) ≤ (l0.length : Int) then ((slices_Clone_2_int_2_int.f (l0.take ((ji2) : Int).toNat)).bind fun t562 => (some t562)) else (none)) else (none)) = some r := by first | (rw [hji2] at H; exact H) | (simp only [hji2] at H ⊢; exact H)
 (try (have hji2h : ji2 ≤ 18 := by (rw [← hji2]; unfold mn; (repeat' split) <;> omega)));(try (have hji2g : ji2 ≤ 64 := by omega));(try (have hji2l : 0 ≤ ji2 := by (rw [← hji2]; unfold mn; (repeat' split) <;> omega)));(try (have hji2m : 0 ≤ ji2 := by omega));have hji2_ : (if 18 < (l0.length : Int) then 18 else (l0.length : Int)) = ji2 := hji2;by_cases c3 : 0 ≤ (ji2)
 ·rw [if_pos c3] at H;have c3b0 := eq_true c3;have c3b1 : decide (0 ≤ (ji2)) = true := decide_eq_true c3;clear c3;by_cases c4 : (ji2) ≤ (l0.length : Int)
  ·rw [if_pos c4] at H;have c4b0 := eq_true c4;have c4b1 : decide ((ji2) ≤ (l0.length : Int)) = true := decide_eq_true c4;clear c4;obtain ⟨y558, hy558⟩ : ∃ y_ : List (S64), y_ = (l0.take ((ji2) : Int).toNat) := ⟨_, rfl⟩
   replace H : ((slices_Clone_2_int_2_int.f y558).bind fun t562 => (some t562)) = some r := by first | (rw [hy558]; with_reducible exact H) | (have H2_ := (Option.bind_some _ _).symm.trans H; rw [hy558]; with_reducible exact H2_) | (have H2_ := (Option.bind_some _ _).symm.trans H; with_reducible exact H2_) | with_reducible exact H | (rw [hy558]; exact H) | exact H
   have Ny558 := Aside0.mk hy558;clear hy558;replace H := Option.bind_eq_some_iff.mp H;obtain ⟨t562, A50, H⟩ := H;replace H : (some t562) = some r := H;have A5 := Aside0.mk A50;clear A50;obtain rfl := Option.some.inj H;have q6 : ((ji2) : Int) ≤ ((l0.length : Int) : Int) := of_decide_eq_true (by first | (with_reducible assumption) | assumption);obtain ⟨i06, hi06, _, hsz6, _⟩ := info_parts info64;have hroom6 : l0.length ≤ c0 := HC0.out;have hC6 : Kd.C k64 _ A0 l0.length l0 := HR0.out;have hcut6 := cut_to (P := Try.prog) 72 64 .i64 Try.underlying72 hi06 A0 l0.length c0 (ji2) (of_decide_eq_true (by first | (with_reducible assumption) | assumption)) q6 hroom6;have hr6 := Kd.C_take (m := ((ji2) : Int).toNat) hC6 (by omega);have hy6 : y558.length = ((ji2) : Int).toNat := (by rw [Ny558.out, List.length_take]; omega);rw [← Ny558.out] at hr6;rw [← hy6] at hcut6;have HR561 := Aside0.mk hr6;have HC561 := Aside0.mk (show y558.length ≤ c0 from by omega);clear hr6 hC6 hroom6 hi06 hsz6;have KY6 := Aside0.mk hy6;clear hy6;replace q6 := eq_true q6;go_enter Try.func41, Try.ntmps41;go_wp2_with (first | ((with_reducible refine gate_callee (f := 68) rfl ?_); refine goesL_ (some 8) rfl rfl Try.func68 (by kernel_rfl) rfl #[.slice A0 y558.length c0] rfl (by (try simp only [List.map_toArray, List.map_cons, List.map_nil]); first | done | rfl | (simp only [List.length_drop, List.length_take]; rfl)) ?_; (with_reducible refine (slices_Clone_2_int_2_int.calls _ _ y558 t562 _ ?side1 ?side2 A5.out).mono ?_); (case side1 => repeat (first | exact HR561.out | (with_reducible refine Kd.C_alloc ?_ _) | (with_reducible refine Kd.C_drewN ?_ _) | (with_reducible refine Kd.C_drew ?_))); (case side2 => exact HC561.out); rintro e w7 ⟨v563, rfl, ho0, hb⟩; refine ⟨_, rfl, ?_⟩; have n0_ := Aside0.mk (Kd.R_lower ho0 (below_size (by repeat (first | (with_reducible first | exact HB.out | apply below_alloc | apply pw_below_drewN | apply below_drew1) | exact HB.out)))); have n1_ := Aside0.mk (below_step (by repeat (first | (with_reducible first | exact HB.out | apply below_alloc | apply pw_below_drewN | apply below_drew1) | exact HB.out)) hb); clear HB; have HO564 := n0_; have HB := n1_; clear n0_ n1_; (try clear hb); (try clear hb2); (try clear hk); (try clear hi); (try clear ho0)));go_ret;exact ⟨_, by first | rfl | (simp [errW_none, errW_some] <;> rfl) | (simp only [← hji2]; first | rfl | (simp [errW_none, errW_some] <;> rfl)) | (simp [*, errW_none, errW_some] <;> rfl), by (with_reducible repeat (first | apply Kd.R_alloc | apply Kd.R_drewN | apply Kd.R_drew)); exact HO564.out, by repeat (first | (with_reducible first | exact HB.out | apply below_alloc | apply pw_below_drewN | apply below_drew1) | exact HB.out)⟩
  ·rw [if_neg c4] at H;exact absurd H (by simp)
 ·rw [if_neg c3] at H;exact absurd H (by simp)
end Go.Proofs.Ytaboleeclpllpaa.P


namespace Go.Proofs.Ytaboleeclpllpaa.P
open Go.RowKit Go.Proofs.YtaboleeclpllpaaW.PrintWords Go.Proofs.YtaboleeclpllpaaW.PrintLast Go.Proofs.YtaboleeclpllpaaW.PrintMore
attribute [local go_sem] max2_int min2_int max_two min_two max_three min_three max_four min_four
set_option linter.unusedVariables false
set_option linter.unusedSimpArgs false
def corrodyref06_Worst.l0 : Nat → List (S43) → Int → List Int → Int → Int → Option (Int)
  | 0, _, _, _, _, _ => none
  | k + 1, x0, x5, x10, x11, x12 => if x12 < x11 then (if 0 ≤ x12 then (if x12 < (x10.length : Int) then (if x12 < (x0.length : Int) then (corrodyref06_Worst.l0 k x0 (mx x5 (wrap64 ((rd x10 x12) - ((rd_T43 x0 x12).f2)))) x10 x11 (wrap64 (x12 + 1))) else (none)) else (none)) else (none)) else (some x5)
def corrodyref06_Worst.f (k : Nat) (l0 : List (S43)) (l1 : List Int) : Option (Int) := (corrodyref06_Ends.f k l0 l1).bind fun t567 => (corrodyref06_Worst.l0 k l0 (-1073741824) t567 (t567.length : Int) 0)
theorem corrodyref06_Worst.mono_l : ∀ k, (∀ y0 y1 y2 y3 y4, LeO (corrodyref06_Worst.l0 k y0 y1 y2 y3 y4) (corrodyref06_Worst.l0 (k + 1) y0 y1 y2 y3 y4))
  | 0 => fun _ _ _ _ _ r h => by simp [corrodyref06_Worst.l0] at h
  | k + 1 => by
    have ih0 := corrodyref06_Worst.mono_l k
    · intro y0 y1 y2 y3 y4
      unfold corrodyref06_Worst.l0
      repeat' first
      | (with_reducible exact ih0 _ _ _ _ _)
      | (with_reducible exact corrodyref06_Ends.mono _ _ _)
      | (with_reducible exact LeO.refl _)
      | (with_reducible exact LeO.none _)
      | (with_reducible refine LeO.ite ?_ ?_)
      | (with_reducible refine LeO.bind ?_ (fun _ => ?_))
      | exact ih0 _ _ _ _ _
      | exact corrodyref06_Ends.mono _ _ _
      | exact LeO.none _
      | refine LeO.ite ?_ ?_
      | refine LeO.bind ?_ (fun _ => ?_)
theorem corrodyref06_Worst.mono : ∀ a0 a1 k, LeO (corrodyref06_Worst.f k a0 a1) (corrodyref06_Worst.f (k + 1) a0 a1) := by
 intro a0 a1 k;have ih0 := corrodyref06_Worst.mono_l k;unfold corrodyref06_Worst.f;repeat' first
   | (with_reducible exact ih0 _ _ _ _ _)
   | (with_reducible exact corrodyref06_Ends.mono _ _ _)
   | (with_reducible exact LeO.refl _)
   | (with_reducible exact LeO.none _)
   | (with_reducible refine LeO.ite ?_ ?_)
   | (with_reducible refine LeO.bind ?_ (fun _ => ?_))
   | exact ih0 _ _ _ _ _
   | exact corrodyref06_Ends.mono _ _ _
   | exact LeO.none _
   | refine LeO.ite ?_ ?_
   | refine LeO.bind ?_ (fun _ => ?_)
set_option maxHeartbeats 8000000 in
set_option maxRecDepth 100000 in
theorem corrodyref06_Worst.calls (k : Nat) (A0 : Option Addr) (c0 : Nat) (l0 : List (S43)) (A1 : Option Addr) (c1 : Nat) (l1 : List Int) (r : Int) (w : World) (hr0 : Kd.C k43 w A0 l0.length l0) (hc0 : l0.length ≤ c0) (hr1 : Kd.C (Kd.int .i64) w A1 l1.length l1) (hc1 : l1.length ≤ c1) (h : corrodyref06_Worst.f k l0 l1 = some r) :
    Calls Try.prog 80 #[.slice A0 l0.length c0, .slice A1 l1.length c1] w fun e w' => e = .returned (.int .i64 r) ∧ Below w.heap.size w w' := by
 have HR0 := Aside0.mk hr0;have HC0 := Aside0.mk hc0;clear hr0 hc0;have HR1 := Aside0.mk hr1;have HC1 := Aside0.mk hc1;clear hr1 hc1;have HB := Aside0.mk (Below.refl w.heap.size w);have H : ((corrodyref06_Ends.f k l0 l1).bind fun t567 => (corrodyref06_Worst.l0 k l0 (-1073741824) t567 (t567.length : Int) 0)) = some r := h;clear h;replace H := Option.bind_eq_some_iff.mp H;obtain ⟨t567, A30, H⟩ := H;replace H : (corrodyref06_Worst.l0 k l0 (-1073741824) t567 (t567.length : Int) 0) = some r := H;have A3 := Aside0.mk A30;clear A30;have H' := Aside0.mk H;clear H;go_enter Try.func80, Try.ntmps80;go_wp2_with (first | ((with_reducible refine gate_callee (f := 31) rfl ?_); refine goesL_ (some 10) rfl rfl Try.func31 (by kernel_rfl) rfl #[.slice A0 l0.length c0, .slice A1 l1.length c1] rfl (by (try simp only [List.map_toArray, List.map_cons, List.map_nil]); first | done | rfl | (simp only [List.length_drop, List.length_take]; rfl)) ?_; (with_reducible refine (corrodyref06_Ends.calls k _ _ l0 _ _ l1 t567 _ ?side1 ?side2 ?side3 ?side4 A3.out).mono ?_); (case side1 => repeat (first | exact HR0.out | (with_reducible refine Kd.C_alloc ?_ _) | (with_reducible refine Kd.C_drewN ?_ _) | (with_reducible refine Kd.C_drew ?_))); (case side2 => exact HC0.out); (case side3 => repeat (first | exact HR1.out | (with_reducible refine Kd.C_alloc ?_ _) | (with_reducible refine Kd.C_drewN ?_ _) | (with_reducible refine Kd.C_drew ?_))); (case side4 => exact HC1.out); rintro e w4 ⟨v568, rfl, ho0, hb⟩; refine ⟨_, rfl, ?_⟩; have n0_ := Aside0.mk (Kd.R_lower ho0 (below_size (by repeat (first | (with_reducible first | exact HB.out | apply below_alloc | apply pw_below_drewN | apply below_drew1) | exact HB.out)))); have n1_ := Aside0.mk (below_step (by repeat (first | (with_reducible first | exact HB.out | apply below_alloc | apply pw_below_drewN | apply below_drew1) | exact HB.out)) hb); clear HB; have HO569 := n0_; have HB := n1_; clear n0_ n1_; (try clear hb); (try clear hb2); (try clear hk); (try clear hi); (try clear ho0); obtain ⟨Ao5, co5, eo5⟩ := Kd.R_slice HO569.out; subst eo5));go_loopg [5, 12] k (fun kq v5 v12 w' => ∃ (x5_1 : Int) (x12_1 : Int), v5 = .int .i64 x5_1 ∧ v12 = .int .i64 x12_1 ∧ Aside0 (corrodyref06_Worst.l0 kq l0 x5_1 t567 (t567.length : Int) x12_1 = some r) ∧ Aside0 (kq ≤ k) ∧ Aside0 (Kd.R (Kd.int .i64) 3 w' w.heap.size (fun _ => True) (.slice Ao5 t567.length co5) t567) ∧ Aside0 (Below w.heap.size w w'))
 case atStart => exact ⟨((-1073741824)), (0), (by first | rfl | (simp; done) | (simp [*]; done)), (by first | rfl | (simp; done) | (simp [*]; done)), H', ⟨Nat.le_refl _⟩, ⟨by (with_reducible repeat (first | apply Kd.R_alloc | apply Kd.R_drewN | apply Kd.R_drew)); exact HO569.out⟩, ⟨by repeat (first | (with_reducible first | exact HB.out | apply below_alloc | apply pw_below_drewN | apply below_drew1) | exact HB.out)⟩⟩
 case round =>
  clear H';try clear c1
  try clear p2
  try clear c3
  obtain ⟨x5_1, x12_1, rfl, rfl, HA, HK1, HO_10, HB⟩ := hrel;cases gk with
  | zero => exact absurd HA.out (by simp [corrodyref06_Worst.l0])
  | succ k1 =>
   have H := HA.out;clear HA;simp only [corrodyref06_Worst.l0] at H;by_cases c6 : x12_1 < (t567.length : Int)
   ·rw [if_pos c6] at H;have c6b0 : decide (x12_1 < (t567.length : Int)) = true := decide_eq_true c6;clear c6;by_cases c7 : 0 ≤ x12_1
    ·rw [if_pos c7] at H;have c7b0 : decide (0 ≤ x12_1) = true := decide_eq_true c7;clear c7;by_cases c8 : x12_1 < (t567.length : Int)
     ·rw [if_pos c8] at H;have c8b0 : decide (x12_1 < (t567.length : Int)) = true := decide_eq_true c8;clear c8;by_cases c9 : x12_1 < (l0.length : Int)
      ·rw [if_pos c9] at H;have c9b0 : decide (x12_1 < (l0.length : Int)) = true := decide_eq_true c9;clear c9;obtain ⟨ji10, hji10⟩ : ∃ j_ : Int, (mx x5_1 (wrap64 ((rd t567 x12_1) - ((rd_T43 l0 x12_1).f2)))) = j_ := ⟨_, rfl⟩
       replace H : (corrodyref06_Worst.l0 k1 l0 ji10 t567 (t567.length : Int) (wrap64 (x12_1 + 1))) = some r := by first | (rw [hji10] at H; exact H) | (simp only [hji10] at H ⊢; exact H)
       have hji10_ : (if x5_1 < (wrap64 ((rd t567 x12_1) - ((rd_T43 l0 x12_1).f2))) then (wrap64 ((rd t567 x12_1) - ((rd_T43 l0 x12_1).f2))) else x5_1) = ji10 := hji10;have H' := Aside0.mk H;clear H;have p570 : 0 ≤ (x12_1 : Int) := of_decide_eq_true (by first | (with_reducible assumption) | assumption);have q570 : x12_1 < (t567.length : Int) := of_decide_eq_true (by first | (with_reducible assumption) | assumption);obtain ⟨ad570, e570, hx570_0⟩ := Kd.at_int (Kd.R_reads' HO_10.out).2.2 x12_1 p570 q570;cases e570;replace p570 := eq_true p570;replace q570 := eq_true q570;have p571 : 0 ≤ (x12_1 : Int) := of_decide_eq_true (by first | (with_reducible assumption) | assumption);have q571 : x12_1 < (l0.length : Int) := of_decide_eq_true (by first | (with_reducible assumption) | assumption);obtain ⟨ad571, e571, hx571_0, hx571_1, hx571_2, hx571_3⟩ := at_T43 HR0.out x12_1 p571 q571;cases e571;replace hx571_0 := (HB.out.cell (World.block_lt_of_cell? w _ hx571_0)).trans hx571_0;replace hx571_1 := (HB.out.cell (World.block_lt_of_cell? w _ hx571_1)).trans hx571_1;replace hx571_2 := (HB.out.cell (World.block_lt_of_cell? w _ hx571_2)).trans hx571_2;replace hx571_3 := (HB.out.cell (World.block_lt_of_cell? w _ hx571_3)).trans hx571_3;replace p571 := eq_true p571;replace q571 := eq_true q571;go_wp2;go_roundg k1
       case measure => have := HK1.out; omega
       case rel => exact ⟨(ji10), (wrap64 (x12_1 + 1)), (by first | rfl | (simp; done) | (simp only [← hji10] <;> (first | rfl | simp)) | (simp [*]; done)), (by first | rfl | (simp; done) | (simp [*]; done)), H', ⟨by have := HK1.out; omega⟩, ⟨by (with_reducible repeat (first | apply Kd.R_alloc | apply Kd.R_drewN | apply Kd.R_drew)); exact HO_10.out⟩, ⟨by repeat (first | (with_reducible first | exact HB.out | apply below_alloc | apply pw_below_drewN | apply below_drew1) | exact HB.out)⟩⟩
      ·rw [if_neg c9] at H;exact absurd H (by simp)
     ·rw [if_neg c8] at H;exact absurd H (by simp)
    ·rw [if_neg c7] at H;exact absurd H (by simp)
   ·rw [if_neg c6] at H;have c6b0 : decide (x12_1 < (t567.length : Int)) = false := decide_eq_false c6;clear c6;obtain rfl := Option.some.inj H;go_wp2;go_ret;exact ⟨by first | rfl | (simp [errW_none, errW_some] <;> rfl) | (simp [*, errW_none, errW_some] <;> rfl), by repeat (first | (with_reducible first | exact HB.out | apply below_alloc | apply pw_below_drewN | apply below_drew1) | exact HB.out)⟩
end Go.Proofs.Ytaboleeclpllpaa.P


namespace Go.Proofs.Ytaboleeclpllpaa.P
open Go.RowKit Go.Proofs.YtaboleeclpllpaaW.PrintWords Go.Proofs.YtaboleeclpllpaaW.PrintLast Go.Proofs.YtaboleeclpllpaaW.PrintMore
attribute [local go_sem] max2_int min2_int max_two min_two max_three min_three max_four min_four
set_option linter.unusedVariables false
set_option linter.unusedSimpArgs false
mutual
def corrodyref06_may.l0 : Nat → List (S64) → Int → Int → List Int → Int → Int → Option (Bool)
  | 0, _, _, _, _, _, _ => none
  | k + 1, x1, x3, x9, x14, x15, x16 => if x16 < x15 then (if 0 ≤ x16 then (if x16 < (x14.length : Int) then (if 0 ≤ (rd x14 x16) then (corrodyref06_may.l0 k x1 x3 (Go.bits .or .i64 x9 (shl .i64 1 (rd x14 x16))) x14 x15 (wrap64 (x16 + 1))) else (none)) else (none)) else (none)) else (corrodyref06_may.l1 k x3 x9 x1 (x1.length : Int) 0)
def corrodyref06_may.l1 : Nat → Int → Int → List (S64) → Int → Int → Option (Bool)
  | 0, _, _, _, _, _ => none
  | k + 1, x3, x9, x25, x26, x27 => if x27 < x26 then (if 0 ≤ x27 then (if x27 < (x25.length : Int) then (if ((rd_T64 x25 x27).f1) = x3 then (if 0 ≤ ((rd_T64 x25 x27).f0) then (if (Go.bits .and .i64 (shr .i64 x9 ((rd_T64 x25 x27).f0)) 1) = 0 then (some false) else (corrodyref06_may.l1 k x3 x9 x25 x26 (wrap64 (x27 + 1)))) else (none)) else (corrodyref06_may.l1 k x3 x9 x25 x26 (wrap64 (x27 + 1)))) else (none)) else (none)) else (if 0 ≤ x3 then (some ((Go.bits .and .i64 (shr .i64 x9 x3) 1) == 0)) else (none))
end
def corrodyref06_may.f (k : Nat) (l0 : List (S43)) (l1 : List (S64)) (l2 : List Int) (a3 : Int) : Option (Bool) := corrodyref06_may.l0 k l1 a3 0 l2 (l2.length : Int) 0
theorem corrodyref06_may.mono_l : ∀ k, (∀ y0 y1 y2 y3 y4 y5, LeO (corrodyref06_may.l0 k y0 y1 y2 y3 y4 y5) (corrodyref06_may.l0 (k + 1) y0 y1 y2 y3 y4 y5)) ∧ (∀ y0 y1 y2 y3 y4, LeO (corrodyref06_may.l1 k y0 y1 y2 y3 y4) (corrodyref06_may.l1 (k + 1) y0 y1 y2 y3 y4))
  | 0 => ⟨fun _ _ _ _ _ _ r h => by simp [corrodyref06_may.l0] at h, fun _ _ _ _ _ r h => by simp [corrodyref06_may.l1] at h⟩
  | k + 1 => by
    obtain ⟨ih0, ih1⟩ := corrodyref06_may.mono_l k
    refine ⟨?_, ?_⟩
    · intro y0 y1 y2 y3 y4 y5
      unfold corrodyref06_may.l0
      repeat' first
      | (with_reducible exact ih0 _ _ _ _ _ _)
      | (with_reducible exact ih1 _ _ _ _ _)
      | (with_reducible exact LeO.refl _)
      | (with_reducible exact LeO.none _)
      | (with_reducible refine LeO.ite ?_ ?_)
      | (with_reducible refine LeO.bind ?_ (fun _ => ?_))
      | exact ih0 _ _ _ _ _ _
      | exact ih1 _ _ _ _ _
      | exact LeO.none _
      | refine LeO.ite ?_ ?_
      | refine LeO.bind ?_ (fun _ => ?_)
    · intro y0 y1 y2 y3 y4
      unfold corrodyref06_may.l1
      repeat' first
      | (with_reducible exact ih0 _ _ _ _ _ _)
      | (with_reducible exact ih1 _ _ _ _ _)
      | (with_reducible exact LeO.refl _)
      | (with_reducible exact LeO.none _)
      | (with_reducible refine LeO.ite ?_ ?_)
      | (with_reducible refine LeO.bind ?_ (fun _ => ?_))
      | exact ih0 _ _ _ _ _ _
      | exact ih1 _ _ _ _ _
      | exact LeO.none _
      | refine LeO.ite ?_ ?_
      | refine LeO.bind ?_ (fun _ => ?_)
theorem corrodyref06_may.mono : ∀ a0 a1 a2 a3 k, LeO (corrodyref06_may.f k a0 a1 a2 a3) (corrodyref06_may.f (k + 1) a0 a1 a2 a3) := by
 intro a0 a1 a2 a3 k;obtain ⟨ih0, ih1⟩ := corrodyref06_may.mono_l k;unfold corrodyref06_may.f;repeat' first
   | (with_reducible exact ih0 _ _ _ _ _ _)
   | (with_reducible exact ih1 _ _ _ _ _)
   | (with_reducible exact LeO.refl _)
   | (with_reducible exact LeO.none _)
   | (with_reducible refine LeO.ite ?_ ?_)
   | (with_reducible refine LeO.bind ?_ (fun _ => ?_))
   | exact ih0 _ _ _ _ _ _
   | exact ih1 _ _ _ _ _
   | exact LeO.none _
   | refine LeO.ite ?_ ?_
   | refine LeO.bind ?_ (fun _ => ?_)
set_option maxHeartbeats 8000000 in
set_option maxRecDepth 100000 in
theorem corrodyref06_may.calls (k : Nat) (A0 : Option Addr) (c0 : Nat) (l0 : List (S43)) (A1 : Option Addr) (c1 : Nat) (l1 : List (S64)) (A2 : Option Addr) (c2 : Nat) (l2 : List Int) (a3 : Int) (r : Bool) (w : World) (hr0 : Kd.C k43 w A0 l0.length l0) (hc0 : l0.length ≤ c0) (hr1 : Kd.C k64 w A1 l1.length l1) (hc1 : l1.length ≤ c1) (hr2 : Kd.C (Kd.int .i64) w A2 l2.length l2) (hc2 : l2.length ≤ c2) (h : corrodyref06_may.f k l0 l1 l2 a3 = some r) :
    Calls Try.prog 81 #[.slice A0 l0.length c0, .slice A1 l1.length c1, .slice A2 l2.length c2, .int .i64 a3] w fun e w' => e = .returned (.bool r) ∧ Below w.heap.size w w' := by
 have hu64 := Try.underlying64;have HR0 := Aside0.mk hr0;have HC0 := Aside0.mk hc0;clear hr0 hc0;have HR1 := Aside0.mk hr1;have HC1 := Aside0.mk hc1;clear hr1 hc1;have HR2 := Aside0.mk hr2;have HC2 := Aside0.mk hc2;clear hr2 hc2;have HB := Aside0.mk (Below.refl w.heap.size w);have H : (corrodyref06_may.l0 k l1 a3 0 l2 (l2.length : Int) 0) = some r := h;clear h;have H' := Aside0.mk H;clear H;go_enter Try.func81, Try.ntmps81;go_wp2;go_loopg [9, 16] k (fun kq v9 v16 w' => ∃ (x9_1 : Int) (x16_1 : Int), v9 = .int .i64 x9_1 ∧ v16 = .int .i64 x16_1 ∧ Aside0 (corrodyref06_may.l0 kq l1 a3 x9_1 l2 (l2.length : Int) x16_1 = some r) ∧ Aside0 (kq ≤ k) ∧ Aside0 (Below w.heap.size w w'))
 case atStart => exact ⟨(0), (0), (by first | rfl | (simp; done) | (simp [*]; done)), (by first | rfl | (simp; done) | (simp [*]; done)), H', ⟨Nat.le_refl _⟩, ⟨by repeat (first | (with_reducible first | exact HB.out | apply below_alloc | apply pw_below_drewN | apply below_drew1) | exact HB.out)⟩⟩
 case round =>
  clear H';try clear c1
  try clear c2
  try clear p2
  obtain ⟨x9_1, x16_1, rfl, rfl, HA, HK1, HB⟩ := hrel;cases gk with
  | zero => exact absurd HA.out (by simp [corrodyref06_may.l0])
  | succ k1 =>
   have H := HA.out;clear HA;simp only [corrodyref06_may.l0] at H;by_cases c5 : x16_1 < (l2.length : Int)
   ·rw [if_pos c5] at H;have c5b0 : decide (x16_1 < (l2.length : Int)) = true := decide_eq_true c5;clear c5;by_cases c6 : 0 ≤ x16_1
    ·rw [if_pos c6] at H;have c6b0 : decide (0 ≤ x16_1) = true := decide_eq_true c6;clear c6;by_cases c7 : x16_1 < (l2.length : Int)
     ·rw [if_pos c7] at H;have c7b0 : decide (x16_1 < (l2.length : Int)) = true := decide_eq_true c7;clear c7;by_cases c8 : 0 ≤ (rd l2 x16_1)
      ·rw [if_pos c8] at H;have c8b0 := eq_true c8;have c8b1 : decide (0 ≤ (rd l2 x16_1)) = true := decide_eq_true c8;clear c8;obtain ⟨ji9, hji9⟩ : ∃ j_ : Int, (shl .i64 1 (rd l2 x16_1)) = j_ := ⟨_, rfl⟩
       replace H : (corrodyref06_may.l0 k1 l1 a3 (Go.bits .or .i64 x9_1 (ji9)) l2 (l2.length : Int) (wrap64 (x16_1 + 1))) = some r := by first | (rw [hji9] at H; exact H) | (simp only [hji9] at H ⊢; exact H)
       have hji9_ : (IntKind.i64.wrap (1 * 2 ^ min (rd l2 x16_1).toNat 64)) = ji9 := hji9;have hji9z : (rd l2 x16_1) ≤ 64 → (IntKind.i64.wrap (1 * 2 ^ (rd l2 x16_1).toNat)) = ji9 := shl_small hji9
       have hji9u : (IntKind.i64.wrap (2 ^ min (rd l2 x16_1).toNat 64)) = ji9 := by have h_ := hji9_; rw [Int.one_mul] at h_; exact h_
       have hji9v : (rd l2 x16_1) ≤ 64 → (IntKind.i64.wrap (2 ^ (rd l2 x16_1).toNat)) = ji9 := fun hle_ => by have h_ := hji9z hle_; rw [Int.one_mul] at h_; exact h_
       have hji9y : (wrap64 (1 * 2 ^ min (rd l2 x16_1).toNat 64)) = ji9 := (i64_w _).symm.trans hji9_;have hji9x : (rd l2 x16_1) ≤ 64 → (wrap64 (1 * 2 ^ (rd l2 x16_1).toNat)) = ji9 := fun h_ => (i64_w _).symm.trans (hji9z h_)
       have H' := Aside0.mk H;clear H;have p572 : 0 ≤ (x16_1 : Int) := of_decide_eq_true (by first | (with_reducible assumption) | assumption);have q572 : x16_1 < (l2.length : Int) := of_decide_eq_true (by first | (with_reducible assumption) | assumption);obtain ⟨ad572, e572, hx572_0⟩ := Kd.at_int HR2.out x16_1 p572 q572;cases e572;replace hx572_0 := (HB.out.cell (World.block_lt_of_cell? w _ hx572_0)).trans hx572_0;replace p572 := eq_true p572;replace q572 := eq_true q572;go_wp2;go_roundg k1
       case measure => have := HK1.out; omega
       case rel => exact ⟨(Go.bits .or .i64 x9_1 (ji9)), (wrap64 (x16_1 + 1)), (by first | rfl | (simp; done) | (simp only [← hji9] <;> (first | rfl | simp)) | (simp [*]; done)), (by first | rfl | (simp; done) | (simp [*]; done)), H', ⟨by have := HK1.out; omega⟩, ⟨by repeat (first | (with_reducible first | exact HB.out | apply below_alloc | apply pw_below_drewN | apply below_drew1) | exact HB.out)⟩⟩
      ·rw [if_neg c8] at H;exact absurd H (by simp)
     ·rw [if_neg c7] at H;exact absurd H (by simp)
    ·rw [if_neg c6] at H;exact absurd H (by simp)
   ·rw [if_neg c5] at H;have c5b0 : decide (x16_1 < (l2.length : Int)) = false := decide_eq_false c5;clear c5;have H' := Aside0.mk H;clear H;go_wp2;go_loopg [27] k1 (fun kq v27 w' => ∃ (x27_2 : Int), v27 = .int .i64 x27_2 ∧ Aside0 (corrodyref06_may.l1 kq a3 x9_1 l1 (l1.length : Int) x27_2 = some r) ∧ Aside0 (kq ≤ k1) ∧ Aside0 (Below w.heap.size w w'))
    case atStart => exact ⟨(0), (by first | rfl | (simp; done) | (simp [*]; done)), H', ⟨Nat.le_refl _⟩, ⟨by repeat (first | (with_reducible first | exact HB.out | apply below_alloc | apply pw_below_drewN | apply below_drew1) | exact HB.out)⟩⟩
    case round =>
     clear H';try clear c1
     try clear c2
     try clear p2
     try clear c5
     try clear c5b0
     try clear p5
     try clear q5
     try clear hx5
     try clear c6
     try clear c6b0
     try clear p6
     try clear c7
     try clear c7b0
     try clear c8
     try clear c8b0
     try clear c8b1
     try clear hx572_0
     try clear p2
     try clear p572
     try clear q572
     obtain ⟨x27_2, rfl, HA, HK2, HB⟩ := hrel;cases gk with
     | zero => exact absurd HA.out (by simp [corrodyref06_may.l1])
     | succ k2 =>
      have H := HA.out;clear HA;simp only [corrodyref06_may.l1] at H;by_cases c10 : x27_2 < (l1.length : Int)
      ·rw [if_pos c10] at H;have c10b0 : decide (x27_2 < (l1.length : Int)) = true := decide_eq_true c10;clear c10;by_cases c11 : 0 ≤ x27_2
       ·rw [if_pos c11] at H;have c11b0 : decide (0 ≤ x27_2) = true := decide_eq_true c11;clear c11;by_cases c12 : x27_2 < (l1.length : Int)
        ·rw [if_pos c12] at H;have c12b0 : decide (x27_2 < (l1.length : Int)) = true := decide_eq_true c12;clear c12;by_cases c13 : ((rd_T64 l1 x27_2).f1) = a3
         ·rw [if_pos c13] at H;have c13b0 : (((rd_T64 l1 x27_2).f1) == a3) = true := beq_iff_eq.mpr c13;have c13b1 : (((rd_T64 l1 x27_2).f1) != a3) = false := bne_eq_false_iff_eq.mpr c13;clear c13;by_cases c14 : 0 ≤ ((rd_T64 l1 x27_2).f0)
          ·rw [if_pos c14] at H;have c14b0 := eq_true c14;have c14b1 : decide (0 ≤ ((rd_T64 l1 x27_2).f0)) = true := decide_eq_true c14;clear c14;obtain ⟨ji15, hji15⟩ : ∃ j_ : Int, (shr .i64 x9_1 ((rd_T64 l1 x27_2).f0)) = j_ := ⟨_, rfl⟩
           replace H : (if (Go.bits .and .i64 (ji15) 1) = 0 then (some false) else (corrodyref06_may.l1 k2 a3 x9_1 l1 (l1.length : Int) (wrap64 (x27_2 + 1)))) = some r := by first | (rw [hji15] at H; exact H) | (simp only [hji15] at H ⊢; exact H)
           have hji15_ : (x9_1 / 2 ^ min ((rd_T64 l1 x27_2).f0).toNat 64) = ji15 := hji15;have hji15z : ((rd_T64 l1 x27_2).f0) ≤ 64 → (x9_1 / 2 ^ ((rd_T64 l1 x27_2).f0).toNat) = ji15 := shr_small hji15
           by_cases c16 : (Go.bits .and .i64 (ji15) 1) = 0
           ·rw [if_pos c16] at H;have c16b0 : ((Go.bits .and .i64 (ji15) 1) == 0) = true := beq_iff_eq.mpr c16;have c16b1 : ((Go.bits .and .i64 (ji15) 1) != 0) = false := bne_eq_false_iff_eq.mpr c16;clear c16;obtain rfl := Option.some.inj H;have p573 : 0 ≤ (x27_2 : Int) := of_decide_eq_true (by first | (with_reducible assumption) | assumption);have q573 : x27_2 < (l1.length : Int) := of_decide_eq_true (by first | (with_reducible assumption) | assumption);obtain ⟨ad573, e573, hx573_0, hx573_1⟩ := at_T64 HR1.out x27_2 p573 q573;cases e573;replace hx573_0 := (HB.out.cell (World.block_lt_of_cell? w _ hx573_0)).trans hx573_0;replace hx573_1 := (HB.out.cell (World.block_lt_of_cell? w _ hx573_1)).trans hx573_1;replace p573 := eq_true p573;replace q573 := eq_true q573;go_wp2_with (first | ((with_reducible refine gate_dst (N := 13) rfl ?_); refine box_event ?hg (N := 13) ?hd (cs := #[.int .i64 0, .int .i64 0]) (t := 64) ?hr ?_; (case hd => rfl); (case hg => rfl); (case hr => first | (go_simp; done) | (go_simp; rfl)); intro gb574 hg w17 hbox hb; have n0_ := Aside0.mk (below_step (by repeat (first | (with_reducible first | exact HB.out | apply below_alloc | apply pw_below_drewN | apply below_drew1) | exact HB.out)) hb); have n1_ := Aside0.mk (hbox); have n2_ := Aside0.mk ((by rw [hg]; exact (below_size (by repeat (first | (with_reducible first | exact HB.out | apply below_alloc | apply pw_below_drewN | apply below_drew1) | exact HB.out))) : w.heap.size ≤ gb574)); have n3_ := Aside0.mk ((by rw [hg]; exact (below_size (by repeat (first | (with_reducible first | exact HB.out | apply below_alloc | apply pw_below_drewN | apply below_drew1) | exact HB.out))) : w.heap.size ≤ gb574)); clear HB; have HB := n0_; have BK574 := n1_; have GW574 := n2_; have GE574 := n3_; clear n0_ n1_ n2_ n3_; clear hb hbox hg; have hcz18_0 : w17.cell? ⟨gb574, 0, none⟩ = some (.int .i64 0) := (blk_cell BK574.out 0).trans rfl; have hcz18_1 : w17.cell? ⟨gb574, 1, none⟩ = some (.int .i64 0) := (blk_cell BK574.out 1).trans rfl; have hfz18_0 := blk_frozen BK574.out 0; have hfz18_1 := blk_frozen BK574.out 1));go_ret;exact ⟨by first | rfl | (simp [errW_none, errW_some] <;> rfl) | (simp only [← hji15]; first | rfl | (simp [errW_none, errW_some] <;> rfl)) | (simp [*, errW_none, errW_some] <;> rfl), by repeat (first | (with_reducible first | exact HB.out | apply below_alloc | apply pw_below_drewN | apply below_drew1 | refine below_set ?_ GE574.out) | exact HB.out)⟩
           ·rw [if_neg c16] at H;have c16b0 : ((Go.bits .and .i64 (ji15) 1) == 0) = false := beq_eq_false_iff_ne.mpr c16;have c16b1 : ((Go.bits .and .i64 (ji15) 1) != 0) = true := bne_iff_ne.mpr c16;have H' := Aside0.mk H;clear H;have p573 : 0 ≤ (x27_2 : Int) := of_decide_eq_true (by first | (with_reducible assumption) | assumption);have q573 : x27_2 < (l1.length : Int) := of_decide_eq_true (by first | (with_reducible assumption) | assumption);obtain ⟨ad573, e573, hx573_0, hx573_1⟩ := at_T64 HR1.out x27_2 p573 q573;cases e573;replace hx573_0 := (HB.out.cell (World.block_lt_of_cell? w _ hx573_0)).trans hx573_0;replace hx573_1 := (HB.out.cell (World.block_lt_of_cell? w _ hx573_1)).trans hx573_1;replace p573 := eq_true p573;replace q573 := eq_true q573;go_wp2_with (first | ((with_reducible refine gate_dst (N := 13) rfl ?_); refine box_event ?hg (N := 13) ?hd (cs := #[.int .i64 0, .int .i64 0]) (t := 64) ?hr ?_; (case hd => rfl); (case hg => rfl); (case hr => first | (go_simp; done) | (go_simp; rfl)); intro gb574 hg w19 hbox hb; have n0_ := Aside0.mk (below_step (by repeat (first | (with_reducible first | exact HB.out | apply below_alloc | apply pw_below_drewN | apply below_drew1) | exact HB.out)) hb); have n1_ := Aside0.mk (hbox); have n2_ := Aside0.mk ((by rw [hg]; exact (below_size (by repeat (first | (with_reducible first | exact HB.out | apply below_alloc | apply pw_below_drewN | apply below_drew1) | exact HB.out))) : w.heap.size ≤ gb574)); have n3_ := Aside0.mk ((by rw [hg]; exact (below_size (by repeat (first | (with_reducible first | exact HB.out | apply below_alloc | apply pw_below_drewN | apply below_drew1) | exact HB.out))) : w.heap.size ≤ gb574)); clear HB; have HB := n0_; have BK574 := n1_; have GW574 := n2_; have GE574 := n3_; clear n0_ n1_ n2_ n3_; clear hb hbox hg; have hcz20_0 : w19.cell? ⟨gb574, 0, none⟩ = some (.int .i64 0) := (blk_cell BK574.out 0).trans rfl; have hcz20_1 : w19.cell? ⟨gb574, 1, none⟩ = some (.int .i64 0) := (blk_cell BK574.out 1).trans rfl; have hfz20_0 := blk_frozen BK574.out 0; have hfz20_1 := blk_frozen BK574.out 1));go_roundg k2
            case measure => have := HK1.out; have := HK2.out; omega
            case rel => exact ⟨(wrap64 (x27_2 + 1)), (by first | rfl | (simp; done) | (simp [*]; done)), H', ⟨by have := HK1.out; have := HK2.out; omega⟩, ⟨by repeat (first | (with_reducible first | exact HB.out | apply below_alloc | apply pw_below_drewN | apply below_drew1 | refine below_set ?_ GE574.out) | exact HB.out)⟩⟩
          ·rw [if_neg c14] at H;exact absurd H (by simp)
         ·rw [if_neg c13] at H;have c13b0 : (((rd_T64 l1 x27_2).f1) == a3) = false := beq_eq_false_iff_ne.mpr c13;have c13b1 : (((rd_T64 l1 x27_2).f1) != a3) = true := bne_iff_ne.mpr c13;have H' := Aside0.mk H;clear H;have p573 : 0 ≤ (x27_2 : Int) := of_decide_eq_true (by first | (with_reducible assumption) | assumption);have q573 : x27_2 < (l1.length : Int) := of_decide_eq_true (by first | (with_reducible assumption) | assumption);obtain ⟨ad573, e573, hx573_0, hx573_1⟩ := at_T64 HR1.out x27_2 p573 q573;cases e573;replace hx573_0 := (HB.out.cell (World.block_lt_of_cell? w _ hx573_0)).trans hx573_0;replace hx573_1 := (HB.out.cell (World.block_lt_of_cell? w _ hx573_1)).trans hx573_1;replace p573 := eq_true p573;replace q573 := eq_true q573;go_wp2_with (first | ((with_reducible refine gate_dst (N := 13) rfl ?_); refine box_event ?hg (N := 13) ?hd (cs := #[.int .i64 0, .int .i64 0]) (t := 64) ?hr ?_; (case hd => rfl); (case hg => rfl); (case hr => first | (go_simp; done) | (go_simp; rfl)); intro gb574 hg w21 hbox hb; have n0_ := Aside0.mk (below_step (by repeat (first | (with_reducible first | exact HB.out | apply below_alloc | apply pw_below_drewN | apply below_drew1) | exact HB.out)) hb); have n1_ := Aside0.mk (hbox); have n2_ := Aside0.mk ((by rw [hg]; exact (below_size (by repeat (first | (with_reducible first | exact HB.out | apply below_alloc | apply pw_below_drewN | apply below_drew1) | exact HB.out))) : w.heap.size ≤ gb574)); have n3_ := Aside0.mk ((by rw [hg]; exact (below_size (by repeat (first | (with_reducible first | exact HB.out | apply below_alloc | apply pw_below_drewN | apply below_drew1) | exact HB.out))) : w.heap.size ≤ gb574)); clear HB; have HB := n0_; have BK574 := n1_; have GW574 := n2_; have GE574 := n3_; clear n0_ n1_ n2_ n3_; clear hb hbox hg; have hcz22_0 : w21.cell? ⟨gb574, 0, none⟩ = some (.int .i64 0) := (blk_cell BK574.out 0).trans rfl; have hcz22_1 : w21.cell? ⟨gb574, 1, none⟩ = some (.int .i64 0) := (blk_cell BK574.out 1).trans rfl; have hfz22_0 := blk_frozen BK574.out 0; have hfz22_1 := blk_frozen BK574.out 1));go_roundg k2
          case measure => have := HK1.out; have := HK2.out; omega
          case rel => exact ⟨(wrap64 (x27_2 + 1)), (by first | rfl | (simp; done) | (simp [*]; done)), H', ⟨by have := HK1.out; have := HK2.out; omega⟩, ⟨by repeat (first | (with_reducible first | exact HB.out | apply below_alloc | apply pw_below_drewN | apply below_drew1 | refine below_set ?_ GE574.out) | exact HB.out)⟩⟩
        ·rw [if_neg c12] at H;exact absurd H (by simp)
       ·rw [if_neg c11] at H;exact absurd H (by simp)
      ·rw [if_neg c10] at H;have c10b0 : decide (x27_2 < (l1.length : Int)) = false := decide_eq_false c10;clear c10;by_cases c23 : 0 ≤ a3
       ·rw [if_pos c23] at H;have c23b0 := eq_true c23;have c23b1 : decide (0 ≤ a3) = true := decide_eq_true c23;clear c23;obtain ⟨ji24, hji24⟩ : ∃ j_ : Int, (shr .i64 x9_1 a3) = j_ := ⟨_, rfl⟩
        replace H : (some ((Go.bits .and .i64 (ji24) 1) == 0)) = some r := by first | (rw [hji24] at H; exact H) | (simp only [hji24] at H ⊢; exact H)
        have hji24_ : (x9_1 / 2 ^ min a3.toNat 64) = ji24 := hji24;have hji24z : a3 ≤ 64 → (x9_1 / 2 ^ a3.toNat) = ji24 := shr_small hji24
        obtain rfl := Option.some.inj H;go_wp2;go_ret;exact ⟨by first | rfl | (simp [errW_none, errW_some] <;> rfl) | (simp only [← hji24]; first | rfl | (simp [errW_none, errW_some] <;> rfl)) | (simp [*, errW_none, errW_some] <;> rfl), by repeat (first | (with_reducible first | exact HB.out | apply below_alloc | apply pw_below_drewN | apply below_drew1) | exact HB.out)⟩
       ·rw [if_neg c23] at H;exact absurd H (by simp)
end Go.Proofs.Ytaboleeclpllpaa.P


namespace Go.Proofs.Ytaboleeclpllpaa.P
open Go.RowKit Go.Proofs.YtaboleeclpllpaaW.PrintWords Go.Proofs.YtaboleeclpllpaaW.PrintLast Go.Proofs.YtaboleeclpllpaaW.PrintMore
attribute [local go_sem] max2_int min2_int max_two min_two max_three min_three max_four min_four
set_option linter.unusedVariables false
set_option linter.unusedSimpArgs false
def corrodyref06_least.scan (mayf : Int → Option Bool) (rec : List Int → Option (List Int) → Int → Option (Option (List Int) × Int)) (begun : List Int) : Nat → Nat → Option (List Int) → Int → Option (Option (List Int) × Int)
  | 0, _, b, x => some (b, x)
  | m + 1, i, b, x => (mayf (i : Int)).bind fun t => if t = true then (if begun.length < 1000 then (rec (begun ++ [(i : Int)]) b x).bind fun r => corrodyref06_least.scan mayf rec begun m (i + 1) r.1 r.2 else none) else corrodyref06_least.scan mayf rec begun m (i + 1) b x
def corrodyref06_least.f : Nat → List S43 → List S64 → List Int → Option (List Int) → Int → Option (Option (List Int) × Int)
  | 0, _, _, _, _, _ => none
  | k + 1, l, ps, begun, b, x => if begun.length = l.length then (corrodyref06_Worst.f k l begun).bind fun v => if v < x then (if 0 < begun.length ∧ begun.length < 1000 then some (some begun, v) else none) else some (b, x) else corrodyref06_least.scan (corrodyref06_may.f k l ps begun) (corrodyref06_least.f k l ps) begun l.length 0 b x
def corrodyref06_Least.f (k : Nat) (l : List S43) (ps : List S64) : Option (List Int × Int × Int) := (corrodyref06_least.f k l ps [] none 1073741824).bind fun r => match r.1 with
  | none => some ([], 0, 6)
  | some o => some (o, r.2, 0)
theorem corrodyref06_least.scan_le {m1 m2 : Int → Option Bool} {r1 r2 : List Int → Option (List Int) → Int → Option (Option (List Int) × Int)} (hm : ∀ i, LeO (m1 i) (m2 i)) (hr : ∀ a b c, LeO (r1 a b c) (r2 a b c)) (begun : List Int) : ∀ (m i : Nat) (b : Option (List Int)) (x : Int), LeO (corrodyref06_least.scan m1 r1 begun m i b x) (corrodyref06_least.scan m2 r2 begun m i b x)
  | 0, _, _, _ => LeO.refl _
  | m + 1, i, b, x => by
    have ih := corrodyref06_least.scan_le hm hr begun m
    unfold corrodyref06_least.scan
    exact LeO.bind (hm _) (fun t => LeO.ite (LeO.ite (LeO.bind (hr _ _ _) (fun r => ih _ _ _)) (LeO.refl _)) (ih _ _ _))
theorem corrodyref06_least.mono (l : List S43) (ps : List S64) : ∀ k a b c, LeO (corrodyref06_least.f k l ps a b c) (corrodyref06_least.f (k + 1) l ps a b c)
  | 0, _, _, _ => LeO.none _
  | k + 1, a, b, c => by
    rw [corrodyref06_least.f, corrodyref06_least.f]
    exact LeO.ite (LeO.bind (corrodyref06_Worst.mono _ _ _) (fun v => LeO.refl _)) (corrodyref06_least.scan_le (fun i => corrodyref06_may.mono _ _ _ _ _) (corrodyref06_least.mono l ps k) a _ _ _ _)
theorem corrodyref06_Least.mono : ∀ a0 a1 k, LeO (corrodyref06_Least.f k a0 a1) (corrodyref06_Least.f (k + 1) a0 a1) := by
 intro a0 a1 k;unfold corrodyref06_Least.f;exact LeO.bind (corrodyref06_least.mono _ _ _ _ _ _) (fun r => LeO.refl _)
def corrodyref06_least.Best (w : World) (base : Nat) (v : Value) : Option (List Int) → Prop
  | none => v = .slice none 0 0
  | some xs => 0 < xs.length ∧ Kd.R (Kd.int .i64) 3 w base (fun _ => True) v xs
theorem corrodyref06_least.best_below {w w1 : World} {base : Nat} {v : Value} {b : Option (List Int)} (h : corrodyref06_least.Best w base v b) (hb : Below w.heap.size w w1) : corrodyref06_least.Best w1 base v b := by
 cases b with
 | none => exact h
 | some xs => exact ⟨h.1, Kd.R_below h.2 hb⟩
theorem corrodyref06_least.cells {w : World} {A : Option Addr} {xs : List Int} (h : Kd.C (Kd.int .i64) w A xs.length xs) : ∀ b, A = some b → ∀ j u, (xs.map (Value.int .i64))[j]? = some u → w.cell? (b.add j) = some u := by
 intro b hA j u hj;have hlt : j < xs.length := by
  have := (List.getElem?_eq_some_iff.1 hj).1;simpa using this
 obtain ⟨ad, e1, hx⟩ := Kd.at_int h (j : Int) (by omega) (by omega);rw [hA] at e1;cases e1;rw [Int.toNat_natCast] at hx;rw [hx, ← hj];simp [rd, List.getD_eq_getElem?_getD, List.getElem?_eq_getElem hlt]
theorem corrodyref06_least.none_len {w : World} {A : Option Addr} {xs : List Int} (h : Kd.C (Kd.int .i64) w A xs.length xs) : A = none → xs.length = 0 ∧ xs.length = 0 := by
 intro hA;rcases Nat.eq_zero_or_pos xs.length with h0 | h0
 ·exact ⟨h0, h0⟩
 ·obtain ⟨ad, he, _⟩ := h.2.2 h0;rw [hA] at he;cases he
theorem corrodyref06_least.cut3 (A : Option Addr) (n c : Nat) (h : n ≤ c) (W : World) : (Instr.slice 41 (.slice A n c) none (some (.int .i64 n)) (some (.int .i64 n))).run Try.prog W = .ok (.slice A n n) W := by
 obtain ⟨i0, hi0, _, hsz, _⟩ := info_parts info3;have hel : Try.prog.elem 41 = 3 := by simp [Program.elem, Try.underlying41]
 have hu : Try.prog.underlying 41 = some (.slice (Try.prog.elem 41)) := by rw [hel]; exact Try.underlying41
 have ha : (A.map fun x => x.add 0) = A := by cases A <;> simp [Addr.add]
 rw [run_slice_hm W 41 A n c hu .i64 .i64 (n : Int) (n : Int) (by omega) (by omega) (by omega), hel];simp [sizeOf, typeInfo, hi0, sliced, Result.andThen, ha]
theorem corrodyref06_least.grown_below {w w1 : World} {x : Obj} (h : (w.alloc x).grownBy w1 none) : Below w.heap.size w w1 := by
 have h1 : Below w.heap.size w (w.alloc x) := (Below.refl _ _).alloc (Nat.le_refl _) _;exact h1.grown h h1.size (fun j hj => by cases hj)
theorem corrodyref06_least.row_of {w : World} {base : Nat} {v : Value} {xs : List Int} {y : Int} (h : w.ownsRow base 3 1 v (xs.length + 1) (xs.map (Value.int .i64) ++ [.int .i64 y])) {ok : Nat → Prop} (hok : ∀ k, v.ownBlock = some k → ok k := by intros; trivial) : Kd.R (Kd.int .i64) 3 w base ok v (xs ++ [y]) := by
 refine Kd.R_of_own (enc := Value.int .i64) (h1 := fun _ => rfl) ?_ hok;rw [List.length_append, List.length_singleton];simpa [encs] using h
set_option maxHeartbeats 8000000 in
set_option maxRecDepth 100000 in
theorem corrodyref06_least.calls (l : List S43) (ps : List S64) (A0 A1 : Option Addr) (c0 c1 : Nat) (hl : l.length ≤ 9223372036854775807) : ∀ (k base : Nat) (begun : List Int) (A2 : Option Addr) (c2 : Nat) (b : Option (List Int)) (v3 : Value) (x : Int) (r : Option (List Int) × Int) (w : World), Kd.C k43 w A0 l.length l → l.length ≤ c0 → Kd.C k64 w A1 ps.length ps → ps.length ≤ c1 → Kd.C (Kd.int .i64) w A2 begun.length begun → begun.length ≤ c2 → corrodyref06_least.Best w base v3 b → base ≤ w.heap.size → corrodyref06_least.f k l ps begun b x = some r →
    Calls Try.prog 69 #[.slice A0 l.length c0, .slice A1 ps.length c1, .slice A2 begun.length c2, v3, .int .i64 x] w fun e w' => ∃ v : Value, e = .returned (.tuple #[v, .int .i64 r.2]) ∧ corrodyref06_least.Best w' base v r.1 ∧ Below w.heap.size w w' := by
 intro k;induction k with
 | zero =>
  intro base begun A2 c2 b v3 x r w _ _ _ _ _ _ _ _ h;exact absurd h (by simp [corrodyref06_least.f])
 | succ k ih =>
  intro base begun A2 c2 b v3 x r w hr0 hc0 hr1 hc1 hr2 hc2 hbest hbase h;have IH := Aside0.mk ih;have HR0 := Aside0.mk hr0;have HC0 := Aside0.mk hc0;have HR1 := Aside0.mk hr1;have HC1 := Aside0.mk hc1;have HR2 := Aside0.mk hr2;have HC2 := Aside0.mk hc2;have HBE := Aside0.mk hbest;have HBA := Aside0.mk hbase;have HB := Aside0.mk (Below.refl w.heap.size w);clear ih hr0 hc0 hr1 hc1 hr2 hc2 hbest hbase;rw [corrodyref06_least.f] at h;by_cases b1 : begun.length = l.length
  ·rw [if_pos b1] at h;have d1 : ((begun.length : Int) == (l.length : Int)) = true := by simp [b1]
   have d2 : (begun.length == l.length) = true := by simp [b1]
   clear b1;obtain ⟨v, hw, h⟩ := Option.bind_eq_some_iff.mp h;have HW := Aside0.mk hw;clear hw;by_cases b2 : v < x
   ·rw [if_pos b2] at h;have b2b : decide (v < x) = true := decide_eq_true b2;clear b2;by_cases b3 : 0 < begun.length ∧ begun.length < 1000
    ·rw [if_pos b3] at h;obtain rfl := Option.some.inj h;have H3 := Aside0.mk b3;clear b3 h;go_enter Try.func69, Try.ntmps69;go_wp2_with fail;refine (corrodyref06_Worst.calls k A0 c0 l A2 c2 begun v _ (Kd.C_below HR0.out HB.out) HC0.out (Kd.C_below HR2.out HB.out) HC2.out HW.out).mono ?_;rintro e w1 ⟨rfl, hb⟩;replace HB := Aside0.mk (below_step HB.out hb);clear hb;go_wp2_with (first | ((with_reducible refine gate_dst (N := 25) rfl ?_); refine Kd.R_lit (Kd.int .i64) _ 3 ?hg (N := 25) ?hd (xs := ([] : List Int)) (inner := []) (ok := fun _ => True) (okp := fun _ => True) ?hr ?hp (fun _ hk => hk) trivial (Below.refl _ _) (Nat.le_refl _) (by simp) ?_; (case hd => rfl); (case hg => rfl); (case hr => first | (go_simp; done) | (go_simp; rfl)); (case hp => exact (Reps.none _ _)); intro v102 w3 ho4 hb hg_ hnew_; clear hg_ hnew_; have HB3 := Aside0.mk (below_step HB.out hb); have HO3 := Aside0.mk (Kd.R_lower ho4 (below_size HB.out)); clear hb ho4) | ((with_reducible refine gate_builtin (b := .append) (xs := #[.tmp 25, .tmp 26]) rfl ?_); at_builtin; refine Kd.R_append_rows (Kd.int .i64) (w0 := w) w.heap.size rfl (.tmp 25) (.tmp 26) 41 3 (.int .i64 0) 8 rfl Try.underlying41 info3 rfl (by decide) (by omega) v102 [] begun _ _ _ (fun _ => True) (fun _ => False) rfl rfl ?aO ?aR (fun _ _ h => h) (fun _ h => h.elim) ?aF ?aB ?aS ?aL ?_; (case aR => exact (Kd.C_below HR2.out HB3.out)); (case aB => exact HB3.out); (case aF => exact (fun _ _ => trivial)); (case aO => exact HO3.out); (case aS => exact (below_size HB3.out)); (case aL => have := H3.out.2; simp only [List.length_nil]; omega); intro v105 w5 ho hb hg hat; rw [List.nil_append] at ho; have HB5 := Aside0.mk hb; have HO5 := Aside0.mk ho; clear ho hb hg hat));go_ret2;exact ⟨_, rfl, ⟨H3.out.1, Kd.R_lower HO5.out HBA.out⟩, HB5.out⟩
    ·rw [if_neg b3] at h;exact absurd h (by simp)
   ·rw [if_neg b2] at h;have b2b : decide (v < x) = false := decide_eq_false b2;clear b2;obtain rfl := Option.some.inj h;clear h;go_enter Try.func69, Try.ntmps69;go_wp2_with fail;refine (corrodyref06_Worst.calls k A0 c0 l A2 c2 begun v _ (Kd.C_below HR0.out HB.out) HC0.out (Kd.C_below HR2.out HB.out) HC2.out HW.out).mono ?_;rintro e w1 ⟨rfl, hb⟩;have HBE1 := Aside0.mk (corrodyref06_least.best_below HBE.out hb);replace HB := Aside0.mk (below_step HB.out hb);clear hb;go_wp2;go_ret2;exact ⟨_, rfl, HBE1.out, HB.out⟩
  ·rw [if_neg b1] at h;have d1 : ((begun.length : Int) == (l.length : Int)) = false := by simp; omega
   have d2 : (begun.length == l.length) = false := by simp [b1]
   clear b1;have H := Aside0.mk h;have HL := Aside0.mk hl;clear h;go_enter Try.func69, Try.ntmps69;go_wp2;go_loopg [3, 4, 33] l.length (fun kq v3 v4 v33 w' => ∃ (i : Nat) (b : Option (List Int)) (x : Int), v4 = .int .i64 x ∧ v33 = .int .i64 (i : Int) ∧ Aside0 (i + kq = l.length) ∧ Aside0 (corrodyref06_least.scan (corrodyref06_may.f k l ps begun) (corrodyref06_least.f k l ps) begun (l.length - i) i b x = some r) ∧ Aside0 (corrodyref06_least.Best w' base v3 b) ∧ Aside0 (Below w.heap.size w w'))
   case atStart => exact ⟨0, b, x, rfl, rfl, ⟨by omega⟩, H, HBE, HB⟩
   case round =>
    clear HB HBE H;obtain ⟨i, b, x, rfl, rfl, HK, HS, HBE, HB⟩ := hrel;by_cases hlt : i < l.length
    ·have e1 : decide ((i : Int) < (l.length : Int)) = true := decide_eq_true (by omega);have e2 : decide (i < l.length) = true := decide_eq_true hlt;have HIL : Aside0 (i < l.length) := ⟨hlt⟩;have h := HS.out;rw [show l.length - i = (l.length - (i + 1)) + 1 by omega, corrodyref06_least.scan] at h;obtain ⟨t, hm, h⟩ := Option.bind_eq_some_iff.mp h;have HM := Aside0.mk hm;clear hm HS hlt;obtain ⟨k1, rfl⟩ : ∃ k1, gk = k1 + 1 := ⟨gk - 1, by have := HK.out; have := HIL.out; omega⟩
     by_cases t1 : t = true
     ·rw [if_pos t1] at h;subst t1;by_cases t2 : begun.length < 1000
      ·rw [if_pos t2] at h;obtain ⟨r2, hr2, h⟩ := Option.bind_eq_some_iff.mp h;obtain ⟨bg, hbg⟩ : ∃ bg, bg = begun ++ [(i : Int)] := ⟨_, rfl⟩
       rw [← hbg] at hr2;have HBG := Aside0.mk hbg;have HR3 := Aside0.mk hr2;clear hbg;have HS3 := Aside0.mk h;have HT2 := Aside0.mk t2;have HT3 : Aside0 (begun.length + 1 ≤ maxLen ∧ (begun.length + 1) * 8 ≤ 140737488355328) := ⟨by unfold maxLen; omega⟩;clear h hr2 t2;have hcut := corrodyref06_least.cut3 A2 begun.length c2 HC2.out;obtain ⟨i0, hi0, hz0, hz1, hz2⟩ := info_parts info3;have HI0 := Aside0.mk hi0;have HZ0 := Aside0.mk hz0;have HZ1 := Aside0.mk hz1;have HZ2 := Aside0.mk hz2;clear hi0 hz0 hz1 hz2;go_wp2_with fail;refine (corrodyref06_may.calls k A0 c0 l A1 c1 ps A2 c2 begun (i : Int) true _ (Kd.C_below HR0.out HB.out) HC0.out (Kd.C_below HR1.out HB.out) HC1.out (Kd.C_below HR2.out HB.out) HC2.out HM.out).mono ?_;rintro e w1 ⟨rfl, hb⟩;replace HBE := Aside0.mk (corrodyref06_least.best_below HBE.out hb);replace HB := Aside0.mk (below_step HB.out hb);clear hb;go_wp2_with (first | ((with_reducible refine gate_builtin (b := .append) (xs := #[.tmp 49, .tmp 51]) rfl ?_); at_builtin; refine wpList_append_grows _ rfl (.tmp 49) (.tmp 51) 41 rfl 3 i0 (.int .i64 0) 1 8 Try.underlying41 HI0.out HZ0.out HZ1.out HZ2.out rfl (by decide) A2 begun.length begun.length (begun.map (Value.int .i64)) rfl (corrodyref06_least.none_len HR2.out) (by simp) (corrodyref06_least.cells (Kd.C_alloc (Kd.C_below HR2.out HB.out) _)) ⟨w1.heap.size, 0, none⟩ 1 1 [.int .i64 (i : Int)] rfl rfl (cell_one_new _ _ _) (fun u hu => by cases List.mem_singleton.1 hu; rfl) (Nat.lt_succ_self _) HT3.out.1 HT3.out.2 ?_; intro v52 w10 hown hgrow; have HB10 := Aside0.mk (corrodyref06_least.grown_below hgrow); have HR10 : Aside0 (Kd.R (Kd.int .i64) 3 w10 _ (fun _ => True) v52 bg) := ⟨by rw [HBG.out]; exact corrodyref06_least.row_of hown⟩; clear hown hgrow; obtain ⟨A9, c9, hv9⟩ := Kd.R_slice HR10.out; subst hv9));refine (IH.out base bg A9 c9 b _ x r2 _ (Kd.C_below HR0.out (below_step HB.out HB10.out)) HC0.out (Kd.C_below HR1.out (below_step HB.out HB10.out)) HC1.out (Kd.R_reads' HR10.out).2.2 (Kd.R_reads' HR10.out).2.1 (corrodyref06_least.best_below HBE.out HB10.out) (Nat.le_trans HBA.out (below_size (below_step HB.out HB10.out))) HR3.out).mono ?_;rintro e w11 ⟨v, rfl, hbe, hb⟩;have HBE11 := Aside0.mk hbe;have HB11 := Aside0.mk (below_step (below_step HB.out HB10.out) hb);clear hbe hb;go_wp2;go_roundg k1
       case measure => omega
       case rel => exact ⟨i + 1, r2.1, r2.2, rfl, (by congr 1; unfold wrap64; have := HL.out; have := HIL.out; omega), ⟨by have := HK.out; omega⟩, HS3, HBE11, HB11⟩
      ·rw [if_neg t2] at h;exact absurd h (by simp)
     ·rw [if_neg t1] at h;replace t1 := Bool.eq_false_iff.mpr t1;subst t1;have HS3 := Aside0.mk h;clear h;go_wp2_with fail;refine (corrodyref06_may.calls k A0 c0 l A1 c1 ps A2 c2 begun (i : Int) false _ (Kd.C_below HR0.out HB.out) HC0.out (Kd.C_below HR1.out HB.out) HC1.out (Kd.C_below HR2.out HB.out) HC2.out HM.out).mono ?_;rintro e w1 ⟨rfl, hb⟩;replace HBE := Aside0.mk (corrodyref06_least.best_below HBE.out hb);replace HB := Aside0.mk (below_step HB.out hb);clear hb;go_wp2;go_roundg k1
      case measure => omega
      case rel => exact ⟨i + 1, b, x, rfl, (by congr 1; unfold wrap64; have := HL.out; have := HIL.out; omega), ⟨by have := HK.out; omega⟩, HS3, HBE, HB⟩
    ·have e1 : decide ((i : Int) < (l.length : Int)) = false := decide_eq_false (by omega);have e2 : decide (i < l.length) = false := decide_eq_false hlt;have hr : r = (b, x) := by
      have h := HS.out;rw [show l.length - i = 0 by omega, corrodyref06_least.scan] at h;exact (Option.some.inj h).symm
     subst hr;clear hlt HS;go_wp2;go_ret2;exact ⟨_, rfl, HBE.out, HB.out⟩
set_option maxHeartbeats 8000000 in
set_option maxRecDepth 100000 in
theorem corrodyref06_Least.calls (k : Nat) (A0 : Option Addr) (c0 : Nat) (l0 : List (S43)) (A1 : Option Addr) (c1 : Nat) (l1 : List (S64)) (r1 : List Int) (r2 : Int) (r3 : Int) (w : World) (hr0 : Kd.C k43 w A0 l0.length l0) (hc0 : l0.length ≤ c0) (hr1 : Kd.C k64 w A1 l1.length l1) (hc1 : l1.length ≤ c1) (h : corrodyref06_Least.f k l0 l1 = some (r1, r2, r3)) :
    Calls Try.prog 43 #[.slice A0 l0.length c0, .slice A1 l1.length c1] w fun e w' => ∃ v0_ : Value, e = .returned (.tuple #[v0_, .int .i64 r2, .int .i64 r3]) ∧ Kd.R (Kd.int .i64) 3 w' w.heap.size (fun _ => True) v0_ r1 ∧ Below w.heap.size w w' := by
 unfold corrodyref06_Least.f at h;obtain ⟨⟨b, x⟩, hf, h⟩ := Option.bind_eq_some_iff.mp h;have HC := Aside0.mk (corrodyref06_least.calls l0 l1 A0 A1 c0 c1 hr0.2.1 k w.heap.size [] none 0 none (.slice none 0 0) 1073741824 (b, x) w hr0 hc0 hr1 hc1 (Kd.R_reads' (Kd.R_nil (Kd.int .i64) 3 w w.heap.size (fun _ => True))).2.2 (Nat.le_refl _) rfl (Nat.le_refl _) hf);clear hr0 hc0 hr1 hc1 hf;cases b with
 | none =>
  simp only [Option.some.injEq, Prod.mk.injEq] at h;obtain ⟨rfl, rfl, rfl⟩ := h;have hnil : ∀ W : World, (binOp .eql 41 (.slice none 0 0) (.slice none 0 0)).run Try.prog W = .ok (.bool true) W := fun W => Lib.run_eql_slice_nil W 41 3 none _ _ _ _ Try.underlying41
  go_enter Try.func43, Try.ntmps43;go_wp2_with fail;refine HC.out.mono ?_;rintro e w1 ⟨v, rfl, hbe, hb⟩;have HB := Aside0.mk hb;have hv : v = .slice none 0 0 := hbe;subst hv;clear hbe hb HC;go_wp2;go_ret3;exact ⟨_, rfl, Kd.R_nil _ _ _ _ _, HB.out⟩
 | some o =>
  simp only [Option.some.injEq, Prod.mk.injEq] at h;obtain ⟨rfl, rfl, rfl⟩ := h;go_enter Try.func43, Try.ntmps43;go_wp2_with fail;refine HC.out.mono ?_;rintro e w1 ⟨v, rfl, hbe, hb⟩;have HB := Aside0.mk hb;have HBE := Aside0.mk hbe;obtain ⟨g, cg, hv, _⟩ := Kd.R_form hbe.2 hbe.1;subst hv;have hnil : ∀ W : World, (binOp .eql 41 (.slice (some ⟨g, 0, none⟩) o.length cg) (.slice none 0 0)).run Try.prog W = .ok (.bool false) W := fun W => Lib.run_eql_slice_nil W 41 3 (some _) _ _ _ _ Try.underlying41
  clear hbe hb HC;go_wp2;go_ret3;exact ⟨_, rfl, HBE.out.2, HB.out⟩
end Go.Proofs.Ytaboleeclpllpaa.P


namespace Go.Proofs.Ytaboleeclpllpaa.P
open Go.RowKit Go.Proofs.YtaboleeclpllpaaW.PrintWords Go.Proofs.YtaboleeclpllpaaW.PrintLast Go.Proofs.YtaboleeclpllpaaW.PrintMore
attribute [local go_sem] max2_int min2_int max_two min_two max_three min_three max_four min_four
set_option linter.unusedVariables false
set_option linter.unusedSimpArgs false
def corrodyref06_Befores.l0 : Nat → List (S43) → List (S64) → List (S64) → Int → Int → Option (Bool)
  | 0, _, _, _, _, _ => none
  | k + 1, x0, x1, x7, x8, x9 => if x9 < x8 then (if 0 ≤ x9 then (if x9 < (x7.length : Int) then (if ((rd_T64 x7 x9).f0) < 0 then (some false) else (if ((rd_T64 x7 x9).f0) ≥ (x0.length : Int) then (some false) else (if ((rd_T64 x7 x9).f1) < 0 then (some false) else (if ((rd_T64 x7 x9).f1) ≥ (x0.length : Int) then (some false) else (corrodyref06_Befores.l0 k x0 x1 x7 x8 (wrap64 (x9 + 1))))))) else (none)) else (none)) else (some (decide ((x1.length : Int) ≤ 16)))
def corrodyref06_Befores.f (k : Nat) (l0 : List (S43)) (l1 : List (S64)) : Option (Bool) := corrodyref06_Befores.l0 k l0 l1 l1 (l1.length : Int) 0
theorem corrodyref06_Befores.mono_l : ∀ k, (∀ y0 y1 y2 y3 y4, LeO (corrodyref06_Befores.l0 k y0 y1 y2 y3 y4) (corrodyref06_Befores.l0 (k + 1) y0 y1 y2 y3 y4))
  | 0 => fun _ _ _ _ _ r h => by simp [corrodyref06_Befores.l0] at h
  | k + 1 => by
    have ih0 := corrodyref06_Befores.mono_l k
    · intro y0 y1 y2 y3 y4
      unfold corrodyref06_Befores.l0
      repeat' first
      | (with_reducible exact ih0 _ _ _ _ _)
      | (with_reducible exact LeO.refl _)
      | (with_reducible exact LeO.none _)
      | (with_reducible refine LeO.ite ?_ ?_)
      | (with_reducible refine LeO.bind ?_ (fun _ => ?_))
      | exact ih0 _ _ _ _ _
      | exact LeO.none _
      | refine LeO.ite ?_ ?_
      | refine LeO.bind ?_ (fun _ => ?_)
theorem corrodyref06_Befores.mono : ∀ a0 a1 k, LeO (corrodyref06_Befores.f k a0 a1) (corrodyref06_Befores.f (k + 1) a0 a1) := by
 intro a0 a1 k;have ih0 := corrodyref06_Befores.mono_l k;unfold corrodyref06_Befores.f;repeat' first
   | (with_reducible exact ih0 _ _ _ _ _)
   | (with_reducible exact LeO.refl _)
   | (with_reducible exact LeO.none _)
   | (with_reducible refine LeO.ite ?_ ?_)
   | (with_reducible refine LeO.bind ?_ (fun _ => ?_))
   | exact ih0 _ _ _ _ _
   | exact LeO.none _
   | refine LeO.ite ?_ ?_
   | refine LeO.bind ?_ (fun _ => ?_)
set_option maxHeartbeats 8000000 in
set_option maxRecDepth 100000 in
theorem corrodyref06_Befores.calls (k : Nat) (A0 : Option Addr) (c0 : Nat) (l0 : List (S43)) (A1 : Option Addr) (c1 : Nat) (l1 : List (S64)) (r : Bool) (w : World) (hr0 : Kd.C k43 w A0 l0.length l0) (hc0 : l0.length ≤ c0) (hr1 : Kd.C k64 w A1 l1.length l1) (hc1 : l1.length ≤ c1) (h : corrodyref06_Befores.f k l0 l1 = some r) :
    Calls Try.prog 42 #[.slice A0 l0.length c0, .slice A1 l1.length c1] w fun e w' => e = .returned (.bool r) ∧ Below w.heap.size w w' := by
 have hu64 := Try.underlying64;have HR0 := Aside0.mk hr0;have HC0 := Aside0.mk hc0;clear hr0 hc0;have HR1 := Aside0.mk hr1;have HC1 := Aside0.mk hc1;clear hr1 hc1;have HB := Aside0.mk (Below.refl w.heap.size w);have H : (corrodyref06_Befores.l0 k l0 l1 l1 (l1.length : Int) 0) = some r := h;clear h;have H' := Aside0.mk H;clear H;go_enter Try.func42, Try.ntmps42;go_wp2;go_loopg [9] k (fun kq v9 w' => ∃ (x9_1 : Int), v9 = .int .i64 x9_1 ∧ Aside0 (corrodyref06_Befores.l0 kq l0 l1 l1 (l1.length : Int) x9_1 = some r) ∧ Aside0 (kq ≤ k) ∧ Aside0 (Below w.heap.size w w'))
 case atStart => exact ⟨(0), (by first | rfl | (simp; done) | (simp [*]; done)), H', ⟨Nat.le_refl _⟩, ⟨by repeat (first | (with_reducible first | exact HB.out | apply below_alloc | apply pw_below_drewN | apply below_drew1) | exact HB.out)⟩⟩
 case round =>
  clear H';try clear c1
  try clear p2
  obtain ⟨x9_1, rfl, HA, HK1, HB⟩ := hrel;cases gk with
  | zero => exact absurd HA.out (by simp [corrodyref06_Befores.l0])
  | succ k1 =>
   have H := HA.out;clear HA;simp only [corrodyref06_Befores.l0] at H;by_cases c3 : x9_1 < (l1.length : Int)
   ·rw [if_pos c3] at H;have c3b0 : decide (x9_1 < (l1.length : Int)) = true := decide_eq_true c3;clear c3;by_cases c4 : 0 ≤ x9_1
    ·rw [if_pos c4] at H;have c4b0 : decide (0 ≤ x9_1) = true := decide_eq_true c4;clear c4;by_cases c5 : x9_1 < (l1.length : Int)
     ·rw [if_pos c5] at H;have c5b0 : decide (x9_1 < (l1.length : Int)) = true := decide_eq_true c5;clear c5;by_cases c6 : ((rd_T64 l1 x9_1).f0) < 0
      ·rw [if_pos c6] at H;have c6b0 : decide (((rd_T64 l1 x9_1).f0) < 0) = true := decide_eq_true c6;clear c6;obtain rfl := Option.some.inj H;have p565 : 0 ≤ (x9_1 : Int) := of_decide_eq_true (by first | (with_reducible assumption) | assumption);have q565 : x9_1 < (l1.length : Int) := of_decide_eq_true (by first | (with_reducible assumption) | assumption);obtain ⟨ad565, e565, hx565_0, hx565_1⟩ := at_T64 HR1.out x9_1 p565 q565;cases e565;replace hx565_0 := (HB.out.cell (World.block_lt_of_cell? w _ hx565_0)).trans hx565_0;replace hx565_1 := (HB.out.cell (World.block_lt_of_cell? w _ hx565_1)).trans hx565_1;replace p565 := eq_true p565;replace q565 := eq_true q565;go_wp2_with (first | ((with_reducible refine gate_dst (N := 6) rfl ?_); (try (refine gate_guard (by rfl) ?_; dsimp only)); refine box_event ?hg (N := 6) ?hd (cs := #[.int .i64 0, .int .i64 0]) (t := 64) ?hr ?_; (case hd => rfl); (case hg => rfl); (case hr => first | (go_simp; done) | (go_simp; rfl)); intro gb566 hg w7 hbox hb; have n0_ := Aside0.mk (below_step (by repeat (first | (with_reducible first | exact HB.out | apply below_alloc | apply pw_below_drewN | apply below_drew1) | exact HB.out)) hb); have n1_ := Aside0.mk (hbox); have n2_ := Aside0.mk ((by rw [hg]; exact (below_size (by repeat (first | (with_reducible first | exact HB.out | apply below_alloc | apply pw_below_drewN | apply below_drew1) | exact HB.out))) : w.heap.size ≤ gb566)); have n3_ := Aside0.mk ((by rw [hg]; exact (below_size (by repeat (first | (with_reducible first | exact HB.out | apply below_alloc | apply pw_below_drewN | apply below_drew1) | exact HB.out))) : w.heap.size ≤ gb566)); clear HB; have HB := n0_; have BK566 := n1_; have GW566 := n2_; have GE566 := n3_; clear n0_ n1_ n2_ n3_; clear hb hbox hg; have hcz8_0 : w7.cell? ⟨gb566, 0, none⟩ = some (.int .i64 0) := (blk_cell BK566.out 0).trans rfl; have hcz8_1 : w7.cell? ⟨gb566, 1, none⟩ = some (.int .i64 0) := (blk_cell BK566.out 1).trans rfl; have hfz8_0 := blk_frozen BK566.out 0; have hfz8_1 := blk_frozen BK566.out 1));go_ret;exact ⟨by first | rfl | (simp [errW_none, errW_some] <;> rfl) | (simp [*, errW_none, errW_some] <;> rfl), by repeat (first | (with_reducible first | exact HB.out | apply below_alloc | apply pw_below_drewN | apply below_drew1 | refine below_set ?_ GE566.out) | exact HB.out)⟩
      ·rw [if_neg c6] at H;have c6b0 : decide (((rd_T64 l1 x9_1).f0) < 0) = false := decide_eq_false c6;clear c6;by_cases c9 : ((rd_T64 l1 x9_1).f0) ≥ (l0.length : Int)
       ·rw [if_pos c9] at H;have c9b0 : decide ((l0.length : Int) ≤ ((rd_T64 l1 x9_1).f0)) = true := decide_eq_true c9;clear c9;obtain rfl := Option.some.inj H;have p565 : 0 ≤ (x9_1 : Int) := of_decide_eq_true (by first | (with_reducible assumption) | assumption);have q565 : x9_1 < (l1.length : Int) := of_decide_eq_true (by first | (with_reducible assumption) | assumption);obtain ⟨ad565, e565, hx565_0, hx565_1⟩ := at_T64 HR1.out x9_1 p565 q565;cases e565;replace hx565_0 := (HB.out.cell (World.block_lt_of_cell? w _ hx565_0)).trans hx565_0;replace hx565_1 := (HB.out.cell (World.block_lt_of_cell? w _ hx565_1)).trans hx565_1;replace p565 := eq_true p565;replace q565 := eq_true q565;go_wp2_with (first | ((with_reducible refine gate_dst (N := 6) rfl ?_); (try (refine gate_guard (by rfl) ?_; dsimp only)); refine box_event ?hg (N := 6) ?hd (cs := #[.int .i64 0, .int .i64 0]) (t := 64) ?hr ?_; (case hd => rfl); (case hg => rfl); (case hr => first | (go_simp; done) | (go_simp; rfl)); intro gb566 hg w10 hbox hb; have n0_ := Aside0.mk (below_step (by repeat (first | (with_reducible first | exact HB.out | apply below_alloc | apply pw_below_drewN | apply below_drew1) | exact HB.out)) hb); have n1_ := Aside0.mk (hbox); have n2_ := Aside0.mk ((by rw [hg]; exact (below_size (by repeat (first | (with_reducible first | exact HB.out | apply below_alloc | apply pw_below_drewN | apply below_drew1) | exact HB.out))) : w.heap.size ≤ gb566)); have n3_ := Aside0.mk ((by rw [hg]; exact (below_size (by repeat (first | (with_reducible first | exact HB.out | apply below_alloc | apply pw_below_drewN | apply below_drew1) | exact HB.out))) : w.heap.size ≤ gb566)); clear HB; have HB := n0_; have BK566 := n1_; have GW566 := n2_; have GE566 := n3_; clear n0_ n1_ n2_ n3_; clear hb hbox hg; have hcz11_0 : w10.cell? ⟨gb566, 0, none⟩ = some (.int .i64 0) := (blk_cell BK566.out 0).trans rfl; have hcz11_1 : w10.cell? ⟨gb566, 1, none⟩ = some (.int .i64 0) := (blk_cell BK566.out 1).trans rfl; have hfz11_0 := blk_frozen BK566.out 0; have hfz11_1 := blk_frozen BK566.out 1));go_ret;exact ⟨by first | rfl | (simp [errW_none, errW_some] <;> rfl) | (simp [*, errW_none, errW_some] <;> rfl), by repeat (first | (with_reducible first | exact HB.out | apply below_alloc | apply pw_below_drewN | apply below_drew1 | refine below_set ?_ GE566.out) | exact HB.out)⟩
       ·rw [if_neg c9] at H;have c9b0 : decide ((l0.length : Int) ≤ ((rd_T64 l1 x9_1).f0)) = false := decide_eq_false c9;clear c9;by_cases c12 : ((rd_T64 l1 x9_1).f1) < 0
        ·rw [if_pos c12] at H;have c12b0 : decide (((rd_T64 l1 x9_1).f1) < 0) = true := decide_eq_true c12;clear c12;obtain rfl := Option.some.inj H;have p565 : 0 ≤ (x9_1 : Int) := of_decide_eq_true (by first | (with_reducible assumption) | assumption);have q565 : x9_1 < (l1.length : Int) := of_decide_eq_true (by first | (with_reducible assumption) | assumption);obtain ⟨ad565, e565, hx565_0, hx565_1⟩ := at_T64 HR1.out x9_1 p565 q565;cases e565;replace hx565_0 := (HB.out.cell (World.block_lt_of_cell? w _ hx565_0)).trans hx565_0;replace hx565_1 := (HB.out.cell (World.block_lt_of_cell? w _ hx565_1)).trans hx565_1;replace p565 := eq_true p565;replace q565 := eq_true q565;go_wp2_with (first | ((with_reducible refine gate_dst (N := 6) rfl ?_); (try (refine gate_guard (by rfl) ?_; dsimp only)); refine box_event ?hg (N := 6) ?hd (cs := #[.int .i64 0, .int .i64 0]) (t := 64) ?hr ?_; (case hd => rfl); (case hg => rfl); (case hr => first | (go_simp; done) | (go_simp; rfl)); intro gb566 hg w13 hbox hb; have n0_ := Aside0.mk (below_step (by repeat (first | (with_reducible first | exact HB.out | apply below_alloc | apply pw_below_drewN | apply below_drew1) | exact HB.out)) hb); have n1_ := Aside0.mk (hbox); have n2_ := Aside0.mk ((by rw [hg]; exact (below_size (by repeat (first | (with_reducible first | exact HB.out | apply below_alloc | apply pw_below_drewN | apply below_drew1) | exact HB.out))) : w.heap.size ≤ gb566)); have n3_ := Aside0.mk ((by rw [hg]; exact (below_size (by repeat (first | (with_reducible first | exact HB.out | apply below_alloc | apply pw_below_drewN | apply below_drew1) | exact HB.out))) : w.heap.size ≤ gb566)); clear HB; have HB := n0_; have BK566 := n1_; have GW566 := n2_; have GE566 := n3_; clear n0_ n1_ n2_ n3_; clear hb hbox hg; have hcz14_0 : w13.cell? ⟨gb566, 0, none⟩ = some (.int .i64 0) := (blk_cell BK566.out 0).trans rfl; have hcz14_1 : w13.cell? ⟨gb566, 1, none⟩ = some (.int .i64 0) := (blk_cell BK566.out 1).trans rfl; have hfz14_0 := blk_frozen BK566.out 0; have hfz14_1 := blk_frozen BK566.out 1));go_ret;exact ⟨by first | rfl | (simp [errW_none, errW_some] <;> rfl) | (simp [*, errW_none, errW_some] <;> rfl), by repeat (first | (with_reducible first | exact HB.out | apply below_alloc | apply pw_below_drewN | apply below_drew1 | refine below_set ?_ GE566.out) | exact HB.out)⟩
        ·rw [if_neg c12] at H;have c12b0 : decide (((rd_T64 l1 x9_1).f1) < 0) = false := decide_eq_false c12;clear c12;by_cases c15 : ((rd_T64 l1 x9_1).f1) ≥ (l0.length : Int)
         ·rw [if_pos c15] at H;have c15b0 : decide ((l0.length : Int) ≤ ((rd_T64 l1 x9_1).f1)) = true := decide_eq_true c15;clear c15;obtain rfl := Option.some.inj H;have p565 : 0 ≤ (x9_1 : Int) := of_decide_eq_true (by first | (with_reducible assumption) | assumption);have q565 : x9_1 < (l1.length : Int) := of_decide_eq_true (by first | (with_reducible assumption) | assumption);obtain ⟨ad565, e565, hx565_0, hx565_1⟩ := at_T64 HR1.out x9_1 p565 q565;cases e565;replace hx565_0 := (HB.out.cell (World.block_lt_of_cell? w _ hx565_0)).trans hx565_0;replace hx565_1 := (HB.out.cell (World.block_lt_of_cell? w _ hx565_1)).trans hx565_1;replace p565 := eq_true p565;replace q565 := eq_true q565;go_wp2_with (first | ((with_reducible refine gate_dst (N := 6) rfl ?_); (try (refine gate_guard (by rfl) ?_; dsimp only)); refine box_event ?hg (N := 6) ?hd (cs := #[.int .i64 0, .int .i64 0]) (t := 64) ?hr ?_; (case hd => rfl); (case hg => rfl); (case hr => first | (go_simp; done) | (go_simp; rfl)); intro gb566 hg w16 hbox hb; have n0_ := Aside0.mk (below_step (by repeat (first | (with_reducible first | exact HB.out | apply below_alloc | apply pw_below_drewN | apply below_drew1) | exact HB.out)) hb); have n1_ := Aside0.mk (hbox); have n2_ := Aside0.mk ((by rw [hg]; exact (below_size (by repeat (first | (with_reducible first | exact HB.out | apply below_alloc | apply pw_below_drewN | apply below_drew1) | exact HB.out))) : w.heap.size ≤ gb566)); have n3_ := Aside0.mk ((by rw [hg]; exact (below_size (by repeat (first | (with_reducible first | exact HB.out | apply below_alloc | apply pw_below_drewN | apply below_drew1) | exact HB.out))) : w.heap.size ≤ gb566)); clear HB; have HB := n0_; have BK566 := n1_; have GW566 := n2_; have GE566 := n3_; clear n0_ n1_ n2_ n3_; clear hb hbox hg; have hcz17_0 : w16.cell? ⟨gb566, 0, none⟩ = some (.int .i64 0) := (blk_cell BK566.out 0).trans rfl; have hcz17_1 : w16.cell? ⟨gb566, 1, none⟩ = some (.int .i64 0) := (blk_cell BK566.out 1).trans rfl; have hfz17_0 := blk_frozen BK566.out 0; have hfz17_1 := blk_frozen BK566.out 1));go_ret;exact ⟨by first | rfl | (simp [errW_none, errW_some] <;> rfl) | (simp [*, errW_none, errW_some] <;> rfl), by repeat (first | (with_reducible first | exact HB.out | apply below_alloc | apply pw_below_drewN | apply below_drew1 | refine below_set ?_ GE566.out) | exact HB.out)⟩
         ·rw [if_neg c15] at H;have c15b0 : decide ((l0.length : Int) ≤ ((rd_T64 l1 x9_1).f1)) = false := decide_eq_false c15;clear c15;have H' := Aside0.mk H;clear H;have p565 : 0 ≤ (x9_1 : Int) := of_decide_eq_true (by first | (with_reducible assumption) | assumption);have q565 : x9_1 < (l1.length : Int) := of_decide_eq_true (by first | (with_reducible assumption) | assumption);obtain ⟨ad565, e565, hx565_0, hx565_1⟩ := at_T64 HR1.out x9_1 p565 q565;cases e565;replace hx565_0 := (HB.out.cell (World.block_lt_of_cell? w _ hx565_0)).trans hx565_0;replace hx565_1 := (HB.out.cell (World.block_lt_of_cell? w _ hx565_1)).trans hx565_1;replace p565 := eq_true p565;replace q565 := eq_true q565;go_wp2_with (first | ((with_reducible refine gate_dst (N := 6) rfl ?_); (try (refine gate_guard (by rfl) ?_; dsimp only)); refine box_event ?hg (N := 6) ?hd (cs := #[.int .i64 0, .int .i64 0]) (t := 64) ?hr ?_; (case hd => rfl); (case hg => rfl); (case hr => first | (go_simp; done) | (go_simp; rfl)); intro gb566 hg w18 hbox hb; have n0_ := Aside0.mk (below_step (by repeat (first | (with_reducible first | exact HB.out | apply below_alloc | apply pw_below_drewN | apply below_drew1) | exact HB.out)) hb); have n1_ := Aside0.mk (hbox); have n2_ := Aside0.mk ((by rw [hg]; exact (below_size (by repeat (first | (with_reducible first | exact HB.out | apply below_alloc | apply pw_below_drewN | apply below_drew1) | exact HB.out))) : w.heap.size ≤ gb566)); have n3_ := Aside0.mk ((by rw [hg]; exact (below_size (by repeat (first | (with_reducible first | exact HB.out | apply below_alloc | apply pw_below_drewN | apply below_drew1) | exact HB.out))) : w.heap.size ≤ gb566)); clear HB; have HB := n0_; have BK566 := n1_; have GW566 := n2_; have GE566 := n3_; clear n0_ n1_ n2_ n3_; clear hb hbox hg; have hcz19_0 : w18.cell? ⟨gb566, 0, none⟩ = some (.int .i64 0) := (blk_cell BK566.out 0).trans rfl; have hcz19_1 : w18.cell? ⟨gb566, 1, none⟩ = some (.int .i64 0) := (blk_cell BK566.out 1).trans rfl; have hfz19_0 := blk_frozen BK566.out 0; have hfz19_1 := blk_frozen BK566.out 1));go_roundg k1
          case measure => have := HK1.out; omega
          case rel => exact ⟨(wrap64 (x9_1 + 1)), (by first | rfl | (simp; done) | (simp [*]; done)), H', ⟨by have := HK1.out; omega⟩, ⟨by repeat (first | (with_reducible first | exact HB.out | apply below_alloc | apply pw_below_drewN | apply below_drew1 | refine below_set ?_ GE566.out) | exact HB.out)⟩⟩
     ·rw [if_neg c5] at H;exact absurd H (by simp)
    ·rw [if_neg c4] at H;exact absurd H (by simp)
   ·rw [if_neg c3] at H;have c3b0 : decide (x9_1 < (l1.length : Int)) = false := decide_eq_false c3;clear c3;obtain rfl := Option.some.inj H;go_wp2;go_ret;exact ⟨by first | rfl | (simp [errW_none, errW_some] <;> rfl) | (simp [*, errW_none, errW_some] <;> rfl), by repeat (first | (with_reducible first | exact HB.out | apply below_alloc | apply pw_below_drewN | apply below_drew1) | exact HB.out)⟩
end Go.Proofs.Ytaboleeclpllpaa.P


namespace Go.Proofs.Ytaboleeclpllpaa.P
open Go.RowKit Go.Proofs.YtaboleeclpllpaaW.PrintWords Go.Proofs.YtaboleeclpllpaaW.PrintLast Go.Proofs.YtaboleeclpllpaaW.PrintMore
attribute [local go_sem] max2_int min2_int max_two min_two max_three min_three max_four min_four
set_option linter.unusedVariables false
set_option linter.unusedSimpArgs false
def corrodylaw06_DatesLeast.j0 : Nat → List (S43) → List (S64) → List Int → Int → Int → Bool → Option (Bool)
  | 0, _, _, _, _, _, _ => none
  | k + 1, x0, x1, x5, x6, x7, x28 => if x28 = true then (if (x5.length : Int) = 0 then (if x6 = 0 then (if x7 = 2 then ((corrodylaw06_awake.f k).bind fun t588 => (some t588)) else (some false)) else (some false)) else (some false)) else ((corrodyref06_Least.f k x0 x1).bind fun bt589 => ((slices_Equal_int_int.f k x5 bt589.1).bind fun t594 => (if t594 = true then (if x6 = bt589.2.1 then (if x7 = bt589.2.2 then ((corrodylaw06_awake.f k).bind fun t595 => (some t595)) else (some false)) else (some false)) else (some false))))
def corrodylaw06_DatesLeast.f (k : Nat) (l0 : List (S43)) (l1 : List (S64)) : Option (Bool) := (corrodylaw06_Of.f k l0).bind fun t575 => ((corrodylaw06_pairs.f l1).bind fun t578 => ((dates_Least.f k t575 t578).bind fun bt581 => ((corrodyref06_Valid.f k l0).bind fun t586 => (if t586 = true then ((corrodyref06_Befores.f k l0 l1).bind fun t587 => (corrodylaw06_DatesLeast.j0 k l0 l1 bt581.1 bt581.2.1 bt581.2.2 (!t587))) else (corrodylaw06_DatesLeast.j0 k l0 l1 bt581.1 bt581.2.1 bt581.2.2 true)))))
theorem corrodylaw06_DatesLeast.mono_l : ∀ k, (∀ y0 y1 y2 y3 y4 y5, LeO (corrodylaw06_DatesLeast.j0 k y0 y1 y2 y3 y4 y5) (corrodylaw06_DatesLeast.j0 (k + 1) y0 y1 y2 y3 y4 y5))
  | 0 => fun _ _ _ _ _ _ r h => by simp [corrodylaw06_DatesLeast.j0] at h
  | k + 1 => by
    have ih0 := corrodylaw06_DatesLeast.mono_l k
    · intro y0 y1 y2 y3 y4 y5
      unfold corrodylaw06_DatesLeast.j0
      repeat' first
      | (with_reducible exact ih0 _ _ _ _ _ _)
      | (with_reducible exact corrodylaw06_Of.mono _ _)
      | (with_reducible exact corrodylaw06_awake.mono _)
      | (with_reducible exact corrodyref06_Befores.mono _ _ _)
      | (with_reducible exact corrodyref06_Least.mono _ _ _)
      | (with_reducible exact corrodyref06_Valid.mono _ _)
      | (with_reducible exact dates_Least.mono _ _ _)
      | (with_reducible exact slices_Equal_int_int.mono _ _ _)
      | (with_reducible exact LeO.refl _)
      | (with_reducible exact LeO.none _)
      | (with_reducible refine LeO.ite ?_ ?_)
      | (with_reducible refine LeO.bind ?_ (fun _ => ?_))
      | exact ih0 _ _ _ _ _ _
      | exact corrodylaw06_Of.mono _ _
      | exact corrodylaw06_awake.mono _
      | exact corrodyref06_Befores.mono _ _ _
      | exact corrodyref06_Least.mono _ _ _
      | exact corrodyref06_Valid.mono _ _
      | exact dates_Least.mono _ _ _
      | exact slices_Equal_int_int.mono _ _ _
      | exact LeO.none _
      | refine LeO.ite ?_ ?_
      | refine LeO.bind ?_ (fun _ => ?_)
theorem corrodylaw06_DatesLeast.mono : ∀ a0 a1 k, LeO (corrodylaw06_DatesLeast.f k a0 a1) (corrodylaw06_DatesLeast.f (k + 1) a0 a1) := by
 intro a0 a1 k;have ih0 := corrodylaw06_DatesLeast.mono_l k;unfold corrodylaw06_DatesLeast.f;repeat' first
   | (with_reducible exact ih0 _ _ _ _ _ _)
   | (with_reducible exact corrodylaw06_Of.mono _ _)
   | (with_reducible exact corrodylaw06_awake.mono _)
   | (with_reducible exact corrodyref06_Befores.mono _ _ _)
   | (with_reducible exact corrodyref06_Least.mono _ _ _)
   | (with_reducible exact corrodyref06_Valid.mono _ _)
   | (with_reducible exact dates_Least.mono _ _ _)
   | (with_reducible exact slices_Equal_int_int.mono _ _ _)
   | (with_reducible exact LeO.refl _)
   | (with_reducible exact LeO.none _)
   | (with_reducible refine LeO.ite ?_ ?_)
   | (with_reducible refine LeO.bind ?_ (fun _ => ?_))
   | exact ih0 _ _ _ _ _ _
   | exact corrodylaw06_Of.mono _ _
   | exact corrodylaw06_awake.mono _
   | exact corrodyref06_Befores.mono _ _ _
   | exact corrodyref06_Least.mono _ _ _
   | exact corrodyref06_Valid.mono _ _
   | exact dates_Least.mono _ _ _
   | exact slices_Equal_int_int.mono _ _ _
   | exact LeO.none _
   | refine LeO.ite ?_ ?_
   | refine LeO.bind ?_ (fun _ => ?_)
set_option maxHeartbeats 8000000 in
set_option maxRecDepth 100000 in
theorem corrodylaw06_DatesLeast.calls (k : Nat) (A0 : Option Addr) (c0 : Nat) (l0 : List (S43)) (A1 : Option Addr) (c1 : Nat) (l1 : List (S64)) (r : Bool) (w : World) (hr0 : Kd.C k43 w A0 l0.length l0) (hc0 : l0.length ≤ c0) (hr1 : Kd.C k64 w A1 l1.length l1) (hc1 : l1.length ≤ c1) (h : corrodylaw06_DatesLeast.f k l0 l1 = some r) (hr : r = true) :
    Calls Try.prog 11 #[.slice A0 l0.length c0, .slice A1 l1.length c1] w fun e w' => e = .returned (.bool r) ∧ Below w.heap.size w w' := by
 have HR0 := Aside0.mk hr0;have HC0 := Aside0.mk hc0;clear hr0 hc0;have HR1 := Aside0.mk hr1;have HC1 := Aside0.mk hc1;clear hr1 hc1;have HB := Aside0.mk (Below.refl w.heap.size w);have H : ((corrodylaw06_Of.f k l0).bind fun t575 => ((corrodylaw06_pairs.f l1).bind fun t578 => ((dates_Least.f k t575 t578).bind fun bt581 => ((corrodyref06_Valid.f k l0).bind fun t586 => (if t586 = true then ((corrodyref06_Befores.f k l0 l1).bind fun t587 => (corrodylaw06_DatesLeast.j0 k l0 l1 bt581.1 bt581.2.1 bt581.2.2 (!t587))) else (corrodylaw06_DatesLeast.j0 k l0 l1 bt581.1 bt581.2.1 bt581.2.2 true)))))) = some r := h;clear h;replace H := Option.bind_eq_some_iff.mp H;obtain ⟨t575, A30, H⟩ := H;replace H : ((corrodylaw06_pairs.f l1).bind fun t578 => ((dates_Least.f k t575 t578).bind fun bt581 => ((corrodyref06_Valid.f k l0).bind fun t586 => (if t586 = true then ((corrodyref06_Befores.f k l0 l1).bind fun t587 => (corrodylaw06_DatesLeast.j0 k l0 l1 bt581.1 bt581.2.1 bt581.2.2 (!t587))) else (corrodylaw06_DatesLeast.j0 k l0 l1 bt581.1 bt581.2.1 bt581.2.2 true))))) = some r := H;have A3 := Aside0.mk A30;clear A30;replace H := Option.bind_eq_some_iff.mp H;obtain ⟨t578, A40, H⟩ := H;replace H : ((dates_Least.f k t575 t578).bind fun bt581 => ((corrodyref06_Valid.f k l0).bind fun t586 => (if t586 = true then ((corrodyref06_Befores.f k l0 l1).bind fun t587 => (corrodylaw06_DatesLeast.j0 k l0 l1 bt581.1 bt581.2.1 bt581.2.2 (!t587))) else (corrodylaw06_DatesLeast.j0 k l0 l1 bt581.1 bt581.2.1 bt581.2.2 true)))) = some r := H;have A4 := Aside0.mk A40;clear A40;replace H := Option.bind_eq_some_iff.mp H;obtain ⟨⟨t581, t582, t583⟩, A50, H⟩ := H;replace H : ((corrodyref06_Valid.f k l0).bind fun t586 => (if t586 = true then ((corrodyref06_Befores.f k l0 l1).bind fun t587 => (corrodylaw06_DatesLeast.j0 k l0 l1 t581 t582 t583 (!t587))) else (corrodylaw06_DatesLeast.j0 k l0 l1 t581 t582 t583 true))) = some r := H;have A5 := Aside0.mk A50;clear A50;have HC6 := Aside0.mk H;clear H;go_enter Try.func11, Try.ntmps11;go_upto_region 2 with (first | ((with_reducible refine gate_callee (f := 18) rfl ?_); refine goesL_ (some 13) rfl rfl Try.func18 (by kernel_rfl) rfl #[.slice A0 l0.length c0] rfl (by (try simp only [List.map_toArray, List.map_cons, List.map_nil]); first | done | rfl | (simp only [List.length_drop, List.length_take]; rfl)) ?_; (with_reducible refine (corrodylaw06_Of.calls k _ _ l0 t575 _ ?side1 ?side2 A3.out).mono ?_); (case side1 => repeat (first | exact HR0.out | (with_reducible refine Kd.C_alloc ?_ _) | (with_reducible refine Kd.C_drewN ?_ _) | (with_reducible refine Kd.C_drew ?_))); (case side2 => exact HC0.out); rintro e w7 ⟨v576, rfl, ho0, hb⟩; refine ⟨_, rfl, ?_⟩; have n0_ := Aside0.mk (Kd.R_lower ho0 (below_size (by repeat (first | (with_reducible first | exact HB.out | apply below_alloc | apply pw_below_drewN | apply below_drew1) | exact HB.out)))); have n1_ := Aside0.mk (below_step (by repeat (first | (with_reducible first | exact HB.out | apply below_alloc | apply pw_below_drewN | apply below_drew1) | exact HB.out)) hb); clear HB; have HO577 := n0_; have HB := n1_; clear n0_ n1_; (try clear hb); (try clear hb2); (try clear hk); (try clear hi); (try clear ho0)) | ((with_reducible refine gate_callee (f := 41) rfl ?_); refine goesL_ (some 15) rfl rfl Try.func41 (by kernel_rfl) rfl #[.slice A1 l1.length c1] rfl (by (try simp only [List.map_toArray, List.map_cons, List.map_nil]); first | done | rfl | (simp only [List.length_drop, List.length_take]; rfl)) ?_; (with_reducible refine (corrodylaw06_pairs.calls _ _ l1 t578 _ ?side1 ?side2 A4.out).mono ?_); (case side1 => repeat (first | exact (Kd.C_below HR1.out HB.out) | (with_reducible refine Kd.C_alloc ?_ _) | (with_reducible refine Kd.C_drewN ?_ _) | (with_reducible refine Kd.C_drew ?_))); (case side2 => exact HC1.out); rintro e w8 ⟨v579, rfl, ho0, hb⟩; refine ⟨_, rfl, ?_⟩; have n0_ := Aside0.mk (Kd.R_below (by (with_reducible repeat (first | apply Kd.R_alloc | apply Kd.R_drewN | apply Kd.R_drew)); exact HO577.out) hb); have n1_ := Aside0.mk (Kd.R_lower ho0 (below_size (by repeat (first | (with_reducible first | exact HB.out | apply below_alloc | apply pw_below_drewN | apply below_drew1) | exact HB.out)))); have n2_ := Aside0.mk (below_step (by repeat (first | (with_reducible first | exact HB.out | apply below_alloc | apply pw_below_drewN | apply below_drew1) | exact HB.out)) hb); clear HO577; clear HB; have HO577 := n0_; have HO580 := n1_; have HB := n2_; clear n0_ n1_ n2_; (try clear hb); (try clear hb2); (try clear hk); (try clear hi); (try clear ho0); obtain ⟨Ao9, co9, eo9⟩ := Kd.R_slice HO577.out; subst eo9; obtain ⟨Ao10, co10, eo10⟩ := Kd.R_slice HO580.out; subst eo10) | ((with_reducible refine gate_callee (f := 40) rfl ?_); refine goesL_ (some 16) rfl rfl Try.func40 (by kernel_rfl) rfl #[.slice Ao9 t575.length co9, .slice Ao10 t578.length co10] rfl (by (try simp only [List.map_toArray, List.map_cons, List.map_nil]); first | done | rfl | (simp only [List.length_drop, List.length_take]; rfl)) ?_; (with_reducible refine (dates_Least.calls k _ _ t575 _ _ t578 t581 t582 t583 _ ?side1 ?side2 ?side3 ?side4 A5.out).mono ?_); (case side1 => repeat (first | exact (Kd.R_reads' HO577.out).2.2 | (with_reducible refine Kd.C_alloc ?_ _) | (with_reducible refine Kd.C_drewN ?_ _) | (with_reducible refine Kd.C_drew ?_))); (case side2 => exact (Kd.R_reads' HO577.out).2.1); (case side3 => repeat (first | exact (Kd.R_reads' HO580.out).2.2 | (with_reducible refine Kd.C_alloc ?_ _) | (with_reducible refine Kd.C_drewN ?_ _) | (with_reducible refine Kd.C_drew ?_))); (case side4 => exact (Kd.R_reads' HO580.out).2.1); rintro e w11 ⟨v584, rfl, ho0, hb⟩; refine ⟨_, rfl, ?_⟩; have n0_ := Aside0.mk (Kd.R_below (by (with_reducible repeat (first | apply Kd.R_alloc | apply Kd.R_drewN | apply Kd.R_drew)); exact HO577.out) hb); have n1_ := Aside0.mk (Kd.R_below (by (with_reducible repeat (first | apply Kd.R_alloc | apply Kd.R_drewN | apply Kd.R_drew)); exact HO580.out) hb); have n2_ := Aside0.mk (Kd.R_lower ho0 (below_size (by repeat (first | (with_reducible first | exact HB.out | apply below_alloc | apply pw_below_drewN | apply below_drew1) | exact HB.out)))); have n3_ := Aside0.mk (below_step (by repeat (first | (with_reducible first | exact HB.out | apply below_alloc | apply pw_below_drewN | apply below_drew1) | exact HB.out)) hb); clear HO577; clear HO580; clear HB; have HO577 := n0_; have HO580 := n1_; have HO585 := n2_; have HB := n3_; clear n0_ n1_ n2_ n3_; (try clear hb); (try clear hb2); (try clear hk); (try clear hi); (try clear ho0)))
 (try simp only [Act.put, List.setIfInBounds_toArray, List.set_cons_zero, List.set_cons_succ]);go_cut [28] (fun v28 wc => ∃ (kq : Nat) (x28_5 : Bool), v28 = .bool x28_5 ∧ Aside0 (corrodylaw06_DatesLeast.j0 kq l0 l1 t581 t582 t583 x28_5 = some r) ∧ Aside0 (kq ≤ k) ∧ Aside0 (Kd.R (Kd.int .i64) 3 wc w.heap.size (fun _ => True) v584 t581) ∧ Aside0 (Below w.heap.size w wc))
 case first =>
  have H := HC6.out;clear HC6;replace H := Option.bind_eq_some_iff.mp H;obtain ⟨t586, A120, H⟩ := H;replace H : (if t586 = true then ((corrodyref06_Befores.f k l0 l1).bind fun t587 => (corrodylaw06_DatesLeast.j0 k l0 l1 t581 t582 t583 (!t587))) else (corrodylaw06_DatesLeast.j0 k l0 l1 t581 t582 t583 true)) = some r := H;have A12 := Aside0.mk A120;clear A120;by_cases c13 : t586 = true
  ·subst c13;have H1 : ((corrodyref06_Befores.f k l0 l1).bind fun t587 => (corrodylaw06_DatesLeast.j0 k l0 l1 t581 t582 t583 (!t587))) = some r := by rw [if_pos rfl] at H; exact H
   clear H;have H := H1;clear H1;replace H := Option.bind_eq_some_iff.mp H;obtain ⟨t587, A140, H⟩ := H;replace H : (corrodylaw06_DatesLeast.j0 k l0 l1 t581 t582 t583 (!t587)) = some r := H;have A14 := Aside0.mk A140;clear A140;have H' := Aside0.mk H;clear H;go_wp2_with (first | ((with_reducible refine gate_callee (f := 19) rfl ?_); refine goesL_ (some 21) rfl rfl Try.func19 (by kernel_rfl) rfl #[.slice A0 l0.length c0] rfl (by (try simp only [List.map_toArray, List.map_cons, List.map_nil]); first | done | rfl | (simp only [List.length_drop, List.length_take]; rfl)) ?_; (with_reducible refine (corrodyref06_Valid.calls k _ _ l0 true _ ?side1 ?side2 A12.out).mono ?_); (case side1 => repeat (first | exact (Kd.C_below HR0.out HB.out) | (with_reducible refine Kd.C_alloc ?_ _) | (with_reducible refine Kd.C_drewN ?_ _) | (with_reducible refine Kd.C_drew ?_))); (case side2 => exact HC0.out); rintro e w15 ⟨rfl, hb⟩; refine ⟨_, rfl, ?_⟩; have n0_ := Aside0.mk (Kd.R_below (by (with_reducible repeat (first | apply Kd.R_alloc | apply Kd.R_drewN | apply Kd.R_drew)); exact HO577.out) hb); have n1_ := Aside0.mk (Kd.R_below (by (with_reducible repeat (first | apply Kd.R_alloc | apply Kd.R_drewN | apply Kd.R_drew)); exact HO580.out) hb); have n2_ := Aside0.mk (Kd.R_below (by (with_reducible repeat (first | apply Kd.R_alloc | apply Kd.R_drewN | apply Kd.R_drew)); exact HO585.out) hb); have n3_ := Aside0.mk (below_step (by repeat (first | (with_reducible first | exact HB.out | apply below_alloc | apply pw_below_drewN | apply below_drew1) | exact HB.out)) hb); clear HO577; clear HO580; clear HO585; clear HB; have HO577 := n0_; have HO580 := n1_; have HO585 := n2_; have HB := n3_; clear n0_ n1_ n2_ n3_; (try clear hb); (try clear hb2); (try clear hk); (try clear hi)) | (go_at_call 42; (with_reducible refine (corrodyref06_Befores.calls k _ _ l0 _ _ l1 t587 _ ?side1 ?side2 ?side3 ?side4 A14.out).mono ?_); (case side1 => repeat (first | exact (Kd.C_below HR0.out HB.out) | (with_reducible refine Kd.C_alloc ?_ _) | (with_reducible refine Kd.C_drewN ?_ _) | (with_reducible refine Kd.C_drew ?_))); (case side2 => exact HC0.out); (case side3 => repeat (first | exact (Kd.C_below HR1.out HB.out) | (with_reducible refine Kd.C_alloc ?_ _) | (with_reducible refine Kd.C_drewN ?_ _) | (with_reducible refine Kd.C_drew ?_))); (case side4 => exact HC1.out); rintro e w16 ⟨rfl, hb⟩; have n0_ := Aside0.mk (Kd.R_below (by (with_reducible repeat (first | apply Kd.R_alloc | apply Kd.R_drewN | apply Kd.R_drew)); exact HO577.out) hb); have n1_ := Aside0.mk (Kd.R_below (by (with_reducible repeat (first | apply Kd.R_alloc | apply Kd.R_drewN | apply Kd.R_drew)); exact HO580.out) hb); have n2_ := Aside0.mk (Kd.R_below (by (with_reducible repeat (first | apply Kd.R_alloc | apply Kd.R_drewN | apply Kd.R_drew)); exact HO585.out) hb); have n3_ := Aside0.mk (below_step (by repeat (first | (with_reducible first | exact HB.out | apply below_alloc | apply pw_below_drewN | apply below_drew1) | exact HB.out)) hb); clear HO577; clear HO580; clear HO585; clear HB; have HO577 := n0_; have HO580 := n1_; have HO585 := n2_; have HB := n3_; clear n0_ n1_ n2_ n3_; (try clear hb); (try clear hb2); (try clear hk); (try clear hi)));go_meet
   case rel => exact ⟨_, (!t587), (by first | rfl | (simp; done) | (simp [*]; done)), H', ⟨by first | omega | exact Nat.le_refl _⟩, ⟨by (with_reducible repeat (first | apply Kd.R_alloc | apply Kd.R_drewN | apply Kd.R_drew)); exact HO585.out⟩, ⟨by repeat (first | (with_reducible first | exact HB.out | apply below_alloc | apply pw_below_drewN | apply below_drew1) | exact HB.out)⟩⟩
  ·replace c13 := Bool.eq_false_iff.mpr c13;subst c13;have H1 : (corrodylaw06_DatesLeast.j0 k l0 l1 t581 t582 t583 true) = some r := by rw [if_neg (show ¬ (false = true) by decide)] at H; exact H
   clear H;have H := H1;clear H1;have H' := Aside0.mk H;clear H;go_wp2_with (first | ((with_reducible refine gate_callee (f := 19) rfl ?_); refine goesL_ (some 21) rfl rfl Try.func19 (by kernel_rfl) rfl #[.slice A0 l0.length c0] rfl (by (try simp only [List.map_toArray, List.map_cons, List.map_nil]); first | done | rfl | (simp only [List.length_drop, List.length_take]; rfl)) ?_; (with_reducible refine (corrodyref06_Valid.calls k _ _ l0 false _ ?side1 ?side2 A12.out).mono ?_); (case side1 => repeat (first | exact (Kd.C_below HR0.out HB.out) | (with_reducible refine Kd.C_alloc ?_ _) | (with_reducible refine Kd.C_drewN ?_ _) | (with_reducible refine Kd.C_drew ?_))); (case side2 => exact HC0.out); rintro e w17 ⟨rfl, hb⟩; refine ⟨_, rfl, ?_⟩; have n0_ := Aside0.mk (Kd.R_below (by (with_reducible repeat (first | apply Kd.R_alloc | apply Kd.R_drewN | apply Kd.R_drew)); exact HO577.out) hb); have n1_ := Aside0.mk (Kd.R_below (by (with_reducible repeat (first | apply Kd.R_alloc | apply Kd.R_drewN | apply Kd.R_drew)); exact HO580.out) hb); have n2_ := Aside0.mk (Kd.R_below (by (with_reducible repeat (first | apply Kd.R_alloc | apply Kd.R_drewN | apply Kd.R_drew)); exact HO585.out) hb); have n3_ := Aside0.mk (below_step (by repeat (first | (with_reducible first | exact HB.out | apply below_alloc | apply pw_below_drewN | apply below_drew1) | exact HB.out)) hb); clear HO577; clear HO580; clear HO585; clear HB; have HO577 := n0_; have HO580 := n1_; have HO585 := n2_; have HB := n3_; clear n0_ n1_ n2_ n3_; (try clear hb); (try clear hb2); (try clear hk); (try clear hi)));go_meet
   case rel => exact ⟨_, (true), (by first | rfl | (simp; done) | (simp [*]; done)), H', ⟨by first | omega | exact Nat.le_refl _⟩, ⟨by (with_reducible repeat (first | apply Kd.R_alloc | apply Kd.R_drewN | apply Kd.R_drew)); exact HO585.out⟩, ⟨by repeat (first | (with_reducible first | exact HB.out | apply below_alloc | apply pw_below_drewN | apply below_drew1) | exact HB.out)⟩⟩
 case rest =>
  clear HC6;try clear c1
  try clear p2
  try clear c4
  try clear c11
  try clear c13
  obtain ⟨kq, x28_5, rfl, HA, HJ5, HO_5, HB⟩ := hcut;cases kq with
  | zero => exact absurd HA.out (by simp [corrodylaw06_DatesLeast.j0])
  | succ kj5 =>
   have H := HA.out;clear HA;simp only [corrodylaw06_DatesLeast.j0] at H;by_cases c18 : x28_5 = true
   ·subst c18;have H1 : (if (t581.length : Int) = 0 then (if t582 = 0 then (if t583 = 2 then ((corrodylaw06_awake.f kj5).bind fun t588 => (some t588)) else (some false)) else (some false)) else (some false)) = some r := by rw [if_pos rfl] at H; exact H
    clear H;have H := H1;clear H1;by_cases c19 : (t581.length : Int) = 0
    ·rw [if_pos c19] at H;have c19b0 : ((t581.length : Int) == 0) = true := beq_iff_eq.mpr c19;have c19b1 : ((t581.length : Int) != 0) = false := bne_eq_false_iff_eq.mpr c19;clear c19;by_cases c20 : t582 = 0
     ·rw [if_pos c20] at H;have c20b0 : (t582 == 0) = true := beq_iff_eq.mpr c20;have c20b1 : (t582 != 0) = false := bne_eq_false_iff_eq.mpr c20;clear c20;by_cases c21 : t583 = 2
      ·rw [if_pos c21] at H;have c21b0 : (t583 == 2) = true := beq_iff_eq.mpr c21;have c21b1 : (t583 != 2) = false := bne_eq_false_iff_eq.mpr c21;clear c21;replace H := Option.bind_eq_some_iff.mp H;obtain ⟨t588, A220, H⟩ := H;replace H : (some t588) = some r := H;have A22 := Aside0.mk A220;clear A220;obtain rfl := Option.some.inj H;obtain ⟨Ao23, co23, eo23⟩ := Kd.R_slice HO_5.out;subst eo23;go_wp2_with (first | (go_at_call 20; (with_reducible refine (corrodylaw06_awake.calls kj5  t588 _ A22.out).mono ?_); rintro e w24 ⟨rfl, hb⟩; have n0_ := Aside0.mk (Kd.R_below (by (with_reducible repeat (first | apply Kd.R_alloc | apply Kd.R_drewN | apply Kd.R_drew)); exact HO_5.out) hb); have n1_ := Aside0.mk (below_step (by repeat (first | (with_reducible first | exact HB.out | apply below_alloc | apply pw_below_drewN | apply below_drew1) | exact HB.out)) hb); clear HO_5; clear HB; have HO_5 := n0_; have HB := n1_; clear n0_ n1_; (try clear hb); (try clear hb2); (try clear hk); (try clear hi)));go_ret;exact ⟨by first | rfl | (simp [errW_none, errW_some] <;> rfl) | (simp [*, errW_none, errW_some] <;> rfl), by repeat (first | (with_reducible first | exact HB.out | apply below_alloc | apply pw_below_drewN | apply below_drew1) | exact HB.out)⟩
      ·rw [if_neg c21] at H;have c21b0 : (t583 == 2) = false := beq_eq_false_iff_ne.mpr c21;have c21b1 : (t583 != 2) = true := bne_iff_ne.mpr c21;exact Bool.noConfusion ((Option.some.inj H).trans hr)
     ·rw [if_neg c20] at H;have c20b0 : (t582 == 0) = false := beq_eq_false_iff_ne.mpr c20;have c20b1 : (t582 != 0) = true := bne_iff_ne.mpr c20;exact Bool.noConfusion ((Option.some.inj H).trans hr)
    ·rw [if_neg c19] at H;have c19b0 : ((t581.length : Int) == 0) = false := beq_eq_false_iff_ne.mpr c19;have c19b1 : ((t581.length : Int) != 0) = true := bne_iff_ne.mpr c19;have c19b2 : ¬ (t581 = []) := fun h_ => c19 (by rw [h_]; rfl)
     exact Bool.noConfusion ((Option.some.inj H).trans hr)
   ·replace c18 := Bool.eq_false_iff.mpr c18;subst c18;have H1 : ((corrodyref06_Least.f kj5 l0 l1).bind fun bt589 => ((slices_Equal_int_int.f kj5 t581 bt589.1).bind fun t594 => (if t594 = true then (if t582 = bt589.2.1 then (if t583 = bt589.2.2 then ((corrodylaw06_awake.f kj5).bind fun t595 => (some t595)) else (some false)) else (some false)) else (some false)))) = some r := by rw [if_neg (show ¬ (false = true) by decide)] at H; exact H
    clear H;have H := H1;clear H1;replace H := Option.bind_eq_some_iff.mp H;obtain ⟨⟨t589, t590, t591⟩, A280, H⟩ := H;replace H : ((slices_Equal_int_int.f kj5 t581 t589).bind fun t594 => (if t594 = true then (if t582 = t590 then (if t583 = t591 then ((corrodylaw06_awake.f kj5).bind fun t595 => (some t595)) else (some false)) else (some false)) else (some false))) = some r := H;have A28 := Aside0.mk A280;clear A280;replace H := Option.bind_eq_some_iff.mp H;obtain ⟨t594, A290, H⟩ := H;replace H : (if t594 = true then (if t582 = t590 then (if t583 = t591 then ((corrodylaw06_awake.f kj5).bind fun t595 => (some t595)) else (some false)) else (some false)) else (some false)) = some r := H;have A29 := Aside0.mk A290;clear A290;by_cases c30 : t594 = true
    ·subst c30;have H1 : (if t582 = t590 then (if t583 = t591 then ((corrodylaw06_awake.f kj5).bind fun t595 => (some t595)) else (some false)) else (some false)) = some r := by rw [if_pos rfl] at H; exact H
     clear H;have H := H1;clear H1;by_cases c31 : t582 = t590
     ·rw [if_pos c31] at H;have c31b0 : (t582 == t590) = true := beq_iff_eq.mpr c31;have c31b1 : (t582 != t590) = false := bne_eq_false_iff_eq.mpr c31;clear c31;by_cases c32 : t583 = t591
      ·rw [if_pos c32] at H;have c32b0 : (t583 == t591) = true := beq_iff_eq.mpr c32;have c32b1 : (t583 != t591) = false := bne_eq_false_iff_eq.mpr c32;clear c32;replace H := Option.bind_eq_some_iff.mp H;obtain ⟨t595, A330, H⟩ := H;replace H : (some t595) = some r := H;have A33 := Aside0.mk A330;clear A330;obtain rfl := Option.some.inj H;go_wp2_with (first | ((with_reducible refine gate_callee (f := 43) rfl ?_); refine goesL_ (some 46) rfl rfl Try.func43 (by kernel_rfl) rfl #[.slice A0 l0.length c0, .slice A1 l1.length c1] rfl (by (try simp only [List.map_toArray, List.map_cons, List.map_nil]); first | done | rfl | (simp only [List.length_drop, List.length_take]; rfl)) ?_; (with_reducible refine (corrodyref06_Least.calls kj5 _ _ l0 _ _ l1 t589 t590 t591 _ ?side1 ?side2 ?side3 ?side4 A28.out).mono ?_); (case side1 => repeat (first | exact (Kd.C_below HR0.out HB.out) | (with_reducible refine Kd.C_alloc ?_ _) | (with_reducible refine Kd.C_drewN ?_ _) | (with_reducible refine Kd.C_drew ?_))); (case side2 => exact HC0.out); (case side3 => repeat (first | exact (Kd.C_below HR1.out HB.out) | (with_reducible refine Kd.C_alloc ?_ _) | (with_reducible refine Kd.C_drewN ?_ _) | (with_reducible refine Kd.C_drew ?_))); (case side4 => exact HC1.out); rintro e w34 ⟨v592, rfl, ho0, hb⟩; refine ⟨_, rfl, ?_⟩; have n0_ := Aside0.mk (Kd.R_elder' (by (with_reducible repeat (first | apply Kd.R_alloc | apply Kd.R_drewN | apply Kd.R_drew)); exact HO_5.out) (Kd.R_base ho0) hb); have n1_ := Aside0.mk (Kd.R_lower (Kd.R_new' ho0 (Kd.R_lt (by (with_reducible repeat (first | apply Kd.R_alloc | apply Kd.R_drewN | apply Kd.R_drew)); exact HO_5.out))) (below_size (by repeat (first | (with_reducible first | exact HB.out | apply below_alloc | apply pw_below_drewN | apply below_drew1) | exact HB.out)))); have n2_ := Aside0.mk (below_step (by repeat (first | (with_reducible first | exact HB.out | apply below_alloc | apply pw_below_drewN | apply below_drew1) | exact HB.out)) hb); clear HO_5; clear HB; have HO_5 := n0_; have HO593 := n1_; have HB := n2_; clear n0_ n1_ n2_; (try clear hb); (try clear hb2); (try clear hk); (try clear hi); (try clear ho0); obtain ⟨Ao35, co35, eo35⟩ := Kd.R_slice HO_5.out; subst eo35; obtain ⟨Ao36, co36, eo36⟩ := Kd.R_slice HO593.out; subst eo36) | ((with_reducible refine gate_callee (f := 30) rfl ?_); refine goesL_ (some 52) rfl rfl Try.func30 (by kernel_rfl) rfl #[.slice Ao35 t581.length co35, .slice Ao36 t589.length co36] rfl (by (try simp only [List.map_toArray, List.map_cons, List.map_nil]); first | done | rfl | (simp only [List.length_drop, List.length_take]; rfl)) ?_; (with_reducible refine (slices_Equal_int_int.calls kj5 _ _ t581 _ _ t589 true _ ?side1 ?side2 ?side3 ?side4 A29.out).mono ?_); (case side1 => repeat (first | exact (Kd.R_reads' HO_5.out).2.2 | (with_reducible refine Kd.C_alloc ?_ _) | (with_reducible refine Kd.C_drewN ?_ _) | (with_reducible refine Kd.C_drew ?_))); (case side2 => exact (Kd.R_reads' HO_5.out).2.1); (case side3 => repeat (first | exact (Kd.R_reads' HO593.out).2.2 | (with_reducible refine Kd.C_alloc ?_ _) | (with_reducible refine Kd.C_drewN ?_ _) | (with_reducible refine Kd.C_drew ?_))); (case side4 => exact (Kd.R_reads' HO593.out).2.1); rintro e w' ⟨rfl, ⟨nd, rfl⟩⟩; refine ⟨_, rfl, ?_⟩) | (go_at_call 20; (with_reducible refine (corrodylaw06_awake.calls kj5  t595 _ A33.out).mono ?_); rintro e w37 ⟨rfl, hb⟩; have n0_ := Aside0.mk (Kd.R_below (by (with_reducible repeat (first | apply Kd.R_alloc | apply Kd.R_drewN | apply Kd.R_drew)); exact HO_5.out) hb); have n1_ := Aside0.mk (Kd.R_below (by (with_reducible repeat (first | apply Kd.R_alloc | apply Kd.R_drewN | apply Kd.R_drew)); exact HO593.out) hb); have n2_ := Aside0.mk (below_step (by repeat (first | (with_reducible first | exact HB.out | apply below_alloc | apply pw_below_drewN | apply below_drew1) | exact HB.out)) hb); clear HO_5; clear HO593; clear HB; have HO_5 := n0_; have HO593 := n1_; have HB := n2_; clear n0_ n1_ n2_; (try clear hb); (try clear hb2); (try clear hk); (try clear hi)))
       go_ret;exact ⟨by first | rfl | (simp [errW_none, errW_some] <;> rfl) | (simp [*, errW_none, errW_some] <;> rfl), by repeat (first | (with_reducible first | exact HB.out | apply below_alloc | apply pw_below_drewN | apply below_drew1) | exact HB.out)⟩
      ·rw [if_neg c32] at H;have c32b0 : (t583 == t591) = false := beq_eq_false_iff_ne.mpr c32;have c32b1 : (t583 != t591) = true := bne_iff_ne.mpr c32;exact Bool.noConfusion ((Option.some.inj H).trans hr)
     ·rw [if_neg c31] at H;have c31b0 : (t582 == t590) = false := beq_eq_false_iff_ne.mpr c31;have c31b1 : (t582 != t590) = true := bne_iff_ne.mpr c31;exact Bool.noConfusion ((Option.some.inj H).trans hr)
    ·replace c30 := Bool.eq_false_iff.mpr c30;subst c30;have H1 : (some false) = some r := by rw [if_neg (show ¬ (false = true) by decide)] at H; exact H
     clear H;have H := H1;clear H1;exact Bool.noConfusion ((Option.some.inj H).trans hr)
end Go.Proofs.Ytaboleeclpllpaa.P
