/-
Plain lemmas on what the functions compute, put together into one text.
Conditions: each lemma's own.
-/
import Derived.RowKit
import Derived.Deep.Slices
import Derived.OpenShut
import Derived.ChangeSlices
import Derived.Test.YtaboleeclpllpaaClaimProg1
import Derived.Test.YtaboleeclpllpaaClaimProg2
import Derived.Test.YtaboleeclpllpaaClaimProg3
import Derived.Test.YtaboleeclpllpaaClaimProg4
import Derived.Test.YtaboleeclpllpaaClaimProg5

namespace Go.Proofs.Ytaboleeclpllpaa.M
open Go.RowKit Go.Proofs.YtaboleeclpllpaaW.PrintWords Go.Proofs.YtaboleeclpllpaaW.PrintLast Go.Proofs.YtaboleeclpllpaaW.PrintMore Go.Proofs.Ytaboleeclpllpaa.P
set_option linter.unusedVariables false
set_option linter.unusedSimpArgs false
theorem w64 {x : Int} (h0 : -9223372036854775808 ≤ x) (h1 : x ≤ 9223372036854775807) : wrap64 x = x := by
  unfold wrap64
  omega
theorem w64s (i n : Nat) (h : i < n) (hn : n ≤ 9223372036854775807) : wrap64 ((i : Int) + 1) = ((i + 1 : Nat) : Int) := by
  rw [w64 (by omega) (by omega)]
  omega
def to48 (x : S43) : S48 := ⟨x.f0, x.f1, x.f2, x.f3⟩
theorem rd_nat (l : List Int) (i : Nat) (h : i < l.length) : rd l (i : Int) = l[i] := by simp [rd, List.getD_eq_getElem?_getD, List.getElem?_eq_getElem h]
theorem rd43 (l : List S43) (i : Nat) (h : i < l.length) : rd_T43 l (i : Int) = l[i] := by simp [rd_T43, List.getD_eq_getElem?_getD, List.getElem?_eq_getElem h]
theorem rd48 (l : List S48) (i : Nat) (h : i < l.length) : rd_T48 l (i : Int) = l[i] := by simp [rd_T48, List.getD_eq_getElem?_getD, List.getElem?_eq_getElem h]
theorem rd44 (l : List S44) (i : Nat) (h : i < l.length) : rd_T44 l (i : Int) = l[i] := by simp [rd_T44, List.getD_eq_getElem?_getD, List.getElem?_eq_getElem h]
def ok48 (x : S48) : Bool := decide (1 ≤ x.f0 ∧ x.f0 ≤ 20 ∧ 0 ≤ x.f1 ∧ x.f1 ≤ 100 ∧ 0 ≤ x.f2 ∧ x.f2 ≤ 200 ∧ 0 ≤ x.f3 ∧ x.f3 ≤ 20)
def valid48 (l : List S48) : Bool := decide (1 ≤ l.length ∧ l.length ≤ 8) && l.all ok48
theorem between_f (a b c : Int) : dates_between.f a b c = some (decide (b ≤ a ∧ a ≤ c)) := by
  unfold dates_between.f
  by_cases h : a ≥ b
  · rw [if_pos h]
    have : b ≤ a := h
    simp [this]
  · rw [if_neg h]
    have : ¬ b ≤ a := h
    simp [this]
theorem valid1_f (x : S48) : dates_jobs_valid_1.f x.f0 x.f1 x.f2 x.f3 = some (!ok48 x) := by
  unfold dates_jobs_valid_1.f
  simp only [between_f, Option.bind_some]
  by_cases h0 : 1 ≤ x.f0 ∧ x.f0 ≤ 20
  · by_cases h1 : 0 ≤ x.f1 ∧ x.f1 ≤ 100
    · by_cases h2 : 0 ≤ x.f2 ∧ x.f2 ≤ 200
      · by_cases h3 : 0 ≤ x.f3 ∧ x.f3 ≤ 20
        · have : ok48 x = true := by simp only [ok48, decide_eq_true_eq]; omega
          simp [h0, h1, h2, h3, this]
        · have : ok48 x = false := by simp only [ok48, decide_eq_false_iff_not]; omega
          rw [decide_eq_false h3]
          simp [h0, h1, h2, this]
      · have : ok48 x = false := by simp only [ok48, decide_eq_false_iff_not]; omega
        rw [decide_eq_false h2]
        simp [h0, h1, this]
    · have : ok48 x = false := by simp only [ok48, decide_eq_false_iff_not]; omega
      rw [decide_eq_false h1]
      simp [h0, this]
  · have : ok48 x = false := by simp only [ok48, decide_eq_false_iff_not]; omega
    rw [decide_eq_false h0]
    simp [this]
theorem index_loop (l : List S48) (hl : l.length ≤ 9223372036854775807) : ∀ (d i : Nat), i + d = l.length → ∃ r : Int, Ev (fun k => dates_Job_87.l0 k l (l.length : Int) (i : Int)) r ∧ (decide (r ≥ 0) = !(l.drop i).all ok48) := by
  intro d
  induction d with
  | zero =>
    intro i hi
    refine ⟨-1, Ev.step (f := fun _ => some (-1)) (fun k => ?_) (Ev.now _), ?_⟩
    · simp only [dates_Job_87.l0]
      rw [if_neg (by omega)]
    · rw [show i = l.length by omega, List.drop_length]
      rfl
  | succ d ih =>
    intro i hi
    have hlt : i < l.length := by omega
    rw [List.drop_eq_getElem_cons hlt, List.all_cons]
    cases hok : ok48 l[i] with
    | false =>
      refine ⟨i, Ev.step (f := fun _ => some (i : Int)) (fun k => ?_) (Ev.now _), ?_⟩
      · simp only [dates_Job_87.l0]
        rw [if_pos (by omega), if_pos (by omega), if_pos (by omega), rd48 l i hlt, valid1_f, hok]
        rfl
      · simp
    | true =>
      obtain ⟨r, hr, hr2⟩ := ih (i + 1) (by omega)
      refine ⟨r, Ev.step (fun k => ?_) hr, by simpa using hr2⟩
      simp only [dates_Job_87.l0]
      rw [if_pos (by omega), if_pos (by omega), if_pos (by omega), rd48 l i hlt, valid1_f, hok, w64s i l.length hlt hl]
      rfl
theorem valid_f (l : List S48) (hl : l.length ≤ 9223372036854775807) : Ev (fun k => dates_jobs_valid.f k l) (valid48 l) := by
  unfold dates_jobs_valid.f
  simp only [between_f, Option.bind_some]
  by_cases h : 1 ≤ l.length ∧ l.length ≤ 8
  · obtain ⟨r, hr, hr2⟩ := index_loop l hl l.length 0 (by omega)
    have hd : decide ((1 : Int) ≤ (l.length : Int) ∧ (l.length : Int) ≤ 8) = true := decide_eq_true (by omega)
    simp only [hd, if_true]
    have h1 : Ev (fun k => dates_Job_77.f k l) (!l.all ok48) := by
      unfold dates_Job_77.f dates_Job_87.f
      refine Ev.bind (a := r) hr ?_
      rw [hr2]
      exact Ev.now _
    refine Ev.bind h1 ?_
    have : valid48 l = l.all ok48 := by simp [valid48, h]
    rw [this, Bool.not_not]
    exact Ev.now _
  · have hd : decide ((1 : Int) ≤ (l.length : Int) ∧ (l.length : Int) ≤ 8) = false := decide_eq_false (by omega)
    simp only [hd]
    have : valid48 l = false := by simp [valid48, h]
    rw [this]
    exact Ev.now _
theorem refvalid_loop (l0 l : List S43) (hl : l.length ≤ 9223372036854775807) : ∀ (d i : Nat), i + d = l.length → Ev (fun k => corrodyref06_Valid.l0 k l0 l (l.length : Int) (i : Int)) ((((l.drop i).map to48).all ok48) && decide (1 ≤ l0.length ∧ l0.length ≤ 8)) := by
  intro d
  induction d with
  | zero =>
    intro i hi
    rw [show i = l.length by omega, List.drop_length]
    by_cases h1 : 1 ≤ l0.length
    · refine Ev.step (f := fun _ => some (decide ((l0.length : Int) ≤ 8))) (fun k => ?_) ?_
      · simp only [corrodyref06_Valid.l0]
        rw [if_neg (by omega), if_pos (by omega)]
      · have : decide ((l0.length : Int) ≤ 8) = (([].map to48).all ok48 && decide (1 ≤ l0.length ∧ l0.length ≤ 8)) := by
          simp [h1]
          omega
        rw [this]
        exact Ev.now _
    · refine Ev.step (f := fun _ => some false) (fun k => ?_) ?_
      · simp only [corrodyref06_Valid.l0]
        rw [if_neg (by omega), if_neg (by omega)]
      · simp [h1]
        exact Ev.now _
  | succ d ih =>
    intro i hi
    have hlt : i < l.length := by omega
    rw [List.drop_eq_getElem_cons hlt, List.map_cons, List.all_cons]
    have hb : ∀ k, corrodyref06_Valid.l0 (k + 1) l0 l (l.length : Int) (i : Int) = if ok48 (to48 l[i]) = true then corrodyref06_Valid.l0 k l0 l (l.length : Int) ((i + 1 : Nat) : Int) else some false := by
      intro k
      simp only [corrodyref06_Valid.l0]
      rw [if_pos (by omega), if_pos (by omega), if_pos (by omega), rd43 l i hlt, w64s i l.length hlt hl]
      have he : ∀ x : S43, ok48 (to48 x) = decide (1 ≤ x.f0 ∧ x.f0 ≤ 20 ∧ 0 ≤ x.f1 ∧ x.f1 ≤ 100 ∧ 0 ≤ x.f2 ∧ x.f2 ≤ 200 ∧ 0 ≤ x.f3 ∧ x.f3 ≤ 20) := fun _ => rfl
      rw [he]
      generalize l[i] = x
      by_cases h0 : x.f0 < 1
      · rw [if_pos h0, decide_eq_false (by omega)]; rfl
      by_cases h1 : x.f0 > 20
      · rw [if_neg h0, if_pos h1, decide_eq_false (by omega)]; rfl
      by_cases h2 : x.f1 < 0
      · rw [if_neg h0, if_neg h1, if_pos h2, decide_eq_false (by omega)]; rfl
      by_cases h3 : x.f1 > 100
      · rw [if_neg h0, if_neg h1, if_neg h2, if_pos h3, decide_eq_false (by omega)]; rfl
      by_cases h4 : x.f2 < 0
      · rw [if_neg h0, if_neg h1, if_neg h2, if_neg h3, if_pos h4, decide_eq_false (by omega)]; rfl
      by_cases h5 : x.f2 > 200
      · rw [if_neg h0, if_neg h1, if_neg h2, if_neg h3, if_neg h4, if_pos h5, decide_eq_false (by omega)]; rfl
      by_cases h6 : x.f3 < 0
      · rw [if_neg h0, if_neg h1, if_neg h2, if_neg h3, if_neg h4, if_neg h5, if_pos h6, decide_eq_false (by omega)]; rfl
      by_cases h7 : x.f3 > 20
      · rw [if_neg h0, if_neg h1, if_neg h2, if_neg h3, if_neg h4, if_neg h5, if_neg h6, if_pos h7, decide_eq_false (by omega)]; rfl
      rw [if_neg h0, if_neg h1, if_neg h2, if_neg h3, if_neg h4, if_neg h5, if_neg h6, if_neg h7, decide_eq_true (by omega)]; rfl
    cases hok : ok48 (to48 l[i]) with
    | false =>
      refine Ev.step (f := fun _ => some false) (fun k => ?_) (Ev.now _)
      rw [hb, hok]
      rfl
    | true =>
      refine Ev.step (fun k => ?_) (ih (i + 1) (by omega))
      rw [hb, hok]
      rfl
theorem refvalid_f (l : List S43) (hl : l.length ≤ 9223372036854775807) : Ev (fun k => corrodyref06_Valid.f k l) (valid48 (l.map to48)) := by
  have h := refvalid_loop l l hl l.length 0 (by omega)
  unfold corrodyref06_Valid.f
  have e : valid48 (l.map to48) = ((((l.drop 0).map to48).all ok48) && decide (1 ≤ l.length ∧ l.length ≤ 8)) := by
    simp only [valid48, List.length_map, List.drop_zero]
    rw [Bool.and_comm]
  rw [e]
  exact h
theorem Of_loop (l : List S43) (hl : l.length ≤ 9223372036854775807) : ∀ (d i : Nat) (acc : List S48), i + d = l.length → acc.length = min i 10 → Ev (fun k => corrodylaw06_Of.l0 k acc l (l.length : Int) (i : Int)) (acc ++ ((l.take 10).drop i).map to48) := by
  intro d
  induction d with
  | zero =>
    intro i acc hi ha
    rw [List.drop_eq_nil_of_le (by rw [List.length_take]; omega), List.map_nil, List.append_nil]
    refine Ev.step (f := fun _ => some acc) (fun k => ?_) (Ev.now _)
    simp only [corrodylaw06_Of.l0]
    rw [if_neg (by omega)]
  | succ d ih =>
    intro i acc hi ha
    have hlt : i < l.length := by omega
    by_cases h10 : i < 10
    · have hd : (l.take 10).drop i = l[i] :: (l.take 10).drop (i + 1) := by
        rw [List.drop_eq_getElem_cons (by rw [List.length_take]; omega)]
        simp
      have := ih (i + 1) (acc ++ [to48 l[i]]) (by omega) (by simp; omega)
      rw [hd, List.map_cons, show acc ++ to48 l[i] :: ((l.take 10).drop (i + 1)).map to48 = (acc ++ [to48 l[i]]) ++ ((l.take 10).drop (i + 1)).map to48 by simp]
      refine Ev.step (fun k => ?_) this
      simp only [corrodylaw06_Of.l0]
      rw [if_pos (by omega), if_pos (by omega), if_pos (by omega), if_pos (by omega), if_pos (by omega), rd43 l i hlt, w64s i l.length hlt hl]
      rfl
    · have := ih (i + 1) acc (by omega) (by omega)
      rw [List.drop_eq_nil_of_le (by rw [List.length_take]; omega)] at this ⊢
      refine Ev.step (fun k => ?_) this
      simp only [corrodylaw06_Of.l0]
      rw [if_pos (by omega), if_pos (by omega), if_pos (by omega), if_neg (by omega), w64s i l.length hlt hl]
theorem Of_f (l : List S43) (hl : l.length ≤ 9223372036854775807) : Ev (fun k => corrodylaw06_Of.f k l) ((l.take 10).map to48) := by
  have := Of_loop l hl l.length 0 [] (by omega) rfl
  rw [List.drop_zero, List.nil_append] at this
  exact this
theorem valid_of (l : List S43) : valid48 ((l.take 10).map to48) = valid48 (l.map to48) := by
  by_cases h : l.length ≤ 10
  · rw [List.take_of_length_le h]
  · simp only [valid48, List.length_map, List.length_take]
    rw [decide_eq_false (by omega), decide_eq_false (by omega)]
    rfl
theorem of_valid {l : List S43} (h : valid48 (l.map to48) = true) : (l.take 10).map to48 = l.map to48 := by
  have : l.length ≤ 8 := by
    simp only [valid48, Bool.and_eq_true, decide_eq_true_eq, List.length_map] at h
    exact h.1.2
  rw [List.take_of_length_le (by omega)]
end Go.Proofs.Ytaboleeclpllpaa.M


namespace Go.Proofs.Ytaboleeclpllpaa.M
open Go.RowKit Go.Proofs.YtaboleeclpllpaaW.PrintWords Go.Proofs.YtaboleeclpllpaaW.PrintLast Go.Proofs.YtaboleeclpllpaaW.PrintMore Go.Proofs.Ytaboleeclpllpaa.P
set_option linter.unusedVariables false
set_option linter.unusedSimpArgs false
abbrev Pc := S44
def total (l : List Int) : Int := l.foldr (· + ·) 0
theorem total_cons (x : Int) (l : List Int) : total (x :: l) = x + total l := rfl
theorem total_bound (l : List Int) (b : Int) (hb : 0 ≤ b) (h : ∀ x ∈ l, -b ≤ x ∧ x ≤ b) : -(b * (l.length : Int)) ≤ total l ∧ total l ≤ b * (l.length : Int) := by
  induction l with
  | nil => simp [total]
  | cons x l ih =>
    have hx := h x (by simp)
    have := ih (fun y hy => h y (by simp [hy]))
    rw [total_cons, List.length_cons]
    have e : b * ((l.length + 1 : Nat) : Int) = b * (l.length : Int) + b := by rw [Int.natCast_add]; simp [Int.mul_add]
    omega
theorem eq44_loop (l : List S44) (hl : l.length ≤ 9223372036854775807) : ∀ (d i : Nat), i + d = l.length → Ev (fun k => dates_Piece.l0 k l l (l.length : Int) (i : Int)) true := by
  intro d
  induction d with
  | zero =>
    intro i hi
    refine Ev.step (f := fun _ => some true) (fun k => ?_) (Ev.now _)
    simp only [dates_Piece.l0]
    rw [if_neg (by omega)]
  | succ d ih =>
    intro i hi
    have hlt : i < l.length := by omega
    refine Ev.step (fun k => ?_) (ih (i + 1) (by omega))
    simp only [dates_Piece.l0]
    rw [if_pos (by omega), if_pos (by omega), if_pos (by omega), if_pos (by omega), w64s i l.length hlt hl, if_neg (by simp)]
theorem eq44_f (l : List S44) (hl : l.length ≤ 9223372036854775807) : Ev (fun k => dates_Piece.f k l l) true := by
  have := eq44_loop l hl l.length 0 (by omega)
  refine Ev.congr (fun k => ?_) this
  unfold dates_Piece.f
  rw [if_pos rfl]
  rfl
theorem eqint_loop (l : List Int) (hl : l.length ≤ 9223372036854775807) : ∀ (d i : Nat), i + d = l.length → Ev (fun k => slices_Equal_int_int.l0 k l l (l.length : Int) (i : Int)) true := by
  intro d
  induction d with
  | zero =>
    intro i hi
    refine Ev.step (f := fun _ => some true) (fun k => ?_) (Ev.now _)
    simp only [slices_Equal_int_int.l0]
    rw [if_neg (by omega)]
  | succ d ih =>
    intro i hi
    have hlt : i < l.length := by omega
    refine Ev.step (fun k => ?_) (ih (i + 1) (by omega))
    simp only [slices_Equal_int_int.l0]
    rw [if_pos (by omega), if_pos (by omega), if_pos (by omega), if_pos (by omega), w64s i l.length hlt hl, if_pos trivial]
theorem eqint_f (l : List Int) (hl : l.length ≤ 9223372036854775807) : Ev (fun k => slices_Equal_int_int.f k l l) true := by
  have := eqint_loop l hl l.length 0 (by omega)
  refine Ev.congr (fun k => ?_) this
  unfold slices_Equal_int_int.f
  rw [if_pos rfl]
  rfl
theorem mx_max (a b : Int) : mx a b = max a b := by unfold mx; omega
theorem max_loop (l : List Int) (hl : l.length ≤ 9223372036854775807) : ∀ (d i : Nat) (m : Int), i + d = l.length → 1 ≤ i → (m > 0 ↔ ∃ x ∈ l.take i, x > 0) → ∃ r, Ev (fun k => dates_left_int.l0 k l m (i : Int)) r ∧ (r > 0 ↔ ∃ x ∈ l, x > 0) := by
  intro d
  induction d with
  | zero =>
    intro i m hi h1 hm
    rw [show i = l.length by omega, List.take_length] at hm
    refine ⟨m, Ev.step (f := fun _ => some m) (fun k => ?_) (Ev.now _), hm⟩
    simp only [dates_left_int.l0]
    rw [if_neg (by omega)]
  | succ d ih =>
    intro i m hi h1 hm
    have hlt : i < l.length := by omega
    obtain ⟨r, hr, hr2⟩ := ih (i + 1) (mx m l[i]) (by omega) (by omega) (by
      rw [mx_max, List.take_succ_eq_append_getElem hlt]
      constructor
      · intro h
        by_cases hx : l[i] > 0
        · exact ⟨l[i], List.mem_append.2 (.inr (List.mem_singleton.2 rfl)), hx⟩
        · obtain ⟨y, hy, hy2⟩ := hm.1 (by omega)
          exact ⟨y, List.mem_append.2 (.inl hy), hy2⟩
      · rintro ⟨y, hy, hy2⟩
        rcases List.mem_append.1 hy with hy | hy
        · have := hm.2 ⟨y, hy, hy2⟩
          omega
        · simp at hy
          omega)
    refine ⟨r, Ev.step (fun k => ?_) hr, hr2⟩
    simp only [dates_left_int.l0]
    rw [if_pos (by omega), if_pos (by omega), rd_nat l i hlt, w64s i l.length hlt hl]
theorem max_f (l : List Int) (h1 : 1 ≤ l.length) (hl : l.length ≤ 9223372036854775807) : ∃ r, Ev (fun k => dates_left_int.f k l) r ∧ (r > 0 ↔ ∃ x ∈ l, x > 0) := by
  have h0 : rd l 0 = l[0] := rd_nat l 0 h1
  obtain ⟨r, hr, hr2⟩ := max_loop l hl (l.length - 1) 1 (l[0]) (by omega) (by omega) (by
    rw [List.take_succ_eq_append_getElem h1]
    simp)
  refine ⟨r, Ev.congr (fun k => ?_) hr, hr2⟩
  unfold dates_left_int.f
  rw [if_neg (by omega), if_pos (by omega), h0]
  rfl
end Go.Proofs.Ytaboleeclpllpaa.M


namespace Go.Proofs.Ytaboleeclpllpaa.M
open Go.RowKit Go.Proofs.YtaboleeclpllpaaW.PrintWords Go.Proofs.YtaboleeclpllpaaW.PrintLast Go.Proofs.YtaboleeclpllpaaW.PrintMore Go.Proofs.Ytaboleeclpllpaa.P
set_option linter.unusedVariables false
set_option linter.unusedSimpArgs false
def tm (t : List Int) (i : Nat) : Int := t.getD i 0
def jb (l : List S48) (i : Nat) : S48 := l.getD i z48
def ahead (short : Bool) (l : List S48) (t : List Int) (i j : Nat) : Bool := if short then decide (tm t i < tm t j) else decide ((jb l i).f2 < (jb l j).f2)
def ready (l : List S48) (t : List Int) (a : Int) (i : Nat) : Prop := (jb l i).f1 ≤ a ∧ tm t i > 0
instance (l : List S48) (t : List Int) (a : Int) (i : Nat) : Decidable (ready l t a i) := by unfold ready; infer_instance
def pickN (short : Bool) (l : List S48) (t : List Int) (a : Int) : Nat → Option Nat
  | 0 => none
  | i + 1 => if ready l t a i then (match pickN short l t a i with
      | none => some i
      | some j => if ahead short l t i j = true then some i else some j) else pickN short l t a i
def pick (short : Bool) (l : List S48) (t : List Int) (a : Int) : Option Nat := pickN short l t a l.length
def addPc (out : List Pc) (j : Int) (a : Int) : List Pc := match out.getLast? with
  | some p => if p.f0 = j ∧ p.f2 = a then out.set (out.length - 1) ⟨p.f0, p.f1, p.f2 + 1⟩ else out ++ [⟨j, a, a + 1⟩]
  | none => [⟨j, a, a + 1⟩]
abbrev St := List Int × List Pc
def stepF (short : Bool) (l : List S48) (a : Int) (s : St) : St := match pick short l s.1 a with
  | none => s
  | some j => (s.1.set j (tm s.1 j - 1), addPc s.2 (j : Int) a)
def runF (short : Bool) (l : List S48) : Nat → Int → St → St
  | 0, _, s => s
  | n + 1, a, s => runF short l n (a + 1) (stepF short l a s)
def times (l : List S48) : List Int := l.map (·.f0)
def planOf (short : Bool) (l : List S48) : List Pc := (runF short l 300 0 (times l, [])).2
theorem pickN_lt {short : Bool} {l : List S48} {t : List Int} {a : Int} : ∀ {n j : Nat}, pickN short l t a n = some j → j < n ∧ ready l t a j := by
  intro n
  induction n with
  | zero => intro j h; cases h
  | succ n ih =>
    intro j h
    rw [pickN] at h
    by_cases hr : ready l t a n
    · rw [if_pos hr] at h
      cases hp : pickN short l t a n with
      | none =>
        rw [hp] at h
        simp at h
        subst h
        exact ⟨by omega, hr⟩
      | some j' =>
        rw [hp] at h
        have := ih hp
        by_cases ha : ahead short l t n j' = true
        · simp [ha] at h
          subst h
          exact ⟨by omega, hr⟩
        · simp [ha] at h
          subst h
          exact ⟨by omega, this.2⟩
    · rw [if_neg hr] at h
      have := ih h
      exact ⟨by omega, this.2⟩
theorem pickN_none {short : Bool} {l : List S48} {t : List Int} {a : Int} : ∀ {n : Nat}, pickN short l t a n = none ↔ ∀ i, i < n → ¬ ready l t a i := by
  intro n
  induction n with
  | zero => exact ⟨fun _ i hi => by omega, fun _ => rfl⟩
  | succ n ih =>
    rw [pickN]
    by_cases hr : ready l t a n
    · rw [if_pos hr]
      constructor
      · intro h
        exfalso
        cases hp : pickN short l t a n with
        | none => rw [hp] at h; cases h
        | some j =>
          rw [hp] at h
          by_cases ha : ahead short l t n j = true
          · simp [ha] at h
          · simp [ha] at h
      · intro h
        exact absurd hr (h n (by omega))
    · rw [if_neg hr, ih]
      constructor
      · intro h i hi
        by_cases e : i = n
        · subst e; exact hr
        · exact h i (by omega)
      · intro h i hi
        exact h i (by omega)
theorem addPc_length (out : List Pc) (j a : Int) : (addPc out j a).length ≤ out.length + 1 := by
  unfold addPc
  split
  · split
    · rw [List.length_set]; omega
    · simp
  · simp
theorem stepF_len (short : Bool) (l : List S48) (a : Int) (s : St) : (stepF short l a s).1.length = s.1.length := by
  unfold stepF
  split
  · rfl
  · simp
theorem stepF_out (short : Bool) (l : List S48) (a : Int) (s : St) : (stepF short l a s).2.length ≤ s.2.length + 1 := by
  unfold stepF
  split
  · omega
  · exact addPc_length _ _ _
theorem tm_mem {t : List Int} {i : Nat} (h : i < t.length) : tm t i ∈ t := by
  unfold tm
  rw [List.getD_eq_getElem?_getD, List.getElem?_eq_getElem h]
  exact List.getElem_mem h
theorem tm_get {t : List Int} {i : Nat} (h : i < t.length) : tm t i = t[i] := by
  unfold tm
  rw [List.getD_eq_getElem?_getD, List.getElem?_eq_getElem h]
  rfl
theorem tm_out {t : List Int} {i : Nat} (h : t.length ≤ i) : tm t i = 0 := by
  unfold tm
  rw [List.getD_eq_getElem?_getD, List.getElem?_eq_none h]
  rfl
theorem jb_get {l : List S48} {i : Nat} (h : i < l.length) : jb l i = l[i] := by
  unfold jb
  rw [List.getD_eq_getElem?_getD, List.getElem?_eq_getElem h]
  rfl
theorem tm_set (t : List Int) (j i : Nat) (x : Int) (h : j < t.length) : tm (t.set j x) i = if i = j then x else tm t i := by
  unfold tm
  rw [List.getD_eq_getElem?_getD, List.getElem?_set]
  by_cases e : i = j
  · subst e
    rw [if_pos rfl, if_pos rfl, if_pos h]
    rfl
  · rw [if_neg (Ne.symm e), if_neg e, List.getD_eq_getElem?_getD]
theorem total_set : ∀ (t : List Int) (j : Nat) (x : Int), j < t.length → total (t.set j x) = total t - tm t j + x := by
  intro t
  induction t with
  | nil => intro j x h; simp at h
  | cons y t ih =>
    intro j x h
    cases j with
    | zero => simp [total, tm]; omega
    | succ j =>
      have := ih j x (by simpa using h)
      rw [List.set_cons_succ, total_cons, total_cons, this]
      have : tm (y :: t) (j + 1) = tm t j := rfl
      omega
def fine (t : List Int) : Prop := ∀ x ∈ t, 0 ≤ x
theorem fine_tm {t : List Int} (h : fine t) (i : Nat) : 0 ≤ tm t i := by
  by_cases hi : i < t.length
  · exact h _ (tm_mem hi)
  · rw [tm_out (by omega)]
    exact Int.le_refl _
theorem fine_of_tm {t : List Int} (h : ∀ i, i < t.length → 0 ≤ tm t i) : fine t := by
  intro x hx
  obtain ⟨i, hi, rfl⟩ := List.mem_iff_getElem.1 hx
  have := h i hi
  rwa [tm_get hi] at this
theorem total_fine {t : List Int} (h : fine t) : 0 ≤ total t := by
  induction t with
  | nil => exact Int.le_refl _
  | cons x t ih =>
    rw [total_cons]
    have := h x (by simp)
    have := ih (fun y hy => h y (by simp [hy]))
    omega
theorem total_zero {t : List Int} (h : fine t) (h0 : total t ≤ 0) : ∀ i, tm t i = 0 := by
  induction t with
  | nil => intro i; rfl
  | cons x t ih =>
    rw [total_cons] at h0
    have hx := h x (by simp)
    have ht : fine t := fun y hy => h y (by simp [hy])
    have := total_fine ht
    intro i
    cases i with
    | zero => show x = 0; omega
    | succ i => exact ih ht (by omega) i
theorem step_fine {short : Bool} {l : List S48} {a : Int} {s : St} (hl : s.1.length = l.length) (h : fine s.1) : fine (stepF short l a s).1 := by
  unfold stepF
  split
  · exact h
  · rename_i j hj
    have ⟨hlt, hr⟩ := pickN_lt hj
    refine fine_of_tm fun i hi => ?_
    rw [tm_set _ _ _ _ (by omega)]
    by_cases e : i = j
    · rw [if_pos e]
      have := hr.2
      omega
    · rw [if_neg e]
      exact fine_tm h i
theorem step_total {short : Bool} {l : List S48} {a : Int} {s : St} (hl : s.1.length = l.length) : total (stepF short l a s).1 = total s.1 - (if (pick short l s.1 a).isSome = true then 1 else 0) := by
  unfold stepF
  split
  · rename_i hp
    rw [hp]
    simp
  · rename_i j hj
    rw [hj]
    have ⟨hlt, hr⟩ := pickN_lt hj
    show total (s.1.set j (tm s.1 j - 1)) = _
    rw [total_set _ _ _ (by omega)]
    simp
    omega
theorem run_done {short : Bool} {l : List S48} (hrel : ∀ i, i < l.length → (jb l i).f1 ≤ 100) : ∀ (n : Nat) (a : Int) (s : St), s.1.length = l.length → fine s.1 → total s.1 + (if a < 100 then 100 - a else 0) ≤ (n : Int) → total (runF short l n a s).1 ≤ 0 := by
  intro n
  induction n with
  | zero =>
    intro a s hl hf h
    show total s.1 ≤ 0
    split at h <;> omega
  | succ n ih =>
    intro a s hl hf h
    rw [runF]
    have h2 := step_total (short := short) (a := a) hl
    refine ih _ _ (by rw [stepF_len, hl]) (step_fine hl hf) ?_
    cases hp : pick short l s.1 a with
    | some j =>
      rw [hp] at h2
      simp at h2
      split at h <;> split <;> omega
    | none =>
      rw [hp] at h2
      simp at h2
      by_cases ha : a < 100
      · rw [if_pos ha] at h
        split <;> omega
      ·
        have hz : total s.1 ≤ 0 := by
          have hn := pickN_none.1 hp
          have : ∀ i, tm s.1 i = 0 := by
            intro i
            by_cases hi : i < l.length
            · have h1 := hn i hi
              have h3 := fine_tm hf i
              have h4 := hrel i hi
              unfold ready at h1
              omega
            · exact tm_out (by omega)
          have h5 : ∀ t : List Int, (∀ i, tm t i = 0) → total t = 0 := by
            intro t
            induction t with
            | nil => intro _; rfl
            | cons x t iht =>
              intro h
              rw [total_cons, iht (fun i => h (i + 1))]
              have := h 0
              have e : tm (x :: t) 0 = x := rfl
              omega
          rw [h5 _ this]
          exact Int.le_refl _
        have := total_fine hf
        split <;> omega
end Go.Proofs.Ytaboleeclpllpaa.M


namespace Go.Proofs.Ytaboleeclpllpaa.M
open Go.RowKit Go.Proofs.YtaboleeclpllpaaW.PrintWords Go.Proofs.YtaboleeclpllpaaW.PrintLast Go.Proofs.YtaboleeclpllpaaW.PrintMore Go.Proofs.Ytaboleeclpllpaa.P
set_option linter.unusedVariables false
set_option linter.unusedSimpArgs false
def curI : Option Nat → Int
  | none => -1
  | some j => (j : Int)
theorem step_le {short : Bool} {l : List S48} {a : Int} {t : List Int} {out : List Pc} (h : ∀ x ∈ t, x ≤ 20) : ∀ x ∈ (stepF short l a (t, out)).1, x ≤ 20 := by
  intro x hx
  unfold stepF at hx
  split at hx
  · exact h x hx
  · rename_i j hj
    obtain ⟨i, hi, rfl⟩ := List.mem_iff_getElem.1 hx
    simp only [List.length_set] at hi
    rw [List.getElem_set]
    split
    · by_cases hjl : j < t.length
      · have := h _ (tm_mem hjl)
        show tm t j - 1 ≤ 20
        omega
      · show tm t j - 1 ≤ 20
        rw [tm_out (by omega)]
        omega
    · exact h _ (List.getElem_mem hi)
theorem stepF_idle {short : Bool} {l : List S48} {a : Int} {s : St} (h : ∀ i, tm s.1 i = 0) : stepF short l a s = s := by
  have : pick short l s.1 a = none := pickN_none.2 fun i _ hr => by have := hr.2; rw [h i] at this; omega
  unfold stepF
  rw [this]
theorem runF_idle {short : Bool} {l : List S48} {t : List Int} {out : List Pc} (h : ∀ i, tm t i = 0) : ∀ {n : Nat} {a : Int}, runF short l n a (t, out) = (t, out) := by
  intro n
  induction n with
  | zero => intro a; rfl
  | succ n ih =>
    intro a
    rw [runF, stepF_idle (s := (t, out)) h, ih]
theorem valid_len {l : List S48} (h : valid48 l = true) : 1 ≤ l.length ∧ l.length ≤ 8 := by
  simp only [valid48, Bool.and_eq_true, decide_eq_true_eq] at h
  exact h.1
theorem valid_ok {l : List S48} (h : valid48 l = true) {x : S48} (hx : x ∈ l) : 1 ≤ x.f0 ∧ x.f0 ≤ 20 ∧ 0 ≤ x.f1 ∧ x.f1 ≤ 100 ∧ 0 ≤ x.f2 ∧ x.f2 ≤ 200 ∧ 0 ≤ x.f3 ∧ x.f3 ≤ 20 := by
  simp only [valid48, Bool.and_eq_true, List.all_eq_true] at h
  have := h.2 x hx
  simpa [ok48] using this
theorem valid_jb {l : List S48} (h : valid48 l = true) {i : Nat} (hi : i < l.length) : 1 ≤ (jb l i).f0 ∧ (jb l i).f0 ≤ 20 ∧ 0 ≤ (jb l i).f1 ∧ (jb l i).f1 ≤ 100 ∧ 0 ≤ (jb l i).f2 ∧ (jb l i).f2 ≤ 200 ∧ 0 ≤ (jb l i).f3 ∧ (jb l i).f3 ≤ 20 := by
  rw [jb_get hi]
  exact valid_ok h (List.getElem_mem hi)
theorem times_fine {l : List S48} (h : valid48 l = true) : fine (times l) := by
  intro x hx
  obtain ⟨y, hy, rfl⟩ := List.mem_map.1 hx
  have := valid_ok h hy
  omega
theorem times_le {l : List S48} (h : valid48 l = true) : ∀ x ∈ times l, x ≤ 20 := by
  intro x hx
  obtain ⟨y, hy, rfl⟩ := List.mem_map.1 hx
  have := valid_ok h hy
  omega
theorem times_total {l : List S48} (h : valid48 l = true) : total (times l) ≤ 160 := by
  have h1 := total_bound (times l) 20 (by omega) (fun x hx => ⟨by have := times_fine h x hx; omega, times_le h x hx⟩)
  have h2 := valid_len h
  have h3 : (times l).length = l.length := by simp [times]
  omega
theorem plan_done (short : Bool) {l : List S48} (h : valid48 l = true) : total (runF short l 300 0 (times l, [])).1 ≤ 0 := by
  refine run_done (fun i hi => (valid_jb h hi).2.2.2.1) 300 0 (times l, []) (by simp [times]) (times_fine h) ?_
  have := times_total h
  simp
  omega
theorem due_first (l : List S48) (t : List Int) (hl : t.length = l.length) (i j : Nat) (hi : i < l.length) (hj : j < l.length) : dates_jobs_first.f l (i : Int) (j : Int) t = some (ahead false l t i j) := by
  unfold dates_jobs_first.f
  rw [if_pos (by omega), if_pos (by omega), if_pos (by omega), if_pos (by omega), rd48 l i (by omega), rd48 l j (by omega)]
  simp [ahead, jb_get hi, jb_get hj]
theorem due_inner (l : List S48) (t : List Int) (out : List Pc) (a : Int) (hl : l.length ≤ 8) (ht : t.length = l.length) (r : List Pc) : ∀ (d i : Nat), i + d = l.length →
    Ev (fun k => dates_jobs_plan_due.l2 k l out t a (curI (pick false l t a)) l (l.length : Int) (l.length : Int)) r → Ev (fun k => dates_jobs_plan_due.l2 k l out t a (curI (pickN false l t a i)) l (l.length : Int) (i : Int)) r := by
  intro d
  induction d with
  | zero =>
    intro i hi h
    rw [show i = l.length by omega]
    exact h
  | succ d ih =>
    intro i hi h
    have hlt : i < l.length := by omega
    refine Ev.step (fun k => ?_) (ih (i + 1) (by omega) h)
    simp only [dates_jobs_plan_due.l2]
    rw [if_pos (by omega), if_pos (by omega), if_pos (by omega), rd48 l i hlt, w64s i l.length hlt (by omega), if_pos (show (i : Int) < (t.length : Int) by omega)]
    have hjb : jb l i = l[i] := jb_get hlt
    have htm : rd t (i : Int) = tm t i := by rw [rd_nat t i (by omega), tm_get (by omega)]
    by_cases h1 : (l[i]).f1 ≤ a
    · rw [if_pos h1, htm]
      by_cases h2 : tm t i > 0
      · rw [if_pos h2]
        have hr : ready l t a i := ⟨by rw [hjb]; exact h1, h2⟩
        rw [pickN, if_pos hr]
        cases hp : pickN false l t a i with
        | none => rw [if_pos (show curI none < 0 by decide)]; rfl
        | some j =>
          have ⟨hji, _⟩ := pickN_lt hp
          have hc : curI (some j) = (j : Int) := rfl
          rw [hc, if_neg (by omega), due_first l t ht i j hlt (by omega)]
          by_cases ha : ahead false l t i j = true
          · simp only [ha, if_true, Option.bind_some]
            rfl
          · simp only [Bool.eq_false_iff.mpr ha, Option.bind_some, if_false, Bool.false_eq_true]
            rfl
      · rw [if_neg h2]
        have hr : ¬ ready l t a i := fun h => h2 h.2
        rw [pickN, if_neg hr]
    · rw [if_neg h1]
      have hr : ¬ ready l t a i := fun h => h1 (by have := h.1; rwa [hjb] at this)
      rw [pickN, if_neg hr]
theorem due_step (l : List S48) (t : List Int) (out : List Pc) (a : Int) (hl : l.length ≤ 8) (ht : t.length = l.length) (h20 : ∀ x ∈ t, x ≤ 20) (ha0 : 0 ≤ a) (ha : a ≤ 1000) (ho : out.length ≤ 1000) (r : List Pc)
    (h : Ev (fun k => dates_jobs_plan_due.l1 k l (stepF false l a (t, out)).2 (stepF false l a (t, out)).1 (a + 1)) r) : Ev (fun k => dates_jobs_plan_due.l2 k l out t a (-1) l (l.length : Int) 0) r := by
  refine due_inner l t out a hl ht r l.length 0 (by omega) ?_
  refine Ev.step (fun k => ?_) h
  simp only [dates_jobs_plan_due.l2]
  rw [if_neg (by omega)]
  unfold stepF
  cases hp : pick false l t a with
  | none =>
    rw [if_pos (show curI none < 0 by decide), w64 (by omega) (by omega)]
  | some j =>
    have ⟨hj, hr⟩ := pickN_lt hp
    have hc : curI (some j) = (j : Int) := rfl
    have htm : rd t (j : Int) = tm t j := by rw [rd_nat t j (by omega), tm_get (by omega)]
    have h1 := hr.2
    have h2 := h20 _ (tm_mem (show j < t.length by omega))
    rw [hc, if_neg (by omega), if_pos (by omega), if_pos (by omega), Option.bind_some, htm, w64 (x := tm t j - 1) (by omega) (by omega), w64 (x := a + 1) (by omega) (by omega), Int.toNat_natCast]
    show _ = dates_jobs_plan_due.l1 k l (addPc out (j : Int) a) (t.set j (tm t j - 1)) (a + 1)
    rcases List.eq_nil_or_concat out with rfl | ⟨o, p, rfl⟩
    · have hw : wrap64 ((([] : List S44).length : Int) - 1) = -1 := w64 (by simp) (by simp)
      rw [hw, if_neg (by omega), if_pos (by simp)]
      simp [addPc]
    · have hlen : (o.concat p).length = o.length + 1 := by simp
      have hw : wrap64 (((o.concat p).length : Int) - 1) = (o.length : Int) := by rw [hlen, w64 (by omega) (by omega)]; omega
      have hrd : rd_T44 (o.concat p) (o.length : Int) = p := by rw [rd44 _ _ (by omega)]; simp
      rw [hw, if_pos (by omega), if_pos (by omega), if_pos (by omega), hrd]
      have hadd : addPc (o.concat p) (j : Int) a = if p.f0 = (j : Int) ∧ p.f2 = a then (o.concat p).set o.length ⟨p.f0, p.f1, p.f2 + 1⟩ else o.concat p ++ [⟨(j : Int), a, a + 1⟩] := by
        simp [addPc]
      rw [hadd, Int.toNat_natCast]
      by_cases h3 : p.f0 = (j : Int)
      · rw [if_pos h3]
        by_cases h4 : p.f2 = a
        · rw [if_pos h4, if_pos ⟨h3, h4⟩, w64 (x := p.f2 + 1) (by omega) (by omega)]
        · rw [if_neg h4, if_pos (by omega), if_neg (fun h => h4 h.2)]
      · rw [if_neg h3, if_pos (by omega), if_neg (fun h => h3 h.1)]
theorem due_main (l : List S48) (hl : l.length ≤ 8) (h1 : 1 ≤ l.length) : ∀ (n : Nat) (a : Int) (t : List Int) (out : List Pc), t.length = l.length → fine t → (∀ x ∈ t, x ≤ 20) → 0 ≤ a → a + n ≤ 1000 → (out.length : Int) ≤ a → total (runF false l n a (t, out)).1 ≤ 0 →
    Ev (fun k => dates_jobs_plan_due.l1 k l out t a) (runF false l n a (t, out)).2 := by
  intro n
  induction n with
  | zero =>
    intro a t out ht hf h20 ha0 ha ho hd
    obtain ⟨m, hm, hm2⟩ := max_f t (by omega) (by omega)
    have hz := total_zero hf hd
    have : ¬ m > 0 := fun h => by
      obtain ⟨x, hx, hx2⟩ := hm2.1 h
      obtain ⟨i, hi, rfl⟩ := List.mem_iff_getElem.1 hx
      have := hz i
      rw [tm_get hi] at this
      omega
    refine Ev.step (f := fun k => (dates_left_int.f k t).bind fun t128 => (if t128 > 0 then (dates_jobs_plan_due.l2 k l out t a (-1) l (l.length : Int) 0) else (some out))) (fun k => by simp only [dates_jobs_plan_due.l1]) ?_
    refine Ev.bind hm ?_
    simp only [if_neg this]
    exact Ev.now _
  | succ n ih =>
    intro a t out ht hf h20 ha0 ha ho hd
    obtain ⟨m, hm, hm2⟩ := max_f t (by omega) (by omega)
    refine Ev.step (f := fun k => (dates_left_int.f k t).bind fun t128 => (if t128 > 0 then (dates_jobs_plan_due.l2 k l out t a (-1) l (l.length : Int) 0) else (some out))) (fun k => by simp only [dates_jobs_plan_due.l1]) ?_
    refine Ev.bind hm ?_
    by_cases hmp : m > 0
    · simp only [if_pos hmp]
      rw [runF] at hd ⊢
      refine due_step l t out a hl ht h20 ha0 (by omega) (by omega) _ ?_
      have hs20 : ∀ x ∈ (stepF false l a (t, out)).1, x ≤ 20 := step_le h20
      exact ih (a + 1) _ _ (by rw [stepF_len, ht]) (step_fine ht hf) hs20 (by omega) (by omega) (by have := stepF_out false l a (t, out); simp at this; omega) hd
    · simp only [if_neg hmp]
      rw [runF_idle (fun i => by
        by_cases hi : i < t.length
        · have := fun hh => hmp (hm2.2 hh)
          have h0 := fine_tm hf i
          by_cases h5 : tm t i > 0
          · exact absurd ⟨_, tm_mem hi, h5⟩ this
          · show tm t i = 0
            omega
        · exact tm_out (by omega))]
      exact Ev.now _
theorem due_start (l : List S48) (hl : l.length ≤ 8) (r : List Pc) (h : Ev (fun k => dates_jobs_plan_due.l1 k l [] (times l) 0) r) : ∀ (d i : Nat) (t : List Int), i + d = l.length → t.length = l.length → t.take i = (times l).take i → Ev (fun k => dates_jobs_plan_due.l0 k l t l (l.length : Int) (i : Int)) r := by
  intro d
  induction d with
  | zero =>
    intro i t hi ht he
    have : t = times l := by
      have h1 : t.take i = t := List.take_of_length_le (by omega)
      have h2 : (times l).take i = times l := List.take_of_length_le (by simp [times]; omega)
      rw [← h1, ← h2, he]
    subst this
    refine Ev.step (fun k => ?_) h
    simp only [dates_jobs_plan_due.l0]
    rw [if_neg (by omega)]
  | succ d ih =>
    intro i t hi ht he
    have hlt : i < l.length := by omega
    refine Ev.step (fun k => ?_) (ih (i + 1) (t.set i (l[i]).f0) (by omega) (by simpa using ht) ?_)
    · simp only [dates_jobs_plan_due.l0]
      rw [if_pos (by omega), if_pos (by omega), if_pos (by omega), if_pos (show (i : Int) < (t.length : Int) by omega), rd48 l i hlt, w64s i l.length hlt (by omega), Int.toNat_natCast]
    · rw [List.take_succ_eq_append_getElem (by simpa using (show i < t.length by omega)), List.take_succ_eq_append_getElem (by simpa [times] using hlt), List.take_set_of_le (Nat.le_refl i), he]
      simp [times]
theorem due_f (l : List S48) (hv : valid48 l = true) : Ev (fun k => dates_jobs_plan_due.f k l) (planOf false l) := by
  have hl := valid_len hv
  have hm := due_main l hl.2 hl.1 300 0 (times l) [] (by simp [times]) (times_fine hv) (times_le hv) (by omega) (by omega) (by simp) (plan_done false hv)
  have := due_start l hl.2 _ hm l.length 0 (List.replicate l.length 0) (by omega) (by simp) rfl
  refine Ev.congr (fun k => ?_) this
  unfold dates_jobs_plan_due.f
  rw [if_pos (by omega), if_pos (by omega), Int.toNat_natCast]
  rfl
end Go.Proofs.Ytaboleeclpllpaa.M


namespace Go.Proofs.Ytaboleeclpllpaa.M
open Go.RowKit Go.Proofs.YtaboleeclpllpaaW.PrintWords Go.Proofs.YtaboleeclpllpaaW.PrintLast Go.Proofs.YtaboleeclpllpaaW.PrintMore Go.Proofs.Ytaboleeclpllpaa.P
set_option linter.unusedVariables false
set_option linter.unusedSimpArgs false
end Go.Proofs.Ytaboleeclpllpaa.M


namespace Go.Proofs.Ytaboleeclpllpaa.M
open Go.RowKit Go.Proofs.YtaboleeclpllpaaW.PrintWords Go.Proofs.YtaboleeclpllpaaW.PrintLast Go.Proofs.YtaboleeclpllpaaW.PrintMore Go.Proofs.Ytaboleeclpllpaa.P
set_option linter.unusedVariables false
set_option linter.unusedSimpArgs false
theorem due_f' (l : List S48) (hv : valid48 l = true) : Ev (fun k => dates_jobs_due.f k l) (planOf false l) := by
  refine Ev.congr (fun k => ?_) (due_f l hv)
  unfold dates_jobs_due.f
  cases dates_jobs_plan_due.f k l <;> rfl
theorem Plan_f (l : List S48) (hl : l.length ≤ 9223372036854775807) : Ev (fun k => dates_Plan.f k l) (if valid48 l = true then (planOf false l, 0) else ([], 2)) := by
  unfold dates_Plan.f
  refine Ev.bind (valid_f l hl) ?_
  cases hv : valid48 l with
  | true =>
    simp only [if_true]
    exact Ev.bind (due_f' l hv) (Ev.now _)
  | false =>
    simp only [Bool.false_eq_true, if_false]
    exact Ev.now _
theorem awake_plan : planOf false [(⟨2, 1, 9, 0⟩ : S48)] = [(⟨0, 1, 3⟩ : S44)] := by kernel_rfl
theorem awake_valid : valid48 [(⟨2, 1, 9, 0⟩ : S48)] = true := by kernel_rfl
theorem awake_f : Ev (fun k => corrodylaw06_awake.f k) true := by
  unfold corrodylaw06_awake.f
  have h := Plan_f [(⟨2, 1, 9, 0⟩ : S48)] (by simp)
  rw [awake_valid, if_pos rfl, awake_plan] at h
  refine Ev.bind h ?_
  simp only [if_true]
  exact Ev.bind (eq44_f _ (by simp)) (Ev.now _)
end Go.Proofs.Ytaboleeclpllpaa.M


namespace Go.Proofs.Ytaboleeclpllpaa.M
open Go.RowKit Go.Proofs.YtaboleeclpllpaaW.PrintWords Go.Proofs.YtaboleeclpllpaaW.PrintLast Go.Proofs.YtaboleeclpllpaaW.PrintMore Go.Proofs.Ytaboleeclpllpaa.P
set_option linter.unusedVariables false
set_option linter.unusedSimpArgs false
def lateN (l : List S48) (e : List Int) (w : Int) : Nat → Int
  | 0 => w
  | n + 1 => max (lateN l e w n) (tm e n - (jb l n).f2)
theorem lateN_le (l : List S48) (e : List Int) (w d : Int) : ∀ n : Nat, lateN l e w n ≤ d ↔ w ≤ d ∧ ∀ i, i < n → tm e i - (jb l i).f2 ≤ d
  | 0 => by simp [lateN]
  | n + 1 => by
    rw [lateN, Int.max_le, lateN_le l e w d n]
    constructor
    · rintro ⟨⟨h1, h2⟩, h3⟩
      refine ⟨h1, fun i hi => ?_⟩
      by_cases h : i = n
      · subst h; exact h3
      · exact h2 i (by omega)
    · rintro ⟨h1, h2⟩
      exact ⟨⟨h1, fun i hi => h2 i (by omega)⟩, h2 n (by omega)⟩
theorem lateN_at (l : List S48) (e : List Int) (w : Int) : ∀ n : Nat, lateN l e w n = w ∨ ∃ i, i < n ∧ lateN l e w n = tm e i - (jb l i).f2
  | 0 => Or.inl rfl
  | n + 1 => by
    rw [lateN]
    rcases Int.le_total (lateN l e w n) (tm e n - (jb l n).f2) with h | h
    · rw [Int.max_eq_right h]
      exact Or.inr ⟨n, by omega, rfl⟩
    · rw [Int.max_eq_left h]
      rcases lateN_at l e w n with h1 | ⟨i, hi, h1⟩
      · exact Or.inl h1
      · exact Or.inr ⟨i, by omega, h1⟩
def worstOf (l : List S48) (e : List Int) : Int := lateN l e (-1073741824) l.length
theorem worstOf_le {l : List S48} {e : List Int} {d : Int} (hd : -1073741824 ≤ d) : worstOf l e ≤ d ↔ ∀ i, i < l.length → tm e i - (jb l i).f2 ≤ d := by
  rw [worstOf, lateN_le]
  exact ⟨fun h => h.2, fun h => ⟨hd, h⟩⟩
theorem endsB_tm {e : List Int} (he : ∀ x ∈ e, 0 ≤ x ∧ x ≤ 1000000) (i : Nat) : 0 ≤ tm e i ∧ tm e i ≤ 1000000 := by
  by_cases h : i < e.length
  · exact he _ (tm_mem h)
  · rw [tm_out (by omega)]; omega
theorem worstOf_at {l : List S48} (hv : valid48 l = true) {e : List Int} (he : ∀ x ∈ e, 0 ≤ x ∧ x ≤ 1000000) : ∃ i, i < l.length ∧ worstOf l e = tm e i - (jb l i).f2 := by
  rcases lateN_at l e (-1073741824) l.length with h | h
  · exfalso
    have h1 := (worstOf_le (l := l) (e := e) (d := -1073741824) (Int.le_refl _)).1 (by rw [worstOf, h]; exact Int.le_refl _) 0 (valid_len hv).1
    have h2 := valid_jb hv (i := 0) (valid_len hv).1
    have h3 := endsB_tm he 0
    omega
  · exact h
end Go.Proofs.Ytaboleeclpllpaa.M


namespace Go.Proofs.Ytaboleeclpllpaa.T
set_option linter.unusedVariables false
set_option linter.unusedSimpArgs false
def sumN : Nat → (Nat → Int) → Int
  | 0, _ => 0
  | n + 1, f => sumN n f + f n
theorem sumN_congr {f g : Nat → Int} : ∀ {n : Nat}, (∀ i, i < n → f i = g i) → sumN n f = sumN n g
  | 0, _ => rfl
  | n + 1, h => by rw [sumN, sumN, sumN_congr (fun i hi => h i (by omega)), h n (by omega)]
theorem sumN_zero : ∀ n : Nat, sumN n (fun _ => 0) = 0
  | 0 => rfl
  | n + 1 => by rw [sumN, sumN_zero n]; rfl
theorem sumN_at {f g : Nat → Int} {n : Nat} (j : Nat) (hj : j < n) (h : ∀ i, i < n → i ≠ j → f i = g i) : sumN n f = sumN n g + (f j - g j) := by
  induction n with
  | zero => omega
  | succ n ih =>
    by_cases hjn : j = n
    · subst hjn
      have : sumN j f = sumN j g := sumN_congr (fun i hi => h i (by omega) (by omega))
      simp only [sumN]
      omega
    · have := ih (by omega) (fun i hi hne => h i (by omega) hne)
      have h2 := h n (by omega) (fun he => hjn he.symm)
      simp only [sumN]
      omega
def one (b : Prop) [Decidable b] : Int := if b then 1 else 0
def cnt (u : Nat → Option Nat) (j : Nat) (a : Nat) : Int := sumN a (fun s => one (u s = some j))
theorem one_nn (b : Prop) [Decidable b] : 0 ≤ one b := by unfold one; split <;> omega
theorem one_pos {b : Prop} [Decidable b] (h : b) : one b = 1 := if_pos h
theorem cnt_succ (u : Nat → Option Nat) (j a : Nat) : cnt u j (a + 1) = cnt u j a + one (u a = some j) := rfl
theorem cnt_mono (u : Nat → Option Nat) (j : Nat) {a : Nat} : ∀ {b : Nat}, a ≤ b → cnt u j a ≤ cnt u j b := by
  intro b
  induction b with
  | zero => intro h; rw [show a = 0 by omega]; exact Int.le_refl _
  | succ b ih =>
    intro h
    by_cases hab : a = b + 1
    · subst hab; exact Int.le_refl _
    · have := ih (by omega)
      have := one_nn (u b = some j)
      rw [cnt_succ]
      omega
structure Sched (n : Nat) (tim rel : Nat → Int) (u : Nat → Option Nat) (C : Nat → Int) (H : Nat) : Prop where
  job : ∀ a j, a < H → u a = some j → j < n ∧ rel j ≤ a
  full : ∀ j, j < n → cnt u j H = tim j
  last : ∀ j, j < n → ∃ a : Nat, a < H ∧ C j = (a : Int) + 1 ∧ u a = some j ∧ ∀ s, a < s → s < H → u s ≠ some j
section
variable {n : Nat} {tim rel : Nat → Int} {u : Nat → Option Nat} {C : Nat → Int} {H : Nat}
theorem Sched.before (h : Sched n tim rel u C H) {j s : Nat} (hj : j < n) (hs : s < H) (hu : u s = some j) : (s : Int) < C j := by
  obtain ⟨a, ha, hC, hua, hl⟩ := h.last j hj
  by_cases hsa : s ≤ a
  · omega
  · exact absurd hu (hl s (by omega) hs)
theorem Sched.le (h : Sched n tim rel u C H) {j : Nat} (hj : j < n) (a : Nat) (ha : a ≤ H) : cnt u j a ≤ tim j := by
  rw [← h.full j hj]; exact cnt_mono u j ha
theorem Sched.open (h : Sched n tim rel u C H) {j : Nat} (hj : j < n) {a s : Nat} (has : a ≤ s) (hs : s < H) (hu : u s = some j) : cnt u j a < tim j := by
  have h1 := cnt_mono u j has
  have h2 := h.le hj (s + 1) (by omega)
  rw [cnt_succ, one_pos hu] at h2
  omega
end
def outside (n : Nat) (S : Nat → Prop) [DecidablePred S] (f : Nat → Int) : Int := sumN n (fun i => if S i then 0 else f i)
def size (n : Nat) (S : Nat → Prop) [DecidablePred S] : Int := sumN n (fun i => one (S i))
def Below' (n : Nat) (x y : Nat → Int) : Prop := ∀ S : Nat → Bool, ∃ S' : Nat → Bool, size n (fun i => S' i = true) ≤ size n (fun i => S i = true) ∧ outside n (fun i => S' i = true) x ≤ outside n (fun i => S i = true) y
theorem Below'.refl (n : Nat) (x : Nat → Int) : Below' n x x := fun S => ⟨S, Int.le_refl _, Int.le_refl _⟩
end Go.Proofs.Ytaboleeclpllpaa.T


namespace Go.Proofs.Ytaboleeclpllpaa.M
open Go.RowKit Go.Proofs.YtaboleeclpllpaaW.PrintWords Go.Proofs.YtaboleeclpllpaaW.PrintLast Go.Proofs.YtaboleeclpllpaaW.PrintMore Go.Proofs.Ytaboleeclpllpaa.P Go.Proofs.Ytaboleeclpllpaa.T
set_option linter.unusedVariables false
set_option linter.unusedSimpArgs false
def timf (l : List S48) (j : Nat) : Int := (jb l j).f0
def duef (l : List S48) (j : Nat) : Int := (jb l j).f2
end Go.Proofs.Ytaboleeclpllpaa.M


namespace Go.Proofs.Ytaboleeclpllpaa.M
open Go.RowKit Go.Proofs.YtaboleeclpllpaaW.PrintWords Go.Proofs.YtaboleeclpllpaaW.PrintLast Go.Proofs.YtaboleeclpllpaaW.PrintMore Go.Proofs.Ytaboleeclpllpaa.P Go.Proofs.Ytaboleeclpllpaa.T
set_option linter.unusedVariables false
set_option linter.unusedSimpArgs false
def lex (l : List S48) (i j : Int) : Prop := duef l i.toNat < duef l j.toNat ∨ duef l i.toNat = duef l j.toNat ∧ i < j
instance (l : List S48) (i j : Int) : Decidable (lex l i j) := by unfold lex; infer_instance
end Go.Proofs.Ytaboleeclpllpaa.M


namespace Go.Proofs.Ytaboleeclpllpaa.M
open Go.RowKit Go.Proofs.YtaboleeclpllpaaW.PrintWords Go.Proofs.YtaboleeclpllpaaW.PrintLast Go.Proofs.YtaboleeclpllpaaW.PrintMore Go.Proofs.Ytaboleeclpllpaa.P Go.Proofs.Ytaboleeclpllpaa.T
set_option linter.unusedVariables false
set_option linter.unusedSimpArgs false
theorem bit0 : ∀ s : Fin 256, ∀ i : Fin 8, Go.bits .and .i64 (shr .i64 ((s : Nat) : Int) ((i : Nat) : Int)) 1 = if (s : Nat).testBit i = true then 1 else 0 := by decide +kernel
theorem bit_test {s i : Nat} (hs : s < 256) (hi : i < 8) : Go.bits .and .i64 (shr .i64 (s : Int) (i : Int)) 1 = if s.testBit i = true then 1 else 0 := bit0 ⟨s, hs⟩ ⟨i, hi⟩
def upTo (l : List S48) (s : Nat) (j : Int) : Int := sumN l.length (fun i => if s.testBit i = true ∧ (lex l (i : Int) j ∨ (i : Int) = j) then timf l i else 0)
def onTime (l : List S48) (s : Nat) : Prop := ∀ j : Nat, j < l.length → s.testBit j = true → upTo l s (j : Int) ≤ duef l j
instance (l : List S48) (s : Nat) : Decidable (onTime l s) := by unfold onTime; exact Nat.decidableBallLT _ _
end Go.Proofs.Ytaboleeclpllpaa.M


namespace Go.Proofs.Ytaboleeclpllpaa.M
open Go.RowKit Go.Proofs.YtaboleeclpllpaaW.PrintWords Go.Proofs.YtaboleeclpllpaaW.PrintLast Go.Proofs.YtaboleeclpllpaaW.PrintMore Go.Proofs.Ytaboleeclpllpaa.P Go.Proofs.Ytaboleeclpllpaa.T
set_option linter.unusedVariables false
set_option linter.unusedSimpArgs false
end Go.Proofs.Ytaboleeclpllpaa.M


namespace Go.Proofs.Ytaboleeclpllpaa.M
open Go.RowKit Go.Proofs.YtaboleeclpllpaaW.PrintWords Go.Proofs.YtaboleeclpllpaaW.PrintLast Go.Proofs.YtaboleeclpllpaaW.PrintMore Go.Proofs.Ytaboleeclpllpaa.P
set_option linter.unusedVariables false
set_option linter.unusedSimpArgs false
def put (s i : Nat) : Nat := s ||| (1 <<< i)
def pc (s : Nat) : Nat := ((List.range 8).filter fun i => s.testBit i).length
theorem or_put0 : ∀ s : Fin 256, ∀ i : Fin 8, Go.bits .or .i64 ((s : Nat) : Int) (shl .i64 1 ((i : Nat) : Int)) = ((put s i : Nat) : Int) := by decide +kernel
theorem put_pc0 : ∀ s : Fin 256, ∀ i : Fin 8, pc (put s i) = pc s + (if (s : Nat).testBit i = true then 0 else 1) := by decide +kernel
theorem full0 : ∀ n : Fin 9, ∀ s : Fin 256, (s : Nat) < 2 ^ (n : Nat) → (pc s = n ↔ (s : Nat) = 2 ^ (n : Nat) - 1) := by decide +kernel
theorem full_shl0 : ∀ n : Fin 9, wrap64 ((shl .i64 1 ((n : Nat) : Int)) - 1) = ((2 ^ (n : Nat) - 1 : Nat) : Int) := by decide +kernel
theorem put_pow0 : ∀ n : Fin 9, ∀ s : Fin 256, ∀ i : Fin 8, (i : Nat) < n → (s : Nat) < 2 ^ (n : Nat) → put s i < 2 ^ (n : Nat) := by decide +kernel
theorem or_put {s i : Nat} (hs : s < 256) (hi : i < 8) : Go.bits .or .i64 (s : Int) (shl .i64 1 (i : Int)) = ((put s i : Nat) : Int) := or_put0 ⟨s, hs⟩ ⟨i, hi⟩
theorem put_pc {s i : Nat} (hs : s < 256) (hi : i < 8) : pc (put s i) = pc s + (if s.testBit i = true then 0 else 1) := put_pc0 ⟨s, hs⟩ ⟨i, hi⟩
theorem full_pc {n s : Nat} (hn : n ≤ 8) (hs : s < 2 ^ n) : pc s = n ↔ s = 2 ^ n - 1 := by
  have h8 : 2 ^ n ≤ 2 ^ 8 := Nat.pow_le_pow_right (by omega) hn
  exact full0 ⟨n, by omega⟩ ⟨s, by omega⟩ hs
theorem full_shl {n : Nat} (hn : n ≤ 8) : wrap64 ((shl .i64 1 (n : Int)) - 1) = ((2 ^ n - 1 : Nat) : Int) := full_shl0 ⟨n, by omega⟩
theorem put_pow {n s i : Nat} (hn : n ≤ 8) (hi : i < n) (hs : s < 2 ^ n) : put s i < 2 ^ n := by
  have h8 : 2 ^ n ≤ 2 ^ 8 := Nat.pow_le_pow_right (by omega) hn
  exact put_pow0 ⟨n, by omega⟩ ⟨s, by omega⟩ ⟨i, by omega⟩ hi hs
def inN (n : Nat) (x : Int) : Bool := decide (0 ≤ x ∧ x < (n : Int))
def fresh : Nat → List Int → Bool
  | _, [] => true
  | s, x :: xs => !s.testBit x.toNat && fresh (put s x.toNat) xs
def setAll : Nat → List Int → Nat
  | s, [] => s
  | s, x :: xs => setAll (put s x.toNat) xs
theorem inN_iff {n : Nat} {x : Int} : inN n x = true ↔ 0 ≤ x ∧ x < (n : Int) := by simp [inN]
theorem pow8 {n : Nat} (hn : n ≤ 8) : 2 ^ n ≤ 256 := Nat.pow_le_pow_right (n := 2) (by omega) hn
theorem setAll_pc {n : Nat} (hn : n ≤ 8) : ∀ (o : List Int) (s : Nat), o.all (inN n) = true → s < 2 ^ n → pc (setAll s o) ≤ pc s + o.length ∧ (pc (setAll s o) = pc s + o.length ↔ fresh s o = true)
  | [], s, _, hs => by simp [setAll, fresh]
  | x :: xs, s, h, hs => by
    rw [List.all_cons, Bool.and_eq_true, inN_iff] at h
    have h8 := pow8 hn
    obtain ⟨ih1, ih2⟩ := setAll_pc hn xs (put s x.toNat) h.2 (put_pow hn (by omega) hs)
    rw [put_pc (by omega) (by omega)] at ih1 ih2
    simp only [setAll, fresh, List.length_cons]
    cases hb : s.testBit x.toNat with
    | true =>
      simp only [hb, if_true] at ih1 ih2
      simp
      omega
    | false =>
      simp only [hb, Bool.false_eq_true, if_false] at ih1 ih2
      simp
      rw [← ih2]
      omega
def rowFrom (l : List S48) : Int → List Int → List Int → List Int
  | _, acc, [] => acc
  | now, acc, x :: xs => rowFrom l (now + (jb l x.toNat).f0) (acc.set x.toNat (now + (jb l x.toNat).f0)) xs
def rowOf (l : List S48) (o : List Int) : List Int := rowFrom l 0 (List.replicate l.length 0) o
theorem rowFrom_length (l : List S48) : ∀ (o acc : List Int) (now : Int), (rowFrom l now acc o).length = acc.length
  | [], _, _ => rfl
  | x :: xs, acc, now => by rw [rowFrom, rowFrom_length, List.length_set]
theorem rowOf_length (l : List S48) (o : List Int) : (rowOf l o).length = l.length := by rw [rowOf, rowFrom_length, List.length_replicate]
theorem time_le {l : List S48} (hv : valid48 l = true) (i : Nat) : 0 ≤ (jb l i).f0 ∧ (jb l i).f0 ≤ 20 := by
  by_cases h : i < l.length
  · rw [jb_get h]
    simp only [valid48, Bool.and_eq_true, List.all_eq_true, decide_eq_true_eq] at hv
    have := hv.2 l[i] (List.getElem_mem h)
    simp only [ok48, decide_eq_true_eq] at this
    omega
  · simp [jb, List.getD_eq_getElem?_getD, List.getElem?_eq_none (Nat.le_of_not_lt h), z48]
theorem refends_row_loop (l : List S43) (hv : valid48 (l.map to48) = true) (o : List Int) (ha : o.all (inN l.length) = true) (hl : o.length ≤ 1000000) : ∀ (d i : Nat) (acc : List Int) (now : Int), i + d = o.length → acc.length = l.length → 0 ≤ now → now ≤ 20 * i →
    Ev (fun k => corrodyref06_Ends.l0 k l acc now o (o.length : Int) (i : Int)) (rowFrom (l.map to48) now acc (o.drop i)) := by
  intro d
  induction d with
  | zero =>
    intro i acc now hi hac h0 h1
    rw [show i = o.length by omega, List.drop_length]
    refine Ev.step (f := fun _ => some acc) (fun k => ?_) (Ev.now _)
    simp only [corrodyref06_Ends.l0]
    rw [if_neg (by omega)]
  | succ d ih =>
    intro i acc now hi hac h0 h1
    have hlt : i < o.length := by omega
    have hx := List.all_eq_true.1 ha o[i] (List.getElem_mem hlt)
    rw [inN_iff] at hx
    have ht := time_le hv o[i].toNat
    have hget : (rd_T43 l o[i]).f0 = (jb (l.map to48) o[i].toNat).f0 := by
      have := rd43 l o[i].toNat (by omega)
      rw [show ((o[i].toNat : Nat) : Int) = o[i] by omega] at this
      rw [this, jb_get (by rw [List.length_map]; omega), List.getElem_map]
      rfl
    rw [List.drop_eq_getElem_cons hlt, rowFrom]
    refine Ev.step (fun k => ?_) (ih (i + 1) (acc.set o[i].toNat (now + (jb (l.map to48) o[i].toNat).f0)) (now + (jb (l.map to48) o[i].toNat).f0) (by omega) (by rw [List.length_set, hac]) (by omega) (by omega))
    simp only [corrodyref06_Ends.l0]
    rw [if_pos (by omega), if_pos (by omega), if_pos (by omega), rd_nat o i hlt, if_pos (by omega), if_pos (by omega), if_pos (by omega), w64s i o.length hlt (by omega), hget, w64 (by omega) (by omega)]
theorem refends_row (l : List S43) (hv : valid48 (l.map to48) = true) (o : List Int) (ha : o.all (inN l.length) = true) (hl : o.length ≤ 1000000) : Ev (fun k => corrodyref06_Ends.f k l o) (rowOf (l.map to48) o) := by
  unfold corrodyref06_Ends.f
  have hn : l.length ≤ 8 := by
    simp only [valid48, Bool.and_eq_true, decide_eq_true_eq, List.length_map] at hv
    exact hv.1.2
  simp only [if_pos (show (0 : Int) ≤ (l.length : Int) by omega), if_pos (show ((l.length : Int) : Int).toNat ≤ 35184372088832 by omega)]
  rw [show ((l.length : Int)).toNat = l.length by omega, rowOf, List.length_map]
  exact refends_row_loop l hv o ha hl o.length 0 _ 0 (by omega) (by simp) (by omega) (by omega)
theorem mn_min (a b : Int) : mn a b = min a b := by unfold mn; omega
end Go.Proofs.Ytaboleeclpllpaa.M


namespace Go.Proofs.Ytaboleeclpllpaa.M
open Go.RowKit Go.Proofs.YtaboleeclpllpaaW.PrintWords Go.Proofs.YtaboleeclpllpaaW.PrintLast Go.Proofs.YtaboleeclpllpaaW.PrintMore Go.Proofs.Ytaboleeclpllpaa.P Go.Proofs.Ytaboleeclpllpaa.T
set_option linter.unusedVariables false
set_option linter.unusedSimpArgs false
end Go.Proofs.Ytaboleeclpllpaa.M


namespace Go.Proofs.Ytaboleeclpllpaa.M
open Go.RowKit Go.Proofs.YtaboleeclpllpaaW.PrintWords Go.Proofs.YtaboleeclpllpaaW.PrintLast Go.Proofs.YtaboleeclpllpaaW.PrintMore Go.Proofs.Ytaboleeclpllpaa.P Go.Proofs.Ytaboleeclpllpaa.T
set_option linter.unusedVariables false
set_option linter.unusedSimpArgs false
def free (bs : List Int) (s i : Nat) : Bool := !s.testBit i && decide (Go.bits .andNot .i64 (rd bs (i : Int)) (s : Int) = 0)
def cost (l : List S48) : Int → List Nat → Int
  | _, [] => -1000
  | a, i :: r => mx (cost l (a + timf l i) r) (a + timf l i - duef l i)
def conts (bs : List Int) (n : Nat) : Nat → Nat → List (List Nat)
  | 0, s => if s = 2 ^ n - 1 then [[]] else []
  | m + 1, s => if s = 2 ^ n - 1 then [[]] else (List.range n).flatMap (fun i => if free bs s i = true then (conts bs n m (put s i)).map (i :: ·) else [])
def atS (l : List S48) (s : Nat) : Int := sumN l.length (fun i => if s.testBit i = true then timf l i else 0)
theorem put_bit0 : ∀ s : Fin 256, ∀ i j : Fin 8, (put s i).testBit j = ((s : Nat).testBit j || decide ((j : Nat) = (i : Nat))) := by decide +kernel
theorem put_bit {s i j : Nat} (hs : s < 256) (hi : i < 8) (hj : j < 8) : (put s i).testBit j = (s.testBit j || decide (j = i)) := put_bit0 ⟨s, hs⟩ ⟨i, hi⟩ ⟨j, hj⟩
theorem atS_put (l : List S48) (h8 : l.length ≤ 8) {s i : Nat} (hs : s < 256) (hi : i < l.length) (hb : s.testBit i = false) : atS l (put s i) = atS l s + timf l i := by
  unfold atS
  rw [sumN_at (f := fun j => if (put s i).testBit j = true then timf l j else 0) (g := fun j => if s.testBit j = true then timf l j else 0) i hi (fun j hj hne => by
    show (if (put s i).testBit j = true then timf l j else 0) = (if s.testBit j = true then timf l j else 0)
    rw [put_bit hs (by omega) (by omega)]
    simp [hne])]
  simp only [put_bit hs (show i < 8 by omega) (show i < 8 by omega), hb]
  simp
theorem atS_bound (l : List S48) (hv : valid48 l = true) (s : Nat) : 0 ≤ atS l s ∧ atS l s ≤ 160 := by
  have hlen := valid_len hv
  have h : ∀ n : Nat, n ≤ l.length → 0 ≤ sumN n (fun i => if s.testBit i = true then timf l i else 0) ∧ sumN n (fun i => if s.testBit i = true then timf l i else 0) ≤ 20 * n := by
    intro n
    induction n with
    | zero => intro _; simp [sumN]
    | succ n ih =>
      intro h
      have h1 := ih (by omega)
      have h2 := valid_jb hv (i := n) (by omega)
      simp only [sumN]
      unfold timf at h1 ⊢
      split <;> omega
  have := h l.length (Nat.le_refl _)
  unfold atS
  omega
theorem at_run (l : List S48) (hv : valid48 l = true) (s : Nat) (hs : s < 256) : dates_jobs_worst.at l (s : Int) l.length 0 0 = atS l s := by
  have hlen := valid_len hv
  have h : ∀ m i : Nat, i + m = l.length → ∀ a : Int, a = sumN i (fun i => if s.testBit i = true then timf l i else 0) → 0 ≤ a → a ≤ 20 * i → dates_jobs_worst.at l (s : Int) m i a = atS l s := by
    intro m
    induction m with
    | zero =>
      intro i hi a ha _ _
      rw [dates_jobs_worst.at, ha, show i = l.length by omega]
      rfl
    | succ m ih =>
      intro i hi a ha h0 h1
      have h2 := valid_jb hv (i := i) (by omega)
      rw [dates_jobs_worst.at, bit_test hs (by omega), rd48 l i (by omega), ← jb_get (by omega)]
      have e : sumN (i + 1) (fun i => if s.testBit i = true then timf l i else 0) = sumN i (fun i => if s.testBit i = true then timf l i else 0) + (if s.testBit i = true then timf l i else 0) := rfl
      by_cases c : s.testBit i = true
      · rw [if_pos c] at e ⊢
        rw [Int.mul_one, w64 (x := (jb l i).f0) (by omega) (by omega), w64 (by omega) (by omega)]
        refine ih (i + 1) (by omega) _ (by rw [e, ha]; rfl) (by omega) (by omega)
      · rw [if_neg c] at e ⊢
        rw [Int.mul_zero, w64 (x := 0) (by omega) (by omega), w64 (by omega) (by omega)]
        refine ih (i + 1) (by omega) _ (by rw [e, ha]) (by omega) (by omega)
  exact h l.length 0 (by omega) 0 rfl (by omega) (by omega)
def Tells (l : List S48) (a : Int) (L : List (List Nat)) (r : Int × Bool) : Prop := (r.2 = false → L = []) ∧ (r.2 = true → (∃ o, o ∈ L ∧ cost l a o = r.1) ∧ ∀ o, o ∈ L → r.1 ≤ cost l a o)
theorem mx_le_mx {a b c : Int} (h : a ≤ b) : mx a c ≤ mx b c := by unfold mx; split <;> split <;> omega
theorem tells_cons {l : List S48} {a : Int} {i : Nat} {L : List (List Nat)} {r : Int × Bool} (h : Tells l (a + timf l i) L r) : Tells l a (L.map (i :: ·)) (mx r.1 (a + timf l i - duef l i), r.2) := by
  refine ⟨fun e => by rw [h.1 e]; rfl, fun e => ?_⟩
  obtain ⟨⟨o, ho, hc⟩, hm⟩ := h.2 e
  refine ⟨⟨i :: o, List.mem_map.2 ⟨o, ho, rfl⟩, by rw [cost, hc]⟩, fun o' ho' => ?_⟩
  obtain ⟨q, hq, rfl⟩ := List.mem_map.1 ho'
  rw [cost]
  exact mx_le_mx (hm q hq)
theorem tells_app {l : List S48} {a : Int} {L M : List (List Nat)} {b x : Int} {f g : Bool} (h : Tells l a L (b, f)) (k : Tells l a M (x, g)) :
    Tells l a (L ++ M) (if g = true then (if f = true then (if x < b then (x, true) else (b, f)) else (x, true)) else (b, f)) := by
  cases g with
  | false =>
    rw [if_neg (by simp), k.1 rfl, List.append_nil]
    exact h
  | true =>
    obtain ⟨⟨o, ho, hc⟩, hm⟩ := k.2 rfl
    simp only at hc hm
    rw [if_pos rfl]
    cases f with
    | false =>
      rw [if_neg (by simp), h.1 rfl, List.nil_append]
      exact k
    | true =>
      obtain ⟨⟨p, hp, hd⟩, hn⟩ := h.2 rfl
      simp only at hd hn
      rw [if_pos rfl]
      by_cases c : x < b
      · rw [if_pos c]
        refine ⟨fun e => absurd e (by simp), fun _ => ⟨⟨o, List.mem_append.2 (Or.inr ho), hc⟩, fun q hq => ?_⟩⟩
        rcases List.mem_append.1 hq with hq | hq
        · have := hn q hq
          simp only
          omega
        · exact hm q hq
      · rw [if_neg c]
        refine ⟨fun e => absurd e (by simp), fun _ => ⟨⟨p, List.mem_append.2 (Or.inl hp), hd⟩, fun q hq => ?_⟩⟩
        rcases List.mem_append.1 hq with hq | hq
        · exact hn q hq
        · have := hm q hq
          simp only
          omega
theorem free_iff {bs : List Int} {s i : Nat} (hs : s < 256) (hi : i < 8) : free bs s i = true ↔ ¬ Go.bits .and .i64 (shr .i64 (s : Int) (i : Int)) 1 = 1 ∧ ¬ Go.bits .andNot .i64 (rd bs (i : Int)) (s : Int) ≠ 0 := by
  rw [bit_test hs hi]
  unfold free
  cases s.testBit i <;> simp
theorem full_shl' {n : Nat} (hn : n ≤ 8) : wrap64 (shl .i64 1 (n : Int) - 1) = ((2 ^ n - 1 : Nat) : Int) := full_shl hn
theorem worst_tells (l : List S48) (hv : valid48 l = true) (bs : List Int) (hb : bs.length = l.length) : ∀ (k s : Nat), s < 2 ^ l.length → l.length ≤ pc s + k → ∃ r, dates_jobs_worst.f (k + 1) l bs (s : Int) = some r ∧ Tells l (atS l s) (conts bs l.length k s) r := by
  have hlen := valid_len hv
  have h8 := pow8 hlen.2
  intro k
  induction k with
  | zero =>
    intro s hs hk
    have hpc : pc s ≤ l.length := by
      have := setAll_pc hlen.2 [] s rfl hs
      by_cases c : pc s ≤ l.length
      · exact c
      · exfalso
        have h0 : ∀ n : Fin 9, ∀ s : Fin 256, (s : Nat) < 2 ^ (n : Nat) → pc s ≤ n := by decide +kernel
        exact c (h0 ⟨l.length, by omega⟩ ⟨s, by omega⟩ hs)
    have hf : s = 2 ^ l.length - 1 := (full_pc hlen.2 hs).1 (by omega)
    refine ⟨(-1000, true), by rw [dates_jobs_worst.f, full_shl' hlen.2, if_pos (by rw [hf])], ?_⟩
    rw [conts, if_pos hf]
    exact ⟨fun e => absurd e (by simp), fun _ => ⟨⟨[], by simp, rfl⟩, fun o ho => by rw [List.mem_singleton.1 ho]; exact Int.le_refl _⟩⟩
  | succ k ih =>
    intro s hs hk
    rw [dates_jobs_worst.f, full_shl' hlen.2]
    by_cases hf : s = 2 ^ l.length - 1
    · refine ⟨(-1000, true), by rw [if_pos (by rw [hf])], ?_⟩
      rw [conts, if_pos hf]
      exact ⟨fun e => absurd e (by simp), fun _ => ⟨⟨[], by simp, rfl⟩, fun o ho => by rw [List.mem_singleton.1 ho]; exact Int.le_refl _⟩⟩
    · rw [if_neg (by omega), conts, if_neg hf, at_run l hv s (by omega)]
      have hat := atS_bound l hv s
      have hscan : ∀ (m i : Nat), i + m = l.length → ∀ (b : Int) (f : Bool), Tells l (atS l s) ((List.range i).flatMap (fun i => if free bs s i = true then (conts bs l.length k (put s i)).map (i :: ·) else [])) (b, f) →
          ∃ r, dates_jobs_worst.scan (dates_jobs_worst.f (k + 1) l bs) l bs (s : Int) (atS l s) m i b f = some r ∧ Tells l (atS l s) ((List.range l.length).flatMap (fun i => if free bs s i = true then (conts bs l.length k (put s i)).map (i :: ·) else [])) r := by
        intro m
        induction m with
        | zero =>
          intro i hi b f ht
          refine ⟨(b, f), rfl, ?_⟩
          rw [show i = l.length by omega] at ht
          exact ht
        | succ m ihm =>
          intro i hi b f ht
          have hil : i < l.length := by omega
          rw [dates_jobs_worst.scan]
          have hnext : ∀ (x : Int) (g : Bool), Tells l (atS l s) (if free bs s i = true then (conts bs l.length k (put s i)).map (i :: ·) else []) (x, g) → Tells l (atS l s) ((List.range (i + 1)).flatMap (fun i => if free bs s i = true then (conts bs l.length k (put s i)).map (i :: ·) else [])) (if g = true then (if f = true then (if x < b then (x, true) else (b, f)) else (x, true)) else (b, f)) := by
            intro x g hg
            rw [List.range_succ, List.flatMap_append]
            have e : [i].flatMap (fun i => if free bs s i = true then (conts bs l.length k (put s i)).map (i :: ·) else []) = if free bs s i = true then (conts bs l.length k (put s i)).map (i :: ·) else [] := by simp
            rw [e]
            exact tells_app ht hg
          by_cases c1 : Go.bits .and .i64 (shr .i64 (s : Int) (i : Int)) 1 = 1
          · rw [if_pos c1]
            have hnf : ¬ free bs s i = true := fun h => (((free_iff (by omega) (by omega)).1 h).1) c1
            have h1 := hnext 0 false (by rw [if_neg hnf]; exact ⟨fun _ => rfl, fun e => absurd e (by simp)⟩)
            rw [if_neg (by simp)] at h1
            exact ihm (i + 1) (by omega) b f h1
          · rw [if_neg c1, if_pos (by omega)]
            by_cases c2 : Go.bits .andNot .i64 (rd bs (i : Int)) (s : Int) ≠ 0
            · rw [if_pos c2]
              have hnf : ¬ free bs s i = true := fun h => (((free_iff (by omega) (by omega)).1 h).2) c2
              have h1 := hnext 0 false (by rw [if_neg hnf]; exact ⟨fun _ => rfl, fun e => absurd e (by simp)⟩)
              rw [if_neg (by simp)] at h1
              exact ihm (i + 1) (by omega) b f h1
            · rw [if_neg c2]
              have hfr : free bs s i = true := (free_iff (by omega) (by omega)).2 ⟨c1, c2⟩
              have hbit : s.testBit i = false := by
                unfold free at hfr
                cases h : s.testBit i
                · rfl
                · rw [h] at hfr; simp at hfr
              rw [or_put (by omega) (by omega)]
              obtain ⟨rr, hrr, ht2⟩ := ih (put s i) (put_pow hlen.2 hil hs) (by rw [put_pc (by omega) (by omega), hbit]; simp; omega)
              rw [hrr, Option.bind_some]
              rw [atS_put l hlen.2 (by omega) hil hbit] at ht2
              have hj := valid_jb hv hil
              have hw : wrap64 (wrap64 (atS l s + (rd_T48 l (i : Int)).f0) - (rd_T48 l (i : Int)).f2) = atS l s + timf l i - duef l i := by
                rw [rd48 l i hil, ← jb_get hil, w64 (x := atS l s + (jb l i).f0) (by omega) (by omega), w64 (by omega) (by omega)]
                rfl
              rw [hw]
              have h1 := hnext _ _ (by rw [if_pos hfr]; exact tells_cons ht2)
              obtain ⟨x, g⟩ := rr
              simp only at h1 ⊢
              cases g with
              | false =>
                rw [if_neg (by simp)] at h1 ⊢
                exact ihm (i + 1) (by omega) _ _ h1
              | true =>
                rw [if_pos rfl] at h1 ⊢
                cases f with
                | false =>
                  rw [if_neg (by simp)] at h1 ⊢
                  exact ihm (i + 1) (by omega) _ _ h1
                | true =>
                  rw [if_pos rfl] at h1 ⊢
                  by_cases c3 : mx x (atS l s + timf l i - duef l i) < b
                  · rw [if_pos c3] at h1 ⊢
                    exact ihm (i + 1) (by omega) _ _ h1
                  · rw [if_neg c3] at h1 ⊢
                    exact ihm (i + 1) (by omega) _ _ h1
      exact hscan l.length 0 (by omega) 0 false ⟨fun _ => rfl, fun e => absurd e (by simp)⟩
end Go.Proofs.Ytaboleeclpllpaa.M


namespace Go.Proofs.Ytaboleeclpllpaa.M
open Go.RowKit Go.Proofs.YtaboleeclpllpaaW.PrintWords Go.Proofs.YtaboleeclpllpaaW.PrintLast Go.Proofs.YtaboleeclpllpaaW.PrintMore Go.Proofs.Ytaboleeclpllpaa.P Go.Proofs.Ytaboleeclpllpaa.T
set_option linter.unusedVariables false
set_option linter.unusedSimpArgs false
def step1 (c : List Nat → Int) (acc : Option (List Nat × Int)) (o : List Nat) : Option (List Nat × Int) := match acc with
  | none => some (o, c o)
  | some (p, x) => if c o < x then some (o, c o) else some (p, x)
def firstMin (c : List Nat → Int) (L : List (List Nat)) : Option (List Nat × Int) := L.foldl (step1 c) none
def Kept1 (c : List Nat → Int) (L : List (List Nat)) : Option (List Nat × Int) → Prop
  | none => L = []
  | some (o, x) => L.find? (fun q => decide (c q ≤ x)) = some o ∧ c o = x ∧ ∀ q, q ∈ L → x ≤ c q
theorem kept_step {c : List Nat → Int} {L : List (List Nat)} {acc : Option (List Nat × Int)} (h : Kept1 c L acc) (o : List Nat) : Kept1 c (L ++ [o]) (step1 c acc o) := by
  cases acc with
  | none =>
    have h : L = [] := h
    subst h
    refine ⟨?_, rfl, fun q hq => ?_⟩
    · rw [List.nil_append, List.find?_cons_of_pos (by simp)]
    · rw [List.nil_append, List.mem_singleton] at hq
      rw [hq]
      exact Int.le_refl _
  | some px =>
    obtain ⟨p, x⟩ := px
    obtain ⟨h1, h2, h3⟩ := h
    rw [step1]
    by_cases u : c o < x
    · rw [if_pos u]
      refine ⟨?_, rfl, fun q hq => ?_⟩
      · rw [List.find?_append]
        have : L.find? (fun q => decide (c q ≤ c o)) = none := by
          rw [List.find?_eq_none]
          intro q hq
          have := h3 q hq
          simp
          omega
        rw [this, Option.none_or, List.find?_cons_of_pos (by simp)]
      · rcases List.mem_append.1 hq with hq | hq
        · have := h3 q hq
          omega
        · rw [List.mem_singleton.1 hq]
          exact Int.le_refl _
    · rw [if_neg u]
      refine ⟨?_, h2, fun q hq => ?_⟩
      · rw [List.find?_append, h1]
        rfl
      · rcases List.mem_append.1 hq with hq | hq
        · exact h3 q hq
        · rw [List.mem_singleton.1 hq]
          omega
theorem kept_fold {c : List Nat → Int} : ∀ (L M : List (List Nat)) (acc : Option (List Nat × Int)), Kept1 c M acc → Kept1 c (M ++ L) (L.foldl (step1 c) acc)
  | [], M, acc, h => by rw [List.append_nil]; exact h
  | o :: L, M, acc, h => by
    have := kept_fold L (M ++ [o]) (step1 c acc o) (kept_step h o)
    rw [List.append_assoc] at this
    exact this
theorem firstMin_kept (c : List Nat → Int) (L : List (List Nat)) : Kept1 c L (firstMin c L) := kept_fold L [] none rfl
def leastOf (l : List S48) (bs : List Int) : List Int × Int × Int := match firstMin (cost l 0) (conts bs l.length 8 0) with
  | none => ([], 0, 6)
  | some (o, x) => (o.map (fun i : Nat => (i : Int)), x, 0)
theorem mx_le {a b c : Int} : mx a b ≤ c ↔ a ≤ c ∧ b ≤ c := by unfold mx; split <;> omega
def within1 (l : List S48) (bs : List Int) (k s : Nat) (a x : Int) (j : Nat) : Option (List Nat) :=
  if free bs s j = true ∧ a + timf l j - duef l j ≤ x then ((conts bs l.length k (put s j)).find? (fun q => decide (cost l (a + timf l j) q ≤ x))).map (j :: ·) else none
theorem within1_find (l : List S48) (bs : List Int) (k s : Nat) (a x : Int) (j : Nat) : (if free bs s j = true then (conts bs l.length k (put s j)).map (j :: ·) else []).find? (fun q => decide (cost l a q ≤ x)) = within1 l bs k s a x j := by
  unfold within1
  by_cases c : free bs s j = true
  · rw [if_pos c, List.find?_map]
    by_cases d : a + timf l j - duef l j ≤ x
    · rw [if_pos ⟨c, d⟩]
      congr 2
      funext q
      simp only [Function.comp, cost, mx_le, d, and_true]
    · rw [if_neg (fun h => d h.2)]
      have : (conts bs l.length k (put s j)).find? ((fun q => decide (cost l a q ≤ x)) ∘ (j :: ·)) = none := by
        rw [List.find?_eq_none]
        intro q hq
        simp only [Function.comp, cost, mx_le, d, and_false, decide_false]
        simp
      rw [this]
      rfl
  · rw [if_neg c, if_neg (fun h => c h.1)]
    rfl
theorem tells_find {l : List S48} {a : Int} {L : List (List Nat)} {r : Int × Bool} (h : Tells l a L r) (x : Int) : (∃ o, L.find? (fun q => decide (cost l a q ≤ x)) = some o) ↔ r.2 = true ∧ r.1 ≤ x := by
  constructor
  · rintro ⟨o, ho⟩
    have h1 := List.mem_of_find?_eq_some ho
    have h2 := List.find?_some ho
    simp only [decide_eq_true_eq] at h2
    cases hb : r.2 with
    | false =>
      rw [h.1 hb] at h1
      exact absurd h1 (by simp)
    | true => exact ⟨rfl, Int.le_trans ((h.2 hb).2 o h1) h2⟩
  · rintro ⟨hb, hx⟩
    obtain ⟨⟨o, ho, hc⟩, _⟩ := h.2 hb
    have : (L.find? (fun q => decide (cost l a q ≤ x))).isSome = true := by
      rw [List.find?_isSome]
      exact ⟨o, ho, by simp; omega⟩
    exact Option.isSome_iff_exists.1 this
theorem pick_first (l : List S48) (hv : valid48 l = true) (bs : List Int) (hb : bs.length = l.length) (k s : Nat) (hs : s < 2 ^ l.length) (hk : l.length ≤ pc s + (k + 1)) (x : Int) : ∀ (m i : Nat), i + m = l.length → ∀ o, (List.range' i m).findSome? (within1 l bs k s (atS l s) x) = some o →
    ∃ j o', o = j :: o' ∧ j < l.length ∧ free bs s j = true ∧ (conts bs l.length k (put s j)).find? (fun q => decide (cost l (atS l s + timf l j) q ≤ x)) = some o' ∧ dates_Least.pick l bs (s : Int) (atS l s) x m i = some j := by
  have hlen := valid_len hv
  have h8 := pow8 hlen.2
  have hat := atS_bound l hv s
  intro m
  induction m with
  | zero =>
    intro i hi o ho
    exact absurd ho (by simp)
  | succ m ih =>
    intro i hi o ho
    have hil : i < l.length := by omega
    rw [List.range'_succ, List.findSome?_cons] at ho
    have hj := valid_jb hv hil
    have hw : wrap64 (wrap64 (atS l s + (rd_T48 l (i : Int)).f0) - (rd_T48 l (i : Int)).f2) = atS l s + timf l i - duef l i := by
      rw [rd48 l i hil, ← jb_get hil, w64 (x := atS l s + (jb l i).f0) (by omega) (by omega), w64 (by omega) (by omega)]
      rfl
    have hnext : within1 l bs k s (atS l s) x i = none → ∃ j o', o = j :: o' ∧ j < l.length ∧ free bs s j = true ∧ (conts bs l.length k (put s j)).find? (fun q => decide (cost l (atS l s + timf l j) q ≤ x)) = some o' ∧ dates_Least.pick l bs (s : Int) (atS l s) x m (i + 1) = some j := by
      intro hn
      rw [hn] at ho
      exact ih (i + 1) (by omega) o ho
    rw [dates_Least.pick]
    by_cases c1 : Go.bits .and .i64 (shr .i64 (s : Int) (i : Int)) 1 = 1
    · rw [if_pos c1]
      exact hnext (by unfold within1; rw [if_neg (fun h => (((free_iff (by omega) (by omega)).1 h.1).1) c1)])
    · rw [if_neg c1, if_pos (by omega)]
      by_cases c2 : Go.bits .andNot .i64 (rd bs (i : Int)) (s : Int) ≠ 0
      · rw [if_pos c2]
        exact hnext (by unfold within1; rw [if_neg (fun h => (((free_iff (by omega) (by omega)).1 h.1).2) c2)])
      · rw [if_neg c2, hw]
        have hfr : free bs s i = true := (free_iff (by omega) (by omega)).2 ⟨c1, c2⟩
        have hbit : s.testBit i = false := by
          unfold free at hfr
          cases h : s.testBit i
          · rfl
          · rw [h] at hfr; simp at hfr
        by_cases c3 : atS l s + timf l i - duef l i > x
        · rw [if_pos c3]
          exact hnext (by unfold within1; rw [if_neg (fun h => absurd h.2 (by omega))])
        · rw [if_neg c3, or_put (by omega) (by omega)]
          obtain ⟨rr, hrr, ht⟩ := worst_tells l hv bs hb k (put s i) (put_pow hlen.2 hil hs) (by rw [put_pc (by omega) (by omega), hbit]; simp; omega)
          have hrr9 : dates_jobs_worst.f 9 l bs ((put s i : Nat) : Int) = some rr := by
            obtain ⟨r9, h9, ht9⟩ := worst_tells l hv bs hb 8 (put s i) (put_pow hlen.2 hil hs) (by omega)
            rw [h9]
            exact congrArg some (dates_jobs_worst.det l bs hrr h9)
          rw [hrr9, Option.bind_some]
          rw [atS_put l hlen.2 (by omega) hil hbit] at ht
          have hf := tells_find ht x
          have hw1 : within1 l bs k s (atS l s) x i = ((conts bs l.length k (put s i)).find? (fun q => decide (cost l (atS l s + timf l i) q ≤ x))).map (i :: ·) := by
            unfold within1
            rw [if_pos ⟨hfr, by omega⟩]
          by_cases c4 : rr.2 = true
          · rw [if_pos c4]
            by_cases c5 : rr.1 ≤ x
            · rw [if_pos c5]
              obtain ⟨o', ho'⟩ := hf.2 ⟨c4, c5⟩
              rw [hw1, ho'] at ho
              simp only [Option.map_some, Option.some.injEq] at ho
              exact ⟨i, o', ho.symm, hil, hfr, ho', rfl⟩
            · rw [if_neg c5]
              refine hnext ?_
              rw [hw1]
              cases h : (conts bs l.length k (put s i)).find? (fun q => decide (cost l (atS l s + timf l i) q ≤ x)) with
              | none => rfl
              | some o' => exact absurd (hf.1 ⟨o', h⟩).2 c5
          · rw [if_neg c4]
            refine hnext ?_
            rw [hw1]
            cases h : (conts bs l.length k (put s i)).find? (fun q => decide (cost l (atS l s + timf l i) q ≤ x)) with
            | none => rfl
            | some o' => exact absurd (hf.1 ⟨o', h⟩).1 c4
theorem go_first (l : List S48) (hv : valid48 l = true) (bs : List Int) (hb : bs.length = l.length) (x : Int) : ∀ (m k s : Nat), s < 2 ^ l.length → pc s + m = l.length → l.length ≤ pc s + k → ∀ (out : List Int) (o : List Nat), (conts bs l.length k s).find? (fun q => decide (cost l (atS l s) q ≤ x)) = some o →
    dates_Least.go l bs x m out (s : Int) (atS l s) = some (out ++ o.map (fun i : Nat => (i : Int))) := by
  have hlen := valid_len hv
  have h8 := pow8 hlen.2
  intro m
  induction m with
  | zero =>
    intro k s hs hm hk out o ho
    have hf : s = 2 ^ l.length - 1 := (full_pc hlen.2 hs).1 (by omega)
    have hc : conts bs l.length k s = [[]] := by cases k <;> rw [conts, if_pos hf]
    rw [hc] at ho
    have := List.mem_of_find?_eq_some ho
    rw [List.mem_singleton.1 this, dates_Least.go]
    simp
  | succ m ih =>
    intro k s hs hm hk out o ho
    have hf : ¬ s = 2 ^ l.length - 1 := fun h => by
      have := (full_pc hlen.2 hs).2 h
      omega
    obtain ⟨k, rfl⟩ : ∃ k', k = k' + 1 := ⟨k - 1, by omega⟩
    rw [conts, if_neg hf, List.find?_flatMap] at ho
    have ho2 : (List.range' 0 l.length).findSome? (within1 l bs k s (atS l s) x) = some o := by
      rw [← ho, List.range_eq_range']
      congr 1
      funext j
      exact (within1_find l bs k s (atS l s) x j).symm
    obtain ⟨j, o', rfl, hj, hfr, hfo, hp⟩ := pick_first l hv bs hb k s hs hk x l.length 0 (by omega) o ho2
    have hbit : s.testBit j = false := by
      unfold free at hfr
      cases h : s.testBit j
      · rfl
      · rw [h] at hfr; simp at hfr
    have hpc : pc (put s j) = pc s + 1 := by rw [put_pc (by omega) (by omega), hbit]; simp
    have hvj := valid_jb hv hj
    have hat := atS_bound l hv s
    rw [dates_Least.go, hp, Option.bind_some, or_put (by omega) (by omega), rd48 l j hj, ← jb_get hj, w64 (by omega) (by omega)]
    have ha := atS_put l hlen.2 (show s < 256 by omega) hj hbit
    have e : atS l s + (jb l j).f0 = atS l (put s j) := ha.symm
    rw [e]
    rw [← ha] at hfo
    rw [ih k (put s j) (put_pow hlen.2 hj hs) (by omega) (by omega) _ o' hfo]
    simp
theorem atS_zero (l : List S48) : atS l 0 = 0 := by
  unfold atS
  rw [sumN_congr (g := fun _ => 0) (fun i hi => by simp), sumN_zero]
theorem least_sem (l : List S48) (hv : valid48 l = true) (bs : List Int) (hb : bs.length = l.length) : ∃ r, dates_jobs_worst.f 9 l bs 0 = some r ∧ (if r.2 = true then (dates_Least.go l bs r.1 l.length [] 0 0).bind (fun o => some (o, r.1, (0 : Int))) else some ([], 0, 6)) = some (leastOf l bs) := by
  have hlen := valid_len hv
  have hpos : 0 < 2 ^ l.length := Nat.two_pow_pos _
  have hpc0 : pc 0 = 0 := by decide
  obtain ⟨r, hr, ht⟩ := worst_tells l hv bs hb 8 0 hpos (by omega)
  have hk := firstMin_kept (cost l 0) (conts bs l.length 8 0)
  rw [atS_zero] at ht
  refine ⟨r, hr, ?_⟩
  unfold leastOf
  cases h : firstMin (cost l 0) (conts bs l.length 8 0) with
  | none =>
    rw [h] at hk
    have hk : conts bs l.length 8 0 = [] := hk
    have : ¬ r.2 = true := fun e => by
      obtain ⟨⟨o, ho, _⟩, _⟩ := ht.2 e
      rw [hk] at ho
      exact absurd ho (by simp)
    rw [if_neg this]
  | some ox =>
    obtain ⟨o, x⟩ := ox
    rw [h] at hk
    obtain ⟨h1, h2, h3⟩ := hk
    have hom := List.mem_of_find?_eq_some h1
    have hr2 : r.2 = true := by
      cases e : r.2
      · rw [ht.1 e] at hom
        exact absurd hom (by simp)
      · rfl
    obtain ⟨⟨p, hp, hpx⟩, hmin⟩ := ht.2 hr2
    have hx : r.1 = x := by
      have a1 := hmin o hom
      have a2 := h3 p hp
      omega
    rw [if_pos hr2, hx]
    have := go_first l hv bs hb x l.length 8 0 hpos (by omega) (by omega) [] o (by rw [atS_zero]; exact h1)
    rw [atS_zero] at this
    have hz : ((0 : Nat) : Int) = 0 := rfl
    rw [hz] at this
    rw [this, Option.bind_some, List.nil_append]
end Go.Proofs.Ytaboleeclpllpaa.M


namespace Go.Proofs.Ytaboleeclpllpaa.M
open Go.RowKit Go.Proofs.YtaboleeclpllpaaW.PrintWords Go.Proofs.YtaboleeclpllpaaW.PrintLast Go.Proofs.YtaboleeclpllpaaW.PrintMore Go.Proofs.Ytaboleeclpllpaa.P Go.Proofs.Ytaboleeclpllpaa.T
set_option linter.unusedVariables false
set_option linter.unusedSimpArgs false
theorem andnot_eq {b s : Nat} (hb : b < 256) (hs : s < 256) : Go.bits .andNot .i64 (b : Int) (s : Int) = ((b &&& (2 ^ 64 - (s + 1)) : Nat) : Int) := by
  have h1 : b % 2 ^ 64 = b := Nat.mod_eq_of_lt (by omega)
  have h2 : s % 2 ^ 64 = s := Nat.mod_eq_of_lt (by omega)
  have h3 : b &&& (2 ^ 64 - (s + 1)) < 256 := Nat.lt_of_le_of_lt Nat.and_le_left hb
  have h4 : Go.bits .andNot .i64 (b : Int) (s : Int) = IntKind.i64.wrap ((b % 2 ^ 64 &&& (2 ^ 64 - 1 - s % 2 ^ 64) : Nat) : Int) := by
    simp only [Go.bits, BitVec.ofInt_natCast, BitVec.toNat_and, BitVec.toNat_not, BitVec.toNat_ofNat]
    rfl
  rw [h4, h1, h2, show 2 ^ 64 - 1 - s = 2 ^ 64 - (s + 1) by omega, i64_w, w64 (by omega) (by omega)]
theorem andnot0 {b s : Nat} (hb : b < 256) (hs : s < 256) : Go.bits .andNot .i64 (b : Int) (s : Int) = 0 ↔ ∀ i, i < 8 → b.testBit i = true → s.testBit i = true := by
  rw [andnot_eq hb hs]
  constructor
  · intro h i hi hbi
    have h0 : b &&& (2 ^ 64 - (s + 1)) = 0 := by omega
    have h1 : (b &&& (2 ^ 64 - (s + 1))).testBit i = false := by rw [h0]; simp
    rw [Nat.testBit_and, Nat.testBit_two_pow_sub_succ (by omega), hbi] at h1
    simp at h1
    exact h1 (by omega)
  · intro h
    have h0 : b &&& (2 ^ 64 - (s + 1)) = 0 := by
      apply Nat.eq_of_testBit_eq
      intro i
      rw [Nat.testBit_and, Nat.testBit_two_pow_sub_succ (by omega), Nat.zero_testBit]
      by_cases hi : i < 8
      · cases hbi : b.testBit i
        · simp
        · rw [h i hi hbi]
          simp
      · have : b.testBit i = false := Nat.testBit_lt_two_pow (Nat.lt_of_lt_of_le hb (Nat.pow_le_pow_right (n := 2) (by omega) (show 8 ≤ i by omega)))
        rw [this]
        simp
    rw [h0]
    rfl
def prOk (n : Nat) (p : S64) : Bool := decide (0 ≤ p.f0 ∧ p.f0 < (n : Int) ∧ 0 ≤ p.f1 ∧ p.f1 < (n : Int))
def befOk (n : Nat) (ps : List S64) : Bool := decide (ps.length ≤ 16) && ps.all (prOk n)
def masksFrom (acc : List Nat) (ps : List S64) : List Nat := ps.foldl (fun a p => a.set p.f1.toNat (put (a.getD p.f1.toNat 0) p.f0.toNat)) acc
def masks (n : Nat) (ps : List S64) : List Nat := masksFrom (List.replicate n 0) ps
def castL (a : List Nat) : List Int := a.map (fun x : Nat => (x : Int))
theorem rd_cast (a : List Nat) (i : Nat) : rd (castL a) (i : Int) = ((a.getD i 0 : Nat) : Int) := by
  unfold rd castL
  rw [Int.toNat_natCast, List.getD_eq_getElem?_getD, List.getD_eq_getElem?_getD, List.getElem?_map]
  cases a[i]? <;> rfl
theorem masksFrom_length : ∀ (ps : List S64) (acc : List Nat), (masksFrom acc ps).length = acc.length
  | [], _ => rfl
  | p :: ps, acc => by
    show (masksFrom (acc.set _ _) ps).length = _
    rw [masksFrom_length ps, List.length_set]
theorem getD_set_eq (a : List Nat) (i j v : Nat) (hi : i < a.length) : (a.set i v).getD j 0 = if j = i then v else a.getD j 0 := by
  rw [List.getD_eq_getElem?_getD, List.getD_eq_getElem?_getD, List.getElem?_set]
  by_cases h : i = j
  · subst h
    simp [hi]
  · rw [if_neg h, if_neg (fun e => h e.symm)]
def small (n : Nat) (a : List Nat) : Prop := ∀ i, a.getD i 0 < 2 ^ n
theorem small_set {n : Nat} (hn : n ≤ 8) {a : List Nat} (ha : small n a) {p : S64} (hp : prOk n p = true) (hl : a.length = n) : small n (a.set p.f1.toNat (put (a.getD p.f1.toNat 0) p.f0.toNat)) := by
  intro i
  unfold prOk at hp
  simp only [decide_eq_true_eq] at hp
  rw [getD_set_eq _ _ _ _ (by omega)]
  split
  · exact put_pow hn (by omega) (ha _)
  · exact ha i
theorem masksFrom_small {n : Nat} (hn : n ≤ 8) : ∀ (ps : List S64) (acc : List Nat), ps.all (prOk n) = true → acc.length = n → small n acc → small n (masksFrom acc ps)
  | [], _, _, _, h => h
  | p :: ps, acc, hp, hl, h => by
    rw [List.all_cons, Bool.and_eq_true] at hp
    exact masksFrom_small hn ps _ hp.2 (by rw [List.length_set]; exact hl) (small_set hn h hp.1 hl)
theorem masks_small {n : Nat} (hn : n ≤ 8) {ps : List S64} (hp : ps.all (prOk n) = true) : small n (masks n ps) := by
  refine masksFrom_small hn ps _ hp (by simp) (fun i => ?_)
  rw [List.getD_eq_getElem?_getD, List.getElem?_replicate]
  have := Nat.two_pow_pos n
  split <;> simpa using this
theorem masksFrom_bit {n : Nat} (hn : n ≤ 8) : ∀ (ps : List S64) (acc : List Nat), ps.all (prOk n) = true → acc.length = n → small n acc → ∀ i j, i < n → j < n →
    (((masksFrom acc ps).getD j 0).testBit i = true ↔ (acc.getD j 0).testBit i = true ∨ ∃ p, p ∈ ps ∧ p.f0 = (i : Int) ∧ p.f1 = (j : Int))
  | [], acc, _, _, _, i, j, _, _ => by simp [masksFrom]
  | p :: ps, acc, hp, hl, hs, i, j, hi, hj => by
    rw [List.all_cons, Bool.and_eq_true] at hp
    have h8 := pow8 hn
    show ((masksFrom (acc.set _ _) ps).getD j 0).testBit i = true ↔ _
    rw [masksFrom_bit hn ps _ hp.2 (by rw [List.length_set]; exact hl) (small_set hn hs hp.1 hl) i j hi hj]
    have hpp := hp.1
    unfold prOk at hpp
    simp only [decide_eq_true_eq] at hpp
    rw [getD_set_eq _ _ _ _ (by omega)]
    have hsm := hs p.f1.toNat
    constructor
    · rintro (h | ⟨q, hq, h1, h2⟩)
      · by_cases e : j = p.f1.toNat
        · rw [if_pos e, put_bit (by omega) (by omega) (by omega)] at h
          simp only [Bool.or_eq_true, decide_eq_true_eq] at h
          rcases h with h | h
          · exact Or.inl (by rw [e]; exact h)
          · exact Or.inr ⟨p, List.mem_cons_self .., by omega, by omega⟩
        · rw [if_neg e] at h
          exact Or.inl h
      · exact Or.inr ⟨q, List.mem_cons_of_mem _ hq, h1, h2⟩
    · rintro (h | ⟨q, hq, h1, h2⟩)
      · left
        by_cases e : j = p.f1.toNat
        · rw [if_pos e, put_bit (by omega) (by omega) (by omega), ← e, h]
          rfl
        · rw [if_neg e]
          exact h
      · rcases List.mem_cons.1 hq with rfl | hq
        · left
          rw [if_pos (by omega), put_bit (by omega) (by omega) (by omega)]
          simp
          right
          omega
        · exact Or.inr ⟨q, hq, h1, h2⟩
theorem masks_bit {n : Nat} (hn : n ≤ 8) {ps : List S64} (hp : ps.all (prOk n) = true) {i j : Nat} (hi : i < n) (hj : j < n) : ((masks n ps).getD j 0).testBit i = true ↔ ∃ p, p ∈ ps ∧ p.f0 = (i : Int) ∧ p.f1 = (j : Int) := by
  unfold masks
  rw [masksFrom_bit hn ps _ hp (by simp) (fun i => by
    rw [List.getD_eq_getElem?_getD, List.getElem?_replicate]
    have := Nat.two_pow_pos n
    split <;> simpa using this) i j hi hj]
  constructor
  · rintro (h | h)
    · exfalso
      rw [List.getD_eq_getElem?_getD, List.getElem?_replicate] at h
      split at h <;> simp at h
    · exact h
  · exact Or.inr
theorem rd64 (l : List S64) (i : Nat) (h : i < l.length) : rd_T64 l (i : Int) = l[i] := by simp [rd_T64, List.getD_eq_getElem?_getD, List.getElem?_eq_getElem h]
theorem castL_set (a : List Nat) (i v : Nat) : (castL a).set i (v : Int) = castL (a.set i v) := by
  unfold castL
  rw [List.map_set]
theorem befores_loop (l : List S48) (hn : l.length ≤ 8) (ps : List S64) (hps : ps.length ≤ 9223372036854775807) : ∀ (d i : Nat) (acc : List Nat), i + d = ps.length → acc.length = l.length → small l.length acc →
    Ev (fun k => dates_jobs_befores.l0 k l (castL acc) ps (ps.length : Int) (i : Int)) (if (ps.drop i).all (prOk l.length) = true then (castL (masksFrom acc (ps.drop i)), true) else ([], false)) := by
  intro d
  induction d with
  | zero =>
    intro i acc hi hl hs
    refine Ev.step (f := fun _ => some (castL acc, true)) (fun k => ?_) ?_
    · simp only [dates_jobs_befores.l0]
      rw [if_neg (by omega)]
    · rw [show i = ps.length by omega, List.drop_length]
      exact Ev.now _
  | succ d ih =>
    intro i acc hi hl hs
    have hlt : i < ps.length := by omega
    have h8 := pow8 hn
    rw [List.drop_eq_getElem_cons hlt, List.all_cons]
    obtain ⟨p, hp⟩ : ∃ p, p = ps[i] := ⟨_, rfl⟩
    rw [← hp]
    have hw : wrap64 ((l.length : Int) - 1) = (l.length : Int) - 1 := w64 (by omega) (by omega)
    have hb1 := between_f (mn p.f0 p.f1) 0 ((l.length : Int) - 1)
    have hb2 := between_f (mx p.f0 p.f1) 0 ((l.length : Int) - 1)
    have hiff : prOk l.length p = true ↔ decide (0 ≤ mn p.f0 p.f1 ∧ mn p.f0 p.f1 ≤ (l.length : Int) - 1) = true ∧ decide (0 ≤ mx p.f0 p.f1 ∧ mx p.f0 p.f1 ≤ (l.length : Int) - 1) = true := by
      unfold prOk
      rw [mn_min, mx_max]
      simp only [decide_eq_true_eq]
      omega
    by_cases c : prOk l.length p = true
    · obtain ⟨c1, c2⟩ := hiff.1 c
      have hpp := c
      unfold prOk at hpp
      simp only [decide_eq_true_eq] at hpp
      rw [c, Bool.true_and]
      refine Ev.step (fun k => ?_) (ih (i + 1) (acc.set p.f1.toNat (put (acc.getD p.f1.toNat 0) p.f0.toNat)) (by omega) (by rw [List.length_set]; exact hl) (small_set hn hs c hl))
      simp only [dates_jobs_befores.l0]
      have hcl : ((castL acc).length : Int) = (l.length : Int) := by unfold castL; rw [List.length_map, hl]
      have hor : Go.bits .or .i64 (rd (castL acc) p.f1) (shl .i64 1 p.f0) = ((put (acc.getD p.f1.toNat 0) p.f0.toNat : Nat) : Int) := by
        obtain ⟨u, hu⟩ := Int.eq_ofNat_of_zero_le hpp.2.2.1
        obtain ⟨v, hv⟩ := Int.eq_ofNat_of_zero_le hpp.1
        rw [hu, hv, rd_cast, or_put (by have := hs u; omega) (by omega), Int.toNat_natCast, Int.toNat_natCast]
      rw [if_pos (by omega), if_pos (by omega), if_pos (by omega), rd64 ps i hlt, ← hp, hw, hb1, Option.bind_some, if_pos c1, hb2, Option.bind_some, if_pos c2, if_pos (by omega), if_pos (by omega), if_pos (by omega), w64s i ps.length hlt hps, hor, castL_set]
    · rw [show prOk l.length p = false by simpa using c, Bool.false_and, if_neg (by simp)]
      refine Ev.step (f := fun _ => some ([], false)) (fun k => ?_) (Ev.now _)
      simp only [dates_jobs_befores.l0]
      rw [if_pos (by omega), if_pos (by omega), if_pos (by omega), rd64 ps i hlt, ← hp, hw, hb1, Option.bind_some, hb2]
      by_cases c1 : decide (0 ≤ mn p.f0 p.f1 ∧ mn p.f0 p.f1 ≤ (l.length : Int) - 1) = true
      · rw [if_pos c1, Option.bind_some, if_neg (fun c2 => c (hiff.2 ⟨c1, c2⟩))]
      · rw [if_neg c1]
theorem befores_f (l : List S48) (hn : l.length ≤ 8) (ps : List S64) (hps : ps.length ≤ 9223372036854775807) : Ev (fun k => dates_jobs_befores.f k l ps) (if befOk l.length ps = true then (castL (masks l.length ps), true) else ([], false)) := by
  unfold dates_jobs_befores.f
  simp only [if_pos (show (0 : Int) ≤ (l.length : Int) by omega), if_pos (show ((l.length : Int)).toNat ≤ 35184372088832 by omega)]
  by_cases c : (ps.length : Int) > 16
  · simp only [if_pos c]
    unfold befOk
    rw [show decide (ps.length ≤ 16) = false by simp; omega, Bool.false_and, if_neg (by simp)]
    exact Ev.now _
  · simp only [if_neg c]
    have h := befores_loop l hn ps hps ps.length 0 (List.replicate l.length 0) (by omega) (by simp) (fun i => by
      rw [List.getD_eq_getElem?_getD, List.getElem?_replicate]
      have := Nat.two_pow_pos l.length
      split <;> simpa using this)
    rw [List.drop_zero] at h
    have e : castL (List.replicate l.length 0) = List.replicate ((l.length : Int)).toNat 0 := by
      unfold castL
      rw [List.map_replicate, Int.toNat_natCast]
      rfl
    rw [e] at h
    unfold befOk masks
    rw [show decide (ps.length ≤ 16) = true by simp; omega, Bool.true_and]
    exact h
theorem pairs_f (ps : List S64) : corrodylaw06_pairs.f ps = some (ps.take 18) := by
  unfold corrodylaw06_pairs.f
  rw [mn_min, if_pos (by omega), if_pos (by omega), show (min (ps.length : Int) 18).toNat = min ps.length 18 by omega]
  have e : ps.take (min ps.length 18) = ps.take 18 := by
    by_cases h : ps.length ≤ 18
    · rw [Nat.min_eq_left h, List.take_length, List.take_of_length_le h]
    · rw [Nat.min_eq_right (by omega)]
  rw [e]
  simp only [slices_Clone_2_int_2_int.f]
  have hl : (ps.take 18).length ≤ 18 := List.length_take_le _ _
  simp
  omega
theorem befOk_take (n : Nat) (ps : List S64) : befOk n (ps.take 18) = befOk n ps := by
  unfold befOk
  by_cases h : ps.length ≤ 16
  · rw [List.take_of_length_le (by omega)]
  · have e1 : decide ((ps.take 18).length ≤ 16) = false := by simp; omega
    have e2 : decide (ps.length ≤ 16) = false := by simp; omega
    rw [e1, e2]
    rfl
theorem bef_take {n : Nat} {ps : List S64} (h : befOk n ps = true) : ps.take 18 = ps := by
  unfold befOk at h
  simp only [Bool.and_eq_true, decide_eq_true_eq] at h
  exact List.take_of_length_le (by omega)
theorem masks_length (n : Nat) (ps : List S64) : (castL (masks n ps)).length = n := by
  unfold castL masks
  rw [List.length_map, masksFrom_length, List.length_replicate]
theorem Least_f (l : List S48) (hl : l.length ≤ 9223372036854775807) (ps : List S64) (hps : ps.length ≤ 9223372036854775807) : Ev (fun k => dates_Least.f k l ps) (if (valid48 l && befOk l.length ps) = true then leastOf l (castL (masks l.length ps)) else ([], 0, 2)) := by
  unfold dates_Least.f
  refine Ev.bind (valid_f l hl) ?_
  cases hv : valid48 l with
  | false =>
    simp only [Bool.false_eq_true, if_false, Bool.false_and]
    exact Ev.now _
  | true =>
    have hlen := valid_len hv
    simp only [if_true, Bool.true_and]
    refine Ev.bind (befores_f l hlen.2 ps hps) ?_
    by_cases c : befOk l.length ps = true
    · simp only [if_pos c, if_true, if_pos hlen.2]
      obtain ⟨r, hr, hs⟩ := least_sem l hv (castL (masks l.length ps)) (masks_length _ _)
      simp only [hr, Option.bind_some, hs]
      exact Ev.now _
    · simp only [if_neg c, Bool.false_eq_true, if_false]
      exact Ev.now _
end Go.Proofs.Ytaboleeclpllpaa.M


namespace Go.Proofs.Ytaboleeclpllpaa.M
open Go.RowKit Go.Proofs.YtaboleeclpllpaaW.PrintWords Go.Proofs.YtaboleeclpllpaaW.PrintLast Go.Proofs.YtaboleeclpllpaaW.PrintMore Go.Proofs.Ytaboleeclpllpaa.P Go.Proofs.Ytaboleeclpllpaa.T
set_option linter.unusedVariables false
set_option linter.unusedSimpArgs false
theorem Befores_loop (l : List S43) (hn : l.length ≤ 9223372036854775807) (ps : List S64) (hps : ps.length ≤ 9223372036854775807) : ∀ (d i : Nat), i + d = ps.length → Ev (fun k => corrodyref06_Befores.l0 k l ps ps (ps.length : Int) (i : Int)) ((ps.drop i).all (prOk l.length) && decide (ps.length ≤ 16)) := by
  intro d
  induction d with
  | zero =>
    intro i hi
    refine Ev.step (f := fun _ => some (decide ((ps.length : Int) ≤ 16))) (fun k => ?_) ?_
    · simp only [corrodyref06_Befores.l0]
      rw [if_neg (by omega)]
    · rw [show i = ps.length by omega, List.drop_length, show decide ((ps.length : Int) ≤ 16) = decide (ps.length ≤ 16) by rw [decide_eq_decide]; omega]
      exact Ev.now _
  | succ d ih =>
    intro i hi
    have hlt : i < ps.length := by omega
    rw [List.drop_eq_getElem_cons hlt, List.all_cons]
    obtain ⟨p, hp⟩ : ∃ p, p = ps[i] := ⟨_, rfl⟩
    rw [← hp]
    cases c : prOk l.length p with
    | true =>
      rw [Bool.true_and]
      unfold prOk at c
      simp only [decide_eq_true_eq] at c
      refine Ev.step (fun k => ?_) (ih (i + 1) (by omega))
      simp only [corrodyref06_Befores.l0]
      rw [if_pos (by omega), if_pos (by omega), if_pos (by omega), rd64 ps i hlt, ← hp, if_neg (by omega), if_neg (by omega), if_neg (by omega), if_neg (by omega), w64s i ps.length hlt hps]
    | false =>
      rw [Bool.false_and, Bool.false_and]
      unfold prOk at c
      simp only [decide_eq_false_iff_not] at c
      refine Ev.step (f := fun _ => some false) (fun k => ?_) (Ev.now _)
      simp only [corrodyref06_Befores.l0]
      rw [if_pos (by omega), if_pos (by omega), if_pos (by omega), rd64 ps i hlt, ← hp]
      by_cases h1 : p.f0 < 0
      · rw [if_pos h1]
      · rw [if_neg h1]
        by_cases h2 : p.f0 ≥ (l.length : Int)
        · rw [if_pos h2]
        · rw [if_neg h2]
          by_cases h3 : p.f1 < 0
          · rw [if_pos h3]
          · rw [if_neg h3, if_pos (by omega)]
theorem Befores_f (l : List S43) (hn : l.length ≤ 9223372036854775807) (ps : List S64) (hps : ps.length ≤ 9223372036854775807) : Ev (fun k => corrodyref06_Befores.f k l ps) (befOk l.length ps) := by
  unfold corrodyref06_Befores.f befOk
  have := Befores_loop l hn ps hps ps.length 0 (by omega)
  rw [List.drop_zero, Bool.and_comm] at this
  exact this
def maskOf (o : List Nat) (s : Nat) : Nat := o.foldl put s
theorem maskOf_lt {n : Nat} (hn : n ≤ 8) : ∀ (o : List Nat) (s : Nat), (∀ x, x ∈ o → x < n) → s < 2 ^ n → maskOf o s < 2 ^ n
  | [], _, _, h => h
  | x :: o, s, ho, h => maskOf_lt hn o (put s x) (fun y hy => ho y (List.mem_cons_of_mem _ hy)) (put_pow hn (ho x (List.mem_cons_self ..)) h)
def mayB (ps : List S64) (s j : Nat) : Bool := if ps.any (fun p => decide (p.f1 = (j : Int)) && !s.testBit p.f0.toNat) = true then false else !s.testBit j
theorem may_l1 (n : Nat) (hn : n ≤ 8) (ps : List S64) (hps : ps.length ≤ 9223372036854775807) (hok : ps.all (prOk n) = true) (s j : Nat) (hs : s < 256) (hj : j < n) : ∀ (d i : Nat), i + d = ps.length →
    Ev (fun k => corrodyref06_may.l1 k (j : Int) (s : Int) ps (ps.length : Int) (i : Int)) (if (ps.drop i).any (fun p => decide (p.f1 = (j : Int)) && !s.testBit p.f0.toNat) = true then false else !s.testBit j) := by
  intro d
  induction d with
  | zero =>
    intro i hi
    refine Ev.step (f := fun _ => some (Go.bits .and .i64 (shr .i64 (s : Int) (j : Int)) 1 == 0)) (fun k => ?_) ?_
    · simp only [corrodyref06_may.l1]
      rw [if_neg (by omega), if_pos (by omega)]
    · rw [show i = ps.length by omega, List.drop_length, List.any_nil, if_neg (by simp), bit_test hs (by omega)]
      cases s.testBit j <;> exact Ev.now _
  | succ d ih =>
    intro i hi
    have hlt : i < ps.length := by omega
    have hpo := List.all_eq_true.1 hok ps[i] (List.getElem_mem hlt)
    rw [List.drop_eq_getElem_cons hlt, List.any_cons]
    obtain ⟨p, hp⟩ : ∃ p, p = ps[i] := ⟨_, rfl⟩
    rw [← hp] at hpo ⊢
    unfold prOk at hpo
    simp only [decide_eq_true_eq] at hpo
    obtain ⟨u, hu⟩ := Int.eq_ofNat_of_zero_le hpo.1
    by_cases c : p.f1 = (j : Int)
    · by_cases b : s.testBit u = true
      · rw [show (decide (p.f1 = (j : Int)) && !s.testBit p.f0.toNat) = false by rw [hu, Int.toNat_natCast, b]; simp, Bool.false_or]
        refine Ev.step (fun k => ?_) (ih (i + 1) (by omega))
        simp only [corrodyref06_may.l1]
        rw [if_pos (by omega), if_pos (by omega), if_pos (by omega), rd64 ps i hlt, ← hp, if_pos c, if_pos hpo.1, hu, bit_test hs (by omega), if_pos b, if_neg (by omega), w64s i ps.length hlt hps]
      · rw [show (decide (p.f1 = (j : Int)) && !s.testBit p.f0.toNat) = true by rw [hu, Int.toNat_natCast, show s.testBit u = false by simpa using b]; simp [c], Bool.true_or, if_pos rfl]
        refine Ev.step (f := fun _ => some false) (fun k => ?_) (Ev.now _)
        simp only [corrodyref06_may.l1]
        rw [if_pos (by omega), if_pos (by omega), if_pos (by omega), rd64 ps i hlt, ← hp, if_pos c, if_pos hpo.1, hu, bit_test hs (by omega), if_neg b, if_pos rfl]
    · rw [show (decide (p.f1 = (j : Int)) && !s.testBit p.f0.toNat) = false by simp [c], Bool.false_or]
      refine Ev.step (fun k => ?_) (ih (i + 1) (by omega))
      simp only [corrodyref06_may.l1]
      rw [if_pos (by omega), if_pos (by omega), if_pos (by omega), rd64 ps i hlt, ← hp, if_neg c, w64s i ps.length hlt hps]
theorem castL_get (o : List Nat) (i : Nat) (h : i < o.length) : rd (castL o) (i : Int) = ((o[i] : Nat) : Int) := by
  rw [rd_cast, List.getD_eq_getElem?_getD, List.getElem?_eq_getElem h]
  rfl
theorem castL_length (o : List Nat) : (castL o).length = o.length := by simp [castL]
theorem may_l0 (n : Nat) (hn : n ≤ 8) (ps : List S64) (hps : ps.length ≤ 9223372036854775807) (hok : ps.all (prOk n) = true) (o : List Nat) (ho : ∀ x, x ∈ o → x < n) (hol : o.length ≤ 1000000) (j : Nat) (hj : j < n) : ∀ (d i s : Nat), i + d = o.length → s < 2 ^ n →
    Ev (fun k => corrodyref06_may.l0 k ps (j : Int) (s : Int) (castL o) ((castL o).length : Int) (i : Int)) (mayB ps (maskOf (o.drop i) s) j) := by
  have h8 := pow8 hn
  intro d
  induction d with
  | zero =>
    intro i s hi hs
    refine Ev.step (f := fun k => corrodyref06_may.l1 k (j : Int) (s : Int) ps (ps.length : Int) 0) (fun k => ?_) ?_
    · simp only [corrodyref06_may.l0]
      rw [if_neg (by rw [castL_length]; omega)]
    · rw [show i = o.length by omega, List.drop_length]
      exact may_l1 n hn ps hps hok s j (by omega) hj ps.length 0 (by omega)
  | succ d ih =>
    intro i s hi hs
    have hlt : i < o.length := by omega
    have hx := ho o[i] (List.getElem_mem hlt)
    rw [List.drop_eq_getElem_cons hlt]
    refine Ev.step (fun k => ?_) (ih (i + 1) (put s o[i]) (by omega) (put_pow hn hx hs))
    simp only [corrodyref06_may.l0]
    rw [if_pos (by rw [castL_length]; omega), if_pos (by omega), if_pos (by rw [castL_length]; omega), castL_get o i hlt, if_pos (by omega), or_put (by omega) (by omega), w64s i o.length hlt (by omega)]
theorem may_f (l : List S43) (hn : l.length ≤ 8) (ps : List S64) (hps : ps.length ≤ 9223372036854775807) (hok : ps.all (prOk l.length) = true) (o : List Nat) (ho : ∀ x, x ∈ o → x < l.length) (hol : o.length ≤ 1000000) (j : Nat) (hj : j < l.length) :
    Ev (fun k => corrodyref06_may.f k l ps (castL o) (j : Int)) (mayB ps (maskOf o 0) j) := by
  unfold corrodyref06_may.f
  have := may_l0 l.length hn ps hps hok o ho hol j hj o.length 0 0 (by omega) (Nat.two_pow_pos _)
  rw [List.drop_zero] at this
  exact this
theorem may_free {n : Nat} (hn : n ≤ 8) {ps : List S64} (hok : ps.all (prOk n) = true) {s j : Nat} (hs : s < 256) (hj : j < n) : mayB ps s j = free (castL (masks n ps)) s j := by
  have h8 := pow8 hn
  have hsm := masks_small hn hok
  have hmj := hsm j
  unfold mayB free
  rw [rd_cast]
  have hiff : (Go.bits .andNot .i64 (((masks n ps).getD j 0 : Nat) : Int) (s : Int) = 0) ↔ ¬ ps.any (fun p => decide (p.f1 = (j : Int)) && !s.testBit p.f0.toNat) = true := by
    rw [andnot0 (by omega) hs]
    constructor
    · intro h ha
      obtain ⟨p, hp, hpp⟩ := List.any_eq_true.1 ha
      simp only [Bool.and_eq_true, decide_eq_true_eq, Bool.not_eq_true'] at hpp
      have hpo := List.all_eq_true.1 hok p hp
      unfold prOk at hpo
      simp only [decide_eq_true_eq] at hpo
      obtain ⟨u, hu⟩ := Int.eq_ofNat_of_zero_le hpo.1
      rw [hu, Int.toNat_natCast] at hpp
      have := h u (by omega) ((masks_bit hn hok (by omega) hj).2 ⟨p, hp, hu, hpp.1⟩)
      rw [hpp.2] at this
      exact absurd this (by simp)
    · intro h i hi hb
      by_cases hin : i < n
      · obtain ⟨p, hp, h0, h1⟩ := (masks_bit hn hok hin hj).1 hb
        cases e : s.testBit i
        · exfalso
          apply h
          rw [List.any_eq_true]
          exact ⟨p, hp, by rw [h0, Int.toNat_natCast, e]; simp [h1]⟩
        · rfl
      · exfalso
        rw [Nat.testBit_lt_two_pow (Nat.lt_of_lt_of_le hmj (Nat.pow_le_pow_right (n := 2) (by omega) (by omega)))] at hb
        exact absurd hb (by simp)
  by_cases c : ps.any (fun p => decide (p.f1 = (j : Int)) && !s.testBit p.f0.toNat) = true
  · rw [if_pos c, show decide (Go.bits .andNot .i64 (((masks n ps).getD j 0 : Nat) : Int) (s : Int) = 0) = false by rw [decide_eq_false_iff_not]; exact fun h => hiff.1 h c, Bool.and_false]
  · rw [if_neg c, show decide (Go.bits .andNot .i64 (((masks n ps).getD j 0 : Nat) : Int) (s : Int) = 0) = true by rw [decide_eq_true_eq]; exact hiff.2 c, Bool.and_true]
theorem tm_setR (a : List Int) (i j : Nat) (v : Int) (hi : i < a.length) : tm (a.set i v) j = if j = i then v else tm a j := by
  unfold tm
  rw [List.getD_eq_getElem?_getD, List.getD_eq_getElem?_getD, List.getElem?_set]
  by_cases h : i = j
  · subst h
    simp [hi]
  · rw [if_neg h, if_neg (fun e => h e.symm)]
theorem row_keep (l : List S48) : ∀ (o : List Nat) (acc : List Int) (now : Int) (j : Nat), (∀ x, x ∈ o → x < acc.length) → j ∉ o → tm (rowFrom l now acc (castL o)) j = tm acc j
  | [], _, _, _, _, _ => rfl
  | x :: o, acc, now, j, hx, hj => by
    show tm (rowFrom l (now + (jb l ((x : Int)).toNat).f0) (acc.set ((x : Int)).toNat (now + (jb l ((x : Int)).toNat).f0)) (castL o)) j = _
    rw [Int.toNat_natCast]
    rw [row_keep l o _ _ j (fun y hy => by rw [List.length_set]; exact hx y (List.mem_cons_of_mem _ hy)) (fun h => hj (List.mem_cons_of_mem _ h))]
    rw [tm_setR _ _ _ _ (hx x (List.mem_cons_self ..)), if_neg (fun e => hj (by rw [e]; exact List.mem_cons_self ..))]
theorem row_cost (l : List S48) : ∀ (o : List Nat) (acc : List Int) (now : Int) (x : Int), -1000 ≤ x → o.Nodup → (∀ y, y ∈ o → y < acc.length) → (cost l now o ≤ x ↔ ∀ j, j ∈ o → tm (rowFrom l now acc (castL o)) j - duef l j ≤ x)
  | [], _, _, x, hx, _, _ => by simp [cost]; omega
  | i :: o, acc, now, x, hx, hn, hy => by
    rw [List.nodup_cons] at hn
    have ih := row_cost l o (acc.set i (now + timf l i)) (now + timf l i) x hx hn.2 (fun y h => by rw [List.length_set]; exact hy y (List.mem_cons_of_mem _ h))
    have hrow : rowFrom l now acc (castL (i :: o)) = rowFrom l (now + timf l i) (acc.set i (now + timf l i)) (castL o) := by
      show rowFrom l (now + (jb l ((i : Int)).toNat).f0) (acc.set ((i : Int)).toNat (now + (jb l ((i : Int)).toNat).f0)) (castL o) = _
      rw [Int.toNat_natCast]
      rfl
    have hi : tm (rowFrom l (now + timf l i) (acc.set i (now + timf l i)) (castL o)) i = now + timf l i := by
      rw [row_keep l o _ _ i (fun y h => by rw [List.length_set]; exact hy y (List.mem_cons_of_mem _ h)) hn.1, tm_setR _ _ _ _ (hy i (List.mem_cons_self ..)), if_pos rfl]
    rw [cost, mx_le, ih, hrow]
    constructor
    · rintro ⟨h1, h2⟩ j hj
      rcases List.mem_cons.1 hj with rfl | hj
      · rw [hi]; exact h2
      · exact h1 j hj
    · intro h
      refine ⟨fun j hj => h j (List.mem_cons_of_mem _ hj), ?_⟩
      have := h i (List.mem_cons_self ..)
      rw [hi] at this
      exact this
theorem cost_ge (l : List S48) : ∀ (o : List Nat) (a : Int), -1000 ≤ cost l a o
  | [], _ => by simp [cost]
  | i :: o, a => by
    have := cost_ge l o (a + timf l i)
    rw [cost]
    unfold mx
    split <;> omega
theorem row_pos (l : List S48) (hv : valid48 l = true) : ∀ (o : List Nat) (acc : List Int) (now : Int), 0 ≤ now → (∀ x, x ∈ acc → 0 ≤ x ∧ x ≤ 1000000) → now + 20 * o.length ≤ 1000000 → ∀ x, x ∈ rowFrom l now acc (castL o) → 0 ≤ x ∧ x ≤ 1000000
  | [], acc, now, _, ha, _, x, hx => ha x hx
  | i :: o, acc, now, h0, ha, hb, x, hx => by
    have ht := time_le hv i
    have hx2 : x ∈ rowFrom l (now + (jb l i).f0) (acc.set i (now + (jb l i).f0)) (castL o) := by
      have e : rowFrom l now acc (castL (i :: o)) = rowFrom l (now + (jb l i).f0) (acc.set i (now + (jb l i).f0)) (castL o) := by
        show rowFrom l (now + (jb l ((i : Int)).toNat).f0) (acc.set ((i : Int)).toNat (now + (jb l ((i : Int)).toNat).f0)) (castL o) = _
        rw [Int.toNat_natCast]
      rw [← e]
      exact hx
    rw [List.length_cons] at hb
    refine row_pos l hv o _ _ (by omega) (fun y hy => ?_) (by omega) x hx2
    rcases List.mem_or_eq_of_mem_set hy with hy | hy
    · exact ha y hy
    · omega
def Whole (n : Nat) (o : List Nat) : Prop := o.Nodup ∧ (∀ x, x ∈ o → x < n) ∧ ∀ x, x < n → x ∈ o
theorem row_worst (l : List S48) (hv : valid48 l = true) {o : List Nat} (ho : Whole l.length o) (hol : o.length ≤ 8) : worstOf l (rowOf l (castL o)) = cost l 0 o := by
  have hlen := valid_len hv
  have hpos := row_pos l hv o (List.replicate l.length 0) 0 (by omega) (fun x hx => by rw [List.eq_of_mem_replicate hx]; omega) (by omega)
  have hiff : ∀ x : Int, -1000 ≤ x → (worstOf l (rowOf l (castL o)) ≤ x ↔ cost l 0 o ≤ x) := by
    intro x hx
    rw [worstOf_le (by omega), row_cost l o (List.replicate l.length 0) 0 x hx ho.1 (fun y hy => by rw [List.length_replicate]; exact ho.2.1 y hy)]
    exact ⟨fun h j hj => h j (ho.2.1 j hj), fun h j hj => h j (ho.2.2 j hj)⟩
  have h1 := (hiff (cost l 0 o) (cost_ge l o 0)).2 (Int.le_refl _)
  have h2 : -1000 ≤ worstOf l (rowOf l (castL o)) := by
    obtain ⟨i, hi, he⟩ := worstOf_at hv hpos
    have h3 := valid_jb hv hi
    have h4 := endsB_tm hpos i
    have he2 : worstOf l (rowOf l (castL o)) = tm (rowOf l (castL o)) i - (jb l i).f2 := he
    have h5 : 0 ≤ tm (rowOf l (castL o)) i := h4.1
    omega
  have h3 := (hiff _ h2).1 (Int.le_refl _)
  omega
theorem worst_loop (l : List S43) (hv : valid48 (l.map to48) = true) (e : List Int) (hel : e.length = l.length) (he : ∀ x ∈ e, 0 ≤ x ∧ x ≤ 1000000) : ∀ (d i : Nat), i + d = l.length → Ev (fun k => corrodyref06_Worst.l0 k l (lateN (l.map to48) e (-1073741824) i) e (e.length : Int) (i : Int)) (worstOf (l.map to48) e) := by
  have hlen := valid_len hv
  rw [List.length_map] at hlen
  intro d
  induction d with
  | zero =>
    intro i hi
    refine Ev.step (f := fun _ => some (lateN (l.map to48) e (-1073741824) i)) (fun k => ?_) (by rw [show i = (l.map to48).length by rw [List.length_map]; omega]; exact Ev.now _)
    simp only [corrodyref06_Worst.l0]
    rw [if_neg (by omega)]
  | succ d ih =>
    intro i hi
    have hlt : i < l.length := by omega
    refine Ev.step (fun k => ?_) (ih (i + 1) (by omega))
    have h2 := valid_jb hv (i := i) (by rw [List.length_map]; omega)
    have h3 := endsB_tm he i
    have hj : (l[i]).f2 = (jb (l.map to48) i).f2 := by rw [jb_get (by rw [List.length_map]; omega), List.getElem_map]; rfl
    simp only [corrodyref06_Worst.l0]
    rw [if_pos (by omega), if_pos (by omega), if_pos (by omega), if_pos (by omega), rd43 l i hlt, rd_nat e i (by omega), ← tm_get (by omega), hj, mx_max, w64 (by omega) (by omega), w64s i e.length (by omega) (by omega), lateN]
theorem Worst_f (l : List S43) (hv : valid48 (l.map to48) = true) {o : List Nat} (ho : Whole l.length o) (hol : o.length ≤ 8) : Ev (fun k => corrodyref06_Worst.f k l (castL o)) (cost (l.map to48) 0 o) := by
  unfold corrodyref06_Worst.f
  have hin : (castL o).all (inN l.length) = true := by
    rw [List.all_eq_true]
    intro x hx
    obtain ⟨y, hy, rfl⟩ := List.mem_map.1 hx
    rw [inN_iff]
    have := ho.2.1 y hy
    omega
  refine Ev.bind (refends_row l hv (castL o) hin (by rw [castL_length]; omega)) ?_
  have hpos := row_pos (l.map to48) hv o (List.replicate (l.map to48).length 0) 0 (by omega) (fun x hx => by rw [List.eq_of_mem_replicate hx]; omega) (by omega)
  have := worst_loop l hv (rowOf (l.map to48) (castL o)) (by rw [rowOf_length, List.length_map]) hpos l.length 0 (by omega)
  rw [row_worst (l.map to48) hv (by rw [List.length_map]; exact ho) hol] at this
  exact this
end Go.Proofs.Ytaboleeclpllpaa.M


namespace Go.Proofs.Ytaboleeclpllpaa.M
open Go.RowKit Go.Proofs.YtaboleeclpllpaaW.PrintWords Go.Proofs.YtaboleeclpllpaaW.PrintLast Go.Proofs.YtaboleeclpllpaaW.PrintMore Go.Proofs.Ytaboleeclpllpaa.P Go.Proofs.Ytaboleeclpllpaa.T
set_option linter.unusedVariables false
set_option linter.unusedSimpArgs false
theorem free_bit {bs : List Int} {s i : Nat} (h : free bs s i = true) : s.testBit i = false := by
  unfold free at h
  cases e : s.testBit i
  · rfl
  · rw [e] at h; simp at h
theorem conts_mem {bs : List Int} {n : Nat} (hn : n ≤ 8) : ∀ (m s : Nat) (o : List Nat), s < 2 ^ n → o ∈ conts bs n m s → o.Nodup ∧ (∀ x, x ∈ o → x < n ∧ s.testBit x = false) ∧ (∀ x, x < n → s.testBit x = true ∨ x ∈ o) ∧ o.length ≤ m := by
  have h8 := pow8 hn
  have hfull : ∀ s o, s = 2 ^ n - 1 → o ∈ ([[]] : List (List Nat)) → o.Nodup ∧ (∀ x, x ∈ o → x < n ∧ s.testBit x = false) ∧ (∀ x, x < n → s.testBit x = true ∨ x ∈ o) ∧ o.length ≤ 0 := by
    intro s o hs ho
    rw [List.mem_singleton.1 ho]
    refine ⟨List.nodup_nil, fun x hx => absurd hx (by simp), fun x hx => Or.inl ?_, by simp⟩
    rw [hs, Nat.testBit_two_pow_sub_one]
    simpa using hx
  intro m
  induction m with
  | zero =>
    intro s o hs ho
    rw [conts] at ho
    split at ho
    · exact hfull s o (by assumption) ho
    · exact absurd ho (by simp)
  | succ m ih =>
    intro s o hs ho
    rw [conts] at ho
    split at ho
    · obtain ⟨a, b, c, d⟩ := hfull s o (by assumption) ho
      exact ⟨a, b, c, by omega⟩
    · obtain ⟨i, hi, ho⟩ := List.mem_flatMap.1 ho
      have hin := List.mem_range.1 hi
      split at ho
      · rename_i hfr
        have hb := free_bit hfr
        obtain ⟨q, hq, rfl⟩ := List.mem_map.1 ho
        obtain ⟨a, b, c, d⟩ := ih (put s i) q (put_pow hn hin hs) hq
        refine ⟨List.nodup_cons.2 ⟨fun h => ?_, a⟩, fun x hx => ?_, fun x hx => ?_, by simp; omega⟩
        · have := (b i h).2
          rw [put_bit (by omega) (by omega) (by omega)] at this
          simp at this
        · rcases List.mem_cons.1 hx with rfl | hx
          · exact ⟨hin, hb⟩
          · obtain ⟨h1, h2⟩ := b x hx
            rw [put_bit (by omega) (by omega) (by omega)] at h2
            simp only [Bool.or_eq_false_iff] at h2
            exact ⟨h1, h2.1⟩
        · rcases c x hx with h | h
          · rw [put_bit (by omega) (by omega) (by omega)] at h
            simp only [Bool.or_eq_true, decide_eq_true_eq] at h
            rcases h with h | h
            · exact Or.inl h
            · exact Or.inr (by rw [h]; exact List.mem_cons_self ..)
          · exact Or.inr (List.mem_cons_of_mem _ h)
      · exact absurd ho (by simp)
def stepR (l : List S48) (begun : List Nat) (acc : Option (List Int) × Int) (o : List Nat) : Option (List Int) × Int := if cost l 0 (begun ++ o) < acc.2 then (some (castL (begun ++ o)), cost l 0 (begun ++ o)) else acc
theorem maskOf_snoc (o : List Nat) (j s : Nat) : maskOf (o ++ [j]) s = put (maskOf o s) j := by
  unfold maskOf
  rw [List.foldl_append]
  rfl
theorem rleast_f (l : List S43) (hv : valid48 (l.map to48) = true) (ps : List S64) (hps : ps.length ≤ 9223372036854775807) (hok : ps.all (prOk l.length) = true) : ∀ (m : Nat) (begun : List Nat) (b : Option (List Int)) (x : Int), begun.Nodup → (∀ y, y ∈ begun → y < l.length) →
    (∀ i, i < l.length → ((maskOf begun 0).testBit i = true ↔ i ∈ begun)) → pc (maskOf begun 0) = begun.length → l.length ≤ begun.length + m →
    Ev (fun k => corrodyref06_least.f k l ps (castL begun) b x) ((conts (castL (masks l.length ps)) l.length m (maskOf begun 0)).foldl (stepR (l.map to48) begun) (b, x)) := by
  have hlen := valid_len hv
  rw [List.length_map] at hlen
  have h8 := pow8 hlen.2
  intro m
  induction m with
  | zero =>
    intro begun b x hnd hlt hmem hpc hm
    have hs := maskOf_lt hlen.2 begun 0 hlt (Nat.two_pow_pos _)
    have hle : begun.length ≤ l.length := by
      have h0 : ∀ n : Fin 9, ∀ s : Fin 256, (s : Nat) < 2 ^ (n : Nat) → pc s ≤ n := by decide +kernel
      have := h0 ⟨l.length, by omega⟩ ⟨maskOf begun 0, by omega⟩ hs
      simp only at this
      omega
    have hf : maskOf begun 0 = 2 ^ l.length - 1 := (full_pc hlen.2 hs).1 (by omega)
    have hwh : Whole l.length begun := ⟨hnd, hlt, fun y hy => (hmem y hy).1 (by rw [hf, Nat.testBit_two_pow_sub_one]; simpa using hy)⟩
    rw [conts, if_pos hf]
    refine Ev.step (f := fun k => (corrodyref06_Worst.f k l (castL begun)).bind fun v => if v < x then (if 0 < (castL begun).length ∧ (castL begun).length < 1000 then some (some (castL begun), v) else none) else some (b, x)) (fun k => ?_) (Ev.bind (Worst_f l hv hwh (by omega)) ?_)
    · rw [corrodyref06_least.f, if_pos (by rw [castL_length]; omega)]
    · simp only [List.foldl_cons, List.foldl_nil, stepR, List.append_nil, castL_length]
      by_cases c : cost (l.map to48) 0 begun < x
      · simp only [if_pos c, if_pos (show 0 < begun.length ∧ begun.length < 1000 by omega)]
        exact Ev.now _
      · simp only [if_neg c]
        exact Ev.now _
  | succ m ih =>
    intro begun b x hnd hlt hmem hpc hm
    have hs := maskOf_lt hlen.2 begun 0 hlt (Nat.two_pow_pos _)
    by_cases hf : maskOf begun 0 = 2 ^ l.length - 1
    · have hbl : begun.length = l.length := by rw [← hpc]; exact (full_pc hlen.2 hs).2 hf
      have hwh : Whole l.length begun := ⟨hnd, hlt, fun y hy => (hmem y hy).1 (by rw [hf, Nat.testBit_two_pow_sub_one]; simpa using hy)⟩
      rw [conts, if_pos hf]
      refine Ev.step (f := fun k => (corrodyref06_Worst.f k l (castL begun)).bind fun v => if v < x then (if 0 < (castL begun).length ∧ (castL begun).length < 1000 then some (some (castL begun), v) else none) else some (b, x)) (fun k => ?_) (Ev.bind (Worst_f l hv hwh (by omega)) ?_)
      · rw [corrodyref06_least.f, if_pos (by rw [castL_length]; omega)]
      · simp only [List.foldl_cons, List.foldl_nil, stepR, List.append_nil, castL_length]
        by_cases c : cost (l.map to48) 0 begun < x
        · simp only [if_pos c, if_pos (show 0 < begun.length ∧ begun.length < 1000 by omega)]
          exact Ev.now _
        · simp only [if_neg c]
          exact Ev.now _
    · have hbl : begun.length ≠ l.length := fun e => hf ((full_pc hlen.2 hs).1 (by omega))
      have hle : begun.length ≤ 8 := by
        have h0 : ∀ n : Fin 9, ∀ s : Fin 256, (s : Nat) < 2 ^ (n : Nat) → pc s ≤ n := by decide +kernel
        have := h0 ⟨l.length, by omega⟩ ⟨maskOf begun 0, by omega⟩ hs
        simp only at this
        omega
      rw [conts, if_neg hf]
      refine Ev.step (f := fun k => corrodyref06_least.scan (corrodyref06_may.f k l ps (castL begun)) (corrodyref06_least.f k l ps) (castL begun) l.length 0 b x) (fun k => ?_) ?_
      · rw [corrodyref06_least.f, if_neg (by rw [castL_length]; exact hbl)]
      · have hscan : ∀ (d i : Nat), i + d = l.length → ∀ (b : Option (List Int)) (x : Int), Ev (fun k => corrodyref06_least.scan (corrodyref06_may.f k l ps (castL begun)) (corrodyref06_least.f k l ps) (castL begun) d i b x)
            (((List.range' i d).flatMap (fun i => if free (castL (masks l.length ps)) (maskOf begun 0) i = true then (conts (castL (masks l.length ps)) l.length m (put (maskOf begun 0) i)).map (i :: ·) else [])).foldl (stepR (l.map to48) begun) (b, x)) := by
          intro d
          induction d with
          | zero =>
            intro i hi b x
            exact Ev.now _
          | succ d ihd =>
            intro i hi b x
            have hil : i < l.length := by omega
            simp only [corrodyref06_least.scan]
            rw [List.range'_succ, List.flatMap_cons, List.foldl_append]
            refine Ev.bind (may_f l hlen.2 ps hps hok begun hlt (by omega) i hil) ?_
            rw [may_free hlen.2 hok (by omega) hil]
            by_cases c : free (castL (masks l.length ps)) (maskOf begun 0) i = true
            · simp only [if_pos c, castL_length, if_pos (show begun.length < 1000 by omega)]
              have hb := free_bit c
              have hnm : i ∉ begun := fun h => by
                have := (hmem i hil).2 h
                rw [hb] at this
                exact absurd this (by simp)
              have e1 : castL begun ++ [(i : Int)] = castL (begun ++ [i]) := by simp [castL]
              have hrec := ih (begun ++ [i]) b x (by
                rw [List.nodup_append]
                exact ⟨hnd, by simp, fun a ha c hc => by rw [List.mem_singleton.1 hc]; exact fun e => hnm (e ▸ ha)⟩) (fun y hy => by
                rcases List.mem_append.1 hy with hy | hy
                · exact hlt y hy
                · rw [List.mem_singleton.1 hy]; exact hil) (fun j hj => by
                rw [maskOf_snoc, put_bit (by omega) (by omega) (by omega)]
                simp only [Bool.or_eq_true, decide_eq_true_eq, List.mem_append, List.mem_singleton]
                rw [hmem j hj]) (by rw [maskOf_snoc, put_pc (by omega) (by omega), hb, hpc]; simp) (by simp; omega)
              rw [maskOf_snoc] at hrec
              simp only [e1]
              refine Ev.bind hrec ?_
              have e2 : List.foldl (stepR (l.map to48) begun) (b, x) ((conts (castL (masks l.length ps)) l.length m (put (maskOf begun 0) i)).map (i :: ·)) = List.foldl (stepR (l.map to48) (begun ++ [i])) (b, x) (conts (castL (masks l.length ps)) l.length m (put (maskOf begun 0) i)) := by
                rw [List.foldl_map]
                congr 1
                funext acc o
                unfold stepR
                rw [List.append_assoc]
                rfl
              rw [e2]
              exact ihd (i + 1) (by omega) _ _
            · simp only [if_neg c, List.foldl_nil]
              exact ihd (i + 1) (by omega) b x
        have := hscan l.length 0 (by omega) b x
        rw [← List.range_eq_range'] at this
        exact this
theorem cost_le (l : List S48) (hv : valid48 l = true) : ∀ (o : List Nat) (a : Int), 0 ≤ a → (∀ x, x ∈ o → x < l.length) → cost l a o ≤ a + 20 * o.length
  | [], a, h, _ => by simp [cost]; omega
  | i :: o, a, h, ho => by
    have hj := valid_jb hv (ho i (List.mem_cons_self ..))
    have := cost_le l hv o (a + timf l i) (by unfold timf; omega) (fun x hx => ho x (List.mem_cons_of_mem _ hx))
    rw [cost, mx_le, List.length_cons]
    unfold timf duef at *
    constructor <;> omega
theorem fold_same (l : List S48) : ∀ (L : List (List Nat)) (acc : Option (List Nat × Int)) (b : Option (List Int)) (x : Int), (∀ o, o ∈ L → cost l 0 o < 1073741824) →
    (match acc with | none => b = none ∧ x = 1073741824 | some (o, y) => b = some (castL o) ∧ x = y) →
    (match L.foldl (step1 (cost l 0)) acc with | none => L.foldl (stepR l []) (b, x) = (none, 1073741824) | some (o, y) => L.foldl (stepR l []) (b, x) = (some (castL o), y))
  | [], acc, b, x, _, h => by
    cases acc with
    | none => obtain ⟨rfl, rfl⟩ := h; rfl
    | some oy => obtain ⟨rfl, rfl⟩ := h; rfl
  | o :: L, acc, b, x, hc, h => by
    rw [List.foldl_cons, List.foldl_cons]
    have hco := hc o (List.mem_cons_self ..)
    have ih := fold_same l L (step1 (cost l 0) acc o) (stepR l [] (b, x) o).1 (stepR l [] (b, x) o).2 (fun q hq => hc q (List.mem_cons_of_mem _ hq))
    apply ih
    cases acc with
    | none =>
      obtain ⟨rfl, rfl⟩ := h
      unfold stepR
      simp only [List.nil_append, if_pos hco, step1]
      trivial
    | some oy =>
      obtain ⟨p, y⟩ := oy
      obtain ⟨rfl, rfl⟩ := h
      unfold stepR
      simp only [List.nil_append, step1]
      by_cases c : cost l 0 o < x
      · rw [if_pos c, if_pos c]
        exact ⟨rfl, rfl⟩
      · rw [if_neg c, if_neg c]
        exact ⟨rfl, rfl⟩
theorem refLeast_f (l : List S43) (hv : valid48 (l.map to48) = true) (ps : List S64) (hps : ps.length ≤ 9223372036854775807) (hok : ps.all (prOk l.length) = true) : Ev (fun k => corrodyref06_Least.f k l ps) (leastOf (l.map to48) (castL (masks l.length ps))) := by
  have hlen := valid_len hv
  rw [List.length_map] at hlen
  unfold corrodyref06_Least.f
  have h := rleast_f l hv ps hps hok 8 [] none 1073741824 List.nodup_nil (by simp) (fun i hi => by simp [maskOf]) (by decide) (by simp; omega)
  refine Ev.bind h ?_
  have hm0 : maskOf [] 0 = 0 := rfl
  rw [hm0]
  have hf := fold_same (l.map to48) (conts (castL (masks l.length ps)) l.length 8 0) none none 1073741824 (fun o ho => by
    obtain ⟨a, b, c, d⟩ := conts_mem hlen.2 8 0 o (Nat.two_pow_pos _) ho
    have := cost_le (l.map to48) hv o 0 (by omega) (fun x hx => by rw [List.length_map]; exact (b x hx).1)
    omega) ⟨rfl, rfl⟩
  unfold leastOf firstMin
  rw [List.length_map]
  generalize List.foldl (step1 (cost (l.map to48) 0)) none (conts (castL (masks l.length ps)) l.length 8 0) = z at hf ⊢
  cases z with
  | none =>
    simp only at hf
    simp only [hf]
    exact Ev.now _
  | some oy =>
    obtain ⟨o, y⟩ := oy
    simp only at hf
    simp only [hf]
    exact Ev.now _
end Go.Proofs.Ytaboleeclpllpaa.M


namespace Go.Proofs.Ytaboleeclpllpaa.Open
open Go.RowKit Go.ChangeShapes Go.WideShapes Go.Deep Go.Proofs.YtaboleeclpllpaaW.PrintWords Go.Proofs.Ytaboleeclpllpaa.P
set_option linter.unusedVariables false
set_option linter.unusedSimpArgs false
def wfi (x : Int) : Prop := -9223372036854775808 ≤ x ∧ x ≤ 9223372036854775807
theorem wfi_of {x : Int} (h : (Lit.int .i64 x).wf = true) : wfi x := by
  simp only [Lit.wf, Bool.and_eq_true, decide_eq_true_eq] at h
  exact ⟨h.1, h.2⟩
section
variable {H : Type} {enc : TypeId × Value → H} {W : World} {base : Nat} {spare : Nat → Bool} {held : Bool} {fuel : Nat} {y : DataW H × List MemPlace}
theorem open_i64 {t : TypeId} {P : Program} (hu : P.underlying t = some (.int .i64)) {cs : List Value} (h : DataW.trod enc P W base spare held fuel t cs = some y) : ∃ x : Int, cs = [.int .i64 x] ∧ wfi x := by
  obtain ⟨x, hx, _, hw⟩ := DataW.trod_int hu h
  exact ⟨x, hx, wfi_of hw⟩
theorem open_struct4 {P : Program} {e ti : TypeId} {f0 f1 f2 f3 : Field} (he : P.underlying e = some (.struct #[f0, f1, f2, f3])) (hC : P.cellsOf e = 4) (hu : P.underlying ti = some (.int .i64)) (hk : P.cellsOf ti = 1)
    (h0 : f0.type = ti ∧ f0.offset = 0) (h1 : f1.type = ti ∧ f1.offset = 1) (h2 : f2.type = ti ∧ f2.offset = 2) (h3 : f3.type = ti ∧ f3.offset = 3)
    {cs : List Value} (h : DataW.trod enc P W base spare held fuel e cs = some y) :
    ∃ x0 x1 x2 x3 : Int, cs = [.int .i64 x0, .int .i64 x1, .int .i64 x2, .int .i64 x3] ∧ wfi x0 ∧ wfi x1 ∧ wfi x2 ∧ wfi x3 := by
  obtain ⟨ys, n, _, _, hlen, hyl, hf⟩ := DataW.trod_struct he h
  rw [hC] at hlen
  match cs, hlen with
  | [c0, c1, c2, c3], _ =>
    match ys, hyl with
    | [y0, y1, y2, y3], _ =>
      have g0 := hf 0 f0 rfl
      have g1 := hf 1 f1 rfl
      have g2 := hf 2 f2 rfl
      have g3 := hf 3 f3 rfl
      rw [h0.1, h0.2, hk] at g0
      rw [h1.1, h1.2, hk] at g1
      rw [h2.1, h2.2, hk] at g2
      rw [h3.1, h3.2, hk] at g3
      obtain ⟨x0, e0, w0⟩ := open_i64 hu g0
      obtain ⟨x1, e1, w1⟩ := open_i64 hu g1
      obtain ⟨x2, e2, w2⟩ := open_i64 hu g2
      obtain ⟨x3, e3, w3⟩ := open_i64 hu g3
      simp at e0 e1 e2 e3
      exact ⟨x0, x1, x2, x3, by rw [e0, e1, e2, e3], w0, w1, w2, w3⟩
theorem open_array2 {P : Program} {e ti : TypeId} (he : P.underlying e = some (.array 2 ti)) (hC : P.cellsOf e = 2) (hu : P.underlying ti = some (.int .i64)) (hk : P.cellsOf ti = 1)
    {cs : List Value} (h : DataW.trod enc P W base spare held fuel e cs = some y) : ∃ x0 x1 : Int, cs = [.int .i64 x0, .int .i64 x1] ∧ wfi x0 ∧ wfi x1 := by
  obtain ⟨ys, n, _, _, hlen, hyl, hf⟩ := DataW.trod_array he h
  rw [hC] at hlen
  match cs, hlen with
  | [c0, c1], _ =>
    match ys, hyl with
    | [y0, y1], _ =>
      have g0 := hf 0 (by omega)
      have g1 := hf 1 (by omega)
      rw [hk] at g0 g1
      obtain ⟨x0, e0, w0⟩ := open_i64 hu g0
      obtain ⟨x1, e1, w1⟩ := open_i64 hu g1
      simp at e0 e1
      exact ⟨x0, x1, by rw [e0, e1], w0, w1⟩
theorem open_rows {α : Type} {P : Program} (d : Kd α) (good : α → Prop) {t e : TypeId} (ht : P.underlying t = some (.slice e)) (hsz : P.cellsOf e = d.sz)
    (hel : ∀ (n : Nat) (cs : List Value) (y : DataW H × List MemPlace), DataW.trod enc P W base spare held n e cs = some y → ∃ x : α, d.K W x cs ∧ good x)
    {a : Option Addr} {len cap : Nat} {dd : DataW H} {ps : List MemPlace} (h : DataW.Trod enc P W base spare held t (.slice a len cap) dd ps) :
    ∃ l : List α, l.length = len ∧ Kd.C d W a len l ∧ len ≤ cap ∧ ∀ x ∈ l, good x := by
  obtain ⟨fuel, hf⟩ := h
  rcases open_slice ht hf with ⟨hcs, _⟩ | ⟨a', len', cap', m, n, D, Pl, hcs, _, hl, hm, hmm, _, hi⟩
  · simp [Value.cells] at hcs
    obtain ⟨rfl, rfl, rfl⟩ := hcs
    exact ⟨[], rfl, ⟨rfl, by omega, fun h => by omega⟩, Nat.le_refl _, fun x hx => by cases hx⟩
  · simp [Value.cells] at hcs
    obtain ⟨rfl, rfl, rfl⟩ := hcs
    have hlm : len ≤ m := by rw [hmm]; split <;> omega
    have hM : len ≤ 9223372036854775807 := by unfold maxLen at hm; omega
    have hx : ∀ k : Nat, k ≤ len → ∃ l : List α, l.length = k ∧ (∀ j p, l[j]? = some p → ∃ cs, W.cells? base (a'.add (j * P.cellsOf e)) (P.cellsOf e) = some cs ∧ d.K W p cs) ∧ ∀ x ∈ l, good x := by
      intro k
      induction k with
      | zero => exact fun _ => ⟨[], rfl, fun j p hj => by simp at hj, fun x hx => by cases hx⟩
      | succ k ih =>
        intro hk
        obtain ⟨l, hll, h1, h2⟩ := ih (by omega)
        obtain ⟨cs, hc, htr⟩ := hi k (by omega)
        obtain ⟨x, hK, hg⟩ := hel _ _ _ htr
        refine ⟨l ++ [x], by simp [hll], fun j p hj => ?_, fun z hz => ?_⟩
        · by_cases hjk : j < l.length
          · rw [List.getElem?_append_left hjk] at hj
            exact h1 j p hj
          · have hjl : j = l.length := by
              have := (List.getElem?_eq_some_iff.1 hj).1
              simp at this
              omega
            subst hjl
            simp at hj
            subst hj
            rw [hll]
            exact ⟨cs, hc, hK⟩
        · rcases List.mem_append.1 hz with hz | hz
          · exact h2 z hz
          · simp at hz
            subst hz
            exact hg
    obtain ⟨l, hll, h1, h2⟩ := hx len (Nat.le_refl _)
    refine ⟨l, hll, ⟨hll, hM, fun _ => ⟨a', rfl, fun j p hj => ?_⟩⟩, hl, h2⟩
    obtain ⟨cs, hc, hk⟩ := h1 j p hj
    obtain ⟨_, hcl, hat⟩ := World.cells?_some hc
    refine ⟨cs, by rw [hcl, hsz], hk, fun i u hu => ?_⟩
    have hil : i < P.cellsOf e := by have := (List.getElem?_eq_some_iff.1 hu).1; omega
    have := hat i hil
    rw [Go.Deep.add_add, hsz] at this
    rw [this, hu]
end
def W43 (x : S43) : Prop := wfi x.f0 ∧ wfi x.f1 ∧ wfi x.f2 ∧ wfi x.f3
def W64 (x : S64) : Prop := wfi x.f0 ∧ wfi x.f1
section
variable {H : Type} {enc : TypeId × Value → H} {W : World} {base : Nat} {spare : Nat → Bool} {held : Bool} {a : Option Addr} {len cap : Nat} {dd : DataW H} {ps : List MemPlace}
theorem rows_43 (h : DataW.Trod enc Try.prog W base spare held 22 (.slice a len cap) dd ps) : ∃ l : List S43, l.length = len ∧ Kd.C k43 W a len l ∧ len ≤ cap ∧ ∀ x ∈ l, W43 x :=
  open_rows k43 W43 Try.underlying22 (by kernel_rfl) (fun n cs y hy => by
    obtain ⟨x0, x1, x2, x3, rfl, hw⟩ := open_struct4 Try.underlying43 (by kernel_rfl) Try.underlying3 (by kernel_rfl) ⟨rfl, rfl⟩ ⟨rfl, rfl⟩ ⟨rfl, rfl⟩ ⟨rfl, rfl⟩ hy
    exact ⟨⟨x0, x1, x2, x3⟩, k43_mk _ _, hw⟩) h
theorem rows_64 (h : DataW.Trod enc Try.prog W base spare held 72 (.slice a len cap) dd ps) : ∃ l : List S64, l.length = len ∧ Kd.C k64 W a len l ∧ len ≤ cap ∧ ∀ x ∈ l, W64 x :=
  open_rows k64 W64 Try.underlying72 (by kernel_rfl) (fun n cs y hy => by
    obtain ⟨x0, x1, rfl, hw⟩ := open_array2 Try.underlying64 (by kernel_rfl) Try.underlying3 (by kernel_rfl) hy
    exact ⟨⟨x0, x1⟩, k64_mk _ _, hw⟩) h
end
end Go.Proofs.Ytaboleeclpllpaa.Open


namespace Go.Proofs.Ytaboleeclpllpaa.Pure
open Go.RowKit Go.Proofs.YtaboleeclpllpaaW.PrintWords Go.Proofs.YtaboleeclpllpaaW.PrintLast Go.Proofs.YtaboleeclpllpaaW.PrintMore Go.Proofs.Ytaboleeclpllpaa.P Go.Proofs.Ytaboleeclpllpaa.M
set_option linter.unusedVariables false
set_option linter.unusedSimpArgs false
theorem least_len (l : List S48) (bs : List Int) (h8 : l.length ≤ 8) : (M.leastOf l bs).1.length ≤ 8 := by
  unfold M.leastOf
  have hk := firstMin_kept (cost l 0) (conts bs l.length 8 0)
  cases h : firstMin (cost l 0) (conts bs l.length 8 0) with
  | none => simp
  | some ox =>
    obtain ⟨o, x⟩ := ox
    rw [h] at hk
    have := List.mem_of_find?_eq_some hk.1
    have := (conts_mem h8 8 0 o (Nat.two_pow_pos _) this).2.2.2
    simpa using this
theorem DatesLeast (l : List S43) (hl : l.length ≤ 9223372036854775807) (hg : ∀ x ∈ l, Open.W43 x) (ps : List S64) (hps : ps.length ≤ 9223372036854775807) (hpg : ∀ x ∈ ps, Open.W64 x) : ∃ k, corrodylaw06_DatesLeast.f k l ps = some true := by
  refine Ev.rounds (g := fun k => corrodylaw06_DatesLeast.f k l ps) ?_
  unfold corrodylaw06_DatesLeast.f
  refine Ev.bind (Of_f l hl) ?_
  simp only [pairs_f, Option.bind_some]
  refine Ev.bind (Least_f _ (by simp; omega) (ps.take 18) (by simp; omega)) ?_
  refine Ev.bind (refvalid_f l hl) ?_
  rw [valid_of]
  have bad : Ev (fun k => corrodylaw06_DatesLeast.j0 k l ps ([] : List Int) 0 2 true) true := by
    refine Ev.step (f := fun k => (corrodylaw06_awake.f k).bind fun t => some t) (fun k => ?_) (Ev.bind awake_f (Ev.now _))
    simp only [corrodylaw06_DatesLeast.j0, List.length_nil, Int.natCast_zero, if_true]
  cases hv : valid48 (l.map to48) with
  | false =>
    simp only [Bool.false_and, Bool.false_eq_true, if_false]
    exact bad
  | true =>
    have hn := valid_len hv
    rw [of_valid hv]
    rw [List.length_map] at hn ⊢
    rw [befOk_take]
    simp only [if_true, Bool.true_and]
    refine Ev.bind (Befores_f l (by omega) ps hps) ?_
    cases hb : befOk l.length ps with
    | false =>
      simp only [Bool.false_eq_true, if_false, Bool.not_false]
      exact bad
    | true =>
      simp only [if_true, Bool.not_true]
      rw [bef_take hb]
      have hok : ps.all (prOk l.length) = true := by
        unfold befOk at hb
        rw [Bool.and_eq_true] at hb
        exact hb.2
      have h8 : (M.leastOf (l.map to48) (castL (masks l.length ps))).1.length ≤ 8 := least_len _ _ (by rw [List.length_map]; omega)
      have hr := refLeast_f l hv ps hps hok
      generalize M.leastOf (l.map to48) (castL (masks l.length ps)) = z at h8 hr ⊢
      refine Ev.step (f := fun k => (corrodyref06_Least.f k l ps).bind fun bt => (slices_Equal_int_int.f k z.1 bt.1).bind fun t => (if t = true then (if z.2.1 = bt.2.1 then (if z.2.2 = bt.2.2 then ((corrodylaw06_awake.f k).bind fun t => (some t)) else (some false)) else (some false)) else (some false))) (fun k => ?_) ?_
      · simp only [corrodylaw06_DatesLeast.j0, Bool.false_eq_true, if_false]
      · refine Ev.bind hr (Ev.bind (eqint_f z.1 (by omega)) ?_)
        simp only [if_true]
        exact Ev.bind awake_f (Ev.now _)
end Go.Proofs.Ytaboleeclpllpaa.Pure
