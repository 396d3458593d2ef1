/-
Plain lemmas on what the functions compute, put together into one text.
Conditions: each lemma's own.
-/
import Derived.Deep.Slices
import Derived.OpenShut
import Derived.ChangeSlices
import Derived.Test.YtaboleeclpllpaaClaimProg1
import Derived.Test.YtaboleeclpllpaaClaimProg2
import Derived.Test.YtaboleeclpllpaaClaimProg3
import Derived.Test.YtaboleeclpllpaaClaimProg4

namespace Go.Proofs.Ytaboleeclpllpaa.M
open Go.RowKit Go.Proofs.YtaboleeclpllpaaW.PrintWords Go.Proofs.YtaboleeclpllpaaW.PrintLast Go.Proofs.YtaboleeclpllpaaW.PrintMore Go.Proofs.Ytaboleeclpllpaa.P
set_option linter.unusedVariables false
set_option linter.unusedSimpArgs false
theorem w64 {x : Int} (h0 : -9223372036854775808 ≤ x) (h1 : x ≤ 9223372036854775807) : wrap64 x = x := by
  unfold wrap64
  omega
theorem w64s (i n : Nat) (h : i < n) (hn : n ≤ 9223372036854775807) : wrap64 ((i : Int) + 1) = ((i + 1 : Nat) : Int) := by
  rw [w64 (by omega) (by omega)]
  omega
def to48 (x : S43) : S48 := ⟨x.f0, x.f1, x.f2, x.f3⟩
theorem rd_nat (l : List Int) (i : Nat) (h : i < l.length) : rd l (i : Int) = l[i] := by simp [rd, List.getD_eq_getElem?_getD, List.getElem?_eq_getElem h]
theorem rd43 (l : List S43) (i : Nat) (h : i < l.length) : rd_T43 l (i : Int) = l[i] := by simp [rd_T43, List.getD_eq_getElem?_getD, List.getElem?_eq_getElem h]
theorem rd48 (l : List S48) (i : Nat) (h : i < l.length) : rd_T48 l (i : Int) = l[i] := by simp [rd_T48, List.getD_eq_getElem?_getD, List.getElem?_eq_getElem h]
theorem rd44 (l : List S44) (i : Nat) (h : i < l.length) : rd_T44 l (i : Int) = l[i] := by simp [rd_T44, List.getD_eq_getElem?_getD, List.getElem?_eq_getElem h]
def ok48 (x : S48) : Bool := decide (1 ≤ x.f0 ∧ x.f0 ≤ 20 ∧ 0 ≤ x.f1 ∧ x.f1 ≤ 100 ∧ 0 ≤ x.f2 ∧ x.f2 ≤ 200 ∧ 0 ≤ x.f3 ∧ x.f3 ≤ 20)
def valid48 (l : List S48) : Bool := decide (1 ≤ l.length ∧ l.length ≤ 8) && l.all ok48
theorem between_f (a b c : Int) : dates_between.f a b c = some (decide (b ≤ a ∧ a ≤ c)) := by
  unfold dates_between.f
  by_cases h : a ≥ b
  · rw [if_pos h]
    have : b ≤ a := h
    simp [this]
  · rw [if_neg h]
    have : ¬ b ≤ a := h
    simp [this]
theorem valid1_f (x : S48) : dates_jobs_valid_1.f x.f0 x.f1 x.f2 x.f3 = some (!ok48 x) := by
  unfold dates_jobs_valid_1.f
  simp only [between_f, Option.bind_some]
  by_cases h0 : 1 ≤ x.f0 ∧ x.f0 ≤ 20
  · by_cases h1 : 0 ≤ x.f1 ∧ x.f1 ≤ 100
    · by_cases h2 : 0 ≤ x.f2 ∧ x.f2 ≤ 200
      · by_cases h3 : 0 ≤ x.f3 ∧ x.f3 ≤ 20
        · have : ok48 x = true := by simp only [ok48, decide_eq_true_eq]; omega
          simp [h0, h1, h2, h3, this]
        · have : ok48 x = false := by simp only [ok48, decide_eq_false_iff_not]; omega
          rw [decide_eq_false h3]
          simp [h0, h1, h2, this]
      · have : ok48 x = false := by simp only [ok48, decide_eq_false_iff_not]; omega
        rw [decide_eq_false h2]
        simp [h0, h1, this]
    · have : ok48 x = false := by simp only [ok48, decide_eq_false_iff_not]; omega
      rw [decide_eq_false h1]
      simp [h0, this]
  · have : ok48 x = false := by simp only [ok48, decide_eq_false_iff_not]; omega
    rw [decide_eq_false h0]
    simp [this]
theorem index_loop (l : List S48) (hl : l.length ≤ 9223372036854775807) : ∀ (d i : Nat), i + d = l.length → ∃ r : Int, Ev (fun k => dates_Job_87.l0 k l (l.length : Int) (i : Int)) r ∧ (decide (r ≥ 0) = !(l.drop i).all ok48) := by
  intro d
  induction d with
  | zero =>
    intro i hi
    refine ⟨-1, Ev.step (f := fun _ => some (-1)) (fun k => ?_) (Ev.now _), ?_⟩
    · simp only [dates_Job_87.l0]
      rw [if_neg (by omega)]
    · rw [show i = l.length by omega, List.drop_length]
      rfl
  | succ d ih =>
    intro i hi
    have hlt : i < l.length := by omega
    rw [List.drop_eq_getElem_cons hlt, List.all_cons]
    cases hok : ok48 l[i] with
    | false =>
      refine ⟨i, Ev.step (f := fun _ => some (i : Int)) (fun k => ?_) (Ev.now _), ?_⟩
      · simp only [dates_Job_87.l0]
        rw [if_pos (by omega), if_pos (by omega), if_pos (by omega), rd48 l i hlt, valid1_f, hok]
        rfl
      · simp
    | true =>
      obtain ⟨r, hr, hr2⟩ := ih (i + 1) (by omega)
      refine ⟨r, Ev.step (fun k => ?_) hr, by simpa using hr2⟩
      simp only [dates_Job_87.l0]
      rw [if_pos (by omega), if_pos (by omega), if_pos (by omega), rd48 l i hlt, valid1_f, hok, w64s i l.length hlt hl]
      rfl
theorem valid_f (l : List S48) (hl : l.length ≤ 9223372036854775807) : Ev (fun k => dates_jobs_valid.f k l) (valid48 l) := by
  unfold dates_jobs_valid.f
  simp only [between_f, Option.bind_some]
  by_cases h : 1 ≤ l.length ∧ l.length ≤ 8
  · obtain ⟨r, hr, hr2⟩ := index_loop l hl l.length 0 (by omega)
    have hd : decide ((1 : Int) ≤ (l.length : Int) ∧ (l.length : Int) ≤ 8) = true := decide_eq_true (by omega)
    simp only [hd, if_true]
    have h1 : Ev (fun k => dates_Job_77.f k l) (!l.all ok48) := by
      unfold dates_Job_77.f dates_Job_87.f
      refine Ev.bind (a := r) hr ?_
      rw [hr2]
      exact Ev.now _
    refine Ev.bind h1 ?_
    have : valid48 l = l.all ok48 := by simp [valid48, h]
    rw [this, Bool.not_not]
    exact Ev.now _
  · have hd : decide ((1 : Int) ≤ (l.length : Int) ∧ (l.length : Int) ≤ 8) = false := decide_eq_false (by omega)
    simp only [hd]
    have : valid48 l = false := by simp [valid48, h]
    rw [this]
    exact Ev.now _
theorem refvalid_loop (l0 l : List S43) (hl : l.length ≤ 9223372036854775807) : ∀ (d i : Nat), i + d = l.length → Ev (fun k => corrodyref06_Valid.l0 k l0 l (l.length : Int) (i : Int)) ((((l.drop i).map to48).all ok48) && decide (1 ≤ l0.length ∧ l0.length ≤ 8)) := by
  intro d
  induction d with
  | zero =>
    intro i hi
    rw [show i = l.length by omega, List.drop_length]
    by_cases h1 : 1 ≤ l0.length
    · refine Ev.step (f := fun _ => some (decide ((l0.length : Int) ≤ 8))) (fun k => ?_) ?_
      · simp only [corrodyref06_Valid.l0]
        rw [if_neg (by omega), if_pos (by omega)]
      · have : decide ((l0.length : Int) ≤ 8) = (([].map to48).all ok48 && decide (1 ≤ l0.length ∧ l0.length ≤ 8)) := by
          simp [h1]
          omega
        rw [this]
        exact Ev.now _
    · refine Ev.step (f := fun _ => some false) (fun k => ?_) ?_
      · simp only [corrodyref06_Valid.l0]
        rw [if_neg (by omega), if_neg (by omega)]
      · simp [h1]
        exact Ev.now _
  | succ d ih =>
    intro i hi
    have hlt : i < l.length := by omega
    rw [List.drop_eq_getElem_cons hlt, List.map_cons, List.all_cons]
    have hb : ∀ k, corrodyref06_Valid.l0 (k + 1) l0 l (l.length : Int) (i : Int) = if ok48 (to48 l[i]) = true then corrodyref06_Valid.l0 k l0 l (l.length : Int) ((i + 1 : Nat) : Int) else some false := by
      intro k
      simp only [corrodyref06_Valid.l0]
      rw [if_pos (by omega), if_pos (by omega), if_pos (by omega), rd43 l i hlt, w64s i l.length hlt hl]
      have he : ∀ x : S43, ok48 (to48 x) = decide (1 ≤ x.f0 ∧ x.f0 ≤ 20 ∧ 0 ≤ x.f1 ∧ x.f1 ≤ 100 ∧ 0 ≤ x.f2 ∧ x.f2 ≤ 200 ∧ 0 ≤ x.f3 ∧ x.f3 ≤ 20) := fun _ => rfl
      rw [he]
      generalize l[i] = x
      by_cases h0 : x.f0 < 1
      · rw [if_pos h0, decide_eq_false (by omega)]; rfl
      by_cases h1 : x.f0 > 20
      · rw [if_neg h0, if_pos h1, decide_eq_false (by omega)]; rfl
      by_cases h2 : x.f1 < 0
      · rw [if_neg h0, if_neg h1, if_pos h2, decide_eq_false (by omega)]; rfl
      by_cases h3 : x.f1 > 100
      · rw [if_neg h0, if_neg h1, if_neg h2, if_pos h3, decide_eq_false (by omega)]; rfl
      by_cases h4 : x.f2 < 0
      · rw [if_neg h0, if_neg h1, if_neg h2, if_neg h3, if_pos h4, decide_eq_false (by omega)]; rfl
      by_cases h5 : x.f2 > 200
      · rw [if_neg h0, if_neg h1, if_neg h2, if_neg h3, if_neg h4, if_pos h5, decide_eq_false (by omega)]; rfl
      by_cases h6 : x.f3 < 0
      · rw [if_neg h0, if_neg h1, if_neg h2, if_neg h3, if_neg h4, if_neg h5, if_pos h6, decide_eq_false (by omega)]; rfl
      by_cases h7 : x.f3 > 20
      · rw [if_neg h0, if_neg h1, if_neg h2, if_neg h3, if_neg h4, if_neg h5, if_neg h6, if_pos h7, decide_eq_false (by omega)]; rfl
      rw [if_neg h0, if_neg h1, if_neg h2, if_neg h3, if_neg h4, if_neg h5, if_neg h6, if_neg h7, decide_eq_true (by omega)]; rfl
    cases hok : ok48 (to48 l[i]) with
    | false =>
      refine Ev.step (f := fun _ => some false) (fun k => ?_) (Ev.now _)
      rw [hb, hok]
      rfl
    | true =>
      refine Ev.step (fun k => ?_) (ih (i + 1) (by omega))
      rw [hb, hok]
      rfl
theorem refvalid_f (l : List S43) (hl : l.length ≤ 9223372036854775807) : Ev (fun k => corrodyref06_Valid.f k l) (valid48 (l.map to48)) := by
  have h := refvalid_loop l l hl l.length 0 (by omega)
  unfold corrodyref06_Valid.f
  have e : valid48 (l.map to48) = ((((l.drop 0).map to48).all ok48) && decide (1 ≤ l.length ∧ l.length ≤ 8)) := by
    simp only [valid48, List.length_map, List.drop_zero]
    rw [Bool.and_comm]
  rw [e]
  exact h
theorem Of_loop (l : List S43) (hl : l.length ≤ 9223372036854775807) : ∀ (d i : Nat) (acc : List S48), i + d = l.length → acc.length = min i 10 → Ev (fun k => corrodylaw06_Of.l0 k acc l (l.length : Int) (i : Int)) (acc ++ ((l.take 10).drop i).map to48) := by
  intro d
  induction d with
  | zero =>
    intro i acc hi ha
    rw [List.drop_eq_nil_of_le (by rw [List.length_take]; omega), List.map_nil, List.append_nil]
    refine Ev.step (f := fun _ => some acc) (fun k => ?_) (Ev.now _)
    simp only [corrodylaw06_Of.l0]
    rw [if_neg (by omega)]
  | succ d ih =>
    intro i acc hi ha
    have hlt : i < l.length := by omega
    by_cases h10 : i < 10
    · have hd : (l.take 10).drop i = l[i] :: (l.take 10).drop (i + 1) := by
        rw [List.drop_eq_getElem_cons (by rw [List.length_take]; omega)]
        simp
      have := ih (i + 1) (acc ++ [to48 l[i]]) (by omega) (by simp; omega)
      rw [hd, List.map_cons, show acc ++ to48 l[i] :: ((l.take 10).drop (i + 1)).map to48 = (acc ++ [to48 l[i]]) ++ ((l.take 10).drop (i + 1)).map to48 by simp]
      refine Ev.step (fun k => ?_) this
      simp only [corrodylaw06_Of.l0]
      rw [if_pos (by omega), if_pos (by omega), if_pos (by omega), if_pos (by omega), if_pos (by omega), rd43 l i hlt, w64s i l.length hlt hl]
      rfl
    · have := ih (i + 1) acc (by omega) (by omega)
      rw [List.drop_eq_nil_of_le (by rw [List.length_take]; omega)] at this ⊢
      refine Ev.step (fun k => ?_) this
      simp only [corrodylaw06_Of.l0]
      rw [if_pos (by omega), if_pos (by omega), if_pos (by omega), if_neg (by omega), w64s i l.length hlt hl]
theorem Of_f (l : List S43) (hl : l.length ≤ 9223372036854775807) : Ev (fun k => corrodylaw06_Of.f k l) ((l.take 10).map to48) := by
  have := Of_loop l hl l.length 0 [] (by omega) rfl
  rw [List.drop_zero, List.nil_append] at this
  exact this
theorem valid_of (l : List S43) : valid48 ((l.take 10).map to48) = valid48 (l.map to48) := by
  by_cases h : l.length ≤ 10
  · rw [List.take_of_length_le h]
  · simp only [valid48, List.length_map, List.length_take]
    rw [decide_eq_false (by omega), decide_eq_false (by omega)]
    rfl
theorem of_valid {l : List S43} (h : valid48 (l.map to48) = true) : (l.take 10).map to48 = l.map to48 := by
  have : l.length ≤ 8 := by
    simp only [valid48, Bool.and_eq_true, decide_eq_true_eq, List.length_map] at h
    exact h.1.2
  rw [List.take_of_length_le (by omega)]
end Go.Proofs.Ytaboleeclpllpaa.M


namespace Go.Proofs.Ytaboleeclpllpaa.M
open Go.RowKit Go.Proofs.YtaboleeclpllpaaW.PrintWords Go.Proofs.YtaboleeclpllpaaW.PrintLast Go.Proofs.YtaboleeclpllpaaW.PrintMore Go.Proofs.Ytaboleeclpllpaa.P
set_option linter.unusedVariables false
set_option linter.unusedSimpArgs false
abbrev Pc := S44
def total (l : List Int) : Int := l.foldr (· + ·) 0
theorem total_cons (x : Int) (l : List Int) : total (x :: l) = x + total l := rfl
theorem total_bound (l : List Int) (b : Int) (hb : 0 ≤ b) (h : ∀ x ∈ l, -b ≤ x ∧ x ≤ b) : -(b * (l.length : Int)) ≤ total l ∧ total l ≤ b * (l.length : Int) := by
  induction l with
  | nil => simp [total]
  | cons x l ih =>
    have hx := h x (by simp)
    have := ih (fun y hy => h y (by simp [hy]))
    rw [total_cons, List.length_cons]
    have e : b * ((l.length + 1 : Nat) : Int) = b * (l.length : Int) + b := by rw [Int.natCast_add]; simp [Int.mul_add]
    omega
theorem eq44_loop (l : List S44) (hl : l.length ≤ 9223372036854775807) : ∀ (d i : Nat), i + d = l.length → Ev (fun k => dates_Piece.l0 k l l (l.length : Int) (i : Int)) true := by
  intro d
  induction d with
  | zero =>
    intro i hi
    refine Ev.step (f := fun _ => some true) (fun k => ?_) (Ev.now _)
    simp only [dates_Piece.l0]
    rw [if_neg (by omega)]
  | succ d ih =>
    intro i hi
    have hlt : i < l.length := by omega
    refine Ev.step (fun k => ?_) (ih (i + 1) (by omega))
    simp only [dates_Piece.l0]
    rw [if_pos (by omega), if_pos (by omega), if_pos (by omega), if_pos (by omega), w64s i l.length hlt hl, if_neg (by simp)]
theorem eq44_f (l : List S44) (hl : l.length ≤ 9223372036854775807) : Ev (fun k => dates_Piece.f k l l) true := by
  have := eq44_loop l hl l.length 0 (by omega)
  refine Ev.congr (fun k => ?_) this
  unfold dates_Piece.f
  rw [if_pos rfl]
  rfl
theorem eqint_loop (l : List Int) (hl : l.length ≤ 9223372036854775807) : ∀ (d i : Nat), i + d = l.length → Ev (fun k => slices_Equal_int_int.l0 k l l (l.length : Int) (i : Int)) true := by
  intro d
  induction d with
  | zero =>
    intro i hi
    refine Ev.step (f := fun _ => some true) (fun k => ?_) (Ev.now _)
    simp only [slices_Equal_int_int.l0]
    rw [if_neg (by omega)]
  | succ d ih =>
    intro i hi
    have hlt : i < l.length := by omega
    refine Ev.step (fun k => ?_) (ih (i + 1) (by omega))
    simp only [slices_Equal_int_int.l0]
    rw [if_pos (by omega), if_pos (by omega), if_pos (by omega), if_pos (by omega), w64s i l.length hlt hl, if_pos trivial]
theorem eqint_f (l : List Int) (hl : l.length ≤ 9223372036854775807) : Ev (fun k => slices_Equal_int_int.f k l l) true := by
  have := eqint_loop l hl l.length 0 (by omega)
  refine Ev.congr (fun k => ?_) this
  unfold slices_Equal_int_int.f
  rw [if_pos rfl]
  rfl
theorem mx_max (a b : Int) : mx a b = max a b := by unfold mx; omega
theorem max_loop (l : List Int) (hl : l.length ≤ 9223372036854775807) : ∀ (d i : Nat) (m : Int), i + d = l.length → 1 ≤ i → (m > 0 ↔ ∃ x ∈ l.take i, x > 0) → ∃ r, Ev (fun k => dates_left_int.l0 k l m (i : Int)) r ∧ (r > 0 ↔ ∃ x ∈ l, x > 0) := by
  intro d
  induction d with
  | zero =>
    intro i m hi h1 hm
    rw [show i = l.length by omega, List.take_length] at hm
    refine ⟨m, Ev.step (f := fun _ => some m) (fun k => ?_) (Ev.now _), hm⟩
    simp only [dates_left_int.l0]
    rw [if_neg (by omega)]
  | succ d ih =>
    intro i m hi h1 hm
    have hlt : i < l.length := by omega
    obtain ⟨r, hr, hr2⟩ := ih (i + 1) (mx m l[i]) (by omega) (by omega) (by
      rw [mx_max, List.take_succ_eq_append_getElem hlt]
      constructor
      · intro h
        by_cases hx : l[i] > 0
        · exact ⟨l[i], List.mem_append.2 (.inr (List.mem_singleton.2 rfl)), hx⟩
        · obtain ⟨y, hy, hy2⟩ := hm.1 (by omega)
          exact ⟨y, List.mem_append.2 (.inl hy), hy2⟩
      · rintro ⟨y, hy, hy2⟩
        rcases List.mem_append.1 hy with hy | hy
        · have := hm.2 ⟨y, hy, hy2⟩
          omega
        · simp at hy
          omega)
    refine ⟨r, Ev.step (fun k => ?_) hr, hr2⟩
    simp only [dates_left_int.l0]
    rw [if_pos (by omega), if_pos (by omega), rd_nat l i hlt, w64s i l.length hlt hl]
theorem max_f (l : List Int) (h1 : 1 ≤ l.length) (hl : l.length ≤ 9223372036854775807) : ∃ r, Ev (fun k => dates_left_int.f k l) r ∧ (r > 0 ↔ ∃ x ∈ l, x > 0) := by
  have h0 : rd l 0 = l[0] := rd_nat l 0 h1
  obtain ⟨r, hr, hr2⟩ := max_loop l hl (l.length - 1) 1 (l[0]) (by omega) (by omega) (by
    rw [List.take_succ_eq_append_getElem h1]
    simp)
  refine ⟨r, Ev.congr (fun k => ?_) hr, hr2⟩
  unfold dates_left_int.f
  rw [if_neg (by omega), if_pos (by omega), h0]
  rfl
end Go.Proofs.Ytaboleeclpllpaa.M


namespace Go.Proofs.Ytaboleeclpllpaa.M
open Go.RowKit Go.Proofs.YtaboleeclpllpaaW.PrintWords Go.Proofs.YtaboleeclpllpaaW.PrintLast Go.Proofs.YtaboleeclpllpaaW.PrintMore Go.Proofs.Ytaboleeclpllpaa.P
set_option linter.unusedVariables false
set_option linter.unusedSimpArgs false
def tm (t : List Int) (i : Nat) : Int := t.getD i 0
def jb (l : List S48) (i : Nat) : S48 := l.getD i z48
def ahead (short : Bool) (l : List S48) (t : List Int) (i j : Nat) : Bool := if short then decide (tm t i < tm t j) else decide ((jb l i).f2 < (jb l j).f2)
def ready (l : List S48) (t : List Int) (a : Int) (i : Nat) : Prop := (jb l i).f1 ≤ a ∧ tm t i > 0
instance (l : List S48) (t : List Int) (a : Int) (i : Nat) : Decidable (ready l t a i) := by unfold ready; infer_instance
def pickN (short : Bool) (l : List S48) (t : List Int) (a : Int) : Nat → Option Nat
  | 0 => none
  | i + 1 => if ready l t a i then (match pickN short l t a i with
      | none => some i
      | some j => if ahead short l t i j = true then some i else some j) else pickN short l t a i
def pick (short : Bool) (l : List S48) (t : List Int) (a : Int) : Option Nat := pickN short l t a l.length
def addPc (out : List Pc) (j : Int) (a : Int) : List Pc := match out.getLast? with
  | some p => if p.f0 = j ∧ p.f2 = a then out.set (out.length - 1) ⟨p.f0, p.f1, p.f2 + 1⟩ else out ++ [⟨j, a, a + 1⟩]
  | none => [⟨j, a, a + 1⟩]
abbrev St := List Int × List Pc
def stepF (short : Bool) (l : List S48) (a : Int) (s : St) : St := match pick short l s.1 a with
  | none => s
  | some j => (s.1.set j (tm s.1 j - 1), addPc s.2 (j : Int) a)
def runF (short : Bool) (l : List S48) : Nat → Int → St → St
  | 0, _, s => s
  | n + 1, a, s => runF short l n (a + 1) (stepF short l a s)
def times (l : List S48) : List Int := l.map (·.f0)
def planOf (short : Bool) (l : List S48) : List Pc := (runF short l 300 0 (times l, [])).2
theorem pickN_lt {short : Bool} {l : List S48} {t : List Int} {a : Int} : ∀ {n j : Nat}, pickN short l t a n = some j → j < n ∧ ready l t a j := by
  intro n
  induction n with
  | zero => intro j h; cases h
  | succ n ih =>
    intro j h
    rw [pickN] at h
    by_cases hr : ready l t a n
    · rw [if_pos hr] at h
      cases hp : pickN short l t a n with
      | none =>
        rw [hp] at h
        simp at h
        subst h
        exact ⟨by omega, hr⟩
      | some j' =>
        rw [hp] at h
        have := ih hp
        by_cases ha : ahead short l t n j' = true
        · simp [ha] at h
          subst h
          exact ⟨by omega, hr⟩
        · simp [ha] at h
          subst h
          exact ⟨by omega, this.2⟩
    · rw [if_neg hr] at h
      have := ih h
      exact ⟨by omega, this.2⟩
theorem pickN_none {short : Bool} {l : List S48} {t : List Int} {a : Int} : ∀ {n : Nat}, pickN short l t a n = none ↔ ∀ i, i < n → ¬ ready l t a i := by
  intro n
  induction n with
  | zero => exact ⟨fun _ i hi => by omega, fun _ => rfl⟩
  | succ n ih =>
    rw [pickN]
    by_cases hr : ready l t a n
    · rw [if_pos hr]
      constructor
      · intro h
        exfalso
        cases hp : pickN short l t a n with
        | none => rw [hp] at h; cases h
        | some j =>
          rw [hp] at h
          by_cases ha : ahead short l t n j = true
          · simp [ha] at h
          · simp [ha] at h
      · intro h
        exact absurd hr (h n (by omega))
    · rw [if_neg hr, ih]
      constructor
      · intro h i hi
        by_cases e : i = n
        · subst e; exact hr
        · exact h i (by omega)
      · intro h i hi
        exact h i (by omega)
theorem addPc_length (out : List Pc) (j a : Int) : (addPc out j a).length ≤ out.length + 1 := by
  unfold addPc
  split
  · split
    · rw [List.length_set]; omega
    · simp
  · simp
theorem stepF_len (short : Bool) (l : List S48) (a : Int) (s : St) : (stepF short l a s).1.length = s.1.length := by
  unfold stepF
  split
  · rfl
  · simp
theorem stepF_out (short : Bool) (l : List S48) (a : Int) (s : St) : (stepF short l a s).2.length ≤ s.2.length + 1 := by
  unfold stepF
  split
  · omega
  · exact addPc_length _ _ _
theorem tm_mem {t : List Int} {i : Nat} (h : i < t.length) : tm t i ∈ t := by
  unfold tm
  rw [List.getD_eq_getElem?_getD, List.getElem?_eq_getElem h]
  exact List.getElem_mem h
theorem tm_get {t : List Int} {i : Nat} (h : i < t.length) : tm t i = t[i] := by
  unfold tm
  rw [List.getD_eq_getElem?_getD, List.getElem?_eq_getElem h]
  rfl
theorem tm_out {t : List Int} {i : Nat} (h : t.length ≤ i) : tm t i = 0 := by
  unfold tm
  rw [List.getD_eq_getElem?_getD, List.getElem?_eq_none h]
  rfl
theorem jb_get {l : List S48} {i : Nat} (h : i < l.length) : jb l i = l[i] := by
  unfold jb
  rw [List.getD_eq_getElem?_getD, List.getElem?_eq_getElem h]
  rfl
theorem tm_set (t : List Int) (j i : Nat) (x : Int) (h : j < t.length) : tm (t.set j x) i = if i = j then x else tm t i := by
  unfold tm
  rw [List.getD_eq_getElem?_getD, List.getElem?_set]
  by_cases e : i = j
  · subst e
    rw [if_pos rfl, if_pos rfl, if_pos h]
    rfl
  · rw [if_neg (Ne.symm e), if_neg e, List.getD_eq_getElem?_getD]
theorem total_set : ∀ (t : List Int) (j : Nat) (x : Int), j < t.length → total (t.set j x) = total t - tm t j + x := by
  intro t
  induction t with
  | nil => intro j x h; simp at h
  | cons y t ih =>
    intro j x h
    cases j with
    | zero => simp [total, tm]; omega
    | succ j =>
      have := ih j x (by simpa using h)
      rw [List.set_cons_succ, total_cons, total_cons, this]
      have : tm (y :: t) (j + 1) = tm t j := rfl
      omega
def fine (t : List Int) : Prop := ∀ x ∈ t, 0 ≤ x
theorem fine_tm {t : List Int} (h : fine t) (i : Nat) : 0 ≤ tm t i := by
  by_cases hi : i < t.length
  · exact h _ (tm_mem hi)
  · rw [tm_out (by omega)]
    exact Int.le_refl _
theorem fine_of_tm {t : List Int} (h : ∀ i, i < t.length → 0 ≤ tm t i) : fine t := by
  intro x hx
  obtain ⟨i, hi, rfl⟩ := List.mem_iff_getElem.1 hx
  have := h i hi
  rwa [tm_get hi] at this
theorem total_fine {t : List Int} (h : fine t) : 0 ≤ total t := by
  induction t with
  | nil => exact Int.le_refl _
  | cons x t ih =>
    rw [total_cons]
    have := h x (by simp)
    have := ih (fun y hy => h y (by simp [hy]))
    omega
theorem total_zero {t : List Int} (h : fine t) (h0 : total t ≤ 0) : ∀ i, tm t i = 0 := by
  induction t with
  | nil => intro i; rfl
  | cons x t ih =>
    rw [total_cons] at h0
    have hx := h x (by simp)
    have ht : fine t := fun y hy => h y (by simp [hy])
    have := total_fine ht
    intro i
    cases i with
    | zero => show x = 0; omega
    | succ i => exact ih ht (by omega) i
theorem step_fine {short : Bool} {l : List S48} {a : Int} {s : St} (hl : s.1.length = l.length) (h : fine s.1) : fine (stepF short l a s).1 := by
  unfold stepF
  split
  · exact h
  · rename_i j hj
    have ⟨hlt, hr⟩ := pickN_lt hj
    refine fine_of_tm fun i hi => ?_
    rw [tm_set _ _ _ _ (by omega)]
    by_cases e : i = j
    · rw [if_pos e]
      have := hr.2
      omega
    · rw [if_neg e]
      exact fine_tm h i
theorem step_total {short : Bool} {l : List S48} {a : Int} {s : St} (hl : s.1.length = l.length) : total (stepF short l a s).1 = total s.1 - (if (pick short l s.1 a).isSome = true then 1 else 0) := by
  unfold stepF
  split
  · rename_i hp
    rw [hp]
    simp
  · rename_i j hj
    rw [hj]
    have ⟨hlt, hr⟩ := pickN_lt hj
    show total (s.1.set j (tm s.1 j - 1)) = _
    rw [total_set _ _ _ (by omega)]
    simp
    omega
theorem run_done {short : Bool} {l : List S48} (hrel : ∀ i, i < l.length → (jb l i).f1 ≤ 100) : ∀ (n : Nat) (a : Int) (s : St), s.1.length = l.length → fine s.1 → total s.1 + (if a < 100 then 100 - a else 0) ≤ (n : Int) → total (runF short l n a s).1 ≤ 0 := by
  intro n
  induction n with
  | zero =>
    intro a s hl hf h
    show total s.1 ≤ 0
    split at h <;> omega
  | succ n ih =>
    intro a s hl hf h
    rw [runF]
    have h2 := step_total (short := short) (a := a) hl
    refine ih _ _ (by rw [stepF_len, hl]) (step_fine hl hf) ?_
    cases hp : pick short l s.1 a with
    | some j =>
      rw [hp] at h2
      simp at h2
      split at h <;> split <;> omega
    | none =>
      rw [hp] at h2
      simp at h2
      by_cases ha : a < 100
      · rw [if_pos ha] at h
        split <;> omega
      ·
        have hz : total s.1 ≤ 0 := by
          have hn := pickN_none.1 hp
          have : ∀ i, tm s.1 i = 0 := by
            intro i
            by_cases hi : i < l.length
            · have h1 := hn i hi
              have h3 := fine_tm hf i
              have h4 := hrel i hi
              unfold ready at h1
              omega
            · exact tm_out (by omega)
          have h5 : ∀ t : List Int, (∀ i, tm t i = 0) → total t = 0 := by
            intro t
            induction t with
            | nil => intro _; rfl
            | cons x t iht =>
              intro h
              rw [total_cons, iht (fun i => h (i + 1))]
              have := h 0
              have e : tm (x :: t) 0 = x := rfl
              omega
          rw [h5 _ this]
          exact Int.le_refl _
        have := total_fine hf
        split <;> omega
end Go.Proofs.Ytaboleeclpllpaa.M


namespace Go.Proofs.Ytaboleeclpllpaa.M
open Go.RowKit Go.Proofs.YtaboleeclpllpaaW.PrintWords Go.Proofs.YtaboleeclpllpaaW.PrintLast Go.Proofs.YtaboleeclpllpaaW.PrintMore Go.Proofs.Ytaboleeclpllpaa.P
set_option linter.unusedVariables false
set_option linter.unusedSimpArgs false
def curI : Option Nat → Int
  | none => -1
  | some j => (j : Int)
theorem step_le {short : Bool} {l : List S48} {a : Int} {t : List Int} {out : List Pc} (h : ∀ x ∈ t, x ≤ 20) : ∀ x ∈ (stepF short l a (t, out)).1, x ≤ 20 := by
  intro x hx
  unfold stepF at hx
  split at hx
  · exact h x hx
  · rename_i j hj
    obtain ⟨i, hi, rfl⟩ := List.mem_iff_getElem.1 hx
    simp only [List.length_set] at hi
    rw [List.getElem_set]
    split
    · by_cases hjl : j < t.length
      · have := h _ (tm_mem hjl)
        show tm t j - 1 ≤ 20
        omega
      · show tm t j - 1 ≤ 20
        rw [tm_out (by omega)]
        omega
    · exact h _ (List.getElem_mem hi)
theorem stepF_idle {short : Bool} {l : List S48} {a : Int} {s : St} (h : ∀ i, tm s.1 i = 0) : stepF short l a s = s := by
  have : pick short l s.1 a = none := pickN_none.2 fun i _ hr => by have := hr.2; rw [h i] at this; omega
  unfold stepF
  rw [this]
theorem runF_idle {short : Bool} {l : List S48} {t : List Int} {out : List Pc} (h : ∀ i, tm t i = 0) : ∀ {n : Nat} {a : Int}, runF short l n a (t, out) = (t, out) := by
  intro n
  induction n with
  | zero => intro a; rfl
  | succ n ih =>
    intro a
    rw [runF, stepF_idle (s := (t, out)) h, ih]
theorem valid_len {l : List S48} (h : valid48 l = true) : 1 ≤ l.length ∧ l.length ≤ 8 := by
  simp only [valid48, Bool.and_eq_true, decide_eq_true_eq] at h
  exact h.1
theorem valid_ok {l : List S48} (h : valid48 l = true) {x : S48} (hx : x ∈ l) : 1 ≤ x.f0 ∧ x.f0 ≤ 20 ∧ 0 ≤ x.f1 ∧ x.f1 ≤ 100 ∧ 0 ≤ x.f2 ∧ x.f2 ≤ 200 ∧ 0 ≤ x.f3 ∧ x.f3 ≤ 20 := by
  simp only [valid48, Bool.and_eq_true, List.all_eq_true] at h
  have := h.2 x hx
  simpa [ok48] using this
theorem valid_jb {l : List S48} (h : valid48 l = true) {i : Nat} (hi : i < l.length) : 1 ≤ (jb l i).f0 ∧ (jb l i).f0 ≤ 20 ∧ 0 ≤ (jb l i).f1 ∧ (jb l i).f1 ≤ 100 ∧ 0 ≤ (jb l i).f2 ∧ (jb l i).f2 ≤ 200 ∧ 0 ≤ (jb l i).f3 ∧ (jb l i).f3 ≤ 20 := by
  rw [jb_get hi]
  exact valid_ok h (List.getElem_mem hi)
theorem times_fine {l : List S48} (h : valid48 l = true) : fine (times l) := by
  intro x hx
  obtain ⟨y, hy, rfl⟩ := List.mem_map.1 hx
  have := valid_ok h hy
  omega
theorem times_le {l : List S48} (h : valid48 l = true) : ∀ x ∈ times l, x ≤ 20 := by
  intro x hx
  obtain ⟨y, hy, rfl⟩ := List.mem_map.1 hx
  have := valid_ok h hy
  omega
theorem times_total {l : List S48} (h : valid48 l = true) : total (times l) ≤ 160 := by
  have h1 := total_bound (times l) 20 (by omega) (fun x hx => ⟨by have := times_fine h x hx; omega, times_le h x hx⟩)
  have h2 := valid_len h
  have h3 : (times l).length = l.length := by simp [times]
  omega
theorem plan_done (short : Bool) {l : List S48} (h : valid48 l = true) : total (runF short l 300 0 (times l, [])).1 ≤ 0 := by
  refine run_done (fun i hi => (valid_jb h hi).2.2.2.1) 300 0 (times l, []) (by simp [times]) (times_fine h) ?_
  have := times_total h
  simp
  omega
theorem due_first (l : List S48) (t : List Int) (hl : t.length = l.length) (i j : Nat) (hi : i < l.length) (hj : j < l.length) : dates_jobs_first.f l (i : Int) (j : Int) t = some (ahead false l t i j) := by
  unfold dates_jobs_first.f
  rw [if_pos (by omega), if_pos (by omega), if_pos (by omega), if_pos (by omega), rd48 l i (by omega), rd48 l j (by omega)]
  simp [ahead, jb_get hi, jb_get hj]
theorem due_inner (l : List S48) (t : List Int) (out : List Pc) (a : Int) (hl : l.length ≤ 8) (ht : t.length = l.length) (r : List Pc) : ∀ (d i : Nat), i + d = l.length →
    Ev (fun k => dates_jobs_plan_due.l2 k l out t a (curI (pick false l t a)) l (l.length : Int) (l.length : Int)) r → Ev (fun k => dates_jobs_plan_due.l2 k l out t a (curI (pickN false l t a i)) l (l.length : Int) (i : Int)) r := by
  intro d
  induction d with
  | zero =>
    intro i hi h
    rw [show i = l.length by omega]
    exact h
  | succ d ih =>
    intro i hi h
    have hlt : i < l.length := by omega
    refine Ev.step (fun k => ?_) (ih (i + 1) (by omega) h)
    simp only [dates_jobs_plan_due.l2]
    rw [if_pos (by omega), if_pos (by omega), if_pos (by omega), rd48 l i hlt, w64s i l.length hlt (by omega), if_pos (show (i : Int) < (t.length : Int) by omega)]
    have hjb : jb l i = l[i] := jb_get hlt
    have htm : rd t (i : Int) = tm t i := by rw [rd_nat t i (by omega), tm_get (by omega)]
    by_cases h1 : (l[i]).f1 ≤ a
    · rw [if_pos h1, htm]
      by_cases h2 : tm t i > 0
      · rw [if_pos h2]
        have hr : ready l t a i := ⟨by rw [hjb]; exact h1, h2⟩
        rw [pickN, if_pos hr]
        cases hp : pickN false l t a i with
        | none => rw [if_pos (show curI none < 0 by decide)]; rfl
        | some j =>
          have ⟨hji, _⟩ := pickN_lt hp
          have hc : curI (some j) = (j : Int) := rfl
          rw [hc, if_neg (by omega), due_first l t ht i j hlt (by omega)]
          by_cases ha : ahead false l t i j = true
          · simp only [ha, if_true, Option.bind_some]
            rfl
          · simp only [Bool.eq_false_iff.mpr ha, Option.bind_some, if_false, Bool.false_eq_true]
            rfl
      · rw [if_neg h2]
        have hr : ¬ ready l t a i := fun h => h2 h.2
        rw [pickN, if_neg hr]
    · rw [if_neg h1]
      have hr : ¬ ready l t a i := fun h => h1 (by have := h.1; rwa [hjb] at this)
      rw [pickN, if_neg hr]
theorem due_step (l : List S48) (t : List Int) (out : List Pc) (a : Int) (hl : l.length ≤ 8) (ht : t.length = l.length) (h20 : ∀ x ∈ t, x ≤ 20) (ha0 : 0 ≤ a) (ha : a ≤ 1000) (ho : out.length ≤ 1000) (r : List Pc)
    (h : Ev (fun k => dates_jobs_plan_due.l1 k l (stepF false l a (t, out)).2 (stepF false l a (t, out)).1 (a + 1)) r) : Ev (fun k => dates_jobs_plan_due.l2 k l out t a (-1) l (l.length : Int) 0) r := by
  refine due_inner l t out a hl ht r l.length 0 (by omega) ?_
  refine Ev.step (fun k => ?_) h
  simp only [dates_jobs_plan_due.l2]
  rw [if_neg (by omega)]
  unfold stepF
  cases hp : pick false l t a with
  | none =>
    rw [if_pos (show curI none < 0 by decide), w64 (by omega) (by omega)]
  | some j =>
    have ⟨hj, hr⟩ := pickN_lt hp
    have hc : curI (some j) = (j : Int) := rfl
    have htm : rd t (j : Int) = tm t j := by rw [rd_nat t j (by omega), tm_get (by omega)]
    have h1 := hr.2
    have h2 := h20 _ (tm_mem (show j < t.length by omega))
    rw [hc, if_neg (by omega), if_pos (by omega), if_pos (by omega), Option.bind_some, htm, w64 (x := tm t j - 1) (by omega) (by omega), w64 (x := a + 1) (by omega) (by omega), Int.toNat_natCast]
    show _ = dates_jobs_plan_due.l1 k l (addPc out (j : Int) a) (t.set j (tm t j - 1)) (a + 1)
    rcases List.eq_nil_or_concat out with rfl | ⟨o, p, rfl⟩
    · have hw : wrap64 ((([] : List S44).length : Int) - 1) = -1 := w64 (by simp) (by simp)
      rw [hw, if_neg (by omega), if_pos (by simp)]
      simp [addPc]
    · have hlen : (o.concat p).length = o.length + 1 := by simp
      have hw : wrap64 (((o.concat p).length : Int) - 1) = (o.length : Int) := by rw [hlen, w64 (by omega) (by omega)]; omega
      have hrd : rd_T44 (o.concat p) (o.length : Int) = p := by rw [rd44 _ _ (by omega)]; simp
      rw [hw, if_pos (by omega), if_pos (by omega), if_pos (by omega), hrd]
      have hadd : addPc (o.concat p) (j : Int) a = if p.f0 = (j : Int) ∧ p.f2 = a then (o.concat p).set o.length ⟨p.f0, p.f1, p.f2 + 1⟩ else o.concat p ++ [⟨(j : Int), a, a + 1⟩] := by
        simp [addPc]
      rw [hadd, Int.toNat_natCast]
      by_cases h3 : p.f0 = (j : Int)
      · rw [if_pos h3]
        by_cases h4 : p.f2 = a
        · rw [if_pos h4, if_pos ⟨h3, h4⟩, w64 (x := p.f2 + 1) (by omega) (by omega)]
        · rw [if_neg h4, if_pos (by omega), if_neg (fun h => h4 h.2)]
      · rw [if_neg h3, if_pos (by omega), if_neg (fun h => h3 h.1)]
theorem due_main (l : List S48) (hl : l.length ≤ 8) (h1 : 1 ≤ l.length) : ∀ (n : Nat) (a : Int) (t : List Int) (out : List Pc), t.length = l.length → fine t → (∀ x ∈ t, x ≤ 20) → 0 ≤ a → a + n ≤ 1000 → (out.length : Int) ≤ a → total (runF false l n a (t, out)).1 ≤ 0 →
    Ev (fun k => dates_jobs_plan_due.l1 k l out t a) (runF false l n a (t, out)).2 := by
  intro n
  induction n with
  | zero =>
    intro a t out ht hf h20 ha0 ha ho hd
    obtain ⟨m, hm, hm2⟩ := max_f t (by omega) (by omega)
    have hz := total_zero hf hd
    have : ¬ m > 0 := fun h => by
      obtain ⟨x, hx, hx2⟩ := hm2.1 h
      obtain ⟨i, hi, rfl⟩ := List.mem_iff_getElem.1 hx
      have := hz i
      rw [tm_get hi] at this
      omega
    refine Ev.step (f := fun k => (dates_left_int.f k t).bind fun t128 => (if t128 > 0 then (dates_jobs_plan_due.l2 k l out t a (-1) l (l.length : Int) 0) else (some out))) (fun k => by simp only [dates_jobs_plan_due.l1]) ?_
    refine Ev.bind hm ?_
    simp only [if_neg this]
    exact Ev.now _
  | succ n ih =>
    intro a t out ht hf h20 ha0 ha ho hd
    obtain ⟨m, hm, hm2⟩ := max_f t (by omega) (by omega)
    refine Ev.step (f := fun k => (dates_left_int.f k t).bind fun t128 => (if t128 > 0 then (dates_jobs_plan_due.l2 k l out t a (-1) l (l.length : Int) 0) else (some out))) (fun k => by simp only [dates_jobs_plan_due.l1]) ?_
    refine Ev.bind hm ?_
    by_cases hmp : m > 0
    · simp only [if_pos hmp]
      rw [runF] at hd ⊢
      refine due_step l t out a hl ht h20 ha0 (by omega) (by omega) _ ?_
      have hs20 : ∀ x ∈ (stepF false l a (t, out)).1, x ≤ 20 := step_le h20
      exact ih (a + 1) _ _ (by rw [stepF_len, ht]) (step_fine ht hf) hs20 (by omega) (by omega) (by have := stepF_out false l a (t, out); simp at this; omega) hd
    · simp only [if_neg hmp]
      rw [runF_idle (fun i => by
        by_cases hi : i < t.length
        · have := fun hh => hmp (hm2.2 hh)
          have h0 := fine_tm hf i
          by_cases h5 : tm t i > 0
          · exact absurd ⟨_, tm_mem hi, h5⟩ this
          · show tm t i = 0
            omega
        · exact tm_out (by omega))]
      exact Ev.now _
theorem due_start (l : List S48) (hl : l.length ≤ 8) (r : List Pc) (h : Ev (fun k => dates_jobs_plan_due.l1 k l [] (times l) 0) r) : ∀ (d i : Nat) (t : List Int), i + d = l.length → t.length = l.length → t.take i = (times l).take i → Ev (fun k => dates_jobs_plan_due.l0 k l t l (l.length : Int) (i : Int)) r := by
  intro d
  induction d with
  | zero =>
    intro i t hi ht he
    have : t = times l := by
      have h1 : t.take i = t := List.take_of_length_le (by omega)
      have h2 : (times l).take i = times l := List.take_of_length_le (by simp [times]; omega)
      rw [← h1, ← h2, he]
    subst this
    refine Ev.step (fun k => ?_) h
    simp only [dates_jobs_plan_due.l0]
    rw [if_neg (by omega)]
  | succ d ih =>
    intro i t hi ht he
    have hlt : i < l.length := by omega
    refine Ev.step (fun k => ?_) (ih (i + 1) (t.set i (l[i]).f0) (by omega) (by simpa using ht) ?_)
    · simp only [dates_jobs_plan_due.l0]
      rw [if_pos (by omega), if_pos (by omega), if_pos (by omega), if_pos (show (i : Int) < (t.length : Int) by omega), rd48 l i hlt, w64s i l.length hlt (by omega), Int.toNat_natCast]
    · rw [List.take_succ_eq_append_getElem (by simpa using (show i < t.length by omega)), List.take_succ_eq_append_getElem (by simpa [times] using hlt), List.take_set_of_le (Nat.le_refl i), he]
      simp [times]
theorem due_f (l : List S48) (hv : valid48 l = true) : Ev (fun k => dates_jobs_plan_due.f k l) (planOf false l) := by
  have hl := valid_len hv
  have hm := due_main l hl.2 hl.1 300 0 (times l) [] (by simp [times]) (times_fine hv) (times_le hv) (by omega) (by omega) (by simp) (plan_done false hv)
  have := due_start l hl.2 _ hm l.length 0 (List.replicate l.length 0) (by omega) (by simp) rfl
  refine Ev.congr (fun k => ?_) this
  unfold dates_jobs_plan_due.f
  rw [if_pos (by omega), if_pos (by omega), Int.toNat_natCast]
  rfl
end Go.Proofs.Ytaboleeclpllpaa.M


namespace Go.Proofs.Ytaboleeclpllpaa.M
open Go.RowKit Go.Proofs.YtaboleeclpllpaaW.PrintWords Go.Proofs.YtaboleeclpllpaaW.PrintLast Go.Proofs.YtaboleeclpllpaaW.PrintMore Go.Proofs.Ytaboleeclpllpaa.P
set_option linter.unusedVariables false
set_option linter.unusedSimpArgs false
end Go.Proofs.Ytaboleeclpllpaa.M


namespace Go.Proofs.Ytaboleeclpllpaa.M
open Go.RowKit Go.Proofs.YtaboleeclpllpaaW.PrintWords Go.Proofs.YtaboleeclpllpaaW.PrintLast Go.Proofs.YtaboleeclpllpaaW.PrintMore Go.Proofs.Ytaboleeclpllpaa.P
set_option linter.unusedVariables false
set_option linter.unusedSimpArgs false
theorem due_f' (l : List S48) (hv : valid48 l = true) : Ev (fun k => dates_jobs_due.f k l) (planOf false l) := by
  refine Ev.congr (fun k => ?_) (due_f l hv)
  unfold dates_jobs_due.f
  cases dates_jobs_plan_due.f k l <;> rfl
theorem Plan_f (l : List S48) (hl : l.length ≤ 9223372036854775807) : Ev (fun k => dates_Plan.f k l) (if valid48 l = true then (planOf false l, 0) else ([], 2)) := by
  unfold dates_Plan.f
  refine Ev.bind (valid_f l hl) ?_
  cases hv : valid48 l with
  | true =>
    simp only [if_true]
    exact Ev.bind (due_f' l hv) (Ev.now _)
  | false =>
    simp only [Bool.false_eq_true, if_false]
    exact Ev.now _
theorem awake_plan : planOf false [(⟨2, 1, 9, 0⟩ : S48)] = [(⟨0, 1, 3⟩ : S44)] := by kernel_rfl
theorem awake_valid : valid48 [(⟨2, 1, 9, 0⟩ : S48)] = true := by kernel_rfl
theorem awake_f : Ev (fun k => corrodylaw06_awake.f k) true := by
  unfold corrodylaw06_awake.f
  have h := Plan_f [(⟨2, 1, 9, 0⟩ : S48)] (by simp)
  rw [awake_valid, if_pos rfl, awake_plan] at h
  refine Ev.bind h ?_
  simp only [if_true]
  exact Ev.bind (eq44_f _ (by simp)) (Ev.now _)
end Go.Proofs.Ytaboleeclpllpaa.M


namespace Go.Proofs.Ytaboleeclpllpaa.M
open Go.RowKit Go.Proofs.YtaboleeclpllpaaW.PrintWords Go.Proofs.YtaboleeclpllpaaW.PrintLast Go.Proofs.YtaboleeclpllpaaW.PrintMore Go.Proofs.Ytaboleeclpllpaa.P
set_option linter.unusedVariables false
set_option linter.unusedSimpArgs false
def put (s i : Nat) : Nat := s ||| (1 <<< i)
def pc (s : Nat) : Nat := ((List.range 8).filter fun i => s.testBit i).length
def flags (s : Nat) : List Bool := (List.range 8).map fun i => s.testBit i
theorem or_put0 : ∀ s : Fin 256, ∀ i : Fin 8, Go.bits .or .i64 ((s : Nat) : Int) (shl .i64 1 ((i : Nat) : Int)) = ((put s i : Nat) : Int) := by decide +kernel
theorem put_pc0 : ∀ s : Fin 256, ∀ i : Fin 8, pc (put s i) = pc s + (if (s : Nat).testBit i = true then 0 else 1) := by decide +kernel
theorem put_flags0 : ∀ s : Fin 256, ∀ i : Fin 8, (flags s).set i true = flags (put s i) := by decide +kernel
theorem flags_get0 : ∀ s : Fin 256, ∀ i : Fin 8, (flags s).getD i false = (s : Nat).testBit i := by decide +kernel
theorem full0 : ∀ n : Fin 9, ∀ s : Fin 256, (s : Nat) < 2 ^ (n : Nat) → (pc s = n ↔ (s : Nat) = 2 ^ (n : Nat) - 1) := by decide +kernel
theorem full_shl0 : ∀ n : Fin 9, wrap64 ((shl .i64 1 ((n : Nat) : Int)) - 1) = ((2 ^ (n : Nat) - 1 : Nat) : Int) := by decide +kernel
theorem put_pow0 : ∀ n : Fin 9, ∀ s : Fin 256, ∀ i : Fin 8, (i : Nat) < n → (s : Nat) < 2 ^ (n : Nat) → put s i < 2 ^ (n : Nat) := by decide +kernel
theorem or_put {s i : Nat} (hs : s < 256) (hi : i < 8) : Go.bits .or .i64 (s : Int) (shl .i64 1 (i : Int)) = ((put s i : Nat) : Int) := or_put0 ⟨s, hs⟩ ⟨i, hi⟩
theorem put_pc {s i : Nat} (hs : s < 256) (hi : i < 8) : pc (put s i) = pc s + (if s.testBit i = true then 0 else 1) := put_pc0 ⟨s, hs⟩ ⟨i, hi⟩
theorem put_flags {s i : Nat} (hs : s < 256) (hi : i < 8) : (flags s).set i true = flags (put s i) := put_flags0 ⟨s, hs⟩ ⟨i, hi⟩
theorem flags_get {s i : Nat} (hs : s < 256) (hi : i < 8) : (flags s).getD i false = s.testBit i := flags_get0 ⟨s, hs⟩ ⟨i, hi⟩
theorem full_pc {n s : Nat} (hn : n ≤ 8) (hs : s < 2 ^ n) : pc s = n ↔ s = 2 ^ n - 1 := by
  have h8 : 2 ^ n ≤ 2 ^ 8 := Nat.pow_le_pow_right (by omega) hn
  exact full0 ⟨n, by omega⟩ ⟨s, by omega⟩ hs
theorem full_shl {n : Nat} (hn : n ≤ 8) : wrap64 ((shl .i64 1 (n : Int)) - 1) = ((2 ^ n - 1 : Nat) : Int) := full_shl0 ⟨n, by omega⟩
theorem put_pow {n s i : Nat} (hn : n ≤ 8) (hi : i < n) (hs : s < 2 ^ n) : put s i < 2 ^ n := by
  have h8 : 2 ^ n ≤ 2 ^ 8 := Nat.pow_le_pow_right (by omega) hn
  exact put_pow0 ⟨n, by omega⟩ ⟨s, by omega⟩ ⟨i, by omega⟩ hi hs
def inN (n : Nat) (x : Int) : Bool := decide (0 ≤ x ∧ x < (n : Int))
def fresh : Nat → List Int → Bool
  | _, [] => true
  | s, x :: xs => !s.testBit x.toNat && fresh (put s x.toNat) xs
def setAll : Nat → List Int → Nat
  | s, [] => s
  | s, x :: xs => setAll (put s x.toNat) xs
def orderB (n : Nat) (o : List Int) : Bool := decide (o.length = n) && o.all (inN n) && fresh 0 o
theorem inN_iff {n : Nat} {x : Int} : inN n x = true ↔ 0 ≤ x ∧ x < (n : Int) := by simp [inN]
theorem setAll_lt {n : Nat} (hn : n ≤ 8) : ∀ (o : List Int) (s : Nat), o.all (inN n) = true → s < 2 ^ n → setAll s o < 2 ^ n
  | [], s, _, hs => hs
  | x :: xs, s, h, hs => by
    rw [List.all_cons, Bool.and_eq_true, inN_iff] at h
    exact setAll_lt hn xs _ h.2 (put_pow hn (by omega) hs)
theorem pow8 {n : Nat} (hn : n ≤ 8) : 2 ^ n ≤ 256 := Nat.pow_le_pow_right (n := 2) (by omega) hn
theorem setAll_pc {n : Nat} (hn : n ≤ 8) : ∀ (o : List Int) (s : Nat), o.all (inN n) = true → s < 2 ^ n → pc (setAll s o) ≤ pc s + o.length ∧ (pc (setAll s o) = pc s + o.length ↔ fresh s o = true)
  | [], s, _, hs => by simp [setAll, fresh]
  | x :: xs, s, h, hs => by
    rw [List.all_cons, Bool.and_eq_true, inN_iff] at h
    have h8 := pow8 hn
    obtain ⟨ih1, ih2⟩ := setAll_pc hn xs (put s x.toNat) h.2 (put_pow hn (by omega) hs)
    rw [put_pc (by omega) (by omega)] at ih1 ih2
    simp only [setAll, fresh, List.length_cons]
    cases hb : s.testBit x.toNat with
    | true =>
      simp only [hb, if_true] at ih1 ih2
      simp
      omega
    | false =>
      simp only [hb, Bool.false_eq_true, if_false] at ih1 ih2
      simp
      rw [← ih2]
      omega
theorem go_fresh {n : Nat} (hn : n ≤ 8) : ∀ (o : List Int) (s : Nat), s < 2 ^ n → corrodyref06_IsOrder.go (n : Int) o (flags s) = (o.all (inN n) && fresh s o)
  | [], s, _ => rfl
  | x :: xs, s, hs => by
    have h8 := pow8 hn
    simp only [corrodyref06_IsOrder.go, List.all_cons, fresh]
    by_cases h0 : x < 0
    · rw [if_pos h0]
      have : inN n x = false := by simp [inN]; omega
      simp [this]
    · rw [if_neg h0]
      by_cases h1 : x ≥ n
      · rw [if_pos h1]
        have : inN n x = false := by simp [inN]; omega
        simp [this]
      · rw [if_neg h1]
        have : inN n x = true := by simp [inN]; omega
        rw [this, flags_get (by omega) (by omega), put_flags (by omega) (by omega), go_fresh hn xs _ (put_pow hn (by omega) hs)]
        cases s.testBit x.toNat <;> simp
theorem flags_zero : List.replicate 8 false = flags 0 := by decide
theorem isOrder_f (o : List Int) (n : Nat) (hn : n ≤ 8) : corrodyref06_IsOrder.f o (n : Int) = some (orderB n o) := by
  unfold corrodyref06_IsOrder.f
  rw [if_pos (by omega), flags_zero, go_fresh hn o 0 (Nat.two_pow_pos n)]
  unfold orderB
  by_cases h : o.length = n
  · have hd : decide (o.length = n) = true := by simp [h]
    have hd2 : decide ((o.length : Int) = (n : Int)) = true := by simp; omega
    rw [hd, hd2, Bool.true_and]
    generalize (o.all (inN n) && fresh 0 o) = b
    cases b <;> rfl
  · have hd : decide (o.length = n) = false := by simp [h]
    have hd2 : decide ((o.length : Int) = (n : Int)) = false := by simp; omega
    rw [hd, hd2]
    cases o.all (inN n) && fresh 0 o <;> simp
theorem order_loop (l : List S48) (o1 o : List Int) (hn : l.length ≤ 8) (hl : o.length ≤ 9223372036854775807) : ∀ (d i s : Nat), i + d = o.length → s < 2 ^ l.length →
    Ev (fun k => dates_jobs_order.l0 k l o1 (s : Int) o (o.length : Int) (i : Int)) ((o.drop i).all (inN l.length) && decide (o1.length = l.length) && decide (setAll s (o.drop i) = 2 ^ l.length - 1)) := by
  intro d
  induction d with
  | zero =>
    intro i s hi hs
    rw [show i = o.length by omega, List.drop_length]
    by_cases h1 : o1.length = l.length
    · refine Ev.step (f := fun _ => some ((s : Int) == ((2 ^ l.length - 1 : Nat) : Int))) (fun k => ?_) ?_
      · simp only [dates_jobs_order.l0]
        rw [if_neg (by omega), if_pos (by omega), full_shl hn]
      · have : ((s : Int) == ((2 ^ l.length - 1 : Nat) : Int)) = decide (setAll s [] = 2 ^ l.length - 1) := by
          rw [Bool.beq_eq_decide_eq]
          exact decide_eq_decide.2 (by simp only [setAll]; omega)
        rw [this]
        simp [h1]
        exact Ev.now _
    · refine Ev.step (f := fun _ => some false) (fun k => ?_) ?_
      · simp only [dates_jobs_order.l0]
        rw [if_neg (by omega), if_neg (by omega)]
      · simp [h1]
        exact Ev.now _
  | succ d ih =>
    intro i s hi hs
    have h8 := pow8 hn
    have hlt : i < o.length := by omega
    rw [List.drop_eq_getElem_cons hlt, List.all_cons]
    by_cases h0 : o[i] < 0
    · refine Ev.step (f := fun _ => some false) (fun k => ?_) ?_
      · simp only [dates_jobs_order.l0]
        rw [if_pos (by omega), if_pos (by omega), if_pos (by omega), rd_nat o i hlt, if_pos h0]
      · have : inN l.length o[i] = false := by simp [inN]; omega
        rw [this]
        exact Ev.now _
    · by_cases h1 : o[i] ≥ (l.length : Int)
      · refine Ev.step (f := fun _ => some false) (fun k => ?_) ?_
        · simp only [dates_jobs_order.l0]
          rw [if_pos (by omega), if_pos (by omega), if_pos (by omega), rd_nat o i hlt, if_neg h0, if_pos h1]
        · have : inN l.length o[i] = false := by simp [inN]; omega
          rw [this]
          exact Ev.now _
      · have hx : inN l.length o[i] = true := by simp [inN]; omega
        have hr := ih (i + 1) (put s o[i].toNat) (by omega) (put_pow hn (by omega) hs)
        rw [hx, Bool.true_and]
        refine Ev.step (fun k => ?_) hr
        simp only [dates_jobs_order.l0]
        rw [if_pos (by omega), if_pos (by omega), if_pos (by omega), rd_nat o i hlt, if_neg h0, if_neg h1, if_pos (by omega), w64s i o.length hlt hl]
        congr 1
        have ho := or_put (s := s) (i := o[i].toNat) (by omega) (by omega)
        rw [show ((o[i].toNat : Nat) : Int) = o[i] by omega] at ho
        exact ho
theorem order_f (l : List S48) (o : List Int) (hn : l.length ≤ 8) (hl : o.length ≤ 9223372036854775807) : Ev (fun k => dates_jobs_order.f k l o) (orderB l.length o) := by
  unfold dates_jobs_order.f
  have h := order_loop l o o hn hl o.length 0 0 (by omega) (Nat.two_pow_pos _)
  have he : orderB l.length o = ((o.drop 0).all (inN l.length) && decide (o.length = l.length) && decide (setAll 0 (o.drop 0) = 2 ^ l.length - 1)) := by
    rw [List.drop_zero]
    unfold orderB
    cases ha : o.all (inN l.length) with
    | false => simp
    | true =>
      by_cases hc : o.length = l.length
      · obtain ⟨_, h2⟩ := setAll_pc hn o 0 ha (Nat.two_pow_pos _)
        have h3 := full_pc hn (setAll_lt hn o 0 ha (Nat.two_pow_pos _))
        rw [show pc 0 = 0 from rfl, hc, Nat.zero_add] at h2
        simp only [hc, decide_true, Bool.true_and]
        cases hf : fresh 0 o with
        | true => rw [decide_eq_true (h3.1 (h2.2 hf))]
        | false =>
          rw [decide_eq_false]
          intro hh
          rw [h2.1 (h3.2 hh)] at hf
          cases hf
      · simp [hc]
  rw [he]
  exact h
def rowFrom (l : List S48) : Int → List Int → List Int → List Int
  | _, acc, [] => acc
  | now, acc, x :: xs => rowFrom l (now + (jb l x.toNat).f0) (acc.set x.toNat (now + (jb l x.toNat).f0)) xs
def rowOf (l : List S48) (o : List Int) : List Int := rowFrom l 0 (List.replicate l.length 0) o
theorem rowFrom_length (l : List S48) : ∀ (o acc : List Int) (now : Int), (rowFrom l now acc o).length = acc.length
  | [], _, _ => rfl
  | x :: xs, acc, now => by rw [rowFrom, rowFrom_length, List.length_set]
theorem rowOf_length (l : List S48) (o : List Int) : (rowOf l o).length = l.length := by rw [rowOf, rowFrom_length, List.length_replicate]
theorem time_le {l : List S48} (hv : valid48 l = true) (i : Nat) : 0 ≤ (jb l i).f0 ∧ (jb l i).f0 ≤ 20 := by
  by_cases h : i < l.length
  · rw [jb_get h]
    simp only [valid48, Bool.and_eq_true, List.all_eq_true, decide_eq_true_eq] at hv
    have := hv.2 l[i] (List.getElem_mem h)
    simp only [ok48, decide_eq_true_eq] at this
    omega
  · simp [jb, List.getD_eq_getElem?_getD, List.getElem?_eq_none (Nat.le_of_not_lt h), z48]
theorem ends_loop (l : List S48) (hv : valid48 l = true) (o : List Int) (ha : o.all (inN l.length) = true) (hl : o.length ≤ 1000000) : ∀ (d i : Nat) (acc : List Int) (now : Int), i + d = o.length → acc.length = l.length → 0 ≤ now → now ≤ 20 * i →
    Ev (fun k => dates_jobs_ends.l0 k l acc now o (o.length : Int) (i : Int)) (rowFrom l now acc (o.drop i)) := by
  intro d
  induction d with
  | zero =>
    intro i acc now hi hac h0 h1
    rw [show i = o.length by omega, List.drop_length]
    refine Ev.step (f := fun _ => some acc) (fun k => ?_) (Ev.now _)
    simp only [dates_jobs_ends.l0]
    rw [if_neg (by omega)]
  | succ d ih =>
    intro i acc now hi hac h0 h1
    have hlt : i < o.length := by omega
    have hx := List.all_eq_true.1 ha o[i] (List.getElem_mem hlt)
    rw [inN_iff] at hx
    have ht := time_le hv o[i].toNat
    have hget : rd_T48 l o[i] = jb l o[i].toNat := by
      have := rd48 l o[i].toNat (by omega)
      rw [show ((o[i].toNat : Nat) : Int) = o[i] by omega] at this
      rw [this, jb_get (by omega)]
    rw [List.drop_eq_getElem_cons hlt, rowFrom]
    refine Ev.step (fun k => ?_) (ih (i + 1) (acc.set o[i].toNat (now + (jb l o[i].toNat).f0)) (now + (jb l o[i].toNat).f0) (by omega) (by rw [List.length_set, hac]) (by omega) (by omega))
    simp only [dates_jobs_ends.l0]
    rw [if_pos (by omega), if_pos (by omega), if_pos (by omega), rd_nat o i hlt, if_pos (by omega), if_pos (by omega), if_pos (by omega), w64s i o.length hlt (by omega), hget, w64 (by omega) (by omega)]
theorem ends_f (l : List S48) (hv : valid48 l = true) (o : List Int) (ha : o.all (inN l.length) = true) (hl : o.length ≤ 1000000) : Ev (fun k => dates_jobs_ends.f k l o) (rowOf l o) := by
  unfold dates_jobs_ends.f
  have hn : l.length ≤ 8 := by
    simp only [valid48, Bool.and_eq_true, decide_eq_true_eq] at hv
    exact hv.1.2
  simp only [if_pos (show (0 : Int) ≤ (l.length : Int) by omega), if_pos (show ((l.length : Int) : Int).toNat ≤ 35184372088832 by omega)]
  rw [show ((l.length : Int)).toNat = l.length by omega]
  exact ends_loop l hv o ha hl o.length 0 _ 0 (by omega) (by simp) (by omega) (by omega)
theorem refends_row_loop (l : List S43) (hv : valid48 (l.map to48) = true) (o : List Int) (ha : o.all (inN l.length) = true) (hl : o.length ≤ 1000000) : ∀ (d i : Nat) (acc : List Int) (now : Int), i + d = o.length → acc.length = l.length → 0 ≤ now → now ≤ 20 * i →
    Ev (fun k => corrodyref06_Ends.l0 k l acc now o (o.length : Int) (i : Int)) (rowFrom (l.map to48) now acc (o.drop i)) := by
  intro d
  induction d with
  | zero =>
    intro i acc now hi hac h0 h1
    rw [show i = o.length by omega, List.drop_length]
    refine Ev.step (f := fun _ => some acc) (fun k => ?_) (Ev.now _)
    simp only [corrodyref06_Ends.l0]
    rw [if_neg (by omega)]
  | succ d ih =>
    intro i acc now hi hac h0 h1
    have hlt : i < o.length := by omega
    have hx := List.all_eq_true.1 ha o[i] (List.getElem_mem hlt)
    rw [inN_iff] at hx
    have ht := time_le hv o[i].toNat
    have hget : (rd_T43 l o[i]).f0 = (jb (l.map to48) o[i].toNat).f0 := by
      have := rd43 l o[i].toNat (by omega)
      rw [show ((o[i].toNat : Nat) : Int) = o[i] by omega] at this
      rw [this, jb_get (by rw [List.length_map]; omega), List.getElem_map]
      rfl
    rw [List.drop_eq_getElem_cons hlt, rowFrom]
    refine Ev.step (fun k => ?_) (ih (i + 1) (acc.set o[i].toNat (now + (jb (l.map to48) o[i].toNat).f0)) (now + (jb (l.map to48) o[i].toNat).f0) (by omega) (by rw [List.length_set, hac]) (by omega) (by omega))
    simp only [corrodyref06_Ends.l0]
    rw [if_pos (by omega), if_pos (by omega), if_pos (by omega), rd_nat o i hlt, if_pos (by omega), if_pos (by omega), if_pos (by omega), w64s i o.length hlt (by omega), hget, w64 (by omega) (by omega)]
theorem refends_row (l : List S43) (hv : valid48 (l.map to48) = true) (o : List Int) (ha : o.all (inN l.length) = true) (hl : o.length ≤ 1000000) : Ev (fun k => corrodyref06_Ends.f k l o) (rowOf (l.map to48) o) := by
  unfold corrodyref06_Ends.f
  have hn : l.length ≤ 8 := by
    simp only [valid48, Bool.and_eq_true, decide_eq_true_eq, List.length_map] at hv
    exact hv.1.2
  simp only [if_pos (show (0 : Int) ≤ (l.length : Int) by omega), if_pos (show ((l.length : Int) : Int).toNat ≤ 35184372088832 by omega)]
  rw [show ((l.length : Int)).toNat = l.length by omega, rowOf, List.length_map]
  exact refends_row_loop l hv o ha hl o.length 0 _ 0 (by omega) (by simp) (by omega) (by omega)
theorem orderB_all {n : Nat} {o : List Int} (h : orderB n o = true) : o.all (inN n) = true ∧ o.length = n := by
  simp only [orderB, Bool.and_eq_true, decide_eq_true_eq] at h
  exact ⟨h.1.2, h.1.1⟩
theorem Ends_f (l : List S48) (o : List Int) (hl : l.length ≤ 9223372036854775807) (ho : o.length ≤ 1000000) : Ev (fun k => dates_Ends.f k l o) (if (valid48 l && orderB l.length o) = true then (rowOf l o, 0) else ([], 2)) := by
  unfold dates_Ends.f
  refine Ev.bind (valid_f l hl) ?_
  cases hv : valid48 l with
  | false => simp; exact Ev.now _
  | true =>
    simp only [if_true, Bool.true_and]
    refine Ev.bind (order_f l o (valid_len hv).2 (by omega)) ?_
    cases hb : orderB l.length o with
    | false => simp; exact Ev.now _
    | true =>
      simp only [if_true]
      exact Ev.bind (ends_f l hv o (orderB_all hb).1 ho) (Ev.now _)
theorem mn_min (a b : Int) : mn a b = min a b := by unfold mn; omega
theorem list_f (o : List Int) : corrodylaw06_list.f o = some (o.take 10) := by
  unfold corrodylaw06_list.f slices_Clone_int_int.f
  rw [mn_min, if_pos (by omega), if_pos (by omega)]
  have : (min (o.length : Int) 10).toNat = min o.length 10 := by omega
  rw [this]
  simp only [Option.bind_some, List.length_nil, List.length_take, List.nil_append]
  rw [if_pos (by omega)]
  simp only [Option.bind_some]
  congr 1
  rcases Nat.le_total o.length 10 with h | h
  · rw [Nat.min_eq_left h, List.take_of_length_le h, List.take_of_length_le (Nat.le_refl _)]
  · rw [Nat.min_eq_right h]
theorem orderB_take {n : Nat} (hn : n ≤ 8) (o : List Int) : orderB n (o.take 10) = orderB n o := by
  by_cases h : o.length ≤ 10
  · rw [List.take_of_length_le h]
  · have h1 : decide ((o.take 10).length = n) = false := by simp; omega
    have h2 : decide (o.length = n) = false := by simp; omega
    unfold orderB
    rw [h1, h2]
    simp
theorem order_take {n : Nat} {o : List Int} (hn : n ≤ 8) (h : orderB n o = true) : o.take 10 = o := by
  have := (orderB_all h).2
  exact List.take_of_length_le (by omega)
end Go.Proofs.Ytaboleeclpllpaa.M


namespace Go.Proofs.Ytaboleeclpllpaa.Open
open Go.RowKit Go.ChangeShapes Go.WideShapes Go.Deep Go.Proofs.YtaboleeclpllpaaW.PrintWords Go.Proofs.Ytaboleeclpllpaa.P
set_option linter.unusedVariables false
set_option linter.unusedSimpArgs false
def wfi (x : Int) : Prop := -9223372036854775808 ≤ x ∧ x ≤ 9223372036854775807
theorem wfi_of {x : Int} (h : (Lit.int .i64 x).wf = true) : wfi x := by
  simp only [Lit.wf, Bool.and_eq_true, decide_eq_true_eq] at h
  exact ⟨h.1, h.2⟩
section
variable {H : Type} {enc : TypeId × Value → H} {W : World} {base : Nat} {spare : Nat → Bool} {held : Bool} {fuel : Nat} {y : DataW H × List MemPlace}
theorem open_i64 {t : TypeId} {P : Program} (hu : P.underlying t = some (.int .i64)) {cs : List Value} (h : DataW.trod enc P W base spare held fuel t cs = some y) : ∃ x : Int, cs = [.int .i64 x] ∧ wfi x := by
  obtain ⟨x, hx, _, hw⟩ := DataW.trod_int hu h
  exact ⟨x, hx, wfi_of hw⟩
theorem open_struct4 {P : Program} {e ti : TypeId} {f0 f1 f2 f3 : Field} (he : P.underlying e = some (.struct #[f0, f1, f2, f3])) (hC : P.cellsOf e = 4) (hu : P.underlying ti = some (.int .i64)) (hk : P.cellsOf ti = 1)
    (h0 : f0.type = ti ∧ f0.offset = 0) (h1 : f1.type = ti ∧ f1.offset = 1) (h2 : f2.type = ti ∧ f2.offset = 2) (h3 : f3.type = ti ∧ f3.offset = 3)
    {cs : List Value} (h : DataW.trod enc P W base spare held fuel e cs = some y) :
    ∃ x0 x1 x2 x3 : Int, cs = [.int .i64 x0, .int .i64 x1, .int .i64 x2, .int .i64 x3] ∧ wfi x0 ∧ wfi x1 ∧ wfi x2 ∧ wfi x3 := by
  obtain ⟨ys, n, _, _, hlen, hyl, hf⟩ := DataW.trod_struct he h
  rw [hC] at hlen
  match cs, hlen with
  | [c0, c1, c2, c3], _ =>
    match ys, hyl with
    | [y0, y1, y2, y3], _ =>
      have g0 := hf 0 f0 rfl
      have g1 := hf 1 f1 rfl
      have g2 := hf 2 f2 rfl
      have g3 := hf 3 f3 rfl
      rw [h0.1, h0.2, hk] at g0
      rw [h1.1, h1.2, hk] at g1
      rw [h2.1, h2.2, hk] at g2
      rw [h3.1, h3.2, hk] at g3
      obtain ⟨x0, e0, w0⟩ := open_i64 hu g0
      obtain ⟨x1, e1, w1⟩ := open_i64 hu g1
      obtain ⟨x2, e2, w2⟩ := open_i64 hu g2
      obtain ⟨x3, e3, w3⟩ := open_i64 hu g3
      simp at e0 e1 e2 e3
      exact ⟨x0, x1, x2, x3, by rw [e0, e1, e2, e3], w0, w1, w2, w3⟩
theorem open_rows {α : Type} {P : Program} (d : Kd α) (good : α → Prop) {t e : TypeId} (ht : P.underlying t = some (.slice e)) (hsz : P.cellsOf e = d.sz)
    (hel : ∀ (n : Nat) (cs : List Value) (y : DataW H × List MemPlace), DataW.trod enc P W base spare held n e cs = some y → ∃ x : α, d.K W x cs ∧ good x)
    {a : Option Addr} {len cap : Nat} {dd : DataW H} {ps : List MemPlace} (h : DataW.Trod enc P W base spare held t (.slice a len cap) dd ps) :
    ∃ l : List α, l.length = len ∧ Kd.C d W a len l ∧ len ≤ cap ∧ ∀ x ∈ l, good x := by
  obtain ⟨fuel, hf⟩ := h
  rcases open_slice ht hf with ⟨hcs, _⟩ | ⟨a', len', cap', m, n, D, Pl, hcs, _, hl, hm, hmm, _, hi⟩
  · simp [Value.cells] at hcs
    obtain ⟨rfl, rfl, rfl⟩ := hcs
    exact ⟨[], rfl, ⟨rfl, by omega, fun h => by omega⟩, Nat.le_refl _, fun x hx => by cases hx⟩
  · simp [Value.cells] at hcs
    obtain ⟨rfl, rfl, rfl⟩ := hcs
    have hlm : len ≤ m := by rw [hmm]; split <;> omega
    have hM : len ≤ 9223372036854775807 := by unfold maxLen at hm; omega
    have hx : ∀ k : Nat, k ≤ len → ∃ l : List α, l.length = k ∧ (∀ j p, l[j]? = some p → ∃ cs, W.cells? base (a'.add (j * P.cellsOf e)) (P.cellsOf e) = some cs ∧ d.K W p cs) ∧ ∀ x ∈ l, good x := by
      intro k
      induction k with
      | zero => exact fun _ => ⟨[], rfl, fun j p hj => by simp at hj, fun x hx => by cases hx⟩
      | succ k ih =>
        intro hk
        obtain ⟨l, hll, h1, h2⟩ := ih (by omega)
        obtain ⟨cs, hc, htr⟩ := hi k (by omega)
        obtain ⟨x, hK, hg⟩ := hel _ _ _ htr
        refine ⟨l ++ [x], by simp [hll], fun j p hj => ?_, fun z hz => ?_⟩
        · by_cases hjk : j < l.length
          · rw [List.getElem?_append_left hjk] at hj
            exact h1 j p hj
          · have hjl : j = l.length := by
              have := (List.getElem?_eq_some_iff.1 hj).1
              simp at this
              omega
            subst hjl
            simp at hj
            subst hj
            rw [hll]
            exact ⟨cs, hc, hK⟩
        · rcases List.mem_append.1 hz with hz | hz
          · exact h2 z hz
          · simp at hz
            subst hz
            exact hg
    obtain ⟨l, hll, h1, h2⟩ := hx len (Nat.le_refl _)
    refine ⟨l, hll, ⟨hll, hM, fun _ => ⟨a', rfl, fun j p hj => ?_⟩⟩, hl, h2⟩
    obtain ⟨cs, hc, hk⟩ := h1 j p hj
    obtain ⟨_, hcl, hat⟩ := World.cells?_some hc
    refine ⟨cs, by rw [hcl, hsz], hk, fun i u hu => ?_⟩
    have hil : i < P.cellsOf e := by have := (List.getElem?_eq_some_iff.1 hu).1; omega
    have := hat i hil
    rw [Go.Deep.add_add, hsz] at this
    rw [this, hu]
end
def W43 (x : S43) : Prop := wfi x.f0 ∧ wfi x.f1 ∧ wfi x.f2 ∧ wfi x.f3
section
variable {H : Type} {enc : TypeId × Value → H} {W : World} {base : Nat} {spare : Nat → Bool} {held : Bool} {a : Option Addr} {len cap : Nat} {dd : DataW H} {ps : List MemPlace}
theorem rows_43 (h : DataW.Trod enc Try.prog W base spare held 22 (.slice a len cap) dd ps) : ∃ l : List S43, l.length = len ∧ Kd.C k43 W a len l ∧ len ≤ cap ∧ ∀ x ∈ l, W43 x :=
  open_rows k43 W43 Try.underlying22 (by kernel_rfl) (fun n cs y hy => by
    obtain ⟨x0, x1, x2, x3, rfl, hw⟩ := open_struct4 Try.underlying43 (by kernel_rfl) Try.underlying3 (by kernel_rfl) ⟨rfl, rfl⟩ ⟨rfl, rfl⟩ ⟨rfl, rfl⟩ ⟨rfl, rfl⟩ hy
    exact ⟨⟨x0, x1, x2, x3⟩, k43_mk _ _, hw⟩) h
theorem rows_int (h : DataW.Trod enc Try.prog W base spare held 41 (.slice a len cap) dd ps) : ∃ l : List Int, l.length = len ∧ Kd.C (Kd.int .i64) W a len l ∧ len ≤ cap ∧ ∀ x ∈ l, wfi x :=
  open_rows (Kd.int .i64) wfi Try.underlying41 (by kernel_rfl) (fun n cs y hy => by
    obtain ⟨x, rfl, hw⟩ := open_i64 Try.underlying3 hy
    exact ⟨x, rfl, hw⟩) h
end
end Go.Proofs.Ytaboleeclpllpaa.Open


namespace Go.Proofs.Ytaboleeclpllpaa.Pure
open Go.RowKit Go.Proofs.YtaboleeclpllpaaW.PrintWords Go.Proofs.YtaboleeclpllpaaW.PrintLast Go.Proofs.YtaboleeclpllpaaW.PrintMore Go.Proofs.Ytaboleeclpllpaa.P Go.Proofs.Ytaboleeclpllpaa.M
set_option linter.unusedVariables false
set_option linter.unusedSimpArgs false
theorem DatesEnds (l : List S43) (hl : l.length ≤ 9223372036854775807) (hg : ∀ x ∈ l, Open.W43 x) (o : List Int) (hol : o.length ≤ 9223372036854775807) (hog : ∀ x ∈ o, Open.wfi x) : ∃ k, corrodylaw06_DatesEnds.f k l o = some true := by
  refine Ev.rounds (g := fun k => corrodylaw06_DatesEnds.f k l o) ?_
  unfold corrodylaw06_DatesEnds.f
  refine Ev.bind (Of_f l hl) ?_
  simp only [list_f, Option.bind_some]
  refine Ev.bind (Ends_f _ _ (by simp; omega) (by simp; omega)) ?_
  refine Ev.bind (refvalid_f l hl) ?_
  rw [valid_of]
  have bad : Ev (fun k => corrodylaw06_DatesEnds.j0 k l o ([] : List Int) 2 true) true := by
    refine Ev.step (f := fun k => (corrodylaw06_awake.f k).bind fun t => some t) (fun k => ?_) (Ev.bind awake_f (Ev.now _))
    simp only [corrodylaw06_DatesEnds.j0, List.length_nil, Int.natCast_zero, if_true]
  cases hv : valid48 (l.map to48) with
  | false =>
    simp only [Bool.false_and, Bool.false_eq_true, if_false]
    exact bad
  | true =>
    have hn := valid_len hv
    rw [of_valid hv]
    rw [List.length_map] at hn ⊢
    rw [orderB_take hn.2]
    simp only [if_true, isOrder_f o l.length hn.2, Option.bind_some]
    cases hb : orderB l.length o with
    | false =>
      simp only [Bool.and_false, Bool.false_eq_true, if_false, Bool.not_false]
      exact bad
    | true =>
      simp only [Bool.and_true, if_true, Bool.not_true]
      rw [order_take hn.2 hb]
      have hb' := orderB_all hb
      refine Ev.step (f := fun k => (corrodyref06_Ends.f k l o).bind fun t395 => ((slices_Equal_int_int.f k (rowOf (l.map to48) o) t395).bind fun t398 => (if t398 = true then (corrodylaw06_awake.f k).bind fun t => some t else some false))) (fun k => ?_) ?_
      · simp only [corrodylaw06_DatesEnds.j0, Bool.false_eq_true, if_false, if_true]
      · refine Ev.bind (refends_row l hv o hb'.1 (by omega)) ?_
        refine Ev.bind (eqint_f _ (by rw [rowOf_length, List.length_map]; omega)) ?_
        simp only [if_true]
        exact Ev.bind awake_f (Ev.now _)
end Go.Proofs.Ytaboleeclpllpaa.Pure
