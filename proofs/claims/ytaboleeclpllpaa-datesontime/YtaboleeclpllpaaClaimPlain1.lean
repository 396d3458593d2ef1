/-
Plain lemmas on what the functions compute, put together into one text.
Conditions: each lemma's own.
-/
import Derived.RowKit
import Derived.Deep.Slices
import Derived.OpenShut
import Derived.ChangeSlices
import Derived.Test.YtaboleeclpllpaaClaimProg1
import Derived.Test.YtaboleeclpllpaaClaimProg2

namespace Go.Proofs.Ytaboleeclpllpaa.M
open Go.RowKit Go.Proofs.YtaboleeclpllpaaW.PrintWords Go.Proofs.YtaboleeclpllpaaW.PrintLast Go.Proofs.YtaboleeclpllpaaW.PrintMore Go.Proofs.Ytaboleeclpllpaa.P
set_option linter.unusedVariables false
set_option linter.unusedSimpArgs false
theorem w64 {x : Int} (h0 : -9223372036854775808 ≤ x) (h1 : x ≤ 9223372036854775807) : wrap64 x = x := by
  unfold wrap64
  omega
theorem w64s (i n : Nat) (h : i < n) (hn : n ≤ 9223372036854775807) : wrap64 ((i : Int) + 1) = ((i + 1 : Nat) : Int) := by
  rw [w64 (by omega) (by omega)]
  omega
def to48 (x : S43) : S48 := ⟨x.f0, x.f1, x.f2, x.f3⟩
theorem rd_nat (l : List Int) (i : Nat) (h : i < l.length) : rd l (i : Int) = l[i] := by simp [rd, List.getD_eq_getElem?_getD, List.getElem?_eq_getElem h]
theorem rd43 (l : List S43) (i : Nat) (h : i < l.length) : rd_T43 l (i : Int) = l[i] := by simp [rd_T43, List.getD_eq_getElem?_getD, List.getElem?_eq_getElem h]
theorem rd48 (l : List S48) (i : Nat) (h : i < l.length) : rd_T48 l (i : Int) = l[i] := by simp [rd_T48, List.getD_eq_getElem?_getD, List.getElem?_eq_getElem h]
theorem rd44 (l : List S44) (i : Nat) (h : i < l.length) : rd_T44 l (i : Int) = l[i] := by simp [rd_T44, List.getD_eq_getElem?_getD, List.getElem?_eq_getElem h]
def ok48 (x : S48) : Bool := decide (1 ≤ x.f0 ∧ x.f0 ≤ 20 ∧ 0 ≤ x.f1 ∧ x.f1 ≤ 100 ∧ 0 ≤ x.f2 ∧ x.f2 ≤ 200 ∧ 0 ≤ x.f3 ∧ x.f3 ≤ 20)
def valid48 (l : List S48) : Bool := decide (1 ≤ l.length ∧ l.length ≤ 8) && l.all ok48
theorem between_f (a b c : Int) : dates_between.f a b c = some (decide (b ≤ a ∧ a ≤ c)) := by
  unfold dates_between.f
  by_cases h : a ≥ b
  · rw [if_pos h]
    have : b ≤ a := h
    simp [this]
  · rw [if_neg h]
    have : ¬ b ≤ a := h
    simp [this]
theorem valid1_f (x : S48) : dates_jobs_valid_1.f x.f0 x.f1 x.f2 x.f3 = some (!ok48 x) := by
  unfold dates_jobs_valid_1.f
  simp only [between_f, Option.bind_some]
  by_cases h0 : 1 ≤ x.f0 ∧ x.f0 ≤ 20
  · by_cases h1 : 0 ≤ x.f1 ∧ x.f1 ≤ 100
    · by_cases h2 : 0 ≤ x.f2 ∧ x.f2 ≤ 200
      · by_cases h3 : 0 ≤ x.f3 ∧ x.f3 ≤ 20
        · have : ok48 x = true := by simp only [ok48, decide_eq_true_eq]; omega
          simp [h0, h1, h2, h3, this]
        · have : ok48 x = false := by simp only [ok48, decide_eq_false_iff_not]; omega
          rw [decide_eq_false h3]
          simp [h0, h1, h2, this]
      · have : ok48 x = false := by simp only [ok48, decide_eq_false_iff_not]; omega
        rw [decide_eq_false h2]
        simp [h0, h1, this]
    · have : ok48 x = false := by simp only [ok48, decide_eq_false_iff_not]; omega
      rw [decide_eq_false h1]
      simp [h0, this]
  · have : ok48 x = false := by simp only [ok48, decide_eq_false_iff_not]; omega
    rw [decide_eq_false h0]
    simp [this]
theorem index_loop (l : List S48) (hl : l.length ≤ 9223372036854775807) : ∀ (d i : Nat), i + d = l.length → ∃ r : Int, Ev (fun k => dates_Job_87.l0 k l (l.length : Int) (i : Int)) r ∧ (decide (r ≥ 0) = !(l.drop i).all ok48) := by
  intro d
  induction d with
  | zero =>
    intro i hi
    refine ⟨-1, Ev.step (f := fun _ => some (-1)) (fun k => ?_) (Ev.now _), ?_⟩
    · simp only [dates_Job_87.l0]
      rw [if_neg (by omega)]
    · rw [show i = l.length by omega, List.drop_length]
      rfl
  | succ d ih =>
    intro i hi
    have hlt : i < l.length := by omega
    rw [List.drop_eq_getElem_cons hlt, List.all_cons]
    cases hok : ok48 l[i] with
    | false =>
      refine ⟨i, Ev.step (f := fun _ => some (i : Int)) (fun k => ?_) (Ev.now _), ?_⟩
      · simp only [dates_Job_87.l0]
        rw [if_pos (by omega), if_pos (by omega), if_pos (by omega), rd48 l i hlt, valid1_f, hok]
        rfl
      · simp
    | true =>
      obtain ⟨r, hr, hr2⟩ := ih (i + 1) (by omega)
      refine ⟨r, Ev.step (fun k => ?_) hr, by simpa using hr2⟩
      simp only [dates_Job_87.l0]
      rw [if_pos (by omega), if_pos (by omega), if_pos (by omega), rd48 l i hlt, valid1_f, hok, w64s i l.length hlt hl]
      rfl
theorem valid_f (l : List S48) (hl : l.length ≤ 9223372036854775807) : Ev (fun k => dates_jobs_valid.f k l) (valid48 l) := by
  unfold dates_jobs_valid.f
  simp only [between_f, Option.bind_some]
  by_cases h : 1 ≤ l.length ∧ l.length ≤ 8
  · obtain ⟨r, hr, hr2⟩ := index_loop l hl l.length 0 (by omega)
    have hd : decide ((1 : Int) ≤ (l.length : Int) ∧ (l.length : Int) ≤ 8) = true := decide_eq_true (by omega)
    simp only [hd, if_true]
    have h1 : Ev (fun k => dates_Job_77.f k l) (!l.all ok48) := by
      unfold dates_Job_77.f dates_Job_87.f
      refine Ev.bind (a := r) hr ?_
      rw [hr2]
      exact Ev.now _
    refine Ev.bind h1 ?_
    have : valid48 l = l.all ok48 := by simp [valid48, h]
    rw [this, Bool.not_not]
    exact Ev.now _
  · have hd : decide ((1 : Int) ≤ (l.length : Int) ∧ (l.length : Int) ≤ 8) = false := decide_eq_false (by omega)
    simp only [hd]
    have : valid48 l = false := by simp [valid48, h]
    rw [this]
    exact Ev.now _
theorem refvalid_loop (l0 l : List S43) (hl : l.length ≤ 9223372036854775807) : ∀ (d i : Nat), i + d = l.length → Ev (fun k => corrodyref06_Valid.l0 k l0 l (l.length : Int) (i : Int)) ((((l.drop i).map to48).all ok48) && decide (1 ≤ l0.length ∧ l0.length ≤ 8)) := by
  intro d
  induction d with
  | zero =>
    intro i hi
    rw [show i = l.length by omega, List.drop_length]
    by_cases h1 : 1 ≤ l0.length
    · refine Ev.step (f := fun _ => some (decide ((l0.length : Int) ≤ 8))) (fun k => ?_) ?_
      · simp only [corrodyref06_Valid.l0]
        rw [if_neg (by omega), if_pos (by omega)]
      · have : decide ((l0.length : Int) ≤ 8) = (([].map to48).all ok48 && decide (1 ≤ l0.length ∧ l0.length ≤ 8)) := by
          simp [h1]
          omega
        rw [this]
        exact Ev.now _
    · refine Ev.step (f := fun _ => some false) (fun k => ?_) ?_
      · simp only [corrodyref06_Valid.l0]
        rw [if_neg (by omega), if_neg (by omega)]
      · simp [h1]
        exact Ev.now _
  | succ d ih =>
    intro i hi
    have hlt : i < l.length := by omega
    rw [List.drop_eq_getElem_cons hlt, List.map_cons, List.all_cons]
    have hb : ∀ k, corrodyref06_Valid.l0 (k + 1) l0 l (l.length : Int) (i : Int) = if ok48 (to48 l[i]) = true then corrodyref06_Valid.l0 k l0 l (l.length : Int) ((i + 1 : Nat) : Int) else some false := by
      intro k
      simp only [corrodyref06_Valid.l0]
      rw [if_pos (by omega), if_pos (by omega), if_pos (by omega), rd43 l i hlt, w64s i l.length hlt hl]
      have he : ∀ x : S43, ok48 (to48 x) = decide (1 ≤ x.f0 ∧ x.f0 ≤ 20 ∧ 0 ≤ x.f1 ∧ x.f1 ≤ 100 ∧ 0 ≤ x.f2 ∧ x.f2 ≤ 200 ∧ 0 ≤ x.f3 ∧ x.f3 ≤ 20) := fun _ => rfl
      rw [he]
      generalize l[i] = x
      by_cases h0 : x.f0 < 1
      · rw [if_pos h0, decide_eq_false (by omega)]; rfl
      by_cases h1 : x.f0 > 20
      · rw [if_neg h0, if_pos h1, decide_eq_false (by omega)]; rfl
      by_cases h2 : x.f1 < 0
      · rw [if_neg h0, if_neg h1, if_pos h2, decide_eq_false (by omega)]; rfl
      by_cases h3 : x.f1 > 100
      · rw [if_neg h0, if_neg h1, if_neg h2, if_pos h3, decide_eq_false (by omega)]; rfl
      by_cases h4 : x.f2 < 0
      · rw [if_neg h0, if_neg h1, if_neg h2, if_neg h3, if_pos h4, decide_eq_false (by omega)]; rfl
      by_cases h5 : x.f2 > 200
      · rw [if_neg h0, if_neg h1, if_neg h2, if_neg h3, if_neg h4, if_pos h5, decide_eq_false (by omega)]; rfl
      by_cases h6 : x.f3 < 0
      · rw [if_neg h0, if_neg h1, if_neg h2, if_neg h3, if_neg h4, if_neg h5, if_pos h6, decide_eq_false (by omega)]; rfl
      by_cases h7 : x.f3 > 20
      · rw [if_neg h0, if_neg h1, if_neg h2, if_neg h3, if_neg h4, if_neg h5, if_neg h6, if_pos h7, decide_eq_false (by omega)]; rfl
      rw [if_neg h0, if_neg h1, if_neg h2, if_neg h3, if_neg h4, if_neg h5, if_neg h6, if_neg h7, decide_eq_true (by omega)]; rfl
    cases hok : ok48 (to48 l[i]) with
    | false =>
      refine Ev.step (f := fun _ => some false) (fun k => ?_) (Ev.now _)
      rw [hb, hok]
      rfl
    | true =>
      refine Ev.step (fun k => ?_) (ih (i + 1) (by omega))
      rw [hb, hok]
      rfl
theorem refvalid_f (l : List S43) (hl : l.length ≤ 9223372036854775807) : Ev (fun k => corrodyref06_Valid.f k l) (valid48 (l.map to48)) := by
  have h := refvalid_loop l l hl l.length 0 (by omega)
  unfold corrodyref06_Valid.f
  have e : valid48 (l.map to48) = ((((l.drop 0).map to48).all ok48) && decide (1 ≤ l.length ∧ l.length ≤ 8)) := by
    simp only [valid48, List.length_map, List.drop_zero]
    rw [Bool.and_comm]
  rw [e]
  exact h
theorem Of_loop (l : List S43) (hl : l.length ≤ 9223372036854775807) : ∀ (d i : Nat) (acc : List S48), i + d = l.length → acc.length = min i 10 → Ev (fun k => corrodylaw06_Of.l0 k acc l (l.length : Int) (i : Int)) (acc ++ ((l.take 10).drop i).map to48) := by
  intro d
  induction d with
  | zero =>
    intro i acc hi ha
    rw [List.drop_eq_nil_of_le (by rw [List.length_take]; omega), List.map_nil, List.append_nil]
    refine Ev.step (f := fun _ => some acc) (fun k => ?_) (Ev.now _)
    simp only [corrodylaw06_Of.l0]
    rw [if_neg (by omega)]
  | succ d ih =>
    intro i acc hi ha
    have hlt : i < l.length := by omega
    by_cases h10 : i < 10
    · have hd : (l.take 10).drop i = l[i] :: (l.take 10).drop (i + 1) := by
        rw [List.drop_eq_getElem_cons (by rw [List.length_take]; omega)]
        simp
      have := ih (i + 1) (acc ++ [to48 l[i]]) (by omega) (by simp; omega)
      rw [hd, List.map_cons, show acc ++ to48 l[i] :: ((l.take 10).drop (i + 1)).map to48 = (acc ++ [to48 l[i]]) ++ ((l.take 10).drop (i + 1)).map to48 by simp]
      refine Ev.step (fun k => ?_) this
      simp only [corrodylaw06_Of.l0]
      rw [if_pos (by omega), if_pos (by omega), if_pos (by omega), if_pos (by omega), if_pos (by omega), rd43 l i hlt, w64s i l.length hlt hl]
      rfl
    · have := ih (i + 1) acc (by omega) (by omega)
      rw [List.drop_eq_nil_of_le (by rw [List.length_take]; omega)] at this ⊢
      refine Ev.step (fun k => ?_) this
      simp only [corrodylaw06_Of.l0]
      rw [if_pos (by omega), if_pos (by omega), if_pos (by omega), if_neg (by omega), w64s i l.length hlt hl]
theorem Of_f (l : List S43) (hl : l.length ≤ 9223372036854775807) : Ev (fun k => corrodylaw06_Of.f k l) ((l.take 10).map to48) := by
  have := Of_loop l hl l.length 0 [] (by omega) rfl
  rw [List.drop_zero, List.nil_append] at this
  exact this
theorem valid_of (l : List S43) : valid48 ((l.take 10).map to48) = valid48 (l.map to48) := by
  by_cases h : l.length ≤ 10
  · rw [List.take_of_length_le h]
  · simp only [valid48, List.length_map, List.length_take]
    rw [decide_eq_false (by omega), decide_eq_false (by omega)]
    rfl
theorem of_valid {l : List S43} (h : valid48 (l.map to48) = true) : (l.take 10).map to48 = l.map to48 := by
  have : l.length ≤ 8 := by
    simp only [valid48, Bool.and_eq_true, decide_eq_true_eq, List.length_map] at h
    exact h.1.2
  rw [List.take_of_length_le (by omega)]
end Go.Proofs.Ytaboleeclpllpaa.M


namespace Go.Proofs.Ytaboleeclpllpaa.M
open Go.RowKit Go.Proofs.YtaboleeclpllpaaW.PrintWords Go.Proofs.YtaboleeclpllpaaW.PrintLast Go.Proofs.YtaboleeclpllpaaW.PrintMore Go.Proofs.Ytaboleeclpllpaa.P
set_option linter.unusedVariables false
set_option linter.unusedSimpArgs false
abbrev Pc := S44
def total (l : List Int) : Int := l.foldr (· + ·) 0
theorem total_cons (x : Int) (l : List Int) : total (x :: l) = x + total l := rfl
theorem total_bound (l : List Int) (b : Int) (hb : 0 ≤ b) (h : ∀ x ∈ l, -b ≤ x ∧ x ≤ b) : -(b * (l.length : Int)) ≤ total l ∧ total l ≤ b * (l.length : Int) := by
  induction l with
  | nil => simp [total]
  | cons x l ih =>
    have hx := h x (by simp)
    have := ih (fun y hy => h y (by simp [hy]))
    rw [total_cons, List.length_cons]
    have e : b * ((l.length + 1 : Nat) : Int) = b * (l.length : Int) + b := by rw [Int.natCast_add]; simp [Int.mul_add]
    omega
theorem eq44_loop (l : List S44) (hl : l.length ≤ 9223372036854775807) : ∀ (d i : Nat), i + d = l.length → Ev (fun k => dates_Piece.l0 k l l (l.length : Int) (i : Int)) true := by
  intro d
  induction d with
  | zero =>
    intro i hi
    refine Ev.step (f := fun _ => some true) (fun k => ?_) (Ev.now _)
    simp only [dates_Piece.l0]
    rw [if_neg (by omega)]
  | succ d ih =>
    intro i hi
    have hlt : i < l.length := by omega
    refine Ev.step (fun k => ?_) (ih (i + 1) (by omega))
    simp only [dates_Piece.l0]
    rw [if_pos (by omega), if_pos (by omega), if_pos (by omega), if_pos (by omega), w64s i l.length hlt hl, if_neg (by simp)]
theorem eq44_f (l : List S44) (hl : l.length ≤ 9223372036854775807) : Ev (fun k => dates_Piece.f k l l) true := by
  have := eq44_loop l hl l.length 0 (by omega)
  refine Ev.congr (fun k => ?_) this
  unfold dates_Piece.f
  rw [if_pos rfl]
  rfl
theorem mx_max (a b : Int) : mx a b = max a b := by unfold mx; omega
theorem max_loop (l : List Int) (hl : l.length ≤ 9223372036854775807) : ∀ (d i : Nat) (m : Int), i + d = l.length → 1 ≤ i → (m > 0 ↔ ∃ x ∈ l.take i, x > 0) → ∃ r, Ev (fun k => dates_left_int.l0 k l m (i : Int)) r ∧ (r > 0 ↔ ∃ x ∈ l, x > 0) := by
  intro d
  induction d with
  | zero =>
    intro i m hi h1 hm
    rw [show i = l.length by omega, List.take_length] at hm
    refine ⟨m, Ev.step (f := fun _ => some m) (fun k => ?_) (Ev.now _), hm⟩
    simp only [dates_left_int.l0]
    rw [if_neg (by omega)]
  | succ d ih =>
    intro i m hi h1 hm
    have hlt : i < l.length := by omega
    obtain ⟨r, hr, hr2⟩ := ih (i + 1) (mx m l[i]) (by omega) (by omega) (by
      rw [mx_max, List.take_succ_eq_append_getElem hlt]
      constructor
      · intro h
        by_cases hx : l[i] > 0
        · exact ⟨l[i], List.mem_append.2 (.inr (List.mem_singleton.2 rfl)), hx⟩
        · obtain ⟨y, hy, hy2⟩ := hm.1 (by omega)
          exact ⟨y, List.mem_append.2 (.inl hy), hy2⟩
      · rintro ⟨y, hy, hy2⟩
        rcases List.mem_append.1 hy with hy | hy
        · have := hm.2 ⟨y, hy, hy2⟩
          omega
        · simp at hy
          omega)
    refine ⟨r, Ev.step (fun k => ?_) hr, hr2⟩
    simp only [dates_left_int.l0]
    rw [if_pos (by omega), if_pos (by omega), rd_nat l i hlt, w64s i l.length hlt hl]
theorem max_f (l : List Int) (h1 : 1 ≤ l.length) (hl : l.length ≤ 9223372036854775807) : ∃ r, Ev (fun k => dates_left_int.f k l) r ∧ (r > 0 ↔ ∃ x ∈ l, x > 0) := by
  have h0 : rd l 0 = l[0] := rd_nat l 0 h1
  obtain ⟨r, hr, hr2⟩ := max_loop l hl (l.length - 1) 1 (l[0]) (by omega) (by omega) (by
    rw [List.take_succ_eq_append_getElem h1]
    simp)
  refine ⟨r, Ev.congr (fun k => ?_) hr, hr2⟩
  unfold dates_left_int.f
  rw [if_neg (by omega), if_pos (by omega), h0]
  rfl
end Go.Proofs.Ytaboleeclpllpaa.M


namespace Go.Proofs.Ytaboleeclpllpaa.M
open Go.RowKit Go.Proofs.YtaboleeclpllpaaW.PrintWords Go.Proofs.YtaboleeclpllpaaW.PrintLast Go.Proofs.YtaboleeclpllpaaW.PrintMore Go.Proofs.Ytaboleeclpllpaa.P
set_option linter.unusedVariables false
set_option linter.unusedSimpArgs false
def tm (t : List Int) (i : Nat) : Int := t.getD i 0
def jb (l : List S48) (i : Nat) : S48 := l.getD i z48
def ahead (short : Bool) (l : List S48) (t : List Int) (i j : Nat) : Bool := if short then decide (tm t i < tm t j) else decide ((jb l i).f2 < (jb l j).f2)
def ready (l : List S48) (t : List Int) (a : Int) (i : Nat) : Prop := (jb l i).f1 ≤ a ∧ tm t i > 0
instance (l : List S48) (t : List Int) (a : Int) (i : Nat) : Decidable (ready l t a i) := by unfold ready; infer_instance
def pickN (short : Bool) (l : List S48) (t : List Int) (a : Int) : Nat → Option Nat
  | 0 => none
  | i + 1 => if ready l t a i then (match pickN short l t a i with
      | none => some i
      | some j => if ahead short l t i j = true then some i else some j) else pickN short l t a i
def pick (short : Bool) (l : List S48) (t : List Int) (a : Int) : Option Nat := pickN short l t a l.length
def addPc (out : List Pc) (j : Int) (a : Int) : List Pc := match out.getLast? with
  | some p => if p.f0 = j ∧ p.f2 = a then out.set (out.length - 1) ⟨p.f0, p.f1, p.f2 + 1⟩ else out ++ [⟨j, a, a + 1⟩]
  | none => [⟨j, a, a + 1⟩]
abbrev St := List Int × List Pc
def stepF (short : Bool) (l : List S48) (a : Int) (s : St) : St := match pick short l s.1 a with
  | none => s
  | some j => (s.1.set j (tm s.1 j - 1), addPc s.2 (j : Int) a)
def runF (short : Bool) (l : List S48) : Nat → Int → St → St
  | 0, _, s => s
  | n + 1, a, s => runF short l n (a + 1) (stepF short l a s)
def times (l : List S48) : List Int := l.map (·.f0)
def planOf (short : Bool) (l : List S48) : List Pc := (runF short l 300 0 (times l, [])).2
theorem pickN_lt {short : Bool} {l : List S48} {t : List Int} {a : Int} : ∀ {n j : Nat}, pickN short l t a n = some j → j < n ∧ ready l t a j := by
  intro n
  induction n with
  | zero => intro j h; cases h
  | succ n ih =>
    intro j h
    rw [pickN] at h
    by_cases hr : ready l t a n
    · rw [if_pos hr] at h
      cases hp : pickN short l t a n with
      | none =>
        rw [hp] at h
        simp at h
        subst h
        exact ⟨by omega, hr⟩
      | some j' =>
        rw [hp] at h
        have := ih hp
        by_cases ha : ahead short l t n j' = true
        · simp [ha] at h
          subst h
          exact ⟨by omega, hr⟩
        · simp [ha] at h
          subst h
          exact ⟨by omega, this.2⟩
    · rw [if_neg hr] at h
      have := ih h
      exact ⟨by omega, this.2⟩
theorem pickN_none {short : Bool} {l : List S48} {t : List Int} {a : Int} : ∀ {n : Nat}, pickN short l t a n = none ↔ ∀ i, i < n → ¬ ready l t a i := by
  intro n
  induction n with
  | zero => exact ⟨fun _ i hi => by omega, fun _ => rfl⟩
  | succ n ih =>
    rw [pickN]
    by_cases hr : ready l t a n
    · rw [if_pos hr]
      constructor
      · intro h
        exfalso
        cases hp : pickN short l t a n with
        | none => rw [hp] at h; cases h
        | some j =>
          rw [hp] at h
          by_cases ha : ahead short l t n j = true
          · simp [ha] at h
          · simp [ha] at h
      · intro h
        exact absurd hr (h n (by omega))
    · rw [if_neg hr, ih]
      constructor
      · intro h i hi
        by_cases e : i = n
        · subst e; exact hr
        · exact h i (by omega)
      · intro h i hi
        exact h i (by omega)
theorem addPc_length (out : List Pc) (j a : Int) : (addPc out j a).length ≤ out.length + 1 := by
  unfold addPc
  split
  · split
    · rw [List.length_set]; omega
    · simp
  · simp
theorem stepF_len (short : Bool) (l : List S48) (a : Int) (s : St) : (stepF short l a s).1.length = s.1.length := by
  unfold stepF
  split
  · rfl
  · simp
theorem stepF_out (short : Bool) (l : List S48) (a : Int) (s : St) : (stepF short l a s).2.length ≤ s.2.length + 1 := by
  unfold stepF
  split
  · omega
  · exact addPc_length _ _ _
theorem tm_mem {t : List Int} {i : Nat} (h : i < t.length) : tm t i ∈ t := by
  unfold tm
  rw [List.getD_eq_getElem?_getD, List.getElem?_eq_getElem h]
  exact List.getElem_mem h
theorem tm_get {t : List Int} {i : Nat} (h : i < t.length) : tm t i = t[i] := by
  unfold tm
  rw [List.getD_eq_getElem?_getD, List.getElem?_eq_getElem h]
  rfl
theorem tm_out {t : List Int} {i : Nat} (h : t.length ≤ i) : tm t i = 0 := by
  unfold tm
  rw [List.getD_eq_getElem?_getD, List.getElem?_eq_none h]
  rfl
theorem jb_get {l : List S48} {i : Nat} (h : i < l.length) : jb l i = l[i] := by
  unfold jb
  rw [List.getD_eq_getElem?_getD, List.getElem?_eq_getElem h]
  rfl
theorem tm_set (t : List Int) (j i : Nat) (x : Int) (h : j < t.length) : tm (t.set j x) i = if i = j then x else tm t i := by
  unfold tm
  rw [List.getD_eq_getElem?_getD, List.getElem?_set]
  by_cases e : i = j
  · subst e
    rw [if_pos rfl, if_pos rfl, if_pos h]
    rfl
  · rw [if_neg (Ne.symm e), if_neg e, List.getD_eq_getElem?_getD]
theorem total_set : ∀ (t : List Int) (j : Nat) (x : Int), j < t.length → total (t.set j x) = total t - tm t j + x := by
  intro t
  induction t with
  | nil => intro j x h; simp at h
  | cons y t ih =>
    intro j x h
    cases j with
    | zero => simp [total, tm]; omega
    | succ j =>
      have := ih j x (by simpa using h)
      rw [List.set_cons_succ, total_cons, total_cons, this]
      have : tm (y :: t) (j + 1) = tm t j := rfl
      omega
def fine (t : List Int) : Prop := ∀ x ∈ t, 0 ≤ x
theorem fine_tm {t : List Int} (h : fine t) (i : Nat) : 0 ≤ tm t i := by
  by_cases hi : i < t.length
  · exact h _ (tm_mem hi)
  · rw [tm_out (by omega)]
    exact Int.le_refl _
theorem fine_of_tm {t : List Int} (h : ∀ i, i < t.length → 0 ≤ tm t i) : fine t := by
  intro x hx
  obtain ⟨i, hi, rfl⟩ := List.mem_iff_getElem.1 hx
  have := h i hi
  rwa [tm_get hi] at this
theorem total_fine {t : List Int} (h : fine t) : 0 ≤ total t := by
  induction t with
  | nil => exact Int.le_refl _
  | cons x t ih =>
    rw [total_cons]
    have := h x (by simp)
    have := ih (fun y hy => h y (by simp [hy]))
    omega
theorem total_zero {t : List Int} (h : fine t) (h0 : total t ≤ 0) : ∀ i, tm t i = 0 := by
  induction t with
  | nil => intro i; rfl
  | cons x t ih =>
    rw [total_cons] at h0
    have hx := h x (by simp)
    have ht : fine t := fun y hy => h y (by simp [hy])
    have := total_fine ht
    intro i
    cases i with
    | zero => show x = 0; omega
    | succ i => exact ih ht (by omega) i
theorem step_fine {short : Bool} {l : List S48} {a : Int} {s : St} (hl : s.1.length = l.length) (h : fine s.1) : fine (stepF short l a s).1 := by
  unfold stepF
  split
  · exact h
  · rename_i j hj
    have ⟨hlt, hr⟩ := pickN_lt hj
    refine fine_of_tm fun i hi => ?_
    rw [tm_set _ _ _ _ (by omega)]
    by_cases e : i = j
    · rw [if_pos e]
      have := hr.2
      omega
    · rw [if_neg e]
      exact fine_tm h i
theorem step_total {short : Bool} {l : List S48} {a : Int} {s : St} (hl : s.1.length = l.length) : total (stepF short l a s).1 = total s.1 - (if (pick short l s.1 a).isSome = true then 1 else 0) := by
  unfold stepF
  split
  · rename_i hp
    rw [hp]
    simp
  · rename_i j hj
    rw [hj]
    have ⟨hlt, hr⟩ := pickN_lt hj
    show total (s.1.set j (tm s.1 j - 1)) = _
    rw [total_set _ _ _ (by omega)]
    simp
    omega
theorem run_done {short : Bool} {l : List S48} (hrel : ∀ i, i < l.length → (jb l i).f1 ≤ 100) : ∀ (n : Nat) (a : Int) (s : St), s.1.length = l.length → fine s.1 → total s.1 + (if a < 100 then 100 - a else 0) ≤ (n : Int) → total (runF short l n a s).1 ≤ 0 := by
  intro n
  induction n with
  | zero =>
    intro a s hl hf h
    show total s.1 ≤ 0
    split at h <;> omega
  | succ n ih =>
    intro a s hl hf h
    rw [runF]
    have h2 := step_total (short := short) (a := a) hl
    refine ih _ _ (by rw [stepF_len, hl]) (step_fine hl hf) ?_
    cases hp : pick short l s.1 a with
    | some j =>
      rw [hp] at h2
      simp at h2
      split at h <;> split <;> omega
    | none =>
      rw [hp] at h2
      simp at h2
      by_cases ha : a < 100
      · rw [if_pos ha] at h
        split <;> omega
      ·
        have hz : total s.1 ≤ 0 := by
          have hn := pickN_none.1 hp
          have : ∀ i, tm s.1 i = 0 := by
            intro i
            by_cases hi : i < l.length
            · have h1 := hn i hi
              have h3 := fine_tm hf i
              have h4 := hrel i hi
              unfold ready at h1
              omega
            · exact tm_out (by omega)
          have h5 : ∀ t : List Int, (∀ i, tm t i = 0) → total t = 0 := by
            intro t
            induction t with
            | nil => intro _; rfl
            | cons x t iht =>
              intro h
              rw [total_cons, iht (fun i => h (i + 1))]
              have := h 0
              have e : tm (x :: t) 0 = x := rfl
              omega
          rw [h5 _ this]
          exact Int.le_refl _
        have := total_fine hf
        split <;> omega
end Go.Proofs.Ytaboleeclpllpaa.M


namespace Go.Proofs.Ytaboleeclpllpaa.M
open Go.RowKit Go.Proofs.YtaboleeclpllpaaW.PrintWords Go.Proofs.YtaboleeclpllpaaW.PrintLast Go.Proofs.YtaboleeclpllpaaW.PrintMore Go.Proofs.Ytaboleeclpllpaa.P
set_option linter.unusedVariables false
set_option linter.unusedSimpArgs false
def curI : Option Nat → Int
  | none => -1
  | some j => (j : Int)
theorem step_le {short : Bool} {l : List S48} {a : Int} {t : List Int} {out : List Pc} (h : ∀ x ∈ t, x ≤ 20) : ∀ x ∈ (stepF short l a (t, out)).1, x ≤ 20 := by
  intro x hx
  unfold stepF at hx
  split at hx
  · exact h x hx
  · rename_i j hj
    obtain ⟨i, hi, rfl⟩ := List.mem_iff_getElem.1 hx
    simp only [List.length_set] at hi
    rw [List.getElem_set]
    split
    · by_cases hjl : j < t.length
      · have := h _ (tm_mem hjl)
        show tm t j - 1 ≤ 20
        omega
      · show tm t j - 1 ≤ 20
        rw [tm_out (by omega)]
        omega
    · exact h _ (List.getElem_mem hi)
theorem stepF_idle {short : Bool} {l : List S48} {a : Int} {s : St} (h : ∀ i, tm s.1 i = 0) : stepF short l a s = s := by
  have : pick short l s.1 a = none := pickN_none.2 fun i _ hr => by have := hr.2; rw [h i] at this; omega
  unfold stepF
  rw [this]
theorem runF_idle {short : Bool} {l : List S48} {t : List Int} {out : List Pc} (h : ∀ i, tm t i = 0) : ∀ {n : Nat} {a : Int}, runF short l n a (t, out) = (t, out) := by
  intro n
  induction n with
  | zero => intro a; rfl
  | succ n ih =>
    intro a
    rw [runF, stepF_idle (s := (t, out)) h, ih]
theorem valid_len {l : List S48} (h : valid48 l = true) : 1 ≤ l.length ∧ l.length ≤ 8 := by
  simp only [valid48, Bool.and_eq_true, decide_eq_true_eq] at h
  exact h.1
theorem valid_ok {l : List S48} (h : valid48 l = true) {x : S48} (hx : x ∈ l) : 1 ≤ x.f0 ∧ x.f0 ≤ 20 ∧ 0 ≤ x.f1 ∧ x.f1 ≤ 100 ∧ 0 ≤ x.f2 ∧ x.f2 ≤ 200 ∧ 0 ≤ x.f3 ∧ x.f3 ≤ 20 := by
  simp only [valid48, Bool.and_eq_true, List.all_eq_true] at h
  have := h.2 x hx
  simpa [ok48] using this
theorem valid_jb {l : List S48} (h : valid48 l = true) {i : Nat} (hi : i < l.length) : 1 ≤ (jb l i).f0 ∧ (jb l i).f0 ≤ 20 ∧ 0 ≤ (jb l i).f1 ∧ (jb l i).f1 ≤ 100 ∧ 0 ≤ (jb l i).f2 ∧ (jb l i).f2 ≤ 200 ∧ 0 ≤ (jb l i).f3 ∧ (jb l i).f3 ≤ 20 := by
  rw [jb_get hi]
  exact valid_ok h (List.getElem_mem hi)
theorem times_fine {l : List S48} (h : valid48 l = true) : fine (times l) := by
  intro x hx
  obtain ⟨y, hy, rfl⟩ := List.mem_map.1 hx
  have := valid_ok h hy
  omega
theorem times_le {l : List S48} (h : valid48 l = true) : ∀ x ∈ times l, x ≤ 20 := by
  intro x hx
  obtain ⟨y, hy, rfl⟩ := List.mem_map.1 hx
  have := valid_ok h hy
  omega
theorem times_total {l : List S48} (h : valid48 l = true) : total (times l) ≤ 160 := by
  have h1 := total_bound (times l) 20 (by omega) (fun x hx => ⟨by have := times_fine h x hx; omega, times_le h x hx⟩)
  have h2 := valid_len h
  have h3 : (times l).length = l.length := by simp [times]
  omega
theorem plan_done (short : Bool) {l : List S48} (h : valid48 l = true) : total (runF short l 300 0 (times l, [])).1 ≤ 0 := by
  refine run_done (fun i hi => (valid_jb h hi).2.2.2.1) 300 0 (times l, []) (by simp [times]) (times_fine h) ?_
  have := times_total h
  simp
  omega
theorem due_first (l : List S48) (t : List Int) (hl : t.length = l.length) (i j : Nat) (hi : i < l.length) (hj : j < l.length) : dates_jobs_first.f l (i : Int) (j : Int) t = some (ahead false l t i j) := by
  unfold dates_jobs_first.f
  rw [if_pos (by omega), if_pos (by omega), if_pos (by omega), if_pos (by omega), rd48 l i (by omega), rd48 l j (by omega)]
  simp [ahead, jb_get hi, jb_get hj]
theorem due_inner (l : List S48) (t : List Int) (out : List Pc) (a : Int) (hl : l.length ≤ 8) (ht : t.length = l.length) (r : List Pc) : ∀ (d i : Nat), i + d = l.length →
    Ev (fun k => dates_jobs_plan_due.l2 k l out t a (curI (pick false l t a)) l (l.length : Int) (l.length : Int)) r → Ev (fun k => dates_jobs_plan_due.l2 k l out t a (curI (pickN false l t a i)) l (l.length : Int) (i : Int)) r := by
  intro d
  induction d with
  | zero =>
    intro i hi h
    rw [show i = l.length by omega]
    exact h
  | succ d ih =>
    intro i hi h
    have hlt : i < l.length := by omega
    refine Ev.step (fun k => ?_) (ih (i + 1) (by omega) h)
    simp only [dates_jobs_plan_due.l2]
    rw [if_pos (by omega), if_pos (by omega), if_pos (by omega), rd48 l i hlt, w64s i l.length hlt (by omega), if_pos (show (i : Int) < (t.length : Int) by omega)]
    have hjb : jb l i = l[i] := jb_get hlt
    have htm : rd t (i : Int) = tm t i := by rw [rd_nat t i (by omega), tm_get (by omega)]
    by_cases h1 : (l[i]).f1 ≤ a
    · rw [if_pos h1, htm]
      by_cases h2 : tm t i > 0
      · rw [if_pos h2]
        have hr : ready l t a i := ⟨by rw [hjb]; exact h1, h2⟩
        rw [pickN, if_pos hr]
        cases hp : pickN false l t a i with
        | none => rw [if_pos (show curI none < 0 by decide)]; rfl
        | some j =>
          have ⟨hji, _⟩ := pickN_lt hp
          have hc : curI (some j) = (j : Int) := rfl
          rw [hc, if_neg (by omega), due_first l t ht i j hlt (by omega)]
          by_cases ha : ahead false l t i j = true
          · simp only [ha, if_true, Option.bind_some]
            rfl
          · simp only [Bool.eq_false_iff.mpr ha, Option.bind_some, if_false, Bool.false_eq_true]
            rfl
      · rw [if_neg h2]
        have hr : ¬ ready l t a i := fun h => h2 h.2
        rw [pickN, if_neg hr]
    · rw [if_neg h1]
      have hr : ¬ ready l t a i := fun h => h1 (by have := h.1; rwa [hjb] at this)
      rw [pickN, if_neg hr]
theorem due_step (l : List S48) (t : List Int) (out : List Pc) (a : Int) (hl : l.length ≤ 8) (ht : t.length = l.length) (h20 : ∀ x ∈ t, x ≤ 20) (ha0 : 0 ≤ a) (ha : a ≤ 1000) (ho : out.length ≤ 1000) (r : List Pc)
    (h : Ev (fun k => dates_jobs_plan_due.l1 k l (stepF false l a (t, out)).2 (stepF false l a (t, out)).1 (a + 1)) r) : Ev (fun k => dates_jobs_plan_due.l2 k l out t a (-1) l (l.length : Int) 0) r := by
  refine due_inner l t out a hl ht r l.length 0 (by omega) ?_
  refine Ev.step (fun k => ?_) h
  simp only [dates_jobs_plan_due.l2]
  rw [if_neg (by omega)]
  unfold stepF
  cases hp : pick false l t a with
  | none =>
    rw [if_pos (show curI none < 0 by decide), w64 (by omega) (by omega)]
  | some j =>
    have ⟨hj, hr⟩ := pickN_lt hp
    have hc : curI (some j) = (j : Int) := rfl
    have htm : rd t (j : Int) = tm t j := by rw [rd_nat t j (by omega), tm_get (by omega)]
    have h1 := hr.2
    have h2 := h20 _ (tm_mem (show j < t.length by omega))
    rw [hc, if_neg (by omega), if_pos (by omega), if_pos (by omega), Option.bind_some, htm, w64 (x := tm t j - 1) (by omega) (by omega), w64 (x := a + 1) (by omega) (by omega), Int.toNat_natCast]
    show _ = dates_jobs_plan_due.l1 k l (addPc out (j : Int) a) (t.set j (tm t j - 1)) (a + 1)
    rcases List.eq_nil_or_concat out with rfl | ⟨o, p, rfl⟩
    · have hw : wrap64 ((([] : List S44).length : Int) - 1) = -1 := w64 (by simp) (by simp)
      rw [hw, if_neg (by omega), if_pos (by simp)]
      simp [addPc]
    · have hlen : (o.concat p).length = o.length + 1 := by simp
      have hw : wrap64 (((o.concat p).length : Int) - 1) = (o.length : Int) := by rw [hlen, w64 (by omega) (by omega)]; omega
      have hrd : rd_T44 (o.concat p) (o.length : Int) = p := by rw [rd44 _ _ (by omega)]; simp
      rw [hw, if_pos (by omega), if_pos (by omega), if_pos (by omega), hrd]
      have hadd : addPc (o.concat p) (j : Int) a = if p.f0 = (j : Int) ∧ p.f2 = a then (o.concat p).set o.length ⟨p.f0, p.f1, p.f2 + 1⟩ else o.concat p ++ [⟨(j : Int), a, a + 1⟩] := by
        simp [addPc]
      rw [hadd, Int.toNat_natCast]
      by_cases h3 : p.f0 = (j : Int)
      · rw [if_pos h3]
        by_cases h4 : p.f2 = a
        · rw [if_pos h4, if_pos ⟨h3, h4⟩, w64 (x := p.f2 + 1) (by omega) (by omega)]
        · rw [if_neg h4, if_pos (by omega), if_neg (fun h => h4 h.2)]
      · rw [if_neg h3, if_pos (by omega), if_neg (fun h => h3 h.1)]
theorem due_main (l : List S48) (hl : l.length ≤ 8) (h1 : 1 ≤ l.length) : ∀ (n : Nat) (a : Int) (t : List Int) (out : List Pc), t.length = l.length → fine t → (∀ x ∈ t, x ≤ 20) → 0 ≤ a → a + n ≤ 1000 → (out.length : Int) ≤ a → total (runF false l n a (t, out)).1 ≤ 0 →
    Ev (fun k => dates_jobs_plan_due.l1 k l out t a) (runF false l n a (t, out)).2 := by
  intro n
  induction n with
  | zero =>
    intro a t out ht hf h20 ha0 ha ho hd
    obtain ⟨m, hm, hm2⟩ := max_f t (by omega) (by omega)
    have hz := total_zero hf hd
    have : ¬ m > 0 := fun h => by
      obtain ⟨x, hx, hx2⟩ := hm2.1 h
      obtain ⟨i, hi, rfl⟩ := List.mem_iff_getElem.1 hx
      have := hz i
      rw [tm_get hi] at this
      omega
    refine Ev.step (f := fun k => (dates_left_int.f k t).bind fun t128 => (if t128 > 0 then (dates_jobs_plan_due.l2 k l out t a (-1) l (l.length : Int) 0) else (some out))) (fun k => by simp only [dates_jobs_plan_due.l1]) ?_
    refine Ev.bind hm ?_
    simp only [if_neg this]
    exact Ev.now _
  | succ n ih =>
    intro a t out ht hf h20 ha0 ha ho hd
    obtain ⟨m, hm, hm2⟩ := max_f t (by omega) (by omega)
    refine Ev.step (f := fun k => (dates_left_int.f k t).bind fun t128 => (if t128 > 0 then (dates_jobs_plan_due.l2 k l out t a (-1) l (l.length : Int) 0) else (some out))) (fun k => by simp only [dates_jobs_plan_due.l1]) ?_
    refine Ev.bind hm ?_
    by_cases hmp : m > 0
    · simp only [if_pos hmp]
      rw [runF] at hd ⊢
      refine due_step l t out a hl ht h20 ha0 (by omega) (by omega) _ ?_
      have hs20 : ∀ x ∈ (stepF false l a (t, out)).1, x ≤ 20 := step_le h20
      exact ih (a + 1) _ _ (by rw [stepF_len, ht]) (step_fine ht hf) hs20 (by omega) (by omega) (by have := stepF_out false l a (t, out); simp at this; omega) hd
    · simp only [if_neg hmp]
      rw [runF_idle (fun i => by
        by_cases hi : i < t.length
        · have := fun hh => hmp (hm2.2 hh)
          have h0 := fine_tm hf i
          by_cases h5 : tm t i > 0
          · exact absurd ⟨_, tm_mem hi, h5⟩ this
          · show tm t i = 0
            omega
        · exact tm_out (by omega))]
      exact Ev.now _
theorem due_start (l : List S48) (hl : l.length ≤ 8) (r : List Pc) (h : Ev (fun k => dates_jobs_plan_due.l1 k l [] (times l) 0) r) : ∀ (d i : Nat) (t : List Int), i + d = l.length → t.length = l.length → t.take i = (times l).take i → Ev (fun k => dates_jobs_plan_due.l0 k l t l (l.length : Int) (i : Int)) r := by
  intro d
  induction d with
  | zero =>
    intro i t hi ht he
    have : t = times l := by
      have h1 : t.take i = t := List.take_of_length_le (by omega)
      have h2 : (times l).take i = times l := List.take_of_length_le (by simp [times]; omega)
      rw [← h1, ← h2, he]
    subst this
    refine Ev.step (fun k => ?_) h
    simp only [dates_jobs_plan_due.l0]
    rw [if_neg (by omega)]
  | succ d ih =>
    intro i t hi ht he
    have hlt : i < l.length := by omega
    refine Ev.step (fun k => ?_) (ih (i + 1) (t.set i (l[i]).f0) (by omega) (by simpa using ht) ?_)
    · simp only [dates_jobs_plan_due.l0]
      rw [if_pos (by omega), if_pos (by omega), if_pos (by omega), if_pos (show (i : Int) < (t.length : Int) by omega), rd48 l i hlt, w64s i l.length hlt (by omega), Int.toNat_natCast]
    · rw [List.take_succ_eq_append_getElem (by simpa using (show i < t.length by omega)), List.take_succ_eq_append_getElem (by simpa [times] using hlt), List.take_set_of_le (Nat.le_refl i), he]
      simp [times]
theorem due_f (l : List S48) (hv : valid48 l = true) : Ev (fun k => dates_jobs_plan_due.f k l) (planOf false l) := by
  have hl := valid_len hv
  have hm := due_main l hl.2 hl.1 300 0 (times l) [] (by simp [times]) (times_fine hv) (times_le hv) (by omega) (by omega) (by simp) (plan_done false hv)
  have := due_start l hl.2 _ hm l.length 0 (List.replicate l.length 0) (by omega) (by simp) rfl
  refine Ev.congr (fun k => ?_) this
  unfold dates_jobs_plan_due.f
  rw [if_pos (by omega), if_pos (by omega), Int.toNat_natCast]
  rfl
end Go.Proofs.Ytaboleeclpllpaa.M


namespace Go.Proofs.Ytaboleeclpllpaa.M
open Go.RowKit Go.Proofs.YtaboleeclpllpaaW.PrintWords Go.Proofs.YtaboleeclpllpaaW.PrintLast Go.Proofs.YtaboleeclpllpaaW.PrintMore Go.Proofs.Ytaboleeclpllpaa.P
set_option linter.unusedVariables false
set_option linter.unusedSimpArgs false
end Go.Proofs.Ytaboleeclpllpaa.M


namespace Go.Proofs.Ytaboleeclpllpaa.M
open Go.RowKit Go.Proofs.YtaboleeclpllpaaW.PrintWords Go.Proofs.YtaboleeclpllpaaW.PrintLast Go.Proofs.YtaboleeclpllpaaW.PrintMore Go.Proofs.Ytaboleeclpllpaa.P
set_option linter.unusedVariables false
set_option linter.unusedSimpArgs false
theorem due_f' (l : List S48) (hv : valid48 l = true) : Ev (fun k => dates_jobs_due.f k l) (planOf false l) := by
  refine Ev.congr (fun k => ?_) (due_f l hv)
  unfold dates_jobs_due.f
  cases dates_jobs_plan_due.f k l <;> rfl
theorem Plan_f (l : List S48) (hl : l.length ≤ 9223372036854775807) : Ev (fun k => dates_Plan.f k l) (if valid48 l = true then (planOf false l, 0) else ([], 2)) := by
  unfold dates_Plan.f
  refine Ev.bind (valid_f l hl) ?_
  cases hv : valid48 l with
  | true =>
    simp only [if_true]
    exact Ev.bind (due_f' l hv) (Ev.now _)
  | false =>
    simp only [Bool.false_eq_true, if_false]
    exact Ev.now _
theorem awake_plan : planOf false [(⟨2, 1, 9, 0⟩ : S48)] = [(⟨0, 1, 3⟩ : S44)] := by kernel_rfl
theorem awake_valid : valid48 [(⟨2, 1, 9, 0⟩ : S48)] = true := by kernel_rfl
theorem awake_f : Ev (fun k => corrodylaw06_awake.f k) true := by
  unfold corrodylaw06_awake.f
  have h := Plan_f [(⟨2, 1, 9, 0⟩ : S48)] (by simp)
  rw [awake_valid, if_pos rfl, awake_plan] at h
  refine Ev.bind h ?_
  simp only [if_true]
  exact Ev.bind (eq44_f _ (by simp)) (Ev.now _)
end Go.Proofs.Ytaboleeclpllpaa.M


namespace Go.Proofs.Ytaboleeclpllpaa.M
open Go.RowKit Go.Proofs.YtaboleeclpllpaaW.PrintWords Go.Proofs.YtaboleeclpllpaaW.PrintLast Go.Proofs.YtaboleeclpllpaaW.PrintMore Go.Proofs.Ytaboleeclpllpaa.P
set_option linter.unusedVariables false
set_option linter.unusedSimpArgs false
end Go.Proofs.Ytaboleeclpllpaa.M


namespace Go.Proofs.Ytaboleeclpllpaa.T
set_option linter.unusedVariables false
set_option linter.unusedSimpArgs false
def sumN : Nat → (Nat → Int) → Int
  | 0, _ => 0
  | n + 1, f => sumN n f + f n
theorem sumN_congr {f g : Nat → Int} : ∀ {n : Nat}, (∀ i, i < n → f i = g i) → sumN n f = sumN n g
  | 0, _ => rfl
  | n + 1, h => by rw [sumN, sumN, sumN_congr (fun i hi => h i (by omega)), h n (by omega)]
theorem sumN_le {f g : Nat → Int} : ∀ {n : Nat}, (∀ i, i < n → f i ≤ g i) → sumN n f ≤ sumN n g
  | 0, _ => Int.le_refl _
  | n + 1, h => by
    have h1 := sumN_le (n := n) (fun i hi => h i (by omega))
    have h2 := h n (by omega)
    simp only [sumN]
    omega
theorem sumN_add (f g : Nat → Int) : ∀ n : Nat, sumN n (fun i => f i + g i) = sumN n f + sumN n g
  | 0 => rfl
  | n + 1 => by
    have := sumN_add f g n
    simp only [sumN]
    omega
theorem sumN_zero : ∀ n : Nat, sumN n (fun _ => 0) = 0
  | 0 => rfl
  | n + 1 => by rw [sumN, sumN_zero n]; rfl
theorem sumN_at {f g : Nat → Int} {n : Nat} (j : Nat) (hj : j < n) (h : ∀ i, i < n → i ≠ j → f i = g i) : sumN n f = sumN n g + (f j - g j) := by
  induction n with
  | zero => omega
  | succ n ih =>
    by_cases hjn : j = n
    · subst hjn
      have : sumN j f = sumN j g := sumN_congr (fun i hi => h i (by omega) (by omega))
      simp only [sumN]
      omega
    · have := ih (by omega) (fun i hi hne => h i (by omega) hne)
      have h2 := h n (by omega) (fun he => hjn he.symm)
      simp only [sumN]
      omega
theorem sumN_swap (f : Nat → Nat → Int) : ∀ m n : Nat, sumN m (fun i => sumN n (f i)) = sumN n (fun j => sumN m (fun i => f i j))
  | 0, n => by simp only [sumN]; rw [sumN_zero]
  | m + 1, n => by
    simp only [sumN]
    rw [sumN_swap f m n, ← sumN_add]
def one (b : Prop) [Decidable b] : Int := if b then 1 else 0
def cnt (u : Nat → Option Nat) (j : Nat) (a : Nat) : Int := sumN a (fun s => one (u s = some j))
theorem one_nn (b : Prop) [Decidable b] : 0 ≤ one b := by unfold one; split <;> omega
theorem one_pos {b : Prop} [Decidable b] (h : b) : one b = 1 := if_pos h
theorem one_neg {b : Prop} [Decidable b] (h : ¬ b) : one b = 0 := if_neg h
theorem cnt_succ (u : Nat → Option Nat) (j a : Nat) : cnt u j (a + 1) = cnt u j a + one (u a = some j) := rfl
theorem cnt_mono (u : Nat → Option Nat) (j : Nat) {a : Nat} : ∀ {b : Nat}, a ≤ b → cnt u j a ≤ cnt u j b := by
  intro b
  induction b with
  | zero => intro h; rw [show a = 0 by omega]; exact Int.le_refl _
  | succ b ih =>
    intro h
    by_cases hab : a = b + 1
    · subst hab; exact Int.le_refl _
    · have := ih (by omega)
      have := one_nn (u b = some j)
      rw [cnt_succ]
      omega
structure Sched (n : Nat) (tim rel : Nat → Int) (u : Nat → Option Nat) (C : Nat → Int) (H : Nat) : Prop where
  job : ∀ a j, a < H → u a = some j → j < n ∧ rel j ≤ a
  full : ∀ j, j < n → cnt u j H = tim j
  last : ∀ j, j < n → ∃ a : Nat, a < H ∧ C j = (a : Int) + 1 ∧ u a = some j ∧ ∀ s, a < s → s < H → u s ≠ some j
section
variable {n : Nat} {tim rel : Nat → Int} {u : Nat → Option Nat} {C : Nat → Int} {H : Nat}
theorem Sched.before (h : Sched n tim rel u C H) {j s : Nat} (hj : j < n) (hs : s < H) (hu : u s = some j) : (s : Int) < C j := by
  obtain ⟨a, ha, hC, hua, hl⟩ := h.last j hj
  by_cases hsa : s ≤ a
  · omega
  · exact absurd hu (hl s (by omega) hs)
theorem Sched.le (h : Sched n tim rel u C H) {j : Nat} (hj : j < n) (a : Nat) (ha : a ≤ H) : cnt u j a ≤ tim j := by
  rw [← h.full j hj]; exact cnt_mono u j ha
theorem Sched.open (h : Sched n tim rel u C H) {j : Nat} (hj : j < n) {a s : Nat} (has : a ≤ s) (hs : s < H) (hu : u s = some j) : cnt u j a < tim j := by
  have h1 := cnt_mono u j has
  have h2 := h.le hj (s + 1) (by omega)
  rw [cnt_succ, one_pos hu] at h2
  omega
theorem Sched.end_le (h : Sched n tim rel u C H) {j : Nat} (hj : j < n) : 0 < C j ∧ C j ≤ H := by
  obtain ⟨e, he, hC, hue, hl⟩ := h.last j hj
  omega
end
def outside (n : Nat) (S : Nat → Prop) [DecidablePred S] (f : Nat → Int) : Int := sumN n (fun i => if S i then 0 else f i)
def size (n : Nat) (S : Nat → Prop) [DecidablePred S] : Int := sumN n (fun i => one (S i))
def Below' (n : Nat) (x y : Nat → Int) : Prop := ∀ S : Nat → Bool, ∃ S' : Nat → Bool, size n (fun i => S' i = true) ≤ size n (fun i => S i = true) ∧ outside n (fun i => S' i = true) x ≤ outside n (fun i => S i = true) y
theorem Below'.refl (n : Nat) (x : Nat → Int) : Below' n x x := fun S => ⟨S, Int.le_refl _, Int.le_refl _⟩
end Go.Proofs.Ytaboleeclpllpaa.T


namespace Go.Proofs.Ytaboleeclpllpaa.M
open Go.RowKit Go.Proofs.YtaboleeclpllpaaW.PrintWords Go.Proofs.YtaboleeclpllpaaW.PrintLast Go.Proofs.YtaboleeclpllpaaW.PrintMore Go.Proofs.Ytaboleeclpllpaa.P Go.Proofs.Ytaboleeclpllpaa.T
set_option linter.unusedVariables false
set_option linter.unusedSimpArgs false
def timf (l : List S48) (j : Nat) : Int := (jb l j).f0
def relf (l : List S48) (j : Nat) : Int := (jb l j).f1
def duef (l : List S48) (j : Nat) : Int := (jb l j).f2
end Go.Proofs.Ytaboleeclpllpaa.M


namespace Go.Proofs.Ytaboleeclpllpaa.M
open Go.RowKit Go.Proofs.YtaboleeclpllpaaW.PrintWords Go.Proofs.YtaboleeclpllpaaW.PrintLast Go.Proofs.YtaboleeclpllpaaW.PrintMore Go.Proofs.Ytaboleeclpllpaa.P Go.Proofs.Ytaboleeclpllpaa.T
set_option linter.unusedVariables false
set_option linter.unusedSimpArgs false
def insRev (lt : Int → Int → Bool) : List Int → Int → List Int
  | [], v => [v]
  | y :: l, v => if lt v y = true then y :: insRev lt l v else v :: y :: l
theorem rd_append (p q : List Int) (v : Int) : rd (p ++ v :: q) (p.length : Int) = v := by
  rw [rd_nat _ _ (by rw [List.length_append, List.length_cons]; omega)]
  simp
theorem rd_mid (p q : List Int) (y v : Int) : rd (p ++ y :: v :: q) ((p.length + 1 : Nat) : Int) = v := by
  have := rd_append (p ++ [y]) q v
  simpa using this
theorem set_mid (p q : List Int) (y v : Int) : ((p ++ y :: v :: q).set (p.length + 1) y).set p.length v = p ++ v :: y :: q := by
  simp [List.set_append]
theorem ins_rev (lt : Int → Int → Bool) : ∀ (l : List Int) (v : Int) (post : List Int), dates_jobs_byDue.srt.ins lt l.length (l.reverse ++ v :: post) = (insRev lt l v).reverse ++ post
  | [], v, post => rfl
  | y :: l, v, post => by
    have e : (y :: l).reverse ++ v :: post = l.reverse ++ y :: v :: post := by simp
    have h1 : rd (l.reverse ++ y :: v :: post) ((l.length + 1 : Nat) : Int) = v := by
      have := rd_mid l.reverse post y v
      rwa [List.length_reverse] at this
    have h0 : rd (l.reverse ++ y :: v :: post) (l.length : Int) = y := by
      have := rd_append l.reverse (v :: post) y
      rwa [List.length_reverse] at this
    have hs : ((l.reverse ++ y :: v :: post).set (l.length + 1) y).set l.length v = l.reverse ++ v :: y :: post := by
      have := set_mid l.reverse post y v
      rwa [List.length_reverse] at this
    rw [e, List.length_cons, dates_jobs_byDue.srt.ins, h1, h0, hs, insRev]
    by_cases c : lt v y = true
    · rw [if_pos c, if_pos c, ins_rev lt l v (y :: post)]
      simp
    · rw [if_neg c, if_neg c]
      simp
theorem from_rev (lt : Int → Int → Bool) : ∀ (rest l : List Int), dates_jobs_byDue.srt.from lt rest.length l.length (l.reverse ++ rest) = (rest.foldl (insRev lt) l).reverse
  | [], l => by simp [dates_jobs_byDue.srt.from]
  | v :: rest, l => by
    have hlen : ∀ (l : List Int) (v : Int), (insRev lt l v).length = l.length + 1 := by
      intro l
      induction l with
      | nil => intro v; rfl
      | cons y l ih =>
        intro v
        rw [insRev]
        split
        · rw [List.length_cons, ih, List.length_cons]
        · rfl
    rw [List.length_cons, dates_jobs_byDue.srt.from, ins_rev lt l v rest, List.foldl_cons, ← from_rev lt rest (insRev lt l v), hlen]
theorem sort_rev (lt : Int → Int → Bool) (xs : List Int) : dates_jobs_byDue.srt.sort lt xs = (xs.foldl (insRev lt) []).reverse := by
  unfold dates_jobs_byDue.srt.sort
  cases xs with
  | nil => rfl
  | cons x xs =>
    have := from_rev lt xs [x]
    rw [List.foldl_cons]
    show _ = (xs.foldl (insRev lt) [x]).reverse
    rw [← this]
    simp
def lsum (g : Int → Int) : List Int → Int
  | [] => 0
  | x :: xs => g x + lsum g xs
theorem lsum_append (g : Int → Int) : ∀ p q : List Int, lsum g (p ++ q) = lsum g p + lsum g q
  | [], q => by simp [lsum]
  | x :: p, q => by rw [List.cons_append, lsum, lsum, lsum_append g p q]; omega
theorem lsum_reverse (g : Int → Int) : ∀ p : List Int, lsum g p.reverse = lsum g p
  | [] => rfl
  | x :: p => by rw [List.reverse_cons, lsum_append, lsum_reverse g p, lsum, lsum, lsum]; omega
theorem lsum_insRev (g : Int → Int) (lt : Int → Int → Bool) : ∀ (l : List Int) (v : Int), lsum g (insRev lt l v) = lsum g l + g v
  | [], v => by simp [insRev, lsum]
  | y :: l, v => by
    rw [insRev]
    split
    · rw [lsum, lsum_insRev g lt l v, lsum]; omega
    · rw [lsum, lsum]; omega
theorem lsum_fold (g : Int → Int) (lt : Int → Int → Bool) : ∀ (xs l : List Int), lsum g (xs.foldl (insRev lt) l) = lsum g l + lsum g xs
  | [], l => by simp [lsum]
  | x :: xs, l => by rw [List.foldl_cons, lsum_fold g lt xs, lsum_insRev, lsum]; omega
theorem lsum_range (g : Int → Int) : ∀ n : Nat, lsum g ((List.range n).map fun i : Nat => (i : Int)) = sumN n (fun i => g (i : Int))
  | 0 => rfl
  | n + 1 => by
    rw [List.range_succ, List.map_append, lsum_append, lsum_range g n]
    simp only [sumN]
    show _ + (g n + 0) = _
    omega
def lex (l : List S48) (i j : Int) : Prop := duef l i.toNat < duef l j.toNat ∨ duef l i.toNat = duef l j.toNat ∧ i < j
instance (l : List S48) (i j : Int) : Decidable (lex l i j) := by unfold lex; infer_instance
theorem lex_trans {l : List S48} {a b c : Int} (h1 : lex l a b) (h2 : lex l b c) : lex l a c := by unfold lex at *; omega
theorem lex_irrefl {l : List S48} (a : Int) : ¬ lex l a a := by unfold lex; omega
theorem mem_insRev {lt : Int → Int → Bool} {x : Int} : ∀ {l : List Int} {v : Int}, x ∈ insRev lt l v ↔ x = v ∨ x ∈ l
  | [], v => by simp [insRev]
  | y :: l, v => by
    rw [insRev]
    split
    · rw [List.mem_cons, mem_insRev, List.mem_cons]
      constructor
      · rintro (h | h | h)
        · exact Or.inr (Or.inl h)
        · exact Or.inl h
        · exact Or.inr (Or.inr h)
      · rintro (h | h | h)
        · exact Or.inr (Or.inl h)
        · exact Or.inl h
        · exact Or.inr (Or.inr h)
    · rw [List.mem_cons]
def ltD (l : List S48) (x y : Int) : Bool := decide (duef l x.toNat < duef l y.toNat)
theorem srt_lt (l : List S48) : dates_jobs_byDue.srt.lt l = ltD l := by
  funext x y
  rfl
theorem desc_insRev {l : List S48} : ∀ {r : List Int} {v : Int}, r.Pairwise (fun a b => lex l b a) → (∀ x ∈ r, x < v) → (insRev (ltD l) r v).Pairwise (fun a b => lex l b a)
  | [], v, _, _ => by simp [insRev]
  | y :: r, v, hp, hlt => by
    rw [List.pairwise_cons] at hp
    have hy := hlt y (by simp)
    rw [insRev]
    by_cases c : ltD l v y = true
    · rw [if_pos c, List.pairwise_cons]
      have c' : duef l v.toNat < duef l y.toNat := by simpa [ltD] using c
      refine ⟨fun z hz => ?_, desc_insRev hp.2 (fun x hx => hlt x (by simp [hx]))⟩
      rcases mem_insRev.1 hz with rfl | hz
      · exact Or.inl c'
      · exact hp.1 z hz
    · rw [if_neg c, List.pairwise_cons, List.pairwise_cons]
      have c' : ¬ duef l v.toNat < duef l y.toNat := by simpa [ltD] using c
      have hyv : lex l y v := by unfold lex; omega
      refine ⟨fun z hz => ?_, hp.1, hp.2⟩
      rcases List.mem_cons.1 hz with rfl | hz
      · exact hyv
      · exact lex_trans (hp.1 z hz) hyv
theorem desc_fold {l : List S48} : ∀ (n : Nat), (((List.range n).map fun i : Nat => (i : Int)).foldl (insRev (ltD l)) []).Pairwise (fun a b => lex l b a) ∧ ∀ x ∈ ((List.range n).map fun i : Nat => (i : Int)).foldl (insRev (ltD l)) [], 0 ≤ x ∧ x < (n : Int)
  | 0 => by simp
  | n + 1 => by
    obtain ⟨h1, h2⟩ := desc_fold (l := l) n
    rw [List.range_succ, List.map_append, List.foldl_append]
    refine ⟨desc_insRev h1 (fun x hx => (h2 x hx).2), fun x hx => ?_⟩
    rcases mem_insRev.1 hx with rfl | hx
    · show 0 ≤ (n : Int) ∧ (n : Int) < ((n + 1 : Nat) : Int)
      omega
    · have := h2 x hx
      omega
def dueOrder (l : List S48) : List Int := (((List.range l.length).map fun i : Nat => (i : Int)).foldl (insRev (ltD l)) []).reverse
theorem byDue_f (l : List S48) (h1 : 1 ≤ l.length) (h8 : l.length < 20) : dates_jobs_byDue.f l = some (dueOrder l) := by
  unfold dates_jobs_byDue.f
  rw [if_pos ⟨h1, h8⟩, srt_lt, sort_rev]
  rfl
theorem dueOrder_asc (l : List S48) : (dueOrder l).Pairwise (lex l) := by
  unfold dueOrder
  rw [List.pairwise_reverse]
  exact (desc_fold l.length).1
theorem dueOrder_in (l : List S48) : ∀ x ∈ dueOrder l, 0 ≤ x ∧ x < (l.length : Int) := fun x hx => (desc_fold (l := l) l.length).2 x (by unfold dueOrder at hx; simpa using hx)
theorem dueOrder_sum (l : List S48) (g : Int → Int) : lsum g (dueOrder l) = sumN l.length (fun i => g (i : Int)) := by
  unfold dueOrder
  rw [lsum_reverse, lsum_fold, lsum_range]
  simp [lsum]
theorem lsum_zero {g : Int → Int} : ∀ {xs : List Int}, (∀ x ∈ xs, g x = 0) → lsum g xs = 0
  | [], _ => rfl
  | x :: xs, h => by rw [lsum, h x (by simp), lsum_zero (fun y hy => h y (by simp [hy]))]; rfl
theorem lsum_congr {f g : Int → Int} : ∀ {xs : List Int}, (∀ x ∈ xs, f x = g x) → lsum f xs = lsum g xs
  | [], _ => rfl
  | x :: xs, h => by rw [lsum, lsum, h x (by simp), lsum_congr (fun y hy => h y (by simp [hy]))]
theorem dueOrder_mem (l : List S48) {j : Nat} (hj : j < l.length) : (j : Int) ∈ dueOrder l := by
  by_cases h : (j : Int) ∈ dueOrder l
  · exact h
  · exfalso
    have h1 := dueOrder_sum l (fun i => if i = (j : Int) then 1 else 0)
    rw [lsum_zero (fun x hx => if_neg (fun e => h (by rw [← e]; exact hx)))] at h1
    have h2 := sumN_at (f := fun i : Nat => if (i : Int) = (j : Int) then (1 : Int) else 0) (g := fun _ => 0) j hj (fun i _ hne => if_neg (by omega))
    rw [sumN_zero] at h2
    simp at h2
    omega
end Go.Proofs.Ytaboleeclpllpaa.M


namespace Go.Proofs.Ytaboleeclpllpaa.M
open Go.RowKit Go.Proofs.YtaboleeclpllpaaW.PrintWords Go.Proofs.YtaboleeclpllpaaW.PrintLast Go.Proofs.YtaboleeclpllpaaW.PrintMore Go.Proofs.Ytaboleeclpllpaa.P Go.Proofs.Ytaboleeclpllpaa.T
set_option linter.unusedVariables false
set_option linter.unusedSimpArgs false
theorem bit0 : ∀ s : Fin 256, ∀ i : Fin 8, Go.bits .and .i64 (shr .i64 ((s : Nat) : Int) ((i : Nat) : Int)) 1 = if (s : Nat).testBit i = true then 1 else 0 := by decide +kernel
theorem bit_test {s i : Nat} (hs : s < 256) (hi : i < 8) : Go.bits .and .i64 (shr .i64 (s : Int) (i : Int)) 1 = if s.testBit i = true then 1 else 0 := bit0 ⟨s, hs⟩ ⟨i, hi⟩
def upTo (l : List S48) (s : Nat) (j : Int) : Int := sumN l.length (fun i => if s.testBit i = true ∧ (lex l (i : Int) j ∨ (i : Int) = j) then timf l i else 0)
def onTime (l : List S48) (s : Nat) : Prop := ∀ j : Nat, j < l.length → s.testBit j = true → upTo l s (j : Int) ≤ duef l j
instance (l : List S48) (s : Nat) : Decidable (onTime l s) := by unfold onTime; exact Nat.decidableBallLT _ _
def inSet (l : List S48) (s : Nat) (i : Int) : Int := if s.testBit i.toNat = true then timf l i.toNat else 0
def fitL (l : List S48) (s : Nat) : Int → List Int → Bool
  | _, [] => true
  | a, x :: xs => if s.testBit x.toNat = true then (if a + timf l x.toNat > duef l x.toNat then false else fitL l s (a + timf l x.toNat) xs) else fitL l s a xs
theorem fitL_iff (l : List S48) (s : Nat) : ∀ (xs : List Int) (a : Int), fitL l s a xs = true ↔ ∀ p x q, xs = p ++ x :: q → s.testBit x.toNat = true → a + lsum (inSet l s) p + timf l x.toNat ≤ duef l x.toNat
  | [], a => by
    simp only [fitL, true_iff]
    intro p x q h
    have := congrArg List.length h
    simp at this
  | y :: ys, a => by
    rw [fitL]
    by_cases hb : s.testBit y.toNat = true
    · rw [if_pos hb]
      by_cases hc : a + timf l y.toNat > duef l y.toNat
      · rw [if_pos hc]
        constructor
        · intro h; cases h
        · intro h
          have := h [] y ys rfl hb
          simp only [lsum] at this
          omega
      · rw [if_neg hc, fitL_iff l s ys]
        constructor
        · intro h p x q he hx
          cases p with
          | nil =>
            simp only [List.nil_append, List.cons.injEq] at he
            rw [← he.1]
            simp only [lsum]
            omega
          | cons z p =>
            simp only [List.cons_append, List.cons.injEq] at he
            have := h p x q he.2 hx
            rw [lsum, ← he.1]
            have e : inSet l s y = timf l y.toNat := if_pos hb
            omega
        · intro h p x q he hx
          have := h (y :: p) x q (by rw [he]; rfl) hx
          rw [lsum] at this
          have e : inSet l s y = timf l y.toNat := if_pos hb
          omega
    · rw [if_neg hb, fitL_iff l s ys]
      have e : inSet l s y = 0 := if_neg hb
      constructor
      · intro h p x q he hx
        cases p with
        | nil =>
          simp only [List.nil_append, List.cons.injEq] at he
          rw [← he.1] at hx
          exact absurd hx hb
        | cons z p =>
          simp only [List.cons_append, List.cons.injEq] at he
          have := h p x q he.2 hx
          rw [lsum, ← he.1]
          omega
      · intro h p x q he hx
        have := h (y :: p) x q (by rw [he]; rfl) hx
        rw [lsum] at this
        omega
theorem upTo_split (l : List S48) (s : Nat) {p q : List Int} {x : Int} (h : dueOrder l = p ++ x :: q) (hx : s.testBit x.toNat = true) : upTo l s x = lsum (inSet l s) p + timf l x.toNat := by
  have hasc := dueOrder_asc l
  rw [h, List.pairwise_append] at hasc
  obtain ⟨_, h2, h3⟩ := hasc
  rw [List.pairwise_cons] at h2
  have hsum := dueOrder_sum l (fun i => if s.testBit i.toNat = true ∧ (lex l i x ∨ i = x) then timf l i.toNat else 0)
  have hU : upTo l s x = sumN l.length (fun i => if s.testBit ((i : Int)).toNat = true ∧ (lex l (i : Int) x ∨ (i : Int) = x) then timf l ((i : Int)).toNat else 0) := rfl
  rw [hU, ← hsum, h, lsum_append, lsum, if_pos ⟨hx, Or.inr rfl⟩, lsum_zero (xs := q) (fun y hy => if_neg (fun hc => by
    rcases hc.2 with hc | hc
    · exact lex_irrefl _ (lex_trans hc (h2.1 y hy))
    · rw [hc] at hy
      exact lex_irrefl _ (h2.1 x hy))), lsum_congr (g := inSet l s) (xs := p) (fun y hy => by
    show (if _ then _ else _) = inSet l s y
    unfold inSet
    have hl := h3 y hy x (by simp)
    by_cases hb : s.testBit y.toNat = true
    · rw [if_pos hb, if_pos ⟨hb, Or.inl hl⟩]
    · rw [if_neg hb, if_neg (fun hc => hb hc.1)])]
  omega
theorem fitL_onTime (l : List S48) (s : Nat) : fitL l s 0 (dueOrder l) = decide (onTime l s) := by
  have hiff : fitL l s 0 (dueOrder l) = true ↔ onTime l s := by
    rw [fitL_iff]
    constructor
    · intro h j hj hb
      obtain ⟨p, q, he⟩ := List.append_of_mem (dueOrder_mem l hj)
      have := h p j q he (by simpa using hb)
      have e := upTo_split l s he (by simpa using hb)
      rw [e]
      simpa using this
    · intro h p x q he hx
      have hin := dueOrder_in l x (by rw [he]; simp)
      have := h x.toNat (by omega) hx
      have e := upTo_split l s he hx
      rw [show ((x.toNat : Nat) : Int) = x by omega, e] at this
      omega
  cases hb : fitL l s 0 (dueOrder l) with
  | true => exact (decide_eq_true (hiff.1 hb)).symm
  | false => exact (decide_eq_false (fun h => by rw [hiff.2 h] at hb; cases hb)).symm
theorem dueOrder_length (l : List S48) : (dueOrder l).length = l.length := by
  have h := dueOrder_sum l (fun _ => 1)
  have h1 : ∀ xs : List Int, lsum (fun _ => 1) xs = (xs.length : Int) := by
    intro xs
    induction xs with
    | nil => rfl
    | cons x xs ih => rw [lsum, ih, List.length_cons]; omega
  have h2 : ∀ n : Nat, sumN n (fun _ => 1) = (n : Int) := by
    intro n
    induction n with
    | zero => rfl
    | succ n ih => simp only [sumN]; omega
  rw [h1, h2] at h
  omega
theorem fits_loop (l : List S48) (hv : valid48 l = true) (s : Nat) (hs : s < 256) (o : List Int) (ho : ∀ x ∈ o, 0 ≤ x ∧ x < (l.length : Int)) (hlen8 : o.length ≤ 8) : ∀ (d i : Nat) (a : Int), i + d = o.length → 0 ≤ a → a ≤ 20 * i →
    Ev (fun k => dates_jobs_fits.l0 k l (s : Int) a o (o.length : Int) (i : Int)) (fitL l s a (o.drop i)) := by
  have hlen := valid_len hv
  intro d
  induction d with
  | zero =>
    intro i a hi h0 h1
    rw [show i = o.length by omega, List.drop_length]
    refine Ev.step (f := fun _ => some true) (fun k => ?_) (Ev.now _)
    simp only [dates_jobs_fits.l0]
    rw [if_neg (by omega)]
  | succ d ih =>
    intro i a hi h0 h1
    have hlt : i < o.length := by omega
    have hx := ho _ (List.getElem_mem hlt)
    rw [List.drop_eq_getElem_cons hlt, fitL]
    have hbit := bit_test (s := s) (i := (o[i]).toNat) hs (by omega)
    rw [show (((o[i]).toNat : Nat) : Int) = o[i] by omega] at hbit
    have hrd : rd_T48 l o[i] = jb l (o[i]).toNat := by
      have := rd48 l (o[i]).toNat (by omega)
      rw [show (((o[i]).toNat : Nat) : Int) = o[i] by omega] at this
      rw [this, jb_get (by omega)]
    have hjv := valid_jb hv (i := (o[i]).toNat) (by omega)
    have e0 : (jb l (o[i]).toNat).f0 = timf l (o[i]).toNat := rfl
    have e2 : (jb l (o[i]).toNat).f2 = duef l (o[i]).toNat := rfl
    rw [e0, e2] at hjv
    by_cases hb : s.testBit (o[i]).toNat = true
    · rw [if_pos hb]
      rw [if_pos hb] at hbit
      by_cases hc : a + timf l (o[i]).toNat > duef l (o[i]).toNat
      · rw [if_pos hc]
        refine Ev.step (f := fun _ => some false) (fun k => ?_) (Ev.now _)
        simp only [dates_jobs_fits.l0]
        rw [if_pos (by omega), if_pos (by omega), if_pos (by omega), rd_nat o i hlt, if_pos hx.1, hbit, if_neg (by decide), if_pos hx.2, hrd, e0, e2, w64 (by omega) (by omega), if_pos hc]
      · rw [if_neg hc]
        refine Ev.step (fun k => ?_) (ih (i + 1) (a + timf l (o[i]).toNat) (by omega) (by omega) (by omega))
        simp only [dates_jobs_fits.l0]
        rw [if_pos (by omega), if_pos (by omega), if_pos (by omega), rd_nat o i hlt, if_pos hx.1, hbit, if_neg (by decide), if_pos hx.2, hrd, e0, e2, w64 (by omega) (by omega), if_neg hc, w64s i o.length hlt (by omega)]
    · rw [if_neg hb]
      rw [if_neg hb] at hbit
      refine Ev.step (fun k => ?_) (ih (i + 1) a (by omega) h0 (by omega))
      simp only [dates_jobs_fits.l0]
      rw [if_pos (by omega), if_pos (by omega), if_pos (by omega), rd_nat o i hlt, if_pos hx.1, hbit, if_pos rfl, w64s i o.length hlt (by omega)]
theorem fits_f (l : List S48) (hv : valid48 l = true) (s : Nat) (hs : s < 256) : Ev (fun k => dates_jobs_fits.f k l (s : Int)) (decide (onTime l s)) := by
  have hlen := valid_len hv
  have hol := dueOrder_length l
  unfold dates_jobs_fits.f
  simp only [byDue_f l hlen.1 (by omega), Option.bind_some]
  rw [← fitL_onTime]
  exact fits_loop l hv s hs (dueOrder l) (dueOrder_in l) (by omega) (dueOrder l).length 0 0 (by omega) (by omega) (by omega)
end Go.Proofs.Ytaboleeclpllpaa.M


namespace Go.Proofs.Ytaboleeclpllpaa.M
open Go.RowKit Go.Proofs.YtaboleeclpllpaaW.PrintWords Go.Proofs.YtaboleeclpllpaaW.PrintLast Go.Proofs.YtaboleeclpllpaaW.PrintMore Go.Proofs.Ytaboleeclpllpaa.P Go.Proofs.Ytaboleeclpllpaa.T
set_option linter.unusedVariables false
set_option linter.unusedSimpArgs false
end Go.Proofs.Ytaboleeclpllpaa.M


namespace Go.Proofs.Ytaboleeclpllpaa.M
open Go.RowKit Go.Proofs.YtaboleeclpllpaaW.PrintWords Go.Proofs.YtaboleeclpllpaaW.PrintLast Go.Proofs.YtaboleeclpllpaaW.PrintMore Go.Proofs.Ytaboleeclpllpaa.P
set_option linter.unusedVariables false
set_option linter.unusedSimpArgs false
def put (s i : Nat) : Nat := s ||| (1 <<< i)
def pc (s : Nat) : Nat := ((List.range 8).filter fun i => s.testBit i).length
theorem or_put0 : ∀ s : Fin 256, ∀ i : Fin 8, Go.bits .or .i64 ((s : Nat) : Int) (shl .i64 1 ((i : Nat) : Int)) = ((put s i : Nat) : Int) := by decide +kernel
theorem put_lt0 : ∀ s : Fin 256, ∀ i : Fin 8, put s i < 256 := by decide +kernel
theorem put_pc0 : ∀ s : Fin 256, ∀ i : Fin 8, pc (put s i) = pc s + (if (s : Nat).testBit i = true then 0 else 1) := by decide +kernel
theorem full0 : ∀ n : Fin 9, ∀ s : Fin 256, (s : Nat) < 2 ^ (n : Nat) → (pc s = n ↔ (s : Nat) = 2 ^ (n : Nat) - 1) := by decide +kernel
theorem full_shl0 : ∀ n : Fin 9, wrap64 ((shl .i64 1 ((n : Nat) : Int)) - 1) = ((2 ^ (n : Nat) - 1 : Nat) : Int) := by decide +kernel
theorem put_pow0 : ∀ n : Fin 9, ∀ s : Fin 256, ∀ i : Fin 8, (i : Nat) < n → (s : Nat) < 2 ^ (n : Nat) → put s i < 2 ^ (n : Nat) := by decide +kernel
theorem or_put {s i : Nat} (hs : s < 256) (hi : i < 8) : Go.bits .or .i64 (s : Int) (shl .i64 1 (i : Int)) = ((put s i : Nat) : Int) := or_put0 ⟨s, hs⟩ ⟨i, hi⟩
theorem put_lt {s i : Nat} (hs : s < 256) (hi : i < 8) : put s i < 256 := put_lt0 ⟨s, hs⟩ ⟨i, hi⟩
theorem put_pc {s i : Nat} (hs : s < 256) (hi : i < 8) : pc (put s i) = pc s + (if s.testBit i = true then 0 else 1) := put_pc0 ⟨s, hs⟩ ⟨i, hi⟩
theorem full_pc {n s : Nat} (hn : n ≤ 8) (hs : s < 2 ^ n) : pc s = n ↔ s = 2 ^ n - 1 := by
  have h8 : 2 ^ n ≤ 2 ^ 8 := Nat.pow_le_pow_right (by omega) hn
  exact full0 ⟨n, by omega⟩ ⟨s, by omega⟩ hs
theorem full_shl {n : Nat} (hn : n ≤ 8) : wrap64 ((shl .i64 1 (n : Int)) - 1) = ((2 ^ n - 1 : Nat) : Int) := full_shl0 ⟨n, by omega⟩
theorem put_pow {n s i : Nat} (hn : n ≤ 8) (hi : i < n) (hs : s < 2 ^ n) : put s i < 2 ^ n := by
  have h8 : 2 ^ n ≤ 2 ^ 8 := Nat.pow_le_pow_right (by omega) hn
  exact put_pow0 ⟨n, by omega⟩ ⟨s, by omega⟩ ⟨i, by omega⟩ hi hs
def inN (n : Nat) (x : Int) : Bool := decide (0 ≤ x ∧ x < (n : Int))
def fresh : Nat → List Int → Bool
  | _, [] => true
  | s, x :: xs => !s.testBit x.toNat && fresh (put s x.toNat) xs
def setAll : Nat → List Int → Nat
  | s, [] => s
  | s, x :: xs => setAll (put s x.toNat) xs
def orderB (n : Nat) (o : List Int) : Bool := decide (o.length = n) && o.all (inN n) && fresh 0 o
theorem inN_iff {n : Nat} {x : Int} : inN n x = true ↔ 0 ≤ x ∧ x < (n : Int) := by simp [inN]
theorem setAll_lt {n : Nat} (hn : n ≤ 8) : ∀ (o : List Int) (s : Nat), o.all (inN n) = true → s < 2 ^ n → setAll s o < 2 ^ n
  | [], s, _, hs => hs
  | x :: xs, s, h, hs => by
    rw [List.all_cons, Bool.and_eq_true, inN_iff] at h
    exact setAll_lt hn xs _ h.2 (put_pow hn (by omega) hs)
theorem pow8 {n : Nat} (hn : n ≤ 8) : 2 ^ n ≤ 256 := Nat.pow_le_pow_right (n := 2) (by omega) hn
theorem setAll_pc {n : Nat} (hn : n ≤ 8) : ∀ (o : List Int) (s : Nat), o.all (inN n) = true → s < 2 ^ n → pc (setAll s o) ≤ pc s + o.length ∧ (pc (setAll s o) = pc s + o.length ↔ fresh s o = true)
  | [], s, _, hs => by simp [setAll, fresh]
  | x :: xs, s, h, hs => by
    rw [List.all_cons, Bool.and_eq_true, inN_iff] at h
    have h8 := pow8 hn
    obtain ⟨ih1, ih2⟩ := setAll_pc hn xs (put s x.toNat) h.2 (put_pow hn (by omega) hs)
    rw [put_pc (by omega) (by omega)] at ih1 ih2
    simp only [setAll, fresh, List.length_cons]
    cases hb : s.testBit x.toNat with
    | true =>
      simp only [hb, if_true] at ih1 ih2
      simp
      omega
    | false =>
      simp only [hb, Bool.false_eq_true, if_false] at ih1 ih2
      simp
      rw [← ih2]
      omega
theorem order_loop (l : List S48) (o1 o : List Int) (hn : l.length ≤ 8) (hl : o.length ≤ 9223372036854775807) : ∀ (d i s : Nat), i + d = o.length → s < 2 ^ l.length →
    Ev (fun k => dates_jobs_order.l0 k l o1 (s : Int) o (o.length : Int) (i : Int)) ((o.drop i).all (inN l.length) && decide (o1.length = l.length) && decide (setAll s (o.drop i) = 2 ^ l.length - 1)) := by
  intro d
  induction d with
  | zero =>
    intro i s hi hs
    rw [show i = o.length by omega, List.drop_length]
    by_cases h1 : o1.length = l.length
    · refine Ev.step (f := fun _ => some ((s : Int) == ((2 ^ l.length - 1 : Nat) : Int))) (fun k => ?_) ?_
      · simp only [dates_jobs_order.l0]
        rw [if_neg (by omega), if_pos (by omega), full_shl hn]
      · have : ((s : Int) == ((2 ^ l.length - 1 : Nat) : Int)) = decide (setAll s [] = 2 ^ l.length - 1) := by
          rw [Bool.beq_eq_decide_eq]
          exact decide_eq_decide.2 (by simp only [setAll]; omega)
        rw [this]
        simp [h1]
        exact Ev.now _
    · refine Ev.step (f := fun _ => some false) (fun k => ?_) ?_
      · simp only [dates_jobs_order.l0]
        rw [if_neg (by omega), if_neg (by omega)]
      · simp [h1]
        exact Ev.now _
  | succ d ih =>
    intro i s hi hs
    have h8 := pow8 hn
    have hlt : i < o.length := by omega
    rw [List.drop_eq_getElem_cons hlt, List.all_cons]
    by_cases h0 : o[i] < 0
    · refine Ev.step (f := fun _ => some false) (fun k => ?_) ?_
      · simp only [dates_jobs_order.l0]
        rw [if_pos (by omega), if_pos (by omega), if_pos (by omega), rd_nat o i hlt, if_pos h0]
      · have : inN l.length o[i] = false := by simp [inN]; omega
        rw [this]
        exact Ev.now _
    · by_cases h1 : o[i] ≥ (l.length : Int)
      · refine Ev.step (f := fun _ => some false) (fun k => ?_) ?_
        · simp only [dates_jobs_order.l0]
          rw [if_pos (by omega), if_pos (by omega), if_pos (by omega), rd_nat o i hlt, if_neg h0, if_pos h1]
        · have : inN l.length o[i] = false := by simp [inN]; omega
          rw [this]
          exact Ev.now _
      · have hx : inN l.length o[i] = true := by simp [inN]; omega
        have hr := ih (i + 1) (put s o[i].toNat) (by omega) (put_pow hn (by omega) hs)
        rw [hx, Bool.true_and]
        refine Ev.step (fun k => ?_) hr
        simp only [dates_jobs_order.l0]
        rw [if_pos (by omega), if_pos (by omega), if_pos (by omega), rd_nat o i hlt, if_neg h0, if_neg h1, if_pos (by omega), w64s i o.length hlt hl]
        congr 1
        have ho := or_put (s := s) (i := o[i].toNat) (by omega) (by omega)
        rw [show ((o[i].toNat : Nat) : Int) = o[i] by omega] at ho
        exact ho
theorem order_f (l : List S48) (o : List Int) (hn : l.length ≤ 8) (hl : o.length ≤ 9223372036854775807) : Ev (fun k => dates_jobs_order.f k l o) (orderB l.length o) := by
  unfold dates_jobs_order.f
  have h := order_loop l o o hn hl o.length 0 0 (by omega) (Nat.two_pow_pos _)
  have he : orderB l.length o = ((o.drop 0).all (inN l.length) && decide (o.length = l.length) && decide (setAll 0 (o.drop 0) = 2 ^ l.length - 1)) := by
    rw [List.drop_zero]
    unfold orderB
    cases ha : o.all (inN l.length) with
    | false => simp
    | true =>
      by_cases hc : o.length = l.length
      · obtain ⟨_, h2⟩ := setAll_pc hn o 0 ha (Nat.two_pow_pos _)
        have h3 := full_pc hn (setAll_lt hn o 0 ha (Nat.two_pow_pos _))
        rw [show pc 0 = 0 from rfl, hc, Nat.zero_add] at h2
        simp only [hc, decide_true, Bool.true_and]
        cases hf : fresh 0 o with
        | true => rw [decide_eq_true (h3.1 (h2.2 hf))]
        | false =>
          rw [decide_eq_false]
          intro hh
          rw [h2.1 (h3.2 hh)] at hf
          cases hf
      · simp [hc]
  rw [he]
  exact h
def rowFrom (l : List S48) : Int → List Int → List Int → List Int
  | _, acc, [] => acc
  | now, acc, x :: xs => rowFrom l (now + (jb l x.toNat).f0) (acc.set x.toNat (now + (jb l x.toNat).f0)) xs
def rowOf (l : List S48) (o : List Int) : List Int := rowFrom l 0 (List.replicate l.length 0) o
theorem rowFrom_length (l : List S48) : ∀ (o acc : List Int) (now : Int), (rowFrom l now acc o).length = acc.length
  | [], _, _ => rfl
  | x :: xs, acc, now => by rw [rowFrom, rowFrom_length, List.length_set]
theorem rowOf_length (l : List S48) (o : List Int) : (rowOf l o).length = l.length := by rw [rowOf, rowFrom_length, List.length_replicate]
theorem time_le {l : List S48} (hv : valid48 l = true) (i : Nat) : 0 ≤ (jb l i).f0 ∧ (jb l i).f0 ≤ 20 := by
  by_cases h : i < l.length
  · rw [jb_get h]
    simp only [valid48, Bool.and_eq_true, List.all_eq_true, decide_eq_true_eq] at hv
    have := hv.2 l[i] (List.getElem_mem h)
    simp only [ok48, decide_eq_true_eq] at this
    omega
  · simp [jb, List.getD_eq_getElem?_getD, List.getElem?_eq_none (Nat.le_of_not_lt h), z48]
theorem ends_loop (l : List S48) (hv : valid48 l = true) (o : List Int) (ha : o.all (inN l.length) = true) (hl : o.length ≤ 1000000) : ∀ (d i : Nat) (acc : List Int) (now : Int), i + d = o.length → acc.length = l.length → 0 ≤ now → now ≤ 20 * i →
    Ev (fun k => dates_jobs_ends.l0 k l acc now o (o.length : Int) (i : Int)) (rowFrom l now acc (o.drop i)) := by
  intro d
  induction d with
  | zero =>
    intro i acc now hi hac h0 h1
    rw [show i = o.length by omega, List.drop_length]
    refine Ev.step (f := fun _ => some acc) (fun k => ?_) (Ev.now _)
    simp only [dates_jobs_ends.l0]
    rw [if_neg (by omega)]
  | succ d ih =>
    intro i acc now hi hac h0 h1
    have hlt : i < o.length := by omega
    have hx := List.all_eq_true.1 ha o[i] (List.getElem_mem hlt)
    rw [inN_iff] at hx
    have ht := time_le hv o[i].toNat
    have hget : rd_T48 l o[i] = jb l o[i].toNat := by
      have := rd48 l o[i].toNat (by omega)
      rw [show ((o[i].toNat : Nat) : Int) = o[i] by omega] at this
      rw [this, jb_get (by omega)]
    rw [List.drop_eq_getElem_cons hlt, rowFrom]
    refine Ev.step (fun k => ?_) (ih (i + 1) (acc.set o[i].toNat (now + (jb l o[i].toNat).f0)) (now + (jb l o[i].toNat).f0) (by omega) (by rw [List.length_set, hac]) (by omega) (by omega))
    simp only [dates_jobs_ends.l0]
    rw [if_pos (by omega), if_pos (by omega), if_pos (by omega), rd_nat o i hlt, if_pos (by omega), if_pos (by omega), if_pos (by omega), w64s i o.length hlt (by omega), hget, w64 (by omega) (by omega)]
theorem ends_f (l : List S48) (hv : valid48 l = true) (o : List Int) (ha : o.all (inN l.length) = true) (hl : o.length ≤ 1000000) : Ev (fun k => dates_jobs_ends.f k l o) (rowOf l o) := by
  unfold dates_jobs_ends.f
  have hn : l.length ≤ 8 := by
    simp only [valid48, Bool.and_eq_true, decide_eq_true_eq] at hv
    exact hv.1.2
  simp only [if_pos (show (0 : Int) ≤ (l.length : Int) by omega), if_pos (show ((l.length : Int) : Int).toNat ≤ 35184372088832 by omega)]
  rw [show ((l.length : Int)).toNat = l.length by omega]
  exact ends_loop l hv o ha hl o.length 0 _ 0 (by omega) (by simp) (by omega) (by omega)
theorem orderB_all {n : Nat} {o : List Int} (h : orderB n o = true) : o.all (inN n) = true ∧ o.length = n := by
  simp only [orderB, Bool.and_eq_true, decide_eq_true_eq] at h
  exact ⟨h.1.2, h.1.1⟩
theorem Ends_f (l : List S48) (o : List Int) (hl : l.length ≤ 9223372036854775807) (ho : o.length ≤ 1000000) : Ev (fun k => dates_Ends.f k l o) (if (valid48 l && orderB l.length o) = true then (rowOf l o, 0) else ([], 2)) := by
  unfold dates_Ends.f
  refine Ev.bind (valid_f l hl) ?_
  cases hv : valid48 l with
  | false => simp; exact Ev.now _
  | true =>
    simp only [if_true, Bool.true_and]
    refine Ev.bind (order_f l o (valid_len hv).2 (by omega)) ?_
    cases hb : orderB l.length o with
    | false => simp; exact Ev.now _
    | true =>
      simp only [if_true]
      exact Ev.bind (ends_f l hv o (orderB_all hb).1 ho) (Ev.now _)
theorem mn_min (a b : Int) : mn a b = min a b := by unfold mn; omega
theorem list_f (o : List Int) : corrodylaw06_list.f o = some (o.take 10) := by
  unfold corrodylaw06_list.f slices_Clone_int_int.f
  rw [mn_min, if_pos (by omega), if_pos (by omega)]
  have : (min (o.length : Int) 10).toNat = min o.length 10 := by omega
  rw [this]
  simp only [Option.bind_some, List.length_nil, List.length_take, List.nil_append]
  rw [if_pos (by omega)]
  simp only [Option.bind_some]
  congr 1
  rcases Nat.le_total o.length 10 with h | h
  · rw [Nat.min_eq_left h, List.take_of_length_le h, List.take_of_length_le (Nat.le_refl _)]
  · rw [Nat.min_eq_right h]
theorem orderB_take {n : Nat} (hn : n ≤ 8) (o : List Int) : orderB n (o.take 10) = orderB n o := by
  by_cases h : o.length ≤ 10
  · rw [List.take_of_length_le h]
  · have h1 : decide ((o.take 10).length = n) = false := by simp; omega
    have h2 : decide (o.length = n) = false := by simp; omega
    unfold orderB
    rw [h1, h2]
    simp
theorem order_take {n : Nat} {o : List Int} (hn : n ≤ 8) (h : orderB n o = true) : o.take 10 = o := by
  have := (orderB_all h).2
  exact List.take_of_length_le (by omega)
end Go.Proofs.Ytaboleeclpllpaa.M


namespace Go.Proofs.Ytaboleeclpllpaa.M
open Go.RowKit Go.Proofs.YtaboleeclpllpaaW.PrintWords Go.Proofs.YtaboleeclpllpaaW.PrintLast Go.Proofs.YtaboleeclpllpaaW.PrintMore Go.Proofs.Ytaboleeclpllpaa.P Go.Proofs.Ytaboleeclpllpaa.T
set_option linter.unusedVariables false
set_option linter.unusedSimpArgs false
theorem ones0 : ∀ s : Fin 256, dates_Most_1.f ((s : Nat) : Int) = some ((pc s : Nat) : Int) := by decide +kernel
theorem ones_f {s : Nat} (hs : s < 256) : dates_Most_1.f (s : Int) = some ((pc s : Nat) : Int) := ones0 ⟨s, hs⟩
def wt (l : List S48) (s : Nat) : Int := sumN l.length (fun i => if s.testBit i = true then (jb l i).f3 else 0)
def wtN (l : List S48) (s n : Nat) : Int := sumN n (fun i => if s.testBit i = true then (jb l i).f3 else 0)
theorem wtN_bound {l : List S48} (hv : valid48 l = true) (s : Nat) : ∀ n : Nat, n ≤ l.length → 0 ≤ wtN l s n ∧ wtN l s n ≤ 20 * n
  | 0, _ => by simp [wtN, sumN]
  | n + 1, h => by
    have h1 := wtN_bound hv s n (by omega)
    have h2 := valid_jb hv (i := n) (by omega)
    unfold wtN at h1 ⊢
    simp only [sumN]
    split <;> omega
theorem weight_loop (l : List S48) (hv : valid48 l = true) (s : Nat) (hs : s < 256) : ∀ (d i : Nat), i + d = l.length → Ev (fun k => dates_jobs_weight.l0 k (s : Int) (wtN l s i) l (l.length : Int) (i : Int)) (wt l s) := by
  have hlen := valid_len hv
  intro d
  induction d with
  | zero =>
    intro i hi
    refine Ev.step (f := fun _ => some (wtN l s i)) (fun k => ?_) (by rw [show i = l.length by omega]; exact Ev.now _)
    simp only [dates_jobs_weight.l0]
    rw [if_neg (by omega)]
  | succ d ih =>
    intro i hi
    have hlt : i < l.length := by omega
    have hb := wtN_bound hv s i (by omega)
    have h2 := valid_jb hv hlt
    refine Ev.step (fun k => ?_) (ih (i + 1) (by omega))
    simp only [dates_jobs_weight.l0]
    rw [if_pos (by omega), if_pos (by omega), if_pos (by omega), bit_test hs (by omega), rd48 l i hlt, ← jb_get hlt, w64s i l.length hlt (by omega)]
    have e : wtN l s (i + 1) = wtN l s i + (if s.testBit i = true then (jb l i).f3 else 0) := rfl
    rw [e]
    by_cases c : s.testBit i = true
    · rw [if_pos c, if_pos c, Int.mul_one, w64 (x := (jb l i).f3) (by omega) (by omega), w64 (by omega) (by omega)]
    · rw [if_neg c, if_neg c, Int.mul_zero, w64 (x := 0) (by omega) (by omega), w64 (by omega) (by omega)]
theorem weight_f (l : List S48) (hv : valid48 l = true) (s : Nat) (hs : s < 256) : Ev (fun k => dates_jobs_weight.f k l (s : Int)) (wt l s) := by
  unfold dates_jobs_weight.f
  exact weight_loop l hv s hs l.length 0 (by omega)
def bestN (val : Nat → Int) (P : Nat → Prop) [DecidablePred P] : Nat → Nat → Nat → Nat
  | 0, _, best => best
  | m + 1, set, best => if val set > val best then (if P set then bestN val P m (set + 1) set else bestN val P m (set + 1) best) else bestN val P m (set + 1) best
theorem most_best (l : List S48) (hv : valid48 l = true) : ∀ (m set best : Nat), set + m ≤ 256 → best < 256 → Ev (fun k => dates_Most.bestL k l m set (best : Int)) ((bestN (fun s => ((pc s : Nat) : Int)) (onTime l) m set best : Nat) : Int)
  | 0, set, best, _, _ => Ev.now _
  | m + 1, set, best, h1, h2 => by
    simp only [dates_Most.bestL, ones_f (show set < 256 by omega), ones_f h2, Option.bind_some, bestN]
    by_cases c : ((pc set : Nat) : Int) > ((pc best : Nat) : Int)
    · simp only [if_pos c]
      refine Ev.bind (fits_f l hv set (by omega)) ?_
      by_cases p : onTime l set
      · simp only [decide_eq_true p, if_pos p, if_true]
        exact most_best l hv m (set + 1) set (by omega) (by omega)
      · simp only [decide_eq_false p, if_neg p, Bool.false_eq_true, if_false]
        exact most_best l hv m (set + 1) best (by omega) h2
    · simp only [if_neg c]
      exact most_best l hv m (set + 1) best (by omega) h2
theorem weigh_best (l : List S48) (hv : valid48 l = true) : ∀ (m set best : Nat), set + m ≤ 256 → best < 256 → Ev (fun k => dates_Weigh.bestL k l m set (best : Int)) ((bestN (wt l) (onTime l) m set best : Nat) : Int)
  | 0, set, best, _, _ => Ev.now _
  | m + 1, set, best, h1, h2 => by
    simp only [dates_Weigh.bestL, bestN]
    refine Ev.bind (weight_f l hv set (by omega)) ?_
    refine Ev.bind (weight_f l hv best h2) ?_
    by_cases c : wt l set > wt l best
    · simp only [if_pos c]
      refine Ev.bind (fits_f l hv set (by omega)) ?_
      by_cases p : onTime l set
      · simp only [decide_eq_true p, if_pos p, if_true]
        exact weigh_best l hv m (set + 1) set (by omega) (by omega)
      · simp only [decide_eq_false p, if_neg p, Bool.false_eq_true, if_false]
        exact weigh_best l hv m (set + 1) best (by omega) h2
    · simp only [if_neg c]
      exact weigh_best l hv m (set + 1) best (by omega) h2
theorem bestN_lt (val : Nat → Int) (P : Nat → Prop) [DecidablePred P] : ∀ (m set best b : Nat), set + m ≤ b → best < b → bestN val P m set best < b
  | 0, _, _, _, _, h => h
  | m + 1, set, best, b, h1, h2 => by
    rw [bestN]
    split
    · split
      · exact bestN_lt val P m (set + 1) set b (by omega) (by omega)
      · exact bestN_lt val P m (set + 1) best b (by omega) h2
    · exact bestN_lt val P m (set + 1) best b (by omega) h2
def mostOf (l : List S48) : Nat := bestN (fun s => ((pc s : Nat) : Int)) (onTime l) (2 ^ l.length) 0 0
def weighOf (l : List S48) : Nat := bestN (wt l) (onTime l) (2 ^ l.length) 0 0
theorem weighOf_lt (l : List S48) (h : l.length ≤ 8) : weighOf l < 256 := bestN_lt _ _ _ _ _ _ (by have := pow8 h; omega) (by omega)
theorem Most_f (l : List S48) (hl : l.length ≤ 9223372036854775807) : Ev (fun k => dates_Most.f k l) (if valid48 l = true then (((mostOf l : Nat) : Int), 0) else (0, 2)) := by
  unfold dates_Most.f
  refine Ev.bind (valid_f l hl) ?_
  cases hv : valid48 l with
  | false =>
    simp only [Bool.false_eq_true, if_false]
    exact Ev.now _
  | true =>
    have hlen := valid_len hv
    simp only [if_true, if_pos hlen.2]
    refine Ev.bind (most_best l hv (2 ^ l.length) 0 0 (by have := pow8 hlen.2; omega) (by omega)) ?_
    exact Ev.now _
theorem Weigh_f (l : List S48) (hl : l.length ≤ 9223372036854775807) : Ev (fun k => dates_Weigh.f k l) (if valid48 l = true then (((weighOf l : Nat) : Int), wt l (weighOf l), 0) else (0, 0, 2)) := by
  unfold dates_Weigh.f
  refine Ev.bind (valid_f l hl) ?_
  cases hv : valid48 l with
  | false =>
    simp only [Bool.false_eq_true, if_false]
    exact Ev.now _
  | true =>
    have hlen := valid_len hv
    simp only [if_true, if_pos hlen.2]
    refine Ev.bind (weigh_best l hv (2 ^ l.length) 0 0 (by have := pow8 hlen.2; omega) (by omega)) ?_
    refine Ev.bind (weight_f l hv (weighOf l) (weighOf_lt l hlen.2)) ?_
    exact Ev.now _
end Go.Proofs.Ytaboleeclpllpaa.M


namespace Go.Proofs.Ytaboleeclpllpaa.M
open Go.RowKit Go.Proofs.YtaboleeclpllpaaW.PrintWords Go.Proofs.YtaboleeclpllpaaW.PrintLast Go.Proofs.YtaboleeclpllpaaW.PrintMore Go.Proofs.Ytaboleeclpllpaa.P Go.Proofs.Ytaboleeclpllpaa.T
set_option linter.unusedVariables false
set_option linter.unusedSimpArgs false
def free (bs : List Int) (s i : Nat) : Bool := !s.testBit i && decide (Go.bits .andNot .i64 (rd bs (i : Int)) (s : Int) = 0)
theorem put_bit0 : ∀ s : Fin 256, ∀ i j : Fin 8, (put s i).testBit j = ((s : Nat).testBit j || decide ((j : Nat) = (i : Nat))) := by decide +kernel
theorem put_bit {s i j : Nat} (hs : s < 256) (hi : i < 8) (hj : j < 8) : (put s i).testBit j = (s.testBit j || decide (j = i)) := put_bit0 ⟨s, hs⟩ ⟨i, hi⟩ ⟨j, hj⟩
end Go.Proofs.Ytaboleeclpllpaa.M


namespace Go.Proofs.Ytaboleeclpllpaa.M
open Go.RowKit Go.Proofs.YtaboleeclpllpaaW.PrintWords Go.Proofs.YtaboleeclpllpaaW.PrintLast Go.Proofs.YtaboleeclpllpaaW.PrintMore Go.Proofs.Ytaboleeclpllpaa.P Go.Proofs.Ytaboleeclpllpaa.T
set_option linter.unusedVariables false
set_option linter.unusedSimpArgs false
end Go.Proofs.Ytaboleeclpllpaa.M


namespace Go.Proofs.Ytaboleeclpllpaa.M
open Go.RowKit Go.Proofs.YtaboleeclpllpaaW.PrintWords Go.Proofs.YtaboleeclpllpaaW.PrintLast Go.Proofs.YtaboleeclpllpaaW.PrintMore Go.Proofs.Ytaboleeclpllpaa.P Go.Proofs.Ytaboleeclpllpaa.T
set_option linter.unusedVariables false
set_option linter.unusedSimpArgs false
def castL (a : List Nat) : List Int := a.map (fun x : Nat => (x : Int))
end Go.Proofs.Ytaboleeclpllpaa.M


namespace Go.Proofs.Ytaboleeclpllpaa.M
open Go.RowKit Go.Proofs.YtaboleeclpllpaaW.PrintWords Go.Proofs.YtaboleeclpllpaaW.PrintLast Go.Proofs.YtaboleeclpllpaaW.PrintMore Go.Proofs.Ytaboleeclpllpaa.P Go.Proofs.Ytaboleeclpllpaa.T
set_option linter.unusedVariables false
set_option linter.unusedSimpArgs false
def maskOf (o : List Nat) (s : Nat) : Nat := o.foldl put s
theorem maskOf_lt {n : Nat} (hn : n ≤ 8) : ∀ (o : List Nat) (s : Nat), (∀ x, x ∈ o → x < n) → s < 2 ^ n → maskOf o s < 2 ^ n
  | [], _, _, h => h
  | x :: o, s, ho, h => maskOf_lt hn o (put s x) (fun y hy => ho y (List.mem_cons_of_mem _ hy)) (put_pow hn (ho x (List.mem_cons_self ..)) h)
theorem castL_length (o : List Nat) : (castL o).length = o.length := by simp [castL]
theorem tm_setR (a : List Int) (i j : Nat) (v : Int) (hi : i < a.length) : tm (a.set i v) j = if j = i then v else tm a j := by
  unfold tm
  rw [List.getD_eq_getElem?_getD, List.getD_eq_getElem?_getD, List.getElem?_set]
  by_cases h : i = j
  · subst h
    simp [hi]
  · rw [if_neg h, if_neg (fun e => h e.symm)]
theorem row_keep (l : List S48) : ∀ (o : List Nat) (acc : List Int) (now : Int) (j : Nat), (∀ x, x ∈ o → x < acc.length) → j ∉ o → tm (rowFrom l now acc (castL o)) j = tm acc j
  | [], _, _, _, _, _ => rfl
  | x :: o, acc, now, j, hx, hj => by
    show tm (rowFrom l (now + (jb l ((x : Int)).toNat).f0) (acc.set ((x : Int)).toNat (now + (jb l ((x : Int)).toNat).f0)) (castL o)) j = _
    rw [Int.toNat_natCast]
    rw [row_keep l o _ _ j (fun y hy => by rw [List.length_set]; exact hx y (List.mem_cons_of_mem _ hy)) (fun h => hj (List.mem_cons_of_mem _ h))]
    rw [tm_setR _ _ _ _ (hx x (List.mem_cons_self ..)), if_neg (fun e => hj (by rw [e]; exact List.mem_cons_self ..))]
def Whole (n : Nat) (o : List Nat) : Prop := o.Nodup ∧ (∀ x, x ∈ o → x < n) ∧ ∀ x, x < n → x ∈ o
end Go.Proofs.Ytaboleeclpllpaa.M


namespace Go.Proofs.Ytaboleeclpllpaa.M
open Go.RowKit Go.Proofs.YtaboleeclpllpaaW.PrintWords Go.Proofs.YtaboleeclpllpaaW.PrintLast Go.Proofs.YtaboleeclpllpaaW.PrintMore Go.Proofs.Ytaboleeclpllpaa.P Go.Proofs.Ytaboleeclpllpaa.T
set_option linter.unusedVariables false
set_option linter.unusedSimpArgs false
end Go.Proofs.Ytaboleeclpllpaa.M


namespace Go.Proofs.Ytaboleeclpllpaa.M
open Go.RowKit Go.Proofs.YtaboleeclpllpaaW.PrintWords Go.Proofs.YtaboleeclpllpaaW.PrintLast Go.Proofs.YtaboleeclpllpaaW.PrintMore Go.Proofs.Ytaboleeclpllpaa.P Go.Proofs.Ytaboleeclpllpaa.T
set_option linter.unusedVariables false
set_option linter.unusedSimpArgs false
def after (q : Option Pc) (x : Pc) : Prop := match q with
  | none => True
  | some y => y.f2 ≤ x.f1 ∧ ¬ (y.f2 = x.f1 ∧ y.f0 = x.f0)
instance (q : Option Pc) (x : Pc) : Decidable (after q x) := by unfold after; split <;> infer_instance
theorem sum_stretch {a b : Int} (ha : 0 ≤ a) (hab : a ≤ b) : ∀ H : Nat, sumN H (fun s => one (a ≤ (s : Int) ∧ (s : Int) < b)) = max 0 (min (H : Int) b - a) := by
  intro H
  induction H with
  | zero => simp [sumN]; omega
  | succ H ih =>
    simp only [sumN]
    rw [ih]
    by_cases h : a ≤ (H : Int) ∧ (H : Int) < b
    · rw [one_pos h]; omega
    · rw [one_neg h]; omega
end Go.Proofs.Ytaboleeclpllpaa.M


namespace Go.Proofs.Ytaboleeclpllpaa.T
set_option linter.unusedVariables false
set_option linter.unusedSimpArgs false
section
variable {n : Nat} {tim rel : Nat → Int} {u : Nat → Option Nat} {C : Nat → Int} {H : Nat}
theorem Sched.total (h : Sched n tim rel u C H) : sumN n C = sumN H (fun a => sumN n (fun j => one ((a : Int) < C j))) := by
  rw [← sumN_swap]
  refine sumN_congr (fun j hj => ?_)
  have hb := h.end_le hj
  have := Go.Proofs.Ytaboleeclpllpaa.M.sum_stretch (a := 0) (b := C j) (by omega) (by omega) H
  have e : sumN H (fun s => one (0 ≤ (s : Int) ∧ (s : Int) < C j)) = sumN H (fun s => one ((s : Int) < C j)) := sumN_congr (fun s _ => by
    by_cases hc : (s : Int) < C j
    · rw [one_pos hc, one_pos ⟨by omega, hc⟩]
    · rw [one_neg hc, one_neg (fun h => hc h.2)])
  rw [e] at this
  omega
end
section
variable {n : Nat} {tim rel : Nat → Int} {u v : Nat → Option Nat} {C D : Nat → Int} {H : Nat}
end
end Go.Proofs.Ytaboleeclpllpaa.T
namespace Go.Proofs.Ytaboleeclpllpaa.M
open Go.RowKit Go.Proofs.YtaboleeclpllpaaW.PrintWords Go.Proofs.YtaboleeclpllpaaW.PrintLast Go.Proofs.YtaboleeclpllpaaW.PrintMore Go.Proofs.Ytaboleeclpllpaa.P Go.Proofs.Ytaboleeclpllpaa.T
set_option linter.unusedVariables false
set_option linter.unusedSimpArgs false
end Go.Proofs.Ytaboleeclpllpaa.M


namespace Go.Proofs.Ytaboleeclpllpaa.M
open Go.RowKit Go.Proofs.YtaboleeclpllpaaW.PrintWords Go.Proofs.YtaboleeclpllpaaW.PrintLast Go.Proofs.YtaboleeclpllpaaW.PrintMore Go.Proofs.Ytaboleeclpllpaa.P Go.Proofs.Ytaboleeclpllpaa.T
set_option linter.unusedVariables false
set_option linter.unusedSimpArgs false
structure Slow (l x : List S48) (z : Nat) : Prop where
  len : x.length = l.length
  at_ : z < l.length
  up : timf x z = timf l z + 1
  keep : ∀ j, j ≠ z → timf x j = timf l j
  rel : ∀ j, relf x j = relf l j
  due : ∀ j, duef x j = duef l j
theorem Slow.le {l x : List S48} {z : Nat} (h : Slow l x z) (j : Nat) : timf l j ≤ timf x j := by
  by_cases c : j = z
  · rw [c, h.up]; omega
  · rw [h.keep j c]; exact Int.le_refl _
theorem not_full {n s : Nat} (hs : s < 2 ^ n) (h : s ≠ 2 ^ n - 1) : ∃ i, i < n ∧ s.testBit i = false := by
  by_cases c : ∃ i, i < n ∧ s.testBit i = false
  · exact c
  · exfalso
    apply h
    apply Nat.eq_of_testBit_eq
    intro i
    rw [Nat.testBit_two_pow_sub_one]
    by_cases hi : i < n
    · cases e : s.testBit i
      · exact absurd ⟨i, hi, e⟩ c
      · simp [hi]
    · rw [Nat.testBit_lt_two_pow (Nat.lt_of_lt_of_le hs (Nat.pow_le_pow_right (n := 2) (by omega) (by omega)))]
      simp [hi]
theorem bestN_max (val : Nat → Int) (P : Nat → Prop) [DecidablePred P] : ∀ (m set best : Nat), val best ≤ val (bestN val P m set best) ∧ (P best → P (bestN val P m set best)) ∧ ∀ s, set ≤ s → s < set + m → P s → val s ≤ val (bestN val P m set best)
  | 0, set, best => ⟨Int.le_refl _, id, fun s h1 h2 _ => by omega⟩
  | m + 1, set, best => by
    rw [bestN]
    by_cases c : val set > val best
    · rw [if_pos c]
      by_cases p : P set
      · rw [if_pos p]
        obtain ⟨a, b, d⟩ := bestN_max val P m (set + 1) set
        refine ⟨by omega, fun _ => b p, fun s h1 h2 h3 => ?_⟩
        by_cases e : s = set
        · rw [e]; exact a
        · exact d s (by omega) (by omega) h3
      · rw [if_neg p]
        obtain ⟨a, b, d⟩ := bestN_max val P m (set + 1) best
        refine ⟨a, b, fun s h1 h2 h3 => ?_⟩
        by_cases e : s = set
        · rw [e] at h3; exact absurd h3 p
        · exact d s (by omega) (by omega) h3
    · rw [if_neg c]
      obtain ⟨a, b, d⟩ := bestN_max val P m (set + 1) best
      refine ⟨a, b, fun s h1 h2 h3 => ?_⟩
      by_cases e : s = set
      · rw [e]; omega
      · exact d s (by omega) (by omega) h3
theorem onTime_zero (l : List S48) : onTime l 0 := fun j _ h => absurd h (by simp)
theorem most_on (l : List S48) : onTime l (mostOf l) := (bestN_max _ _ _ _ _).2.1 (onTime_zero l)
theorem most_max (l : List S48) {s : Nat} (hs : s < 2 ^ l.length) (h : onTime l s) : ((pc s : Nat) : Int) ≤ ((pc (mostOf l) : Nat) : Int) := (bestN_max (fun s => ((pc s : Nat) : Int)) (onTime l) (2 ^ l.length) 0 0).2.2 s (by omega) (by omega) h
theorem weigh_on (l : List S48) : onTime l (weighOf l) := (bestN_max _ _ _ _ _).2.1 (onTime_zero l)
theorem weigh_max (l : List S48) {s : Nat} (hs : s < 2 ^ l.length) (h : onTime l s) : wt l s ≤ wt l (weighOf l) := (bestN_max (wt l) (onTime l) (2 ^ l.length) 0 0).2.2 s (by omega) (by omega) h
theorem most_pow (l : List S48) : mostOf l < 2 ^ l.length := bestN_lt _ _ _ _ _ _ (by omega) (Nat.two_pow_pos _)
theorem weigh_pow (l : List S48) : weighOf l < 2 ^ l.length := bestN_lt _ _ _ _ _ _ (by omega) (Nat.two_pow_pos _)
end Go.Proofs.Ytaboleeclpllpaa.M


namespace Go.Proofs.Ytaboleeclpllpaa.M
open Go.RowKit Go.Proofs.YtaboleeclpllpaaW.PrintWords Go.Proofs.YtaboleeclpllpaaW.PrintLast Go.Proofs.YtaboleeclpllpaaW.PrintMore Go.Proofs.Ytaboleeclpllpaa.P Go.Proofs.Ytaboleeclpllpaa.T
set_option linter.unusedVariables false
set_option linter.unusedSimpArgs false
theorem castL_cons (x : Nat) (o : List Nat) : castL (x :: o) = (x : Int) :: castL o := rfl
theorem castL_append (p q : List Nat) : castL (p ++ q) = castL p ++ castL q := by simp [castL]
theorem castL_all {n : Nat} {o : List Nat} (h : ∀ x, x ∈ o → x < n) : (castL o).all (inN n) = true := by
  rw [List.all_eq_true]
  intro x hx
  obtain ⟨y, hy, rfl⟩ := List.mem_map.1 hx
  rw [inN_iff]
  have := h y hy
  omega
theorem castL_of {n : Nat} {o : List Int} (h : o.all (inN n) = true) : castL (o.map Int.toNat) = o ∧ ∀ x, x ∈ o.map Int.toNat → x < n := by
  rw [List.all_eq_true] at h
  constructor
  · unfold castL
    rw [List.map_map]
    conv => rhs; rw [← List.map_id o]
    refine List.map_congr_left (fun x hx => ?_)
    have := inN_iff.1 (h x hx)
    simp only [Function.comp, id]
    omega
  · intro x hx
    obtain ⟨y, hy, rfl⟩ := List.mem_map.1 hx
    have := inN_iff.1 (h y hy)
    omega
theorem setAll_mask : ∀ (o : List Nat) (s : Nat), setAll s (castL o) = maskOf o s
  | [], s => rfl
  | x :: o, s => by
    rw [castL_cons, setAll, Int.toNat_natCast, setAll_mask o]
    rfl
theorem mask_bit : ∀ (o : List Nat) (s i : Nat), s < 256 → (∀ x, x ∈ o → x < 8) → i < 8 → ((maskOf o s).testBit i = true ↔ s.testBit i = true ∨ i ∈ o)
  | [], s, i, _, _, _ => by simp [maskOf]
  | x :: o, s, i, hs, ho, hi => by
    have hx := ho x (List.mem_cons_self ..)
    show (maskOf o (put s x)).testBit i = true ↔ _
    rw [mask_bit o (put s x) i (put_lt hs hx) (fun y hy => ho y (List.mem_cons_of_mem _ hy)) hi, put_bit hs hx hi, List.mem_cons]
    simp only [Bool.or_eq_true, decide_eq_true_eq]
    constructor
    · rintro ((h | h) | h)
      · exact Or.inl h
      · exact Or.inr (Or.inl h)
      · exact Or.inr (Or.inr h)
    · rintro (h | h | h)
      · exact Or.inl (Or.inl h)
      · exact Or.inl (Or.inr h)
      · exact Or.inr h
theorem fresh_iff : ∀ (o : List Nat) (s : Nat), s < 256 → (∀ x, x ∈ o → x < 8) → (fresh s (castL o) = true ↔ o.Nodup ∧ ∀ x, x ∈ o → s.testBit x = false)
  | [], s, _, _ => by simp [fresh, castL]
  | x :: o, s, hs, ho => by
    have hx := ho x (List.mem_cons_self ..)
    have ho2 : ∀ y, y ∈ o → y < 8 := fun y hy => ho y (List.mem_cons_of_mem _ hy)
    rw [castL_cons, fresh, Int.toNat_natCast, Bool.and_eq_true, fresh_iff o (put s x) (put_lt hs hx) ho2, List.nodup_cons, Bool.not_eq_true']
    constructor
    · rintro ⟨h1, h2, h3⟩
      refine ⟨⟨fun hm => ?_, h2⟩, fun y hy => ?_⟩
      · have := h3 x hm
        rw [put_bit hs hx hx] at this
        simp at this
      · rcases List.mem_cons.1 hy with rfl | hy
        · exact h1
        · have := h3 y hy
          rw [put_bit hs hx (ho2 y hy), Bool.or_eq_false_iff] at this
          exact this.1
    · rintro ⟨⟨h1, h2⟩, h3⟩
      refine ⟨h3 x (List.mem_cons_self ..), h2, fun y hy => ?_⟩
      rw [put_bit hs hx (ho2 y hy), Bool.or_eq_false_iff]
      refine ⟨h3 y (List.mem_cons_of_mem _ hy), ?_⟩
      rw [decide_eq_false_iff_not]
      rintro rfl
      exact h1 hy
theorem mask_full {n : Nat} (hn : n ≤ 8) {o : List Nat} (hlt : ∀ x, x ∈ o → x < n) (hnd : o.Nodup) : pc (maskOf o 0) = o.length := by
  have h1 := (setAll_pc hn (castL o) 0 (castL_all hlt) (Nat.two_pow_pos _)).2.2 ((fresh_iff o 0 (by omega) (fun x hx => by have := hlt x hx; omega)).2 ⟨hnd, fun x _ => by simp⟩)
  rw [setAll_mask, castL_length] at h1
  have : pc 0 = 0 := by decide
  omega
theorem whole_length {n : Nat} (hn : n ≤ 8) {o : List Nat} (h : Whole n o) : o.length = n := by
  have h1 := mask_full hn h.2.1 h.1
  have hs := maskOf_lt hn o 0 h.2.1 (Nat.two_pow_pos _)
  have h8 := pow8 hn
  by_cases c : maskOf o 0 = 2 ^ n - 1
  · rw [← h1]
    exact (full_pc hn hs).2 c
  · exfalso
    obtain ⟨i, hi, hb⟩ := not_full hs c
    have := (mask_bit o 0 i (by omega) (fun x hx => by have := h.2.1 x hx; omega) (by omega)).2 (Or.inr (h.2.2 i hi))
    rw [hb] at this
    exact absurd this (by simp)
theorem whole_order {n : Nat} (hn : n ≤ 8) {o : List Nat} (h : Whole n o) : orderB n (castL o) = true := by
  unfold orderB
  rw [Bool.and_eq_true, Bool.and_eq_true, decide_eq_true_eq, castL_length]
  exact ⟨⟨whole_length hn h, castL_all h.2.1⟩, (fresh_iff o 0 (by omega) (fun x hx => by have := h.2.1 x hx; omega)).2 ⟨h.1, fun x _ => by simp⟩⟩
theorem order_whole {n : Nat} (hn : n ≤ 8) {o : List Int} (h : orderB n o = true) : ∃ q, o = castL q ∧ Whole n q := by
  obtain ⟨h1, h2⟩ := orderB_all h
  obtain ⟨e, hlt⟩ := castL_of h1
  refine ⟨o.map Int.toNat, e.symm, ?_⟩
  unfold orderB at h
  rw [Bool.and_eq_true] at h
  rw [← e] at h
  have hf := (fresh_iff (o.map Int.toNat) 0 (by omega) (fun x hx => by have := hlt x hx; omega)).1 h.2
  refine ⟨hf.1, hlt, fun x hx => ?_⟩
  have hp := mask_full hn hlt hf.1
  have hs := maskOf_lt hn (o.map Int.toNat) 0 hlt (Nat.two_pow_pos _)
  have hfull := (full_pc hn hs).1 (by rw [hp, List.length_map, h2])
  have hb := (mask_bit (o.map Int.toNat) 0 x (by omega) (fun y hy => by have := hlt y hy; omega) (by omega)).1 (by rw [hfull, Nat.testBit_two_pow_sub_one]; simpa using hx)
  rcases hb with hb | hb
  · simp at hb
  · exact hb
def nsum (g : Nat → Int) : List Nat → Int
  | [] => 0
  | x :: o => g x + nsum g o
theorem nsum_append (g : Nat → Int) : ∀ p q : List Nat, nsum g (p ++ q) = nsum g p + nsum g q
  | [], q => by simp [nsum]
  | x :: p, q => by rw [List.cons_append, nsum, nsum, nsum_append g p q]; omega
theorem nsum_congr {f g : Nat → Int} : ∀ {o : List Nat}, (∀ x, x ∈ o → f x = g x) → nsum f o = nsum g o
  | [], _ => rfl
  | x :: o, h => by rw [nsum, nsum, h x (List.mem_cons_self ..), nsum_congr (fun y hy => h y (List.mem_cons_of_mem _ hy))]
theorem nsum_zero {g : Nat → Int} {o : List Nat} (h : ∀ x, x ∈ o → g x = 0) : nsum g o = 0 := by
  rw [nsum_congr (g := fun _ => 0) h]
  clear h
  induction o with
  | nil => rfl
  | cons x o ih => rw [nsum, ih]; rfl
theorem nsum_sumN (g : Nat → Int) (n : Nat) : ∀ o : List Nat, o.Nodup → (∀ x, x ∈ o → x < n) → nsum g o = sumN n (fun i => if i ∈ o then g i else 0)
  | [], _, _ => by simp [nsum, sumN_zero]
  | x :: o, hn, hlt => by
    rw [List.nodup_cons] at hn
    have ih := nsum_sumN g n o hn.2 (fun y hy => hlt y (List.mem_cons_of_mem _ hy))
    have e := sumN_at (f := fun i => if i ∈ x :: o then g i else 0) (g := fun i => if i ∈ o then g i else 0) x (hlt x (List.mem_cons_self ..)) (fun i _ hne => by
      by_cases c : i ∈ o
      · rw [if_pos c, if_pos (List.mem_cons_of_mem _ c)]
      · rw [if_neg c, if_neg (fun h => by exact (List.mem_cons.1 h).elim hne c)])
    rw [nsum, ih, e, if_pos (List.mem_cons_self ..), if_neg hn.1]
    omega
theorem row_cons (l : List S48) (i : Nat) (o : List Nat) (acc : List Int) (now : Int) : rowFrom l now acc (castL (i :: o)) = rowFrom l (now + timf l i) (acc.set i (now + timf l i)) (castL o) := by
  show rowFrom l (now + (jb l ((i : Int)).toNat).f0) (acc.set ((i : Int)).toNat (now + (jb l ((i : Int)).toNat).f0)) (castL o) = _
  rw [Int.toNat_natCast]
  rfl
theorem row_at (l : List S48) (j : Nat) (q : List Nat) : ∀ (p : List Nat) (acc : List Int) (now : Int), (p ++ j :: q).Nodup → (∀ x, x ∈ p ++ j :: q → x < acc.length) → tm (rowFrom l now acc (castL (p ++ j :: q))) j = now + nsum (timf l) p + timf l j
  | [], acc, now, hn, hlt => by
    rw [List.nil_append] at hn hlt ⊢
    rw [List.nodup_cons] at hn
    rw [row_cons, row_keep l q _ _ j (fun x hx => by rw [List.length_set]; exact hlt x (List.mem_cons_of_mem _ hx)) hn.1, tm_setR _ _ _ _ (hlt j (List.mem_cons_self ..)), if_pos rfl, nsum]
    omega
  | x :: p, acc, now, hn, hlt => by
    rw [List.cons_append] at hn hlt ⊢
    rw [List.nodup_cons] at hn
    rw [row_cons, row_at l j q p _ _ hn.2 (fun y hy => by rw [List.length_set]; exact hlt y (List.mem_cons_of_mem _ hy)), nsum]
    omega
theorem row_sum (l : List S48) (ht : ∀ i, 0 ≤ timf l i) (b : Int) : ∀ (o : List Nat) (acc : List Int) (now : Int), o.Nodup → (∀ x, x ∈ o → x < acc.length) →
    nsum (fun i => if tm (rowFrom l now acc (castL o)) i ≤ b then timf l i else 0) o ≤ max 0 (b - now)
  | [], acc, now, _, _ => by simp [nsum]; omega
  | i :: o, acc, now, hn, hlt => by
    have hn0 := hn
    rw [List.nodup_cons] at hn
    have hlt2 : ∀ x, x ∈ o → x < (acc.set i (now + timf l i)).length := fun x hx => by rw [List.length_set]; exact hlt x (List.mem_cons_of_mem _ hx)
    have ih := row_sum l ht b o (acc.set i (now + timf l i)) (now + timf l i) hn.2 hlt2
    have hi : tm (rowFrom l now acc (castL (i :: o))) i = now + timf l i := by
      have := row_at l i o [] acc now hn0 hlt
      rw [List.nil_append, nsum] at this
      rw [this]
      omega
    rw [nsum]
    simp only [hi]
    have e : nsum (fun j => if tm (rowFrom l now acc (castL (i :: o))) j ≤ b then timf l j else 0) o = nsum (fun j => if tm (rowFrom l (now + timf l i) (acc.set i (now + timf l i)) (castL o)) j ≤ b then timf l j else 0) o := nsum_congr (fun j hj => by rw [row_cons])
    rw [e]
    have h0 := ht i
    split <;> omega
theorem timf_nn {l : List S48} (hv : valid48 l = true) (i : Nat) : 0 ≤ timf l i := (time_le hv i).1
theorem set_sum {l : List S48} (hv : valid48 l = true) {o : List Nat} (ho : Whole l.length o) (S : Nat → Prop) [DecidablePred S] {b : Int} (hb : 0 ≤ b) (hS : ∀ i, i < l.length → S i → tm (rowOf l (castL o)) i ≤ b) :
    sumN l.length (fun i => if S i then timf l i else 0) ≤ b := by
  have h1 := row_sum l (timf_nn hv) b o (List.replicate l.length 0) 0 ho.1 (fun x hx => by rw [List.length_replicate]; exact ho.2.1 x hx)
  have h2 := nsum_sumN (fun i => if tm (rowFrom l 0 (List.replicate l.length 0) (castL o)) i ≤ b then timf l i else 0) l.length o ho.1 ho.2.1
  have h3 : sumN l.length (fun i => if S i then timf l i else 0) ≤ sumN l.length (fun i => if i ∈ o then (if tm (rowFrom l 0 (List.replicate l.length 0) (castL o)) i ≤ b then timf l i else 0) else 0) := sumN_le (fun i hi => by
    rw [if_pos (ho.2.2 i hi)]
    have h0 := timf_nn hv i
    by_cases c : S i
    · have hSi : tm (rowFrom l 0 (List.replicate l.length 0) (castL o)) i ≤ b := hS i hi c
      rw [if_pos c, if_pos hSi]
      exact Int.le_refl _
    · rw [if_neg c]
      split <;> omega)
  omega
theorem mem_fold {lt : Int → Int → Bool} {x : Int} : ∀ (xs r : List Int), x ∈ xs.foldl (insRev lt) r ↔ x ∈ r ∨ x ∈ xs
  | [], r => by simp
  | y :: xs, r => by
    rw [List.foldl_cons, mem_fold xs, mem_insRev, List.mem_cons]
    constructor
    · rintro ((h | h) | h)
      · exact Or.inr (Or.inl h)
      · exact Or.inl h
      · exact Or.inr (Or.inr h)
    · rintro (h | h | h)
      · exact Or.inl (Or.inr h)
      · exact Or.inl (Or.inl h)
      · exact Or.inr h
theorem desc_fold2 {l : List S48} : ∀ (xs r : List Int), r.Pairwise (fun a b => lex l b a) → (∀ x, x ∈ r → ∀ y, y ∈ xs → x < y) → xs.Pairwise (· < ·) → (xs.foldl (insRev (ltD l)) r).Pairwise (fun a b => lex l b a)
  | [], r, h, _, _ => h
  | y :: xs, r, h, hlt, hp => by
    rw [List.pairwise_cons] at hp
    rw [List.foldl_cons]
    refine desc_fold2 xs _ (desc_insRev h (fun x hx => hlt x hx y (List.mem_cons_self ..))) (fun x hx z hz => ?_) hp.2
    rcases mem_insRev.1 hx with rfl | hx
    · exact hp.1 z hz
    · exact hlt x hx z (List.mem_cons_of_mem _ hz)
theorem sort_lex (l : List S48) (xs : List Int) (hp : xs.Pairwise (· < ·)) : (dates_jobs_byDue.srt.sort (ltD l) xs).Pairwise (lex l) ∧ ∀ x, x ∈ dates_jobs_byDue.srt.sort (ltD l) xs ↔ x ∈ xs := by
  rw [sort_rev]
  refine ⟨?_, fun x => ?_⟩
  · rw [List.pairwise_reverse]
    exact desc_fold2 xs [] List.Pairwise.nil (fun x hx => absurd hx (by simp)) hp
  · rw [List.mem_reverse, mem_fold]
    simp
theorem lex_nodup {l : List S48} {o : List Nat} (h : (castL o).Pairwise (lex l)) : o.Nodup := by
  unfold castL at h
  rw [List.pairwise_map] at h
  exact h.imp (fun {a b} hab e => by subst e; exact lex_irrefl _ hab)
theorem lex_sum (l : List S48) (g : Nat → Int) {p q : List Nat} {j : Nat} (h : (castL (p ++ j :: q)).Pairwise (lex l)) : nsum g p + g j = nsum (fun i => if lex l (i : Int) (j : Int) ∨ i = j then g i else 0) (p ++ j :: q) := by
  unfold castL at h
  rw [List.pairwise_map, List.pairwise_append, List.pairwise_cons] at h
  obtain ⟨h1, ⟨h2, h3⟩, h4⟩ := h
  rw [nsum_append, nsum, if_pos (Or.inr rfl)]
  rw [nsum_congr (o := p) (f := fun i => if lex l (i : Int) (j : Int) ∨ i = j then g i else 0) (g := g) (fun i hi => if_pos (Or.inl (h4 i hi j (List.mem_cons_self ..))))]
  rw [nsum_zero (o := q) (g := fun i => if lex l (i : Int) (j : Int) ∨ i = j then g i else 0) (fun i hi => by
    rw [if_neg]
    rintro (c | c)
    · exact lex_irrefl _ (lex_trans c (h2 i hi))
    · subst c
      exact lex_irrefl _ (h2 i hi))]
  omega
end Go.Proofs.Ytaboleeclpllpaa.M


namespace Go.Proofs.Ytaboleeclpllpaa.Open
open Go.RowKit Go.ChangeShapes Go.WideShapes Go.Deep Go.Proofs.YtaboleeclpllpaaW.PrintWords Go.Proofs.Ytaboleeclpllpaa.P
set_option linter.unusedVariables false
set_option linter.unusedSimpArgs false
def wfi (x : Int) : Prop := -9223372036854775808 ≤ x ∧ x ≤ 9223372036854775807
theorem wfi_of {x : Int} (h : (Lit.int .i64 x).wf = true) : wfi x := by
  simp only [Lit.wf, Bool.and_eq_true, decide_eq_true_eq] at h
  exact ⟨h.1, h.2⟩
section
variable {H : Type} {enc : TypeId × Value → H} {W : World} {base : Nat} {spare : Nat → Bool} {held : Bool} {fuel : Nat} {y : DataW H × List MemPlace}
theorem open_i64 {t : TypeId} {P : Program} (hu : P.underlying t = some (.int .i64)) {cs : List Value} (h : DataW.trod enc P W base spare held fuel t cs = some y) : ∃ x : Int, cs = [.int .i64 x] ∧ wfi x := by
  obtain ⟨x, hx, _, hw⟩ := DataW.trod_int hu h
  exact ⟨x, hx, wfi_of hw⟩
theorem open_struct4 {P : Program} {e ti : TypeId} {f0 f1 f2 f3 : Field} (he : P.underlying e = some (.struct #[f0, f1, f2, f3])) (hC : P.cellsOf e = 4) (hu : P.underlying ti = some (.int .i64)) (hk : P.cellsOf ti = 1)
    (h0 : f0.type = ti ∧ f0.offset = 0) (h1 : f1.type = ti ∧ f1.offset = 1) (h2 : f2.type = ti ∧ f2.offset = 2) (h3 : f3.type = ti ∧ f3.offset = 3)
    {cs : List Value} (h : DataW.trod enc P W base spare held fuel e cs = some y) :
    ∃ x0 x1 x2 x3 : Int, cs = [.int .i64 x0, .int .i64 x1, .int .i64 x2, .int .i64 x3] ∧ wfi x0 ∧ wfi x1 ∧ wfi x2 ∧ wfi x3 := by
  obtain ⟨ys, n, _, _, hlen, hyl, hf⟩ := DataW.trod_struct he h
  rw [hC] at hlen
  match cs, hlen with
  | [c0, c1, c2, c3], _ =>
    match ys, hyl with
    | [y0, y1, y2, y3], _ =>
      have g0 := hf 0 f0 rfl
      have g1 := hf 1 f1 rfl
      have g2 := hf 2 f2 rfl
      have g3 := hf 3 f3 rfl
      rw [h0.1, h0.2, hk] at g0
      rw [h1.1, h1.2, hk] at g1
      rw [h2.1, h2.2, hk] at g2
      rw [h3.1, h3.2, hk] at g3
      obtain ⟨x0, e0, w0⟩ := open_i64 hu g0
      obtain ⟨x1, e1, w1⟩ := open_i64 hu g1
      obtain ⟨x2, e2, w2⟩ := open_i64 hu g2
      obtain ⟨x3, e3, w3⟩ := open_i64 hu g3
      simp at e0 e1 e2 e3
      exact ⟨x0, x1, x2, x3, by rw [e0, e1, e2, e3], w0, w1, w2, w3⟩
theorem open_rows {α : Type} {P : Program} (d : Kd α) (good : α → Prop) {t e : TypeId} (ht : P.underlying t = some (.slice e)) (hsz : P.cellsOf e = d.sz)
    (hel : ∀ (n : Nat) (cs : List Value) (y : DataW H × List MemPlace), DataW.trod enc P W base spare held n e cs = some y → ∃ x : α, d.K W x cs ∧ good x)
    {a : Option Addr} {len cap : Nat} {dd : DataW H} {ps : List MemPlace} (h : DataW.Trod enc P W base spare held t (.slice a len cap) dd ps) :
    ∃ l : List α, l.length = len ∧ Kd.C d W a len l ∧ len ≤ cap ∧ ∀ x ∈ l, good x := by
  obtain ⟨fuel, hf⟩ := h
  rcases open_slice ht hf with ⟨hcs, _⟩ | ⟨a', len', cap', m, n, D, Pl, hcs, _, hl, hm, hmm, _, hi⟩
  · simp [Value.cells] at hcs
    obtain ⟨rfl, rfl, rfl⟩ := hcs
    exact ⟨[], rfl, ⟨rfl, by omega, fun h => by omega⟩, Nat.le_refl _, fun x hx => by cases hx⟩
  · simp [Value.cells] at hcs
    obtain ⟨rfl, rfl, rfl⟩ := hcs
    have hlm : len ≤ m := by rw [hmm]; split <;> omega
    have hM : len ≤ 9223372036854775807 := by unfold maxLen at hm; omega
    have hx : ∀ k : Nat, k ≤ len → ∃ l : List α, l.length = k ∧ (∀ j p, l[j]? = some p → ∃ cs, W.cells? base (a'.add (j * P.cellsOf e)) (P.cellsOf e) = some cs ∧ d.K W p cs) ∧ ∀ x ∈ l, good x := by
      intro k
      induction k with
      | zero => exact fun _ => ⟨[], rfl, fun j p hj => by simp at hj, fun x hx => by cases hx⟩
      | succ k ih =>
        intro hk
        obtain ⟨l, hll, h1, h2⟩ := ih (by omega)
        obtain ⟨cs, hc, htr⟩ := hi k (by omega)
        obtain ⟨x, hK, hg⟩ := hel _ _ _ htr
        refine ⟨l ++ [x], by simp [hll], fun j p hj => ?_, fun z hz => ?_⟩
        · by_cases hjk : j < l.length
          · rw [List.getElem?_append_left hjk] at hj
            exact h1 j p hj
          · have hjl : j = l.length := by
              have := (List.getElem?_eq_some_iff.1 hj).1
              simp at this
              omega
            subst hjl
            simp at hj
            subst hj
            rw [hll]
            exact ⟨cs, hc, hK⟩
        · rcases List.mem_append.1 hz with hz | hz
          · exact h2 z hz
          · simp at hz
            subst hz
            exact hg
    obtain ⟨l, hll, h1, h2⟩ := hx len (Nat.le_refl _)
    refine ⟨l, hll, ⟨hll, hM, fun _ => ⟨a', rfl, fun j p hj => ?_⟩⟩, hl, h2⟩
    obtain ⟨cs, hc, hk⟩ := h1 j p hj
    obtain ⟨_, hcl, hat⟩ := World.cells?_some hc
    refine ⟨cs, by rw [hcl, hsz], hk, fun i u hu => ?_⟩
    have hil : i < P.cellsOf e := by have := (List.getElem?_eq_some_iff.1 hu).1; omega
    have := hat i hil
    rw [Go.Deep.add_add, hsz] at this
    rw [this, hu]
end
def W43 (x : S43) : Prop := wfi x.f0 ∧ wfi x.f1 ∧ wfi x.f2 ∧ wfi x.f3
section
variable {H : Type} {enc : TypeId × Value → H} {W : World} {base : Nat} {spare : Nat → Bool} {held : Bool} {a : Option Addr} {len cap : Nat} {dd : DataW H} {ps : List MemPlace}
theorem rows_43 (h : DataW.Trod enc Try.prog W base spare held 22 (.slice a len cap) dd ps) : ∃ l : List S43, l.length = len ∧ Kd.C k43 W a len l ∧ len ≤ cap ∧ ∀ x ∈ l, W43 x :=
  open_rows k43 W43 Try.underlying22 (by kernel_rfl) (fun n cs y hy => by
    obtain ⟨x0, x1, x2, x3, rfl, hw⟩ := open_struct4 Try.underlying43 (by kernel_rfl) Try.underlying3 (by kernel_rfl) ⟨rfl, rfl⟩ ⟨rfl, rfl⟩ ⟨rfl, rfl⟩ ⟨rfl, rfl⟩ hy
    exact ⟨⟨x0, x1, x2, x3⟩, k43_mk _ _, hw⟩) h
theorem rows_int (h : DataW.Trod enc Try.prog W base spare held 41 (.slice a len cap) dd ps) : ∃ l : List Int, l.length = len ∧ Kd.C (Kd.int .i64) W a len l ∧ len ≤ cap ∧ ∀ x ∈ l, wfi x :=
  open_rows (Kd.int .i64) wfi Try.underlying41 (by kernel_rfl) (fun n cs y hy => by
    obtain ⟨x, rfl, hw⟩ := open_i64 Try.underlying3 hy
    exact ⟨x, rfl, hw⟩) h
end
end Go.Proofs.Ytaboleeclpllpaa.Open


namespace Go.Proofs.Ytaboleeclpllpaa.M
open Go.RowKit Go.Proofs.YtaboleeclpllpaaW.PrintWords Go.Proofs.YtaboleeclpllpaaW.PrintLast Go.Proofs.YtaboleeclpllpaaW.PrintMore Go.Proofs.Ytaboleeclpllpaa.P Go.Proofs.Ytaboleeclpllpaa.T
set_option linter.unusedVariables false
set_option linter.unusedSimpArgs false
def pcN (s n : Nat) : Int := sumN n (fun i => if s.testBit i = true then 1 else 0)
theorem pcN0 : ∀ n : Fin 9, ∀ s : Fin 256, (s : Nat) < 2 ^ (n : Nat) → pcN s n = ((pc s : Nat) : Int) := by decide +kernel
theorem pcN_pc {n s : Nat} (hn : n ≤ 8) (hs : s < 2 ^ n) : pcN s n = ((pc s : Nat) : Int) := by
  have h8 := pow8 hn
  exact pcN0 ⟨n, by omega⟩ ⟨s, by omega⟩ hs
theorem pcN_bound (s : Nat) : ∀ n : Nat, 0 ≤ pcN s n ∧ pcN s n ≤ n
  | 0 => by simp [pcN, sumN]
  | n + 1 => by
    have h1 := pcN_bound s n
    unfold pcN at h1 ⊢
    simp only [sumN]
    split <;> omega
end Go.Proofs.Ytaboleeclpllpaa.M
namespace Go.Proofs.Ytaboleeclpllpaa.Pure
open Go.RowKit Go.Proofs.YtaboleeclpllpaaW.PrintWords Go.Proofs.YtaboleeclpllpaaW.PrintLast Go.Proofs.YtaboleeclpllpaaW.PrintMore Go.Proofs.Ytaboleeclpllpaa.P Go.Proofs.Ytaboleeclpllpaa.M Go.Proofs.Ytaboleeclpllpaa.T
set_option linter.unusedVariables false
set_option linter.unusedSimpArgs false
end Go.Proofs.Ytaboleeclpllpaa.Pure


namespace Go.Proofs.Ytaboleeclpllpaa.M.OnTime
open Go.RowKit Go.Proofs.YtaboleeclpllpaaW.PrintWords Go.Proofs.YtaboleeclpllpaaW.PrintLast Go.Proofs.YtaboleeclpllpaaW.PrintMore Go.Proofs.Ytaboleeclpllpaa.P Go.Proofs.Ytaboleeclpllpaa.T Go.Proofs.Ytaboleeclpllpaa.M
set_option linter.unusedVariables false
set_option linter.unusedSimpArgs false
theorem due43 (l : List S43) (x : Int) : (rd_T43 l x).f2 = duef (l.map to48) x.toNat ∧ (rd_T43 l x).f3 = (jb (l.map to48) x.toNat).f3 := by
  unfold duef jb rd_T43
  rw [List.getD_eq_getElem?_getD, List.getD_eq_getElem?_getD, List.getElem?_map]
  cases l[x.toNat]? <;> exact ⟨rfl, rfl⟩
theorem due_bound {L : List S48} (hv : valid48 L = true) (i : Nat) : 0 ≤ duef L i ∧ duef L i ≤ 200 := by
  by_cases h : i < L.length
  · have := valid_jb hv h
    unfold duef
    omega
  · simp [duef, jb, List.getD_eq_getElem?_getD, List.getElem?_eq_none (Nat.le_of_not_lt h), z48]
theorem lt_eq (l : List S43) (hv : valid48 (l.map to48) = true) : corrodylaw06_DatesOnTime_srt.lt l = ltD (l.map to48) := by
  funext x y
  unfold corrodylaw06_DatesOnTime_srt.lt ltD
  rw [(due43 l x).1, (due43 l y).1]
  have h1 := due_bound hv x.toNat
  have h2 := due_bound hv y.toNat
  rw [w64 (by omega) (by omega)]
  rw [decide_eq_decide]
  omega
def inL (s n : Nat) : List Nat := (List.range n).filter (fun i => s.testBit i)
def outL (s n : Nat) : List Nat := (List.range n).filter (fun i => !s.testBit i)
theorem split_eq (s n : Nat) (hs : s < 256) (hn : n ≤ 8) : ∀ (m i : Nat), i + m = n → ∀ (a b : List Int), corrodylaw06_DatesOnTime.split (s : Int) m i a b = (a ++ castL ((List.range' i m).filter (fun i => s.testBit i)), b ++ castL ((List.range' i m).filter (fun i => !s.testBit i)))
  | 0, i, _, a, b => by simp [corrodylaw06_DatesOnTime.split, castL]
  | m + 1, i, h, a, b => by
    rw [corrodylaw06_DatesOnTime.split, bit_test hs (by omega), List.range'_succ]
    by_cases c : s.testBit i = true
    · rw [if_pos (by rw [if_pos c]), split_eq s n hs hn m (i + 1) (by omega), List.filter_cons_of_pos c, List.filter_cons_of_neg (by simp [c]), castL_cons]
      simp
    · rw [if_neg (by rw [if_neg c]; omega), split_eq s n hs hn m (i + 1) (by omega), List.filter_cons_of_neg c, List.filter_cons_of_pos (by simpa using c), castL_cons]
      simp
theorem split_all (s n : Nat) (hs : s < 256) (hn : n ≤ 8) : corrodylaw06_DatesOnTime.split (s : Int) n 0 [] [] = (castL (inL s n), castL (outL s n)) := by
  rw [split_eq s n hs hn n 0 (by omega), ← List.range_eq_range']
  rfl
theorem castL_lt {o : List Nat} (h : o.Pairwise (· < ·)) : (castL o).Pairwise (· < ·) := by
  unfold castL
  rw [List.pairwise_map]
  exact h.imp (fun {a b} hab => by omega)
theorem inL_lt (s n : Nat) : (inL s n).Pairwise (· < ·) := List.Pairwise.filter _ List.pairwise_lt_range
theorem mem_inL {s n i : Nat} : i ∈ inL s n ↔ i < n ∧ s.testBit i = true := by
  unfold inL
  rw [List.mem_filter, List.mem_range]
theorem mem_outL {s n i : Nat} : i ∈ outL s n ↔ i < n ∧ s.testBit i = false := by
  unfold outL
  rw [List.mem_filter, List.mem_range]
  simp
theorem filter_sum (p : Nat → Bool) : ∀ n : Nat, (((List.range n).filter p).length : Int) = sumN n (fun i => if p i = true then 1 else 0)
  | 0 => rfl
  | n + 1 => by
    rw [List.range_succ, List.filter_append, List.length_append]
    simp only [sumN]
    have := filter_sum p n
    by_cases c : p n = true
    · rw [List.filter_cons_of_pos c, if_pos c]
      simp
      omega
    · rw [List.filter_cons_of_neg c, if_neg c]
      simp
      omega
theorem inL_pc {s n : Nat} (hn : n ≤ 8) (hs : s < 2 ^ n) : ((inL s n).length : Int) = ((pc s : Nat) : Int) := by
  rw [← pcN_pc hn hs]
  exact filter_sum _ n
theorem first_form (l : List S43) (hv : valid48 (l.map to48) = true) (s : Nat) (hs : s < 256) : ∃ f : List Nat, corrodylaw06_DatesOnTime.first l (s : Int) = castL f ∧ (castL f).Pairwise (lex (l.map to48)) ∧ (∀ i, i ∈ f ↔ i < l.length ∧ s.testBit i = true) ∧ f.length = (inL s l.length).length ∧ corrodylaw06_DatesOnTime.rest l (s : Int) = castL (outL s l.length) := by
  have hlen := valid_len hv
  rw [List.length_map] at hlen
  have hsp := split_all s l.length hs hlen.2
  have hfe : corrodylaw06_DatesOnTime.first l (s : Int) = dates_jobs_byDue.srt.sort (ltD (l.map to48)) (castL (inL s l.length)) := by
    unfold corrodylaw06_DatesOnTime.first
    rw [hsp, lt_eq l hv]
  obtain ⟨h1, h2⟩ := sort_lex (l.map to48) (castL (inL s l.length)) (castL_lt (inL_lt s l.length))
  have hall : (corrodylaw06_DatesOnTime.first l (s : Int)).all (inN l.length) = true := by
    rw [List.all_eq_true]
    intro x hx
    rw [hfe, h2] at hx
    obtain ⟨y, hy, rfl⟩ := List.mem_map.1 hx
    have := (mem_inL.1 hy).1
    rw [inN_iff]
    omega
  obtain ⟨e, hlt⟩ := castL_of hall
  refine ⟨(corrodylaw06_DatesOnTime.first l (s : Int)).map Int.toNat, e.symm, ?_, ?_, ?_, ?_⟩
  · rw [e, hfe]
    exact h1
  · intro i
    rw [← mem_inL]
    have hc : ∀ o : List Nat, i ∈ o ↔ (i : Int) ∈ castL o := by
      intro o
      unfold castL
      rw [List.mem_map]
      constructor
      · exact fun h => ⟨i, h, rfl⟩
      · rintro ⟨y, hy, he⟩
        rw [show i = y by omega]
        exact hy
    rw [hc, e, hfe, h2, hc]
  · rw [List.length_map, hfe, corrodylaw06_DatesOnTime.sort_len, castL_length]
  · unfold corrodylaw06_DatesOnTime.rest
    rw [hsp]
theorem first_whole {n s : Nat} {f : List Nat} (hf : f.Nodup) (hm : ∀ i, i ∈ f ↔ i < n ∧ s.testBit i = true) : Whole n (f ++ outL s n) := by
  refine ⟨?_, ?_, ?_⟩
  · rw [List.nodup_append]
    refine ⟨hf, List.Pairwise.filter _ List.nodup_range, fun a ha b hb e => ?_⟩
    subst e
    have h1 := (hm a).1 ha
    have h2 := mem_outL.1 hb
    rw [h1.2] at h2
    exact absurd h2.2 (by simp)
  · intro x hx
    rcases List.mem_append.1 hx with h | h
    · exact ((hm x).1 h).1
    · exact (mem_outL.1 h).1
  · intro x hx
    rw [List.mem_append]
    cases e : s.testBit x
    · exact Or.inr (mem_outL.2 ⟨hx, e⟩)
    · exact Or.inl ((hm x).2 ⟨hx, e⟩)
theorem rd_tm (x : List Int) (j : Nat) : rd x (j : Int) = tm x j := by simp [rd, tm]
theorem round_f (l : List S43) (hv : valid48 (l.map to48) = true) (s : Nat) (hs : s < 2 ^ l.length) (hon : onTime (l.map to48) s) : Ev (fun k => corrodylaw06_DatesOnTime.round k l (l.map to48) (s : Int)) ((pc s : Nat) : Int) := by
  have hlen := valid_len hv
  have hmap : (l.map to48).length = l.length := List.length_map _
  rw [hmap] at hlen
  have h8 := pow8 hlen.2
  obtain ⟨f, h1, h2, h3, h4, h5⟩ := first_form l hv s (by omega)
  have hnd := lex_nodup h2
  have hw := first_whole hnd h3
  unfold corrodylaw06_DatesOnTime.round
  have ho : orderB l.length (corrodylaw06_DatesOnTime.first l (s : Int) ++ corrodylaw06_DatesOnTime.rest l (s : Int)) = true := by
    rw [h1, h5, ← castL_append]
    exact whole_order hlen.2 hw
  have hol := (orderB_all ho).2
  refine Ev.bind (Ends_f (l.map to48) (corrodylaw06_DatesOnTime.first l (s : Int) ++ corrodylaw06_DatesOnTime.rest l (s : Int)) (by omega) (by omega)) ?_
  simp only [hv, hmap, ho, Bool.and_self, if_true]
  have hlate : ∀ j ∈ corrodylaw06_DatesOnTime.first l (s : Int), rd (rowOf (l.map to48) (corrodylaw06_DatesOnTime.first l (s : Int) ++ corrodylaw06_DatesOnTime.rest l (s : Int))) j ≤ (rd_T43 l j).f2 := by
    intro j hj
    rw [h1] at hj
    obtain ⟨i, hi, rfl⟩ := List.mem_map.1 hj
    rw [h1, h5, ← castL_append, rd_tm, (due43 l _).1, Int.toNat_natCast]
    obtain ⟨p, q, rfl⟩ := List.append_of_mem hi
    have e : (p ++ i :: q) ++ outL s l.length = p ++ i :: (q ++ outL s l.length) := by simp
    rw [e] at hw ⊢
    show tm (rowFrom (l.map to48) 0 (List.replicate (l.map to48).length 0) (castL (p ++ i :: (q ++ outL s l.length)))) i ≤ _
    rw [row_at (l.map to48) i (q ++ outL s l.length) p _ 0 hw.1 (fun x hx => by rw [List.length_replicate, hmap]; exact hw.2.1 x hx)]
    have hin := (h3 i).1 hi
    have e1 := lex_sum (l.map to48) (timf (l.map to48)) h2
    rw [nsum_sumN _ l.length _ hnd (fun x hx => ((h3 x).1 hx).1)] at e1
    have hot := hon i (by omega) hin.2
    have e2 : upTo (l.map to48) s (i : Int) = sumN l.length (fun x => if x ∈ p ++ i :: q then (if lex (l.map to48) (x : Int) (i : Int) ∨ x = i then timf (l.map to48) x else 0) else 0) := by
      unfold upTo
      rw [hmap]
      refine sumN_congr (fun x hx => ?_)
      by_cases c : x ∈ p ++ i :: q
      · rw [if_pos c]
        by_cases d : lex (l.map to48) (x : Int) (i : Int) ∨ x = i
        · rw [if_pos d, if_pos ⟨((h3 x).1 c).2, d.imp id (fun h => by rw [h])⟩]
        · rw [if_neg d, if_neg (fun h => d (h.2.imp id (fun h => by omega)))]
      · rw [if_neg c, if_neg (fun h => c ((h3 x).2 ⟨hx, h.1⟩))]
    omega
  have hrl : (rowOf (l.map to48) (corrodylaw06_DatesOnTime.first l (s : Int) ++ corrodylaw06_DatesOnTime.rest l (s : Int))).length = l.length := by rw [rowOf_length, hmap]
  simp only [hrl, true_and, if_pos hlate]
  have hcount : ((corrodylaw06_DatesOnTime.first l (s : Int)).length : Int) = ((pc s : Nat) : Int) := by
    rw [h1, castL_length, h4]
    exact inL_pc hlen.2 hs
  rw [hcount]
  exact Ev.now _
theorem wl_f (l : List S43) (hv : valid48 (l.map to48) = true) (s : Nat) (hs : s < 256) : corrodylaw06_DatesOnTime.wl l (s : Int) l.length 0 0 = wt (l.map to48) s := by
  have hlen := valid_len hv
  have hmap : (l.map to48).length = l.length := List.length_map _
  have h : ∀ m i : Nat, i + m = l.length → corrodylaw06_DatesOnTime.wl l (s : Int) m i (wtN (l.map to48) s i) = wt (l.map to48) s := by
    intro m
    induction m with
    | zero =>
      intro i hi
      rw [corrodylaw06_DatesOnTime.wl, show i = (l.map to48).length by omega]
      rfl
    | succ m ih =>
      intro i hi
      have hb := wtN_bound hv s i (by omega)
      have h2 := valid_jb hv (i := i) (by omega)
      rw [corrodylaw06_DatesOnTime.wl, bit_test hs (by omega), (due43 l _).2, Int.toNat_natCast]
      have e : wtN (l.map to48) s (i + 1) = wtN (l.map to48) s i + (if s.testBit i = true then (jb (l.map to48) i).f3 else 0) := rfl
      have ih2 := ih (i + 1) (by omega)
      rw [e] at ih2
      by_cases c : s.testBit i = true
      · rw [if_pos c] at ih2 ⊢
        rw [Int.one_mul, w64 (x := (jb (l.map to48) i).f3) (by omega) (by omega), w64 (by omega) (by omega)]
        exact ih2
      · rw [if_neg c] at ih2 ⊢
        rw [Int.zero_mul, w64 (x := 0) (by omega) (by omega), w64 (by omega) (by omega)]
        exact ih2
  exact h l.length 0 (by omega)
def maskP (p : Nat → Bool) : Nat → Nat
  | 0 => 0
  | n + 1 => if p n = true then put (maskP p n) n else maskP p n
theorem maskP_lt (p : Nat → Bool) : ∀ {n m : Nat}, n ≤ m → m ≤ 8 → maskP p n < 2 ^ m
  | 0, m, _, _ => Nat.two_pow_pos _
  | n + 1, m, h, hm => by
    have := maskP_lt p (n := n) (m := m) (by omega) hm
    rw [maskP]
    split
    · exact put_pow hm (by omega) this
    · exact this
theorem maskP_bit (p : Nat → Bool) : ∀ {n i : Nat}, n ≤ 8 → i < 8 → (maskP p n).testBit i = (decide (i < n) && p i)
  | 0, i, _, _ => by simp [maskP]
  | n + 1, i, hn, hi => by
    have h1 := maskP_lt p (n := n) (m := n) (Nat.le_refl _) (by omega)
    have h8 := pow8 (show n ≤ 8 by omega)
    have ih := maskP_bit p (n := n) (i := i) (by omega) hi
    rw [maskP]
    by_cases c : p n = true
    · rw [if_pos c, put_bit (by omega) (by omega) hi, ih]
      by_cases e : i = n
      · subst e
        simp [c]
      · by_cases d : i < n
        · simp [d, e, show i < n + 1 by omega]
        · simp [d, e, show ¬ i < n + 1 by omega]
    · rw [if_neg c, ih]
      by_cases e : i = n
      · subst e
        simp [show p i = false by simpa using c]
      · by_cases d : i < n
        · simp [d, show i < n + 1 by omega]
        · simp [d, show ¬ i < n + 1 by omega]
theorem cl_f (l : List S43) (hv : valid48 (l.map to48) = true) (x : List Int) (S : Nat) (hS : ∀ i, i < l.length → S.testBit i = decide (tm x i ≤ duef (l.map to48) i)) : corrodylaw06_DatesOnTime.cl l x l.length 0 0 0 = (pcN S l.length, wt (l.map to48) S) := by
  have hlen := valid_len hv
  have hmap : (l.map to48).length = l.length := List.length_map _
  have h : ∀ m i : Nat, i + m = l.length → corrodylaw06_DatesOnTime.cl l x m i (pcN S i) (wtN (l.map to48) S i) = (pcN S l.length, wt (l.map to48) S) := by
    intro m
    induction m with
    | zero =>
      intro i hi
      rw [corrodylaw06_DatesOnTime.cl, show i = l.length by omega]
      unfold wt wtN
      rw [hmap]
    | succ m ih =>
      intro i hi
      have hb := wtN_bound hv S i (by omega)
      have hp := pcN_bound S i
      have h2 := valid_jb hv (i := i) (by omega)
      rw [corrodylaw06_DatesOnTime.cl, rd_tm, (due43 l _).1, (due43 l _).2, Int.toNat_natCast]
      have e1 : wtN (l.map to48) S (i + 1) = wtN (l.map to48) S i + (if S.testBit i = true then (jb (l.map to48) i).f3 else 0) := rfl
      have e2 : pcN S (i + 1) = pcN S i + (if S.testBit i = true then 1 else 0) := rfl
      have ih2 := ih (i + 1) (by omega)
      rw [e1, e2] at ih2
      have hSi := hS i (by omega)
      by_cases c : tm x i ≤ duef (l.map to48) i
      · rw [if_pos (by rw [hSi]; simpa using c), if_pos (by rw [hSi]; simpa using c)] at ih2
        rw [if_pos c, w64 (x := pcN S i + 1) (by omega) (by omega), w64 (by omega) (by omega)]
        exact ih2
      · rw [if_neg (by rw [hSi]; simpa using c), if_neg (by rw [hSi]; simpa using c), Int.add_zero, Int.add_zero] at ih2
        rw [if_neg c]
        exact ih2
  exact h l.length 0 (by omega)
theorem row_onTime {L : List S48} (hv : valid48 L = true) {o : List Nat} (ho : Whole L.length o) (S : Nat) (hS : ∀ i, i < L.length → S.testBit i = decide (tm (rowOf L (castL o)) i ≤ duef L i)) : onTime L S := by
  intro j hj hb
  have hd := due_bound hv j
  unfold upTo
  refine set_sum hv ho (fun i => S.testBit i = true ∧ (lex L (i : Int) (j : Int) ∨ (i : Int) = (j : Int))) hd.1 (fun i hi h => ?_)
  have h1 := h.1
  rw [hS i hi] at h1
  simp only [decide_eq_true_eq] at h1
  have h2 : duef L i ≤ duef L j := by
    rcases h.2 with c | c
    · unfold lex at c
      simp only [Int.toNat_natCast] at c
      omega
    · rw [show i = j by omega]; exact Int.le_refl _
  omega
end Go.Proofs.Ytaboleeclpllpaa.M.OnTime
namespace Go.Proofs.Ytaboleeclpllpaa.Pure
open Go.RowKit Go.Proofs.YtaboleeclpllpaaW.PrintWords Go.Proofs.YtaboleeclpllpaaW.PrintLast Go.Proofs.YtaboleeclpllpaaW.PrintMore Go.Proofs.Ytaboleeclpllpaa.P Go.Proofs.Ytaboleeclpllpaa.M Go.Proofs.Ytaboleeclpllpaa.T Go.Proofs.Ytaboleeclpllpaa.M.OnTime
set_option linter.unusedVariables false
set_option linter.unusedSimpArgs false
theorem DatesOnTime (l : List S43) (hl : l.length ≤ 9223372036854775807) (hg : ∀ x ∈ l, Open.W43 x) (o : List Int) (hol : o.length ≤ 9223372036854775807) (hog : ∀ x ∈ o, Open.wfi x) : ∃ k, corrodylaw06_DatesOnTime.f k l o = some true := by
  refine Ev.rounds (g := fun k => corrodylaw06_DatesOnTime.f k l o) ?_
  unfold corrodylaw06_DatesOnTime.f
  have hl10 : ((l.take 10).map to48).length ≤ 9223372036854775807 := by simp; omega
  refine Ev.bind (Of_f l hl) ?_
  refine Ev.bind (Most_f _ hl10) ?_
  refine Ev.bind (Weigh_f _ hl10) ?_
  cases hv : valid48 (l.map to48) with
  | false =>
    have hv' : valid48 ((l.take 10).map to48) = false := by rw [valid_of]; exact hv
    simp only [hv', Bool.false_eq_true, if_false, if_true]
    exact awake_f
  | true =>
    rw [of_valid hv]
    have hlen := valid_len hv
    have hmap : (l.map to48).length = l.length := List.length_map _
    rw [hmap] at hlen
    have h8 := pow8 hlen.2
    simp only [hv, if_true, show ¬ ((0 : Int) = 2) by decide, if_false, and_self]
    refine Ev.bind (refvalid_f l hl) ?_
    simp only [hv, true_and, if_pos hlen]
    have hmp := most_pow (l.map to48)
    have hwp := weigh_pow (l.map to48)
    rw [hmap] at hmp hwp
    have hr1 := round_f l hv _ hmp (most_on (l.map to48))
    have hr2 := round_f l hv _ hwp (weigh_on (l.map to48))
    have hgo : Ev (fun k => corrodylaw06_DatesOnTime.go2 k l (l.map to48) ((mostOf (l.map to48) : Nat) : Int) [((mostOf (l.map to48) : Nat) : Int), ((weighOf (l.map to48) : Nat) : Int)] 0) ((pc (mostOf (l.map to48)) : Nat) : Int) := by
      simp only [corrodylaw06_DatesOnTime.go2]
      refine Ev.bind hr1 (Ev.bind hr2 ?_)
      simp only [if_true]
      by_cases c : ((weighOf (l.map to48) : Nat) : Int) = ((mostOf (l.map to48) : Nat) : Int)
      · rw [if_pos c, show weighOf (l.map to48) = mostOf (l.map to48) by omega]
        exact Ev.now _
      · rw [if_neg c]
        exact Ev.now _
    refine Ev.bind hgo ?_
    simp only [list_f, Option.bind_some]
    refine Ev.bind (Ends_f (l.map to48) (o.take 10) (by omega) (by simp; omega)) ?_
    rw [wl_f l hv _ (by omega)]
    simp only [hv, Bool.true_and, hmap, orderB_take hlen.2]
    cases hb : orderB l.length o with
    | false =>
      simp only [Bool.false_eq_true, if_false, show ¬ ((2 : Int) = 0) by decide, and_self, if_true]
      exact awake_f
    | true =>
      rw [order_take hlen.2 hb]
      obtain ⟨q, rfl, hq⟩ := order_whole hlen.2 hb
      simp only [if_true]
      have hS : ∀ i, i < l.length → (maskP (fun i => decide (tm (rowOf (l.map to48) (castL q)) i ≤ duef (l.map to48) i)) l.length).testBit i = decide (tm (rowOf (l.map to48) (castL q)) i ≤ duef (l.map to48) i) := fun i hi => by
        rw [maskP_bit _ hlen.2 (by omega)]
        simp [hi]
      have hSp := maskP_lt (fun i => decide (tm (rowOf (l.map to48) (castL q)) i ≤ duef (l.map to48) i)) (Nat.le_refl l.length) hlen.2
      generalize maskP (fun i => decide (tm (rowOf (l.map to48) (castL q)) i ≤ duef (l.map to48) i)) l.length = S at hS hSp
      have hon : onTime (l.map to48) S := row_onTime hv (by rw [hmap]; exact hq) S (fun i hi => hS i (by omega))
      have h1 := most_max (l.map to48) (by rw [hmap]; exact hSp) hon
      have h2 := weigh_max (l.map to48) (by rw [hmap]; exact hSp) hon
      rw [cl_f l hv _ S hS, pcN_pc hlen.2 hSp]
      have h0 : (rowOf (l.map to48) (castL q)).length = l.length := by rw [rowOf_length, hmap]
      simp only [h0, h1, h2, and_self, if_true]
      exact awake_f
end Go.Proofs.Ytaboleeclpllpaa.Pure
