/-
Plain lemmas on what the functions compute, put together into one text.
Conditions: each lemma's own.
-/
import Derived.RowKit
import Derived.Deep.Slices
import Derived.OpenShut
import Derived.ChangeSlices
import Derived.Test.YtaboleeclpllpaaClaimProg1
import Derived.Test.YtaboleeclpllpaaClaimProg2

namespace Go.Proofs.Ytaboleeclpllpaa.M
open Go.RowKit Go.Proofs.YtaboleeclpllpaaW.PrintWords Go.Proofs.YtaboleeclpllpaaW.PrintLast Go.Proofs.YtaboleeclpllpaaW.PrintMore Go.Proofs.Ytaboleeclpllpaa.P
set_option linter.unusedVariables false
set_option linter.unusedSimpArgs false
theorem w64 {x : Int} (h0 : -9223372036854775808 ≤ x) (h1 : x ≤ 9223372036854775807) : wrap64 x = x := by
  unfold wrap64
  omega
theorem w64s (i n : Nat) (h : i < n) (hn : n ≤ 9223372036854775807) : wrap64 ((i : Int) + 1) = ((i + 1 : Nat) : Int) := by
  rw [w64 (by omega) (by omega)]
  omega
def to48 (x : S43) : S48 := ⟨x.f0, x.f1, x.f2, x.f3⟩
theorem rd_nat (l : List Int) (i : Nat) (h : i < l.length) : rd l (i : Int) = l[i] := by simp [rd, List.getD_eq_getElem?_getD, List.getElem?_eq_getElem h]
theorem rd43 (l : List S43) (i : Nat) (h : i < l.length) : rd_T43 l (i : Int) = l[i] := by simp [rd_T43, List.getD_eq_getElem?_getD, List.getElem?_eq_getElem h]
theorem rd48 (l : List S48) (i : Nat) (h : i < l.length) : rd_T48 l (i : Int) = l[i] := by simp [rd_T48, List.getD_eq_getElem?_getD, List.getElem?_eq_getElem h]
theorem rd44 (l : List S44) (i : Nat) (h : i < l.length) : rd_T44 l (i : Int) = l[i] := by simp [rd_T44, List.getD_eq_getElem?_getD, List.getElem?_eq_getElem h]
def ok48 (x : S48) : Bool := decide (1 ≤ x.f0 ∧ x.f0 ≤ 20 ∧ 0 ≤ x.f1 ∧ x.f1 ≤ 100 ∧ 0 ≤ x.f2 ∧ x.f2 ≤ 200 ∧ 0 ≤ x.f3 ∧ x.f3 ≤ 20)
def valid48 (l : List S48) : Bool := decide (1 ≤ l.length ∧ l.length ≤ 8) && l.all ok48
theorem between_f (a b c : Int) : dates_between.f a b c = some (decide (b ≤ a ∧ a ≤ c)) := by
  unfold dates_between.f
  by_cases h : a ≥ b
  · rw [if_pos h]
    have : b ≤ a := h
    simp [this]
  · rw [if_neg h]
    have : ¬ b ≤ a := h
    simp [this]
theorem valid1_f (x : S48) : dates_jobs_valid_1.f x.f0 x.f1 x.f2 x.f3 = some (!ok48 x) := by
  unfold dates_jobs_valid_1.f
  simp only [between_f, Option.bind_some]
  by_cases h0 : 1 ≤ x.f0 ∧ x.f0 ≤ 20
  · by_cases h1 : 0 ≤ x.f1 ∧ x.f1 ≤ 100
    · by_cases h2 : 0 ≤ x.f2 ∧ x.f2 ≤ 200
      · by_cases h3 : 0 ≤ x.f3 ∧ x.f3 ≤ 20
        · have : ok48 x = true := by simp only [ok48, decide_eq_true_eq]; omega
          simp [h0, h1, h2, h3, this]
        · have : ok48 x = false := by simp only [ok48, decide_eq_false_iff_not]; omega
          rw [decide_eq_false h3]
          simp [h0, h1, h2, this]
      · have : ok48 x = false := by simp only [ok48, decide_eq_false_iff_not]; omega
        rw [decide_eq_false h2]
        simp [h0, h1, this]
    · have : ok48 x = false := by simp only [ok48, decide_eq_false_iff_not]; omega
      rw [decide_eq_false h1]
      simp [h0, this]
  · have : ok48 x = false := by simp only [ok48, decide_eq_false_iff_not]; omega
    rw [decide_eq_false h0]
    simp [this]
theorem index_loop (l : List S48) (hl : l.length ≤ 9223372036854775807) : ∀ (d i : Nat), i + d = l.length → ∃ r : Int, Ev (fun k => dates_Job_87.l0 k l (l.length : Int) (i : Int)) r ∧ (decide (r ≥ 0) = !(l.drop i).all ok48) := by
  intro d
  induction d with
  | zero =>
    intro i hi
    refine ⟨-1, Ev.step (f := fun _ => some (-1)) (fun k => ?_) (Ev.now _), ?_⟩
    · simp only [dates_Job_87.l0]
      rw [if_neg (by omega)]
    · rw [show i = l.length by omega, List.drop_length]
      rfl
  | succ d ih =>
    intro i hi
    have hlt : i < l.length := by omega
    rw [List.drop_eq_getElem_cons hlt, List.all_cons]
    cases hok : ok48 l[i] with
    | false =>
      refine ⟨i, Ev.step (f := fun _ => some (i : Int)) (fun k => ?_) (Ev.now _), ?_⟩
      · simp only [dates_Job_87.l0]
        rw [if_pos (by omega), if_pos (by omega), if_pos (by omega), rd48 l i hlt, valid1_f, hok]
        rfl
      · simp
    | true =>
      obtain ⟨r, hr, hr2⟩ := ih (i + 1) (by omega)
      refine ⟨r, Ev.step (fun k => ?_) hr, by simpa using hr2⟩
      simp only [dates_Job_87.l0]
      rw [if_pos (by omega), if_pos (by omega), if_pos (by omega), rd48 l i hlt, valid1_f, hok, w64s i l.length hlt hl]
      rfl
theorem valid_f (l : List S48) (hl : l.length ≤ 9223372036854775807) : Ev (fun k => dates_jobs_valid.f k l) (valid48 l) := by
  unfold dates_jobs_valid.f
  simp only [between_f, Option.bind_some]
  by_cases h : 1 ≤ l.length ∧ l.length ≤ 8
  · obtain ⟨r, hr, hr2⟩ := index_loop l hl l.length 0 (by omega)
    have hd : decide ((1 : Int) ≤ (l.length : Int) ∧ (l.length : Int) ≤ 8) = true := decide_eq_true (by omega)
    simp only [hd, if_true]
    have h1 : Ev (fun k => dates_Job_77.f k l) (!l.all ok48) := by
      unfold dates_Job_77.f dates_Job_87.f
      refine Ev.bind (a := r) hr ?_
      rw [hr2]
      exact Ev.now _
    refine Ev.bind h1 ?_
    have : valid48 l = l.all ok48 := by simp [valid48, h]
    rw [this, Bool.not_not]
    exact Ev.now _
  · have hd : decide ((1 : Int) ≤ (l.length : Int) ∧ (l.length : Int) ≤ 8) = false := decide_eq_false (by omega)
    simp only [hd]
    have : valid48 l = false := by simp [valid48, h]
    rw [this]
    exact Ev.now _
theorem refvalid_loop (l0 l : List S43) (hl : l.length ≤ 9223372036854775807) : ∀ (d i : Nat), i + d = l.length → Ev (fun k => corrodyref06_Valid.l0 k l0 l (l.length : Int) (i : Int)) ((((l.drop i).map to48).all ok48) && decide (1 ≤ l0.length ∧ l0.length ≤ 8)) := by
  intro d
  induction d with
  | zero =>
    intro i hi
    rw [show i = l.length by omega, List.drop_length]
    by_cases h1 : 1 ≤ l0.length
    · refine Ev.step (f := fun _ => some (decide ((l0.length : Int) ≤ 8))) (fun k => ?_) ?_
      · simp only [corrodyref06_Valid.l0]
        rw [if_neg (by omega), if_pos (by omega)]
      · have : decide ((l0.length : Int) ≤ 8) = (([].map to48).all ok48 && decide (1 ≤ l0.length ∧ l0.length ≤ 8)) := by
          simp [h1]
          omega
        rw [this]
        exact Ev.now _
    · refine Ev.step (f := fun _ => some false) (fun k => ?_) ?_
      · simp only [corrodyref06_Valid.l0]
        rw [if_neg (by omega), if_neg (by omega)]
      · simp [h1]
        exact Ev.now _
  | succ d ih =>
    intro i hi
    have hlt : i < l.length := by omega
    rw [List.drop_eq_getElem_cons hlt, List.map_cons, List.all_cons]
    have hb : ∀ k, corrodyref06_Valid.l0 (k + 1) l0 l (l.length : Int) (i : Int) = if ok48 (to48 l[i]) = true then corrodyref06_Valid.l0 k l0 l (l.length : Int) ((i + 1 : Nat) : Int) else some false := by
      intro k
      simp only [corrodyref06_Valid.l0]
      rw [if_pos (by omega), if_pos (by omega), if_pos (by omega), rd43 l i hlt, w64s i l.length hlt hl]
      have he : ∀ x : S43, ok48 (to48 x) = decide (1 ≤ x.f0 ∧ x.f0 ≤ 20 ∧ 0 ≤ x.f1 ∧ x.f1 ≤ 100 ∧ 0 ≤ x.f2 ∧ x.f2 ≤ 200 ∧ 0 ≤ x.f3 ∧ x.f3 ≤ 20) := fun _ => rfl
      rw [he]
      generalize l[i] = x
      by_cases h0 : x.f0 < 1
      · rw [if_pos h0, decide_eq_false (by omega)]; rfl
      by_cases h1 : x.f0 > 20
      · rw [if_neg h0, if_pos h1, decide_eq_false (by omega)]; rfl
      by_cases h2 : x.f1 < 0
      · rw [if_neg h0, if_neg h1, if_pos h2, decide_eq_false (by omega)]; rfl
      by_cases h3 : x.f1 > 100
      · rw [if_neg h0, if_neg h1, if_neg h2, if_pos h3, decide_eq_false (by omega)]; rfl
      by_cases h4 : x.f2 < 0
      · rw [if_neg h0, if_neg h1, if_neg h2, if_neg h3, if_pos h4, decide_eq_false (by omega)]; rfl
      by_cases h5 : x.f2 > 200
      · rw [if_neg h0, if_neg h1, if_neg h2, if_neg h3, if_neg h4, if_pos h5, decide_eq_false (by omega)]; rfl
      by_cases h6 : x.f3 < 0
      · rw [if_neg h0, if_neg h1, if_neg h2, if_neg h3, if_neg h4, if_neg h5, if_pos h6, decide_eq_false (by omega)]; rfl
      by_cases h7 : x.f3 > 20
      · rw [if_neg h0, if_neg h1, if_neg h2, if_neg h3, if_neg h4, if_neg h5, if_neg h6, if_pos h7, decide_eq_false (by omega)]; rfl
      rw [if_neg h0, if_neg h1, if_neg h2, if_neg h3, if_neg h4, if_neg h5, if_neg h6, if_neg h7, decide_eq_true (by omega)]; rfl
    cases hok : ok48 (to48 l[i]) with
    | false =>
      refine Ev.step (f := fun _ => some false) (fun k => ?_) (Ev.now _)
      rw [hb, hok]
      rfl
    | true =>
      refine Ev.step (fun k => ?_) (ih (i + 1) (by omega))
      rw [hb, hok]
      rfl
theorem refvalid_f (l : List S43) (hl : l.length ≤ 9223372036854775807) : Ev (fun k => corrodyref06_Valid.f k l) (valid48 (l.map to48)) := by
  have h := refvalid_loop l l hl l.length 0 (by omega)
  unfold corrodyref06_Valid.f
  have e : valid48 (l.map to48) = ((((l.drop 0).map to48).all ok48) && decide (1 ≤ l.length ∧ l.length ≤ 8)) := by
    simp only [valid48, List.length_map, List.drop_zero]
    rw [Bool.and_comm]
  rw [e]
  exact h
theorem Of_loop (l : List S43) (hl : l.length ≤ 9223372036854775807) : ∀ (d i : Nat) (acc : List S48), i + d = l.length → acc.length = min i 10 → Ev (fun k => corrodylaw06_Of.l0 k acc l (l.length : Int) (i : Int)) (acc ++ ((l.take 10).drop i).map to48) := by
  intro d
  induction d with
  | zero =>
    intro i acc hi ha
    rw [List.drop_eq_nil_of_le (by rw [List.length_take]; omega), List.map_nil, List.append_nil]
    refine Ev.step (f := fun _ => some acc) (fun k => ?_) (Ev.now _)
    simp only [corrodylaw06_Of.l0]
    rw [if_neg (by omega)]
  | succ d ih =>
    intro i acc hi ha
    have hlt : i < l.length := by omega
    by_cases h10 : i < 10
    · have hd : (l.take 10).drop i = l[i] :: (l.take 10).drop (i + 1) := by
        rw [List.drop_eq_getElem_cons (by rw [List.length_take]; omega)]
        simp
      have := ih (i + 1) (acc ++ [to48 l[i]]) (by omega) (by simp; omega)
      rw [hd, List.map_cons, show acc ++ to48 l[i] :: ((l.take 10).drop (i + 1)).map to48 = (acc ++ [to48 l[i]]) ++ ((l.take 10).drop (i + 1)).map to48 by simp]
      refine Ev.step (fun k => ?_) this
      simp only [corrodylaw06_Of.l0]
      rw [if_pos (by omega), if_pos (by omega), if_pos (by omega), if_pos (by omega), if_pos (by omega), rd43 l i hlt, w64s i l.length hlt hl]
      rfl
    · have := ih (i + 1) acc (by omega) (by omega)
      rw [List.drop_eq_nil_of_le (by rw [List.length_take]; omega)] at this ⊢
      refine Ev.step (fun k => ?_) this
      simp only [corrodylaw06_Of.l0]
      rw [if_pos (by omega), if_pos (by omega), if_pos (by omega), if_neg (by omega), w64s i l.length hlt hl]
theorem Of_f (l : List S43) (hl : l.length ≤ 9223372036854775807) : Ev (fun k => corrodylaw06_Of.f k l) ((l.take 10).map to48) := by
  have := Of_loop l hl l.length 0 [] (by omega) rfl
  rw [List.drop_zero, List.nil_append] at this
  exact this
theorem valid_of (l : List S43) : valid48 ((l.take 10).map to48) = valid48 (l.map to48) := by
  by_cases h : l.length ≤ 10
  · rw [List.take_of_length_le h]
  · simp only [valid48, List.length_map, List.length_take]
    rw [decide_eq_false (by omega), decide_eq_false (by omega)]
    rfl
theorem of_valid {l : List S43} (h : valid48 (l.map to48) = true) : (l.take 10).map to48 = l.map to48 := by
  have : l.length ≤ 8 := by
    simp only [valid48, Bool.and_eq_true, decide_eq_true_eq, List.length_map] at h
    exact h.1.2
  rw [List.take_of_length_le (by omega)]
end Go.Proofs.Ytaboleeclpllpaa.M


namespace Go.Proofs.Ytaboleeclpllpaa.M
open Go.RowKit Go.Proofs.YtaboleeclpllpaaW.PrintWords Go.Proofs.YtaboleeclpllpaaW.PrintLast Go.Proofs.YtaboleeclpllpaaW.PrintMore Go.Proofs.Ytaboleeclpllpaa.P
set_option linter.unusedVariables false
set_option linter.unusedSimpArgs false
abbrev Pc := S44
def total (l : List Int) : Int := l.foldr (· + ·) 0
theorem total_cons (x : Int) (l : List Int) : total (x :: l) = x + total l := rfl
theorem total_bound (l : List Int) (b : Int) (hb : 0 ≤ b) (h : ∀ x ∈ l, -b ≤ x ∧ x ≤ b) : -(b * (l.length : Int)) ≤ total l ∧ total l ≤ b * (l.length : Int) := by
  induction l with
  | nil => simp [total]
  | cons x l ih =>
    have hx := h x (by simp)
    have := ih (fun y hy => h y (by simp [hy]))
    rw [total_cons, List.length_cons]
    have e : b * ((l.length + 1 : Nat) : Int) = b * (l.length : Int) + b := by rw [Int.natCast_add]; simp [Int.mul_add]
    omega
theorem eq44_loop (l : List S44) (hl : l.length ≤ 9223372036854775807) : ∀ (d i : Nat), i + d = l.length → Ev (fun k => dates_Piece.l0 k l l (l.length : Int) (i : Int)) true := by
  intro d
  induction d with
  | zero =>
    intro i hi
    refine Ev.step (f := fun _ => some true) (fun k => ?_) (Ev.now _)
    simp only [dates_Piece.l0]
    rw [if_neg (by omega)]
  | succ d ih =>
    intro i hi
    have hlt : i < l.length := by omega
    refine Ev.step (fun k => ?_) (ih (i + 1) (by omega))
    simp only [dates_Piece.l0]
    rw [if_pos (by omega), if_pos (by omega), if_pos (by omega), if_pos (by omega), w64s i l.length hlt hl, if_neg (by simp)]
theorem eq44_f (l : List S44) (hl : l.length ≤ 9223372036854775807) : Ev (fun k => dates_Piece.f k l l) true := by
  have := eq44_loop l hl l.length 0 (by omega)
  refine Ev.congr (fun k => ?_) this
  unfold dates_Piece.f
  rw [if_pos rfl]
  rfl
theorem mx_max (a b : Int) : mx a b = max a b := by unfold mx; omega
theorem max_loop (l : List Int) (hl : l.length ≤ 9223372036854775807) : ∀ (d i : Nat) (m : Int), i + d = l.length → 1 ≤ i → (m > 0 ↔ ∃ x ∈ l.take i, x > 0) → ∃ r, Ev (fun k => dates_left_int.l0 k l m (i : Int)) r ∧ (r > 0 ↔ ∃ x ∈ l, x > 0) := by
  intro d
  induction d with
  | zero =>
    intro i m hi h1 hm
    rw [show i = l.length by omega, List.take_length] at hm
    refine ⟨m, Ev.step (f := fun _ => some m) (fun k => ?_) (Ev.now _), hm⟩
    simp only [dates_left_int.l0]
    rw [if_neg (by omega)]
  | succ d ih =>
    intro i m hi h1 hm
    have hlt : i < l.length := by omega
    obtain ⟨r, hr, hr2⟩ := ih (i + 1) (mx m l[i]) (by omega) (by omega) (by
      rw [mx_max, List.take_succ_eq_append_getElem hlt]
      constructor
      · intro h
        by_cases hx : l[i] > 0
        · exact ⟨l[i], List.mem_append.2 (.inr (List.mem_singleton.2 rfl)), hx⟩
        · obtain ⟨y, hy, hy2⟩ := hm.1 (by omega)
          exact ⟨y, List.mem_append.2 (.inl hy), hy2⟩
      · rintro ⟨y, hy, hy2⟩
        rcases List.mem_append.1 hy with hy | hy
        · have := hm.2 ⟨y, hy, hy2⟩
          omega
        · simp at hy
          omega)
    refine ⟨r, Ev.step (fun k => ?_) hr, hr2⟩
    simp only [dates_left_int.l0]
    rw [if_pos (by omega), if_pos (by omega), rd_nat l i hlt, w64s i l.length hlt hl]
theorem max_f (l : List Int) (h1 : 1 ≤ l.length) (hl : l.length ≤ 9223372036854775807) : ∃ r, Ev (fun k => dates_left_int.f k l) r ∧ (r > 0 ↔ ∃ x ∈ l, x > 0) := by
  have h0 : rd l 0 = l[0] := rd_nat l 0 h1
  obtain ⟨r, hr, hr2⟩ := max_loop l hl (l.length - 1) 1 (l[0]) (by omega) (by omega) (by
    rw [List.take_succ_eq_append_getElem h1]
    simp)
  refine ⟨r, Ev.congr (fun k => ?_) hr, hr2⟩
  unfold dates_left_int.f
  rw [if_neg (by omega), if_pos (by omega), h0]
  rfl
end Go.Proofs.Ytaboleeclpllpaa.M


namespace Go.Proofs.Ytaboleeclpllpaa.M
open Go.RowKit Go.Proofs.YtaboleeclpllpaaW.PrintWords Go.Proofs.YtaboleeclpllpaaW.PrintLast Go.Proofs.YtaboleeclpllpaaW.PrintMore Go.Proofs.Ytaboleeclpllpaa.P
set_option linter.unusedVariables false
set_option linter.unusedSimpArgs false
def tm (t : List Int) (i : Nat) : Int := t.getD i 0
def jb (l : List S48) (i : Nat) : S48 := l.getD i z48
def ahead (short : Bool) (l : List S48) (t : List Int) (i j : Nat) : Bool := if short then decide (tm t i < tm t j) else decide ((jb l i).f2 < (jb l j).f2)
def ready (l : List S48) (t : List Int) (a : Int) (i : Nat) : Prop := (jb l i).f1 ≤ a ∧ tm t i > 0
instance (l : List S48) (t : List Int) (a : Int) (i : Nat) : Decidable (ready l t a i) := by unfold ready; infer_instance
def pickN (short : Bool) (l : List S48) (t : List Int) (a : Int) : Nat → Option Nat
  | 0 => none
  | i + 1 => if ready l t a i then (match pickN short l t a i with
      | none => some i
      | some j => if ahead short l t i j = true then some i else some j) else pickN short l t a i
def pick (short : Bool) (l : List S48) (t : List Int) (a : Int) : Option Nat := pickN short l t a l.length
def addPc (out : List Pc) (j : Int) (a : Int) : List Pc := match out.getLast? with
  | some p => if p.f0 = j ∧ p.f2 = a then out.set (out.length - 1) ⟨p.f0, p.f1, p.f2 + 1⟩ else out ++ [⟨j, a, a + 1⟩]
  | none => [⟨j, a, a + 1⟩]
abbrev St := List Int × List Pc
def stepF (short : Bool) (l : List S48) (a : Int) (s : St) : St := match pick short l s.1 a with
  | none => s
  | some j => (s.1.set j (tm s.1 j - 1), addPc s.2 (j : Int) a)
def runF (short : Bool) (l : List S48) : Nat → Int → St → St
  | 0, _, s => s
  | n + 1, a, s => runF short l n (a + 1) (stepF short l a s)
def times (l : List S48) : List Int := l.map (·.f0)
def planOf (short : Bool) (l : List S48) : List Pc := (runF short l 300 0 (times l, [])).2
theorem pickN_lt {short : Bool} {l : List S48} {t : List Int} {a : Int} : ∀ {n j : Nat}, pickN short l t a n = some j → j < n ∧ ready l t a j := by
  intro n
  induction n with
  | zero => intro j h; cases h
  | succ n ih =>
    intro j h
    rw [pickN] at h
    by_cases hr : ready l t a n
    · rw [if_pos hr] at h
      cases hp : pickN short l t a n with
      | none =>
        rw [hp] at h
        simp at h
        subst h
        exact ⟨by omega, hr⟩
      | some j' =>
        rw [hp] at h
        have := ih hp
        by_cases ha : ahead short l t n j' = true
        · simp [ha] at h
          subst h
          exact ⟨by omega, hr⟩
        · simp [ha] at h
          subst h
          exact ⟨by omega, this.2⟩
    · rw [if_neg hr] at h
      have := ih h
      exact ⟨by omega, this.2⟩
theorem pickN_none {short : Bool} {l : List S48} {t : List Int} {a : Int} : ∀ {n : Nat}, pickN short l t a n = none ↔ ∀ i, i < n → ¬ ready l t a i := by
  intro n
  induction n with
  | zero => exact ⟨fun _ i hi => by omega, fun _ => rfl⟩
  | succ n ih =>
    rw [pickN]
    by_cases hr : ready l t a n
    · rw [if_pos hr]
      constructor
      · intro h
        exfalso
        cases hp : pickN short l t a n with
        | none => rw [hp] at h; cases h
        | some j =>
          rw [hp] at h
          by_cases ha : ahead short l t n j = true
          · simp [ha] at h
          · simp [ha] at h
      · intro h
        exact absurd hr (h n (by omega))
    · rw [if_neg hr, ih]
      constructor
      · intro h i hi
        by_cases e : i = n
        · subst e; exact hr
        · exact h i (by omega)
      · intro h i hi
        exact h i (by omega)
theorem addPc_length (out : List Pc) (j a : Int) : (addPc out j a).length ≤ out.length + 1 := by
  unfold addPc
  split
  · split
    · rw [List.length_set]; omega
    · simp
  · simp
theorem stepF_len (short : Bool) (l : List S48) (a : Int) (s : St) : (stepF short l a s).1.length = s.1.length := by
  unfold stepF
  split
  · rfl
  · simp
theorem stepF_out (short : Bool) (l : List S48) (a : Int) (s : St) : (stepF short l a s).2.length ≤ s.2.length + 1 := by
  unfold stepF
  split
  · omega
  · exact addPc_length _ _ _
theorem tm_mem {t : List Int} {i : Nat} (h : i < t.length) : tm t i ∈ t := by
  unfold tm
  rw [List.getD_eq_getElem?_getD, List.getElem?_eq_getElem h]
  exact List.getElem_mem h
theorem tm_get {t : List Int} {i : Nat} (h : i < t.length) : tm t i = t[i] := by
  unfold tm
  rw [List.getD_eq_getElem?_getD, List.getElem?_eq_getElem h]
  rfl
theorem tm_out {t : List Int} {i : Nat} (h : t.length ≤ i) : tm t i = 0 := by
  unfold tm
  rw [List.getD_eq_getElem?_getD, List.getElem?_eq_none h]
  rfl
theorem jb_get {l : List S48} {i : Nat} (h : i < l.length) : jb l i = l[i] := by
  unfold jb
  rw [List.getD_eq_getElem?_getD, List.getElem?_eq_getElem h]
  rfl
theorem tm_set (t : List Int) (j i : Nat) (x : Int) (h : j < t.length) : tm (t.set j x) i = if i = j then x else tm t i := by
  unfold tm
  rw [List.getD_eq_getElem?_getD, List.getElem?_set]
  by_cases e : i = j
  · subst e
    rw [if_pos rfl, if_pos rfl, if_pos h]
    rfl
  · rw [if_neg (Ne.symm e), if_neg e, List.getD_eq_getElem?_getD]
theorem total_set : ∀ (t : List Int) (j : Nat) (x : Int), j < t.length → total (t.set j x) = total t - tm t j + x := by
  intro t
  induction t with
  | nil => intro j x h; simp at h
  | cons y t ih =>
    intro j x h
    cases j with
    | zero => simp [total, tm]; omega
    | succ j =>
      have := ih j x (by simpa using h)
      rw [List.set_cons_succ, total_cons, total_cons, this]
      have : tm (y :: t) (j + 1) = tm t j := rfl
      omega
def fine (t : List Int) : Prop := ∀ x ∈ t, 0 ≤ x
theorem fine_tm {t : List Int} (h : fine t) (i : Nat) : 0 ≤ tm t i := by
  by_cases hi : i < t.length
  · exact h _ (tm_mem hi)
  · rw [tm_out (by omega)]
    exact Int.le_refl _
theorem fine_of_tm {t : List Int} (h : ∀ i, i < t.length → 0 ≤ tm t i) : fine t := by
  intro x hx
  obtain ⟨i, hi, rfl⟩ := List.mem_iff_getElem.1 hx
  have := h i hi
  rwa [tm_get hi] at this
theorem total_fine {t : List Int} (h : fine t) : 0 ≤ total t := by
  induction t with
  | nil => exact Int.le_refl _
  | cons x t ih =>
    rw [total_cons]
    have := h x (by simp)
    have := ih (fun y hy => h y (by simp [hy]))
    omega
theorem total_zero {t : List Int} (h : fine t) (h0 : total t ≤ 0) : ∀ i, tm t i = 0 := by
  induction t with
  | nil => intro i; rfl
  | cons x t ih =>
    rw [total_cons] at h0
    have hx := h x (by simp)
    have ht : fine t := fun y hy => h y (by simp [hy])
    have := total_fine ht
    intro i
    cases i with
    | zero => show x = 0; omega
    | succ i => exact ih ht (by omega) i
theorem step_fine {short : Bool} {l : List S48} {a : Int} {s : St} (hl : s.1.length = l.length) (h : fine s.1) : fine (stepF short l a s).1 := by
  unfold stepF
  split
  · exact h
  · rename_i j hj
    have ⟨hlt, hr⟩ := pickN_lt hj
    refine fine_of_tm fun i hi => ?_
    rw [tm_set _ _ _ _ (by omega)]
    by_cases e : i = j
    · rw [if_pos e]
      have := hr.2
      omega
    · rw [if_neg e]
      exact fine_tm h i
theorem step_total {short : Bool} {l : List S48} {a : Int} {s : St} (hl : s.1.length = l.length) : total (stepF short l a s).1 = total s.1 - (if (pick short l s.1 a).isSome = true then 1 else 0) := by
  unfold stepF
  split
  · rename_i hp
    rw [hp]
    simp
  · rename_i j hj
    rw [hj]
    have ⟨hlt, hr⟩ := pickN_lt hj
    show total (s.1.set j (tm s.1 j - 1)) = _
    rw [total_set _ _ _ (by omega)]
    simp
    omega
theorem run_done {short : Bool} {l : List S48} (hrel : ∀ i, i < l.length → (jb l i).f1 ≤ 100) : ∀ (n : Nat) (a : Int) (s : St), s.1.length = l.length → fine s.1 → total s.1 + (if a < 100 then 100 - a else 0) ≤ (n : Int) → total (runF short l n a s).1 ≤ 0 := by
  intro n
  induction n with
  | zero =>
    intro a s hl hf h
    show total s.1 ≤ 0
    split at h <;> omega
  | succ n ih =>
    intro a s hl hf h
    rw [runF]
    have h2 := step_total (short := short) (a := a) hl
    refine ih _ _ (by rw [stepF_len, hl]) (step_fine hl hf) ?_
    cases hp : pick short l s.1 a with
    | some j =>
      rw [hp] at h2
      simp at h2
      split at h <;> split <;> omega
    | none =>
      rw [hp] at h2
      simp at h2
      by_cases ha : a < 100
      · rw [if_pos ha] at h
        split <;> omega
      ·
        have hz : total s.1 ≤ 0 := by
          have hn := pickN_none.1 hp
          have : ∀ i, tm s.1 i = 0 := by
            intro i
            by_cases hi : i < l.length
            · have h1 := hn i hi
              have h3 := fine_tm hf i
              have h4 := hrel i hi
              unfold ready at h1
              omega
            · exact tm_out (by omega)
          have h5 : ∀ t : List Int, (∀ i, tm t i = 0) → total t = 0 := by
            intro t
            induction t with
            | nil => intro _; rfl
            | cons x t iht =>
              intro h
              rw [total_cons, iht (fun i => h (i + 1))]
              have := h 0
              have e : tm (x :: t) 0 = x := rfl
              omega
          rw [h5 _ this]
          exact Int.le_refl _
        have := total_fine hf
        split <;> omega
end Go.Proofs.Ytaboleeclpllpaa.M


namespace Go.Proofs.Ytaboleeclpllpaa.M
open Go.RowKit Go.Proofs.YtaboleeclpllpaaW.PrintWords Go.Proofs.YtaboleeclpllpaaW.PrintLast Go.Proofs.YtaboleeclpllpaaW.PrintMore Go.Proofs.Ytaboleeclpllpaa.P
set_option linter.unusedVariables false
set_option linter.unusedSimpArgs false
def curI : Option Nat → Int
  | none => -1
  | some j => (j : Int)
theorem step_le {short : Bool} {l : List S48} {a : Int} {t : List Int} {out : List Pc} (h : ∀ x ∈ t, x ≤ 20) : ∀ x ∈ (stepF short l a (t, out)).1, x ≤ 20 := by
  intro x hx
  unfold stepF at hx
  split at hx
  · exact h x hx
  · rename_i j hj
    obtain ⟨i, hi, rfl⟩ := List.mem_iff_getElem.1 hx
    simp only [List.length_set] at hi
    rw [List.getElem_set]
    split
    · by_cases hjl : j < t.length
      · have := h _ (tm_mem hjl)
        show tm t j - 1 ≤ 20
        omega
      · show tm t j - 1 ≤ 20
        rw [tm_out (by omega)]
        omega
    · exact h _ (List.getElem_mem hi)
theorem stepF_idle {short : Bool} {l : List S48} {a : Int} {s : St} (h : ∀ i, tm s.1 i = 0) : stepF short l a s = s := by
  have : pick short l s.1 a = none := pickN_none.2 fun i _ hr => by have := hr.2; rw [h i] at this; omega
  unfold stepF
  rw [this]
theorem runF_idle {short : Bool} {l : List S48} {t : List Int} {out : List Pc} (h : ∀ i, tm t i = 0) : ∀ {n : Nat} {a : Int}, runF short l n a (t, out) = (t, out) := by
  intro n
  induction n with
  | zero => intro a; rfl
  | succ n ih =>
    intro a
    rw [runF, stepF_idle (s := (t, out)) h, ih]
theorem valid_len {l : List S48} (h : valid48 l = true) : 1 ≤ l.length ∧ l.length ≤ 8 := by
  simp only [valid48, Bool.and_eq_true, decide_eq_true_eq] at h
  exact h.1
theorem valid_ok {l : List S48} (h : valid48 l = true) {x : S48} (hx : x ∈ l) : 1 ≤ x.f0 ∧ x.f0 ≤ 20 ∧ 0 ≤ x.f1 ∧ x.f1 ≤ 100 ∧ 0 ≤ x.f2 ∧ x.f2 ≤ 200 ∧ 0 ≤ x.f3 ∧ x.f3 ≤ 20 := by
  simp only [valid48, Bool.and_eq_true, List.all_eq_true] at h
  have := h.2 x hx
  simpa [ok48] using this
theorem valid_jb {l : List S48} (h : valid48 l = true) {i : Nat} (hi : i < l.length) : 1 ≤ (jb l i).f0 ∧ (jb l i).f0 ≤ 20 ∧ 0 ≤ (jb l i).f1 ∧ (jb l i).f1 ≤ 100 ∧ 0 ≤ (jb l i).f2 ∧ (jb l i).f2 ≤ 200 ∧ 0 ≤ (jb l i).f3 ∧ (jb l i).f3 ≤ 20 := by
  rw [jb_get hi]
  exact valid_ok h (List.getElem_mem hi)
theorem times_fine {l : List S48} (h : valid48 l = true) : fine (times l) := by
  intro x hx
  obtain ⟨y, hy, rfl⟩ := List.mem_map.1 hx
  have := valid_ok h hy
  omega
theorem times_le {l : List S48} (h : valid48 l = true) : ∀ x ∈ times l, x ≤ 20 := by
  intro x hx
  obtain ⟨y, hy, rfl⟩ := List.mem_map.1 hx
  have := valid_ok h hy
  omega
theorem times_total {l : List S48} (h : valid48 l = true) : total (times l) ≤ 160 := by
  have h1 := total_bound (times l) 20 (by omega) (fun x hx => ⟨by have := times_fine h x hx; omega, times_le h x hx⟩)
  have h2 := valid_len h
  have h3 : (times l).length = l.length := by simp [times]
  omega
theorem plan_done (short : Bool) {l : List S48} (h : valid48 l = true) : total (runF short l 300 0 (times l, [])).1 ≤ 0 := by
  refine run_done (fun i hi => (valid_jb h hi).2.2.2.1) 300 0 (times l, []) (by simp [times]) (times_fine h) ?_
  have := times_total h
  simp
  omega
theorem due_first (l : List S48) (t : List Int) (hl : t.length = l.length) (i j : Nat) (hi : i < l.length) (hj : j < l.length) : dates_jobs_first.f l (i : Int) (j : Int) t = some (ahead false l t i j) := by
  unfold dates_jobs_first.f
  rw [if_pos (by omega), if_pos (by omega), if_pos (by omega), if_pos (by omega), rd48 l i (by omega), rd48 l j (by omega)]
  simp [ahead, jb_get hi, jb_get hj]
theorem due_inner (l : List S48) (t : List Int) (out : List Pc) (a : Int) (hl : l.length ≤ 8) (ht : t.length = l.length) (r : List Pc) : ∀ (d i : Nat), i + d = l.length →
    Ev (fun k => dates_jobs_plan_due.l2 k l out t a (curI (pick false l t a)) l (l.length : Int) (l.length : Int)) r → Ev (fun k => dates_jobs_plan_due.l2 k l out t a (curI (pickN false l t a i)) l (l.length : Int) (i : Int)) r := by
  intro d
  induction d with
  | zero =>
    intro i hi h
    rw [show i = l.length by omega]
    exact h
  | succ d ih =>
    intro i hi h
    have hlt : i < l.length := by omega
    refine Ev.step (fun k => ?_) (ih (i + 1) (by omega) h)
    simp only [dates_jobs_plan_due.l2]
    rw [if_pos (by omega), if_pos (by omega), if_pos (by omega), rd48 l i hlt, w64s i l.length hlt (by omega), if_pos (show (i : Int) < (t.length : Int) by omega)]
    have hjb : jb l i = l[i] := jb_get hlt
    have htm : rd t (i : Int) = tm t i := by rw [rd_nat t i (by omega), tm_get (by omega)]
    by_cases h1 : (l[i]).f1 ≤ a
    · rw [if_pos h1, htm]
      by_cases h2 : tm t i > 0
      · rw [if_pos h2]
        have hr : ready l t a i := ⟨by rw [hjb]; exact h1, h2⟩
        rw [pickN, if_pos hr]
        cases hp : pickN false l t a i with
        | none => rw [if_pos (show curI none < 0 by decide)]; rfl
        | some j =>
          have ⟨hji, _⟩ := pickN_lt hp
          have hc : curI (some j) = (j : Int) := rfl
          rw [hc, if_neg (by omega), due_first l t ht i j hlt (by omega)]
          by_cases ha : ahead false l t i j = true
          · simp only [ha, if_true, Option.bind_some]
            rfl
          · simp only [Bool.eq_false_iff.mpr ha, Option.bind_some, if_false, Bool.false_eq_true]
            rfl
      · rw [if_neg h2]
        have hr : ¬ ready l t a i := fun h => h2 h.2
        rw [pickN, if_neg hr]
    · rw [if_neg h1]
      have hr : ¬ ready l t a i := fun h => h1 (by have := h.1; rwa [hjb] at this)
      rw [pickN, if_neg hr]
theorem due_step (l : List S48) (t : List Int) (out : List Pc) (a : Int) (hl : l.length ≤ 8) (ht : t.length = l.length) (h20 : ∀ x ∈ t, x ≤ 20) (ha0 : 0 ≤ a) (ha : a ≤ 1000) (ho : out.length ≤ 1000) (r : List Pc)
    (h : Ev (fun k => dates_jobs_plan_due.l1 k l (stepF false l a (t, out)).2 (stepF false l a (t, out)).1 (a + 1)) r) : Ev (fun k => dates_jobs_plan_due.l2 k l out t a (-1) l (l.length : Int) 0) r := by
  refine due_inner l t out a hl ht r l.length 0 (by omega) ?_
  refine Ev.step (fun k => ?_) h
  simp only [dates_jobs_plan_due.l2]
  rw [if_neg (by omega)]
  unfold stepF
  cases hp : pick false l t a with
  | none =>
    rw [if_pos (show curI none < 0 by decide), w64 (by omega) (by omega)]
  | some j =>
    have ⟨hj, hr⟩ := pickN_lt hp
    have hc : curI (some j) = (j : Int) := rfl
    have htm : rd t (j : Int) = tm t j := by rw [rd_nat t j (by omega), tm_get (by omega)]
    have h1 := hr.2
    have h2 := h20 _ (tm_mem (show j < t.length by omega))
    rw [hc, if_neg (by omega), if_pos (by omega), if_pos (by omega), Option.bind_some, htm, w64 (x := tm t j - 1) (by omega) (by omega), w64 (x := a + 1) (by omega) (by omega), Int.toNat_natCast]
    show _ = dates_jobs_plan_due.l1 k l (addPc out (j : Int) a) (t.set j (tm t j - 1)) (a + 1)
    rcases List.eq_nil_or_concat out with rfl | ⟨o, p, rfl⟩
    · have hw : wrap64 ((([] : List S44).length : Int) - 1) = -1 := w64 (by simp) (by simp)
      rw [hw, if_neg (by omega), if_pos (by simp)]
      simp [addPc]
    · have hlen : (o.concat p).length = o.length + 1 := by simp
      have hw : wrap64 (((o.concat p).length : Int) - 1) = (o.length : Int) := by rw [hlen, w64 (by omega) (by omega)]; omega
      have hrd : rd_T44 (o.concat p) (o.length : Int) = p := by rw [rd44 _ _ (by omega)]; simp
      rw [hw, if_pos (by omega), if_pos (by omega), if_pos (by omega), hrd]
      have hadd : addPc (o.concat p) (j : Int) a = if p.f0 = (j : Int) ∧ p.f2 = a then (o.concat p).set o.length ⟨p.f0, p.f1, p.f2 + 1⟩ else o.concat p ++ [⟨(j : Int), a, a + 1⟩] := by
        simp [addPc]
      rw [hadd, Int.toNat_natCast]
      by_cases h3 : p.f0 = (j : Int)
      · rw [if_pos h3]
        by_cases h4 : p.f2 = a
        · rw [if_pos h4, if_pos ⟨h3, h4⟩, w64 (x := p.f2 + 1) (by omega) (by omega)]
        · rw [if_neg h4, if_pos (by omega), if_neg (fun h => h4 h.2)]
      · rw [if_neg h3, if_pos (by omega), if_neg (fun h => h3 h.1)]
theorem due_main (l : List S48) (hl : l.length ≤ 8) (h1 : 1 ≤ l.length) : ∀ (n : Nat) (a : Int) (t : List Int) (out : List Pc), t.length = l.length → fine t → (∀ x ∈ t, x ≤ 20) → 0 ≤ a → a + n ≤ 1000 → (out.length : Int) ≤ a → total (runF false l n a (t, out)).1 ≤ 0 →
    Ev (fun k => dates_jobs_plan_due.l1 k l out t a) (runF false l n a (t, out)).2 := by
  intro n
  induction n with
  | zero =>
    intro a t out ht hf h20 ha0 ha ho hd
    obtain ⟨m, hm, hm2⟩ := max_f t (by omega) (by omega)
    have hz := total_zero hf hd
    have : ¬ m > 0 := fun h => by
      obtain ⟨x, hx, hx2⟩ := hm2.1 h
      obtain ⟨i, hi, rfl⟩ := List.mem_iff_getElem.1 hx
      have := hz i
      rw [tm_get hi] at this
      omega
    refine Ev.step (f := fun k => (dates_left_int.f k t).bind fun t128 => (if t128 > 0 then (dates_jobs_plan_due.l2 k l out t a (-1) l (l.length : Int) 0) else (some out))) (fun k => by simp only [dates_jobs_plan_due.l1]) ?_
    refine Ev.bind hm ?_
    simp only [if_neg this]
    exact Ev.now _
  | succ n ih =>
    intro a t out ht hf h20 ha0 ha ho hd
    obtain ⟨m, hm, hm2⟩ := max_f t (by omega) (by omega)
    refine Ev.step (f := fun k => (dates_left_int.f k t).bind fun t128 => (if t128 > 0 then (dates_jobs_plan_due.l2 k l out t a (-1) l (l.length : Int) 0) else (some out))) (fun k => by simp only [dates_jobs_plan_due.l1]) ?_
    refine Ev.bind hm ?_
    by_cases hmp : m > 0
    · simp only [if_pos hmp]
      rw [runF] at hd ⊢
      refine due_step l t out a hl ht h20 ha0 (by omega) (by omega) _ ?_
      have hs20 : ∀ x ∈ (stepF false l a (t, out)).1, x ≤ 20 := step_le h20
      exact ih (a + 1) _ _ (by rw [stepF_len, ht]) (step_fine ht hf) hs20 (by omega) (by omega) (by have := stepF_out false l a (t, out); simp at this; omega) hd
    · simp only [if_neg hmp]
      rw [runF_idle (fun i => by
        by_cases hi : i < t.length
        · have := fun hh => hmp (hm2.2 hh)
          have h0 := fine_tm hf i
          by_cases h5 : tm t i > 0
          · exact absurd ⟨_, tm_mem hi, h5⟩ this
          · show tm t i = 0
            omega
        · exact tm_out (by omega))]
      exact Ev.now _
theorem due_start (l : List S48) (hl : l.length ≤ 8) (r : List Pc) (h : Ev (fun k => dates_jobs_plan_due.l1 k l [] (times l) 0) r) : ∀ (d i : Nat) (t : List Int), i + d = l.length → t.length = l.length → t.take i = (times l).take i → Ev (fun k => dates_jobs_plan_due.l0 k l t l (l.length : Int) (i : Int)) r := by
  intro d
  induction d with
  | zero =>
    intro i t hi ht he
    have : t = times l := by
      have h1 : t.take i = t := List.take_of_length_le (by omega)
      have h2 : (times l).take i = times l := List.take_of_length_le (by simp [times]; omega)
      rw [← h1, ← h2, he]
    subst this
    refine Ev.step (fun k => ?_) h
    simp only [dates_jobs_plan_due.l0]
    rw [if_neg (by omega)]
  | succ d ih =>
    intro i t hi ht he
    have hlt : i < l.length := by omega
    refine Ev.step (fun k => ?_) (ih (i + 1) (t.set i (l[i]).f0) (by omega) (by simpa using ht) ?_)
    · simp only [dates_jobs_plan_due.l0]
      rw [if_pos (by omega), if_pos (by omega), if_pos (by omega), if_pos (show (i : Int) < (t.length : Int) by omega), rd48 l i hlt, w64s i l.length hlt (by omega), Int.toNat_natCast]
    · rw [List.take_succ_eq_append_getElem (by simpa using (show i < t.length by omega)), List.take_succ_eq_append_getElem (by simpa [times] using hlt), List.take_set_of_le (Nat.le_refl i), he]
      simp [times]
theorem due_f (l : List S48) (hv : valid48 l = true) : Ev (fun k => dates_jobs_plan_due.f k l) (planOf false l) := by
  have hl := valid_len hv
  have hm := due_main l hl.2 hl.1 300 0 (times l) [] (by simp [times]) (times_fine hv) (times_le hv) (by omega) (by omega) (by simp) (plan_done false hv)
  have := due_start l hl.2 _ hm l.length 0 (List.replicate l.length 0) (by omega) (by simp) rfl
  refine Ev.congr (fun k => ?_) this
  unfold dates_jobs_plan_due.f
  rw [if_pos (by omega), if_pos (by omega), Int.toNat_natCast]
  rfl
end Go.Proofs.Ytaboleeclpllpaa.M


namespace Go.Proofs.Ytaboleeclpllpaa.M
open Go.RowKit Go.Proofs.YtaboleeclpllpaaW.PrintWords Go.Proofs.YtaboleeclpllpaaW.PrintLast Go.Proofs.YtaboleeclpllpaaW.PrintMore Go.Proofs.Ytaboleeclpllpaa.P
set_option linter.unusedVariables false
set_option linter.unusedSimpArgs false
end Go.Proofs.Ytaboleeclpllpaa.M


namespace Go.Proofs.Ytaboleeclpllpaa.M
open Go.RowKit Go.Proofs.YtaboleeclpllpaaW.PrintWords Go.Proofs.YtaboleeclpllpaaW.PrintLast Go.Proofs.YtaboleeclpllpaaW.PrintMore Go.Proofs.Ytaboleeclpllpaa.P
set_option linter.unusedVariables false
set_option linter.unusedSimpArgs false
theorem due_f' (l : List S48) (hv : valid48 l = true) : Ev (fun k => dates_jobs_due.f k l) (planOf false l) := by
  refine Ev.congr (fun k => ?_) (due_f l hv)
  unfold dates_jobs_due.f
  cases dates_jobs_plan_due.f k l <;> rfl
theorem Plan_f (l : List S48) (hl : l.length ≤ 9223372036854775807) : Ev (fun k => dates_Plan.f k l) (if valid48 l = true then (planOf false l, 0) else ([], 2)) := by
  unfold dates_Plan.f
  refine Ev.bind (valid_f l hl) ?_
  cases hv : valid48 l with
  | true =>
    simp only [if_true]
    exact Ev.bind (due_f' l hv) (Ev.now _)
  | false =>
    simp only [Bool.false_eq_true, if_false]
    exact Ev.now _
theorem awake_plan : planOf false [(⟨2, 1, 9, 0⟩ : S48)] = [(⟨0, 1, 3⟩ : S44)] := by kernel_rfl
theorem awake_valid : valid48 [(⟨2, 1, 9, 0⟩ : S48)] = true := by kernel_rfl
theorem awake_f : Ev (fun k => corrodylaw06_awake.f k) true := by
  unfold corrodylaw06_awake.f
  have h := Plan_f [(⟨2, 1, 9, 0⟩ : S48)] (by simp)
  rw [awake_valid, if_pos rfl, awake_plan] at h
  refine Ev.bind h ?_
  simp only [if_true]
  exact Ev.bind (eq44_f _ (by simp)) (Ev.now _)
end Go.Proofs.Ytaboleeclpllpaa.M


namespace Go.Proofs.Ytaboleeclpllpaa.M
open Go.RowKit Go.Proofs.YtaboleeclpllpaaW.PrintWords Go.Proofs.YtaboleeclpllpaaW.PrintLast Go.Proofs.YtaboleeclpllpaaW.PrintMore Go.Proofs.Ytaboleeclpllpaa.P
set_option linter.unusedVariables false
set_option linter.unusedSimpArgs false
def lateN (l : List S48) (e : List Int) (w : Int) : Nat → Int
  | 0 => w
  | n + 1 => max (lateN l e w n) (tm e n - (jb l n).f2)
theorem lateN_le (l : List S48) (e : List Int) (w d : Int) : ∀ n : Nat, lateN l e w n ≤ d ↔ w ≤ d ∧ ∀ i, i < n → tm e i - (jb l i).f2 ≤ d
  | 0 => by simp [lateN]
  | n + 1 => by
    rw [lateN, Int.max_le, lateN_le l e w d n]
    constructor
    · rintro ⟨⟨h1, h2⟩, h3⟩
      refine ⟨h1, fun i hi => ?_⟩
      by_cases h : i = n
      · subst h; exact h3
      · exact h2 i (by omega)
    · rintro ⟨h1, h2⟩
      exact ⟨⟨h1, fun i hi => h2 i (by omega)⟩, h2 n (by omega)⟩
theorem lateN_at (l : List S48) (e : List Int) (w : Int) : ∀ n : Nat, lateN l e w n = w ∨ ∃ i, i < n ∧ lateN l e w n = tm e i - (jb l i).f2
  | 0 => Or.inl rfl
  | n + 1 => by
    rw [lateN]
    rcases Int.le_total (lateN l e w n) (tm e n - (jb l n).f2) with h | h
    · rw [Int.max_eq_right h]
      exact Or.inr ⟨n, by omega, rfl⟩
    · rw [Int.max_eq_left h]
      rcases lateN_at l e w n with h1 | ⟨i, hi, h1⟩
      · exact Or.inl h1
      · exact Or.inr ⟨i, by omega, h1⟩
def worstOf (l : List S48) (e : List Int) : Int := lateN l e (-1073741824) l.length
theorem worstOf_le {l : List S48} {e : List Int} {d : Int} (hd : -1073741824 ≤ d) : worstOf l e ≤ d ↔ ∀ i, i < l.length → tm e i - (jb l i).f2 ≤ d := by
  rw [worstOf, lateN_le]
  exact ⟨fun h => h.2, fun h => ⟨hd, h⟩⟩
theorem endsB_tm {e : List Int} (he : ∀ x ∈ e, 0 ≤ x ∧ x ≤ 1000000) (i : Nat) : 0 ≤ tm e i ∧ tm e i ≤ 1000000 := by
  by_cases h : i < e.length
  · exact he _ (tm_mem h)
  · rw [tm_out (by omega)]; omega
theorem worstOf_at {l : List S48} (hv : valid48 l = true) {e : List Int} (he : ∀ x ∈ e, 0 ≤ x ∧ x ≤ 1000000) : ∃ i, i < l.length ∧ worstOf l e = tm e i - (jb l i).f2 := by
  rcases lateN_at l e (-1073741824) l.length with h | h
  · exfalso
    have h1 := (worstOf_le (l := l) (e := e) (d := -1073741824) (Int.le_refl _)).1 (by rw [worstOf, h]; exact Int.le_refl _) 0 (valid_len hv).1
    have h2 := valid_jb hv (i := 0) (valid_len hv).1
    have h3 := endsB_tm he 0
    omega
  · exact h
end Go.Proofs.Ytaboleeclpllpaa.M


namespace Go.Proofs.Ytaboleeclpllpaa.T
set_option linter.unusedVariables false
set_option linter.unusedSimpArgs false
def sumN : Nat → (Nat → Int) → Int
  | 0, _ => 0
  | n + 1, f => sumN n f + f n
theorem sumN_congr {f g : Nat → Int} : ∀ {n : Nat}, (∀ i, i < n → f i = g i) → sumN n f = sumN n g
  | 0, _ => rfl
  | n + 1, h => by rw [sumN, sumN, sumN_congr (fun i hi => h i (by omega)), h n (by omega)]
theorem sumN_le {f g : Nat → Int} : ∀ {n : Nat}, (∀ i, i < n → f i ≤ g i) → sumN n f ≤ sumN n g
  | 0, _ => Int.le_refl _
  | n + 1, h => by
    have h1 := sumN_le (n := n) (fun i hi => h i (by omega))
    have h2 := h n (by omega)
    simp only [sumN]
    omega
theorem sumN_add (f g : Nat → Int) : ∀ n : Nat, sumN n (fun i => f i + g i) = sumN n f + sumN n g
  | 0 => rfl
  | n + 1 => by
    have := sumN_add f g n
    simp only [sumN]
    omega
theorem sumN_zero : ∀ n : Nat, sumN n (fun _ => 0) = 0
  | 0 => rfl
  | n + 1 => by rw [sumN, sumN_zero n]; rfl
theorem sumN_at {f g : Nat → Int} {n : Nat} (j : Nat) (hj : j < n) (h : ∀ i, i < n → i ≠ j → f i = g i) : sumN n f = sumN n g + (f j - g j) := by
  induction n with
  | zero => omega
  | succ n ih =>
    by_cases hjn : j = n
    · subst hjn
      have : sumN j f = sumN j g := sumN_congr (fun i hi => h i (by omega) (by omega))
      simp only [sumN]
      omega
    · have := ih (by omega) (fun i hi hne => h i (by omega) hne)
      have h2 := h n (by omega) (fun he => hjn he.symm)
      simp only [sumN]
      omega
theorem sumN_swap (f : Nat → Nat → Int) : ∀ m n : Nat, sumN m (fun i => sumN n (f i)) = sumN n (fun j => sumN m (fun i => f i j))
  | 0, n => by simp only [sumN]; rw [sumN_zero]
  | m + 1, n => by
    simp only [sumN]
    rw [sumN_swap f m n, ← sumN_add]
def one (b : Prop) [Decidable b] : Int := if b then 1 else 0
def cnt (u : Nat → Option Nat) (j : Nat) (a : Nat) : Int := sumN a (fun s => one (u s = some j))
theorem one_nn (b : Prop) [Decidable b] : 0 ≤ one b := by unfold one; split <;> omega
theorem one_pos {b : Prop} [Decidable b] (h : b) : one b = 1 := if_pos h
theorem one_neg {b : Prop} [Decidable b] (h : ¬ b) : one b = 0 := if_neg h
theorem cnt_succ (u : Nat → Option Nat) (j a : Nat) : cnt u j (a + 1) = cnt u j a + one (u a = some j) := rfl
theorem cnt_mono (u : Nat → Option Nat) (j : Nat) {a : Nat} : ∀ {b : Nat}, a ≤ b → cnt u j a ≤ cnt u j b := by
  intro b
  induction b with
  | zero => intro h; rw [show a = 0 by omega]; exact Int.le_refl _
  | succ b ih =>
    intro h
    by_cases hab : a = b + 1
    · subst hab; exact Int.le_refl _
    · have := ih (by omega)
      have := one_nn (u b = some j)
      rw [cnt_succ]
      omega
structure Sched (n : Nat) (tim rel : Nat → Int) (u : Nat → Option Nat) (C : Nat → Int) (H : Nat) : Prop where
  job : ∀ a j, a < H → u a = some j → j < n ∧ rel j ≤ a
  full : ∀ j, j < n → cnt u j H = tim j
  last : ∀ j, j < n → ∃ a : Nat, a < H ∧ C j = (a : Int) + 1 ∧ u a = some j ∧ ∀ s, a < s → s < H → u s ≠ some j
section
variable {n : Nat} {tim rel : Nat → Int} {u : Nat → Option Nat} {C : Nat → Int} {H : Nat}
theorem Sched.before (h : Sched n tim rel u C H) {j s : Nat} (hj : j < n) (hs : s < H) (hu : u s = some j) : (s : Int) < C j := by
  obtain ⟨a, ha, hC, hua, hl⟩ := h.last j hj
  by_cases hsa : s ≤ a
  · omega
  · exact absurd hu (hl s (by omega) hs)
theorem Sched.le (h : Sched n tim rel u C H) {j : Nat} (hj : j < n) (a : Nat) (ha : a ≤ H) : cnt u j a ≤ tim j := by
  rw [← h.full j hj]; exact cnt_mono u j ha
theorem Sched.open (h : Sched n tim rel u C H) {j : Nat} (hj : j < n) {a s : Nat} (has : a ≤ s) (hs : s < H) (hu : u s = some j) : cnt u j a < tim j := by
  have h1 := cnt_mono u j has
  have h2 := h.le hj (s + 1) (by omega)
  rw [cnt_succ, one_pos hu] at h2
  omega
theorem Sched.end_le (h : Sched n tim rel u C H) {j : Nat} (hj : j < n) : 0 < C j ∧ C j ≤ H := by
  obtain ⟨e, he, hC, hue, hl⟩ := h.last j hj
  omega
end
def outside (n : Nat) (S : Nat → Prop) [DecidablePred S] (f : Nat → Int) : Int := sumN n (fun i => if S i then 0 else f i)
def size (n : Nat) (S : Nat → Prop) [DecidablePred S] : Int := sumN n (fun i => one (S i))
def Below' (n : Nat) (x y : Nat → Int) : Prop := ∀ S : Nat → Bool, ∃ S' : Nat → Bool, size n (fun i => S' i = true) ≤ size n (fun i => S i = true) ∧ outside n (fun i => S' i = true) x ≤ outside n (fun i => S i = true) y
theorem Below'.refl (n : Nat) (x : Nat → Int) : Below' n x x := fun S => ⟨S, Int.le_refl _, Int.le_refl _⟩
end Go.Proofs.Ytaboleeclpllpaa.T


namespace Go.Proofs.Ytaboleeclpllpaa.M
open Go.RowKit Go.Proofs.YtaboleeclpllpaaW.PrintWords Go.Proofs.YtaboleeclpllpaaW.PrintLast Go.Proofs.YtaboleeclpllpaaW.PrintMore Go.Proofs.Ytaboleeclpllpaa.P Go.Proofs.Ytaboleeclpllpaa.T
set_option linter.unusedVariables false
set_option linter.unusedSimpArgs false
def timf (l : List S48) (j : Nat) : Int := (jb l j).f0
def relf (l : List S48) (j : Nat) : Int := (jb l j).f1
def duef (l : List S48) (j : Nat) : Int := (jb l j).f2
end Go.Proofs.Ytaboleeclpllpaa.M


namespace Go.Proofs.Ytaboleeclpllpaa.M
open Go.RowKit Go.Proofs.YtaboleeclpllpaaW.PrintWords Go.Proofs.YtaboleeclpllpaaW.PrintLast Go.Proofs.YtaboleeclpllpaaW.PrintMore Go.Proofs.Ytaboleeclpllpaa.P Go.Proofs.Ytaboleeclpllpaa.T
set_option linter.unusedVariables false
set_option linter.unusedSimpArgs false
def insRev (lt : Int → Int → Bool) : List Int → Int → List Int
  | [], v => [v]
  | y :: l, v => if lt v y = true then y :: insRev lt l v else v :: y :: l
theorem rd_append (p q : List Int) (v : Int) : rd (p ++ v :: q) (p.length : Int) = v := by
  rw [rd_nat _ _ (by rw [List.length_append, List.length_cons]; omega)]
  simp
theorem rd_mid (p q : List Int) (y v : Int) : rd (p ++ y :: v :: q) ((p.length + 1 : Nat) : Int) = v := by
  have := rd_append (p ++ [y]) q v
  simpa using this
theorem set_mid (p q : List Int) (y v : Int) : ((p ++ y :: v :: q).set (p.length + 1) y).set p.length v = p ++ v :: y :: q := by
  simp [List.set_append]
theorem ins_rev (lt : Int → Int → Bool) : ∀ (l : List Int) (v : Int) (post : List Int), dates_jobs_byDue.srt.ins lt l.length (l.reverse ++ v :: post) = (insRev lt l v).reverse ++ post
  | [], v, post => rfl
  | y :: l, v, post => by
    have e : (y :: l).reverse ++ v :: post = l.reverse ++ y :: v :: post := by simp
    have h1 : rd (l.reverse ++ y :: v :: post) ((l.length + 1 : Nat) : Int) = v := by
      have := rd_mid l.reverse post y v
      rwa [List.length_reverse] at this
    have h0 : rd (l.reverse ++ y :: v :: post) (l.length : Int) = y := by
      have := rd_append l.reverse (v :: post) y
      rwa [List.length_reverse] at this
    have hs : ((l.reverse ++ y :: v :: post).set (l.length + 1) y).set l.length v = l.reverse ++ v :: y :: post := by
      have := set_mid l.reverse post y v
      rwa [List.length_reverse] at this
    rw [e, List.length_cons, dates_jobs_byDue.srt.ins, h1, h0, hs, insRev]
    by_cases c : lt v y = true
    · rw [if_pos c, if_pos c, ins_rev lt l v (y :: post)]
      simp
    · rw [if_neg c, if_neg c]
      simp
theorem from_rev (lt : Int → Int → Bool) : ∀ (rest l : List Int), dates_jobs_byDue.srt.from lt rest.length l.length (l.reverse ++ rest) = (rest.foldl (insRev lt) l).reverse
  | [], l => by simp [dates_jobs_byDue.srt.from]
  | v :: rest, l => by
    have hlen : ∀ (l : List Int) (v : Int), (insRev lt l v).length = l.length + 1 := by
      intro l
      induction l with
      | nil => intro v; rfl
      | cons y l ih =>
        intro v
        rw [insRev]
        split
        · rw [List.length_cons, ih, List.length_cons]
        · rfl
    rw [List.length_cons, dates_jobs_byDue.srt.from, ins_rev lt l v rest, List.foldl_cons, ← from_rev lt rest (insRev lt l v), hlen]
theorem sort_rev (lt : Int → Int → Bool) (xs : List Int) : dates_jobs_byDue.srt.sort lt xs = (xs.foldl (insRev lt) []).reverse := by
  unfold dates_jobs_byDue.srt.sort
  cases xs with
  | nil => rfl
  | cons x xs =>
    have := from_rev lt xs [x]
    rw [List.foldl_cons]
    show _ = (xs.foldl (insRev lt) [x]).reverse
    rw [← this]
    simp
def lex (l : List S48) (i j : Int) : Prop := duef l i.toNat < duef l j.toNat ∨ duef l i.toNat = duef l j.toNat ∧ i < j
instance (l : List S48) (i j : Int) : Decidable (lex l i j) := by unfold lex; infer_instance
theorem lex_trans {l : List S48} {a b c : Int} (h1 : lex l a b) (h2 : lex l b c) : lex l a c := by unfold lex at *; omega
theorem lex_irrefl {l : List S48} (a : Int) : ¬ lex l a a := by unfold lex; omega
theorem mem_insRev {lt : Int → Int → Bool} {x : Int} : ∀ {l : List Int} {v : Int}, x ∈ insRev lt l v ↔ x = v ∨ x ∈ l
  | [], v => by simp [insRev]
  | y :: l, v => by
    rw [insRev]
    split
    · rw [List.mem_cons, mem_insRev, List.mem_cons]
      constructor
      · rintro (h | h | h)
        · exact Or.inr (Or.inl h)
        · exact Or.inl h
        · exact Or.inr (Or.inr h)
      · rintro (h | h | h)
        · exact Or.inr (Or.inl h)
        · exact Or.inl h
        · exact Or.inr (Or.inr h)
    · rw [List.mem_cons]
def ltD (l : List S48) (x y : Int) : Bool := decide (duef l x.toNat < duef l y.toNat)
theorem desc_insRev {l : List S48} : ∀ {r : List Int} {v : Int}, r.Pairwise (fun a b => lex l b a) → (∀ x ∈ r, x < v) → (insRev (ltD l) r v).Pairwise (fun a b => lex l b a)
  | [], v, _, _ => by simp [insRev]
  | y :: r, v, hp, hlt => by
    rw [List.pairwise_cons] at hp
    have hy := hlt y (by simp)
    rw [insRev]
    by_cases c : ltD l v y = true
    · rw [if_pos c, List.pairwise_cons]
      have c' : duef l v.toNat < duef l y.toNat := by simpa [ltD] using c
      refine ⟨fun z hz => ?_, desc_insRev hp.2 (fun x hx => hlt x (by simp [hx]))⟩
      rcases mem_insRev.1 hz with rfl | hz
      · exact Or.inl c'
      · exact hp.1 z hz
    · rw [if_neg c, List.pairwise_cons, List.pairwise_cons]
      have c' : ¬ duef l v.toNat < duef l y.toNat := by simpa [ltD] using c
      have hyv : lex l y v := by unfold lex; omega
      refine ⟨fun z hz => ?_, hp.1, hp.2⟩
      rcases List.mem_cons.1 hz with rfl | hz
      · exact hyv
      · exact lex_trans (hp.1 z hz) hyv
end Go.Proofs.Ytaboleeclpllpaa.M


namespace Go.Proofs.Ytaboleeclpllpaa.M
open Go.RowKit Go.Proofs.YtaboleeclpllpaaW.PrintWords Go.Proofs.YtaboleeclpllpaaW.PrintLast Go.Proofs.YtaboleeclpllpaaW.PrintMore Go.Proofs.Ytaboleeclpllpaa.P Go.Proofs.Ytaboleeclpllpaa.T
set_option linter.unusedVariables false
set_option linter.unusedSimpArgs false
theorem bit0 : ∀ s : Fin 256, ∀ i : Fin 8, Go.bits .and .i64 (shr .i64 ((s : Nat) : Int) ((i : Nat) : Int)) 1 = if (s : Nat).testBit i = true then 1 else 0 := by decide +kernel
theorem bit_test {s i : Nat} (hs : s < 256) (hi : i < 8) : Go.bits .and .i64 (shr .i64 (s : Int) (i : Int)) 1 = if s.testBit i = true then 1 else 0 := bit0 ⟨s, hs⟩ ⟨i, hi⟩
def upTo (l : List S48) (s : Nat) (j : Int) : Int := sumN l.length (fun i => if s.testBit i = true ∧ (lex l (i : Int) j ∨ (i : Int) = j) then timf l i else 0)
def onTime (l : List S48) (s : Nat) : Prop := ∀ j : Nat, j < l.length → s.testBit j = true → upTo l s (j : Int) ≤ duef l j
instance (l : List S48) (s : Nat) : Decidable (onTime l s) := by unfold onTime; exact Nat.decidableBallLT _ _
end Go.Proofs.Ytaboleeclpllpaa.M


namespace Go.Proofs.Ytaboleeclpllpaa.M
open Go.RowKit Go.Proofs.YtaboleeclpllpaaW.PrintWords Go.Proofs.YtaboleeclpllpaaW.PrintLast Go.Proofs.YtaboleeclpllpaaW.PrintMore Go.Proofs.Ytaboleeclpllpaa.P Go.Proofs.Ytaboleeclpllpaa.T
set_option linter.unusedVariables false
set_option linter.unusedSimpArgs false
end Go.Proofs.Ytaboleeclpllpaa.M


namespace Go.Proofs.Ytaboleeclpllpaa.M
open Go.RowKit Go.Proofs.YtaboleeclpllpaaW.PrintWords Go.Proofs.YtaboleeclpllpaaW.PrintLast Go.Proofs.YtaboleeclpllpaaW.PrintMore Go.Proofs.Ytaboleeclpllpaa.P
set_option linter.unusedVariables false
set_option linter.unusedSimpArgs false
def put (s i : Nat) : Nat := s ||| (1 <<< i)
def pc (s : Nat) : Nat := ((List.range 8).filter fun i => s.testBit i).length
theorem or_put0 : ∀ s : Fin 256, ∀ i : Fin 8, Go.bits .or .i64 ((s : Nat) : Int) (shl .i64 1 ((i : Nat) : Int)) = ((put s i : Nat) : Int) := by decide +kernel
theorem put_lt0 : ∀ s : Fin 256, ∀ i : Fin 8, put s i < 256 := by decide +kernel
theorem put_pc0 : ∀ s : Fin 256, ∀ i : Fin 8, pc (put s i) = pc s + (if (s : Nat).testBit i = true then 0 else 1) := by decide +kernel
theorem full0 : ∀ n : Fin 9, ∀ s : Fin 256, (s : Nat) < 2 ^ (n : Nat) → (pc s = n ↔ (s : Nat) = 2 ^ (n : Nat) - 1) := by decide +kernel
theorem full_shl0 : ∀ n : Fin 9, wrap64 ((shl .i64 1 ((n : Nat) : Int)) - 1) = ((2 ^ (n : Nat) - 1 : Nat) : Int) := by decide +kernel
theorem put_pow0 : ∀ n : Fin 9, ∀ s : Fin 256, ∀ i : Fin 8, (i : Nat) < n → (s : Nat) < 2 ^ (n : Nat) → put s i < 2 ^ (n : Nat) := by decide +kernel
theorem or_put {s i : Nat} (hs : s < 256) (hi : i < 8) : Go.bits .or .i64 (s : Int) (shl .i64 1 (i : Int)) = ((put s i : Nat) : Int) := or_put0 ⟨s, hs⟩ ⟨i, hi⟩
theorem put_lt {s i : Nat} (hs : s < 256) (hi : i < 8) : put s i < 256 := put_lt0 ⟨s, hs⟩ ⟨i, hi⟩
theorem put_pc {s i : Nat} (hs : s < 256) (hi : i < 8) : pc (put s i) = pc s + (if s.testBit i = true then 0 else 1) := put_pc0 ⟨s, hs⟩ ⟨i, hi⟩
theorem full_pc {n s : Nat} (hn : n ≤ 8) (hs : s < 2 ^ n) : pc s = n ↔ s = 2 ^ n - 1 := by
  have h8 : 2 ^ n ≤ 2 ^ 8 := Nat.pow_le_pow_right (by omega) hn
  exact full0 ⟨n, by omega⟩ ⟨s, by omega⟩ hs
theorem full_shl {n : Nat} (hn : n ≤ 8) : wrap64 ((shl .i64 1 (n : Int)) - 1) = ((2 ^ n - 1 : Nat) : Int) := full_shl0 ⟨n, by omega⟩
theorem put_pow {n s i : Nat} (hn : n ≤ 8) (hi : i < n) (hs : s < 2 ^ n) : put s i < 2 ^ n := by
  have h8 : 2 ^ n ≤ 2 ^ 8 := Nat.pow_le_pow_right (by omega) hn
  exact put_pow0 ⟨n, by omega⟩ ⟨s, by omega⟩ ⟨i, by omega⟩ hi hs
def inN (n : Nat) (x : Int) : Bool := decide (0 ≤ x ∧ x < (n : Int))
def fresh : Nat → List Int → Bool
  | _, [] => true
  | s, x :: xs => !s.testBit x.toNat && fresh (put s x.toNat) xs
def setAll : Nat → List Int → Nat
  | s, [] => s
  | s, x :: xs => setAll (put s x.toNat) xs
def orderB (n : Nat) (o : List Int) : Bool := decide (o.length = n) && o.all (inN n) && fresh 0 o
theorem inN_iff {n : Nat} {x : Int} : inN n x = true ↔ 0 ≤ x ∧ x < (n : Int) := by simp [inN]
theorem setAll_lt {n : Nat} (hn : n ≤ 8) : ∀ (o : List Int) (s : Nat), o.all (inN n) = true → s < 2 ^ n → setAll s o < 2 ^ n
  | [], s, _, hs => hs
  | x :: xs, s, h, hs => by
    rw [List.all_cons, Bool.and_eq_true, inN_iff] at h
    exact setAll_lt hn xs _ h.2 (put_pow hn (by omega) hs)
theorem pow8 {n : Nat} (hn : n ≤ 8) : 2 ^ n ≤ 256 := Nat.pow_le_pow_right (n := 2) (by omega) hn
theorem setAll_pc {n : Nat} (hn : n ≤ 8) : ∀ (o : List Int) (s : Nat), o.all (inN n) = true → s < 2 ^ n → pc (setAll s o) ≤ pc s + o.length ∧ (pc (setAll s o) = pc s + o.length ↔ fresh s o = true)
  | [], s, _, hs => by simp [setAll, fresh]
  | x :: xs, s, h, hs => by
    rw [List.all_cons, Bool.and_eq_true, inN_iff] at h
    have h8 := pow8 hn
    obtain ⟨ih1, ih2⟩ := setAll_pc hn xs (put s x.toNat) h.2 (put_pow hn (by omega) hs)
    rw [put_pc (by omega) (by omega)] at ih1 ih2
    simp only [setAll, fresh, List.length_cons]
    cases hb : s.testBit x.toNat with
    | true =>
      simp only [hb, if_true] at ih1 ih2
      simp
      omega
    | false =>
      simp only [hb, Bool.false_eq_true, if_false] at ih1 ih2
      simp
      rw [← ih2]
      omega
theorem order_loop (l : List S48) (o1 o : List Int) (hn : l.length ≤ 8) (hl : o.length ≤ 9223372036854775807) : ∀ (d i s : Nat), i + d = o.length → s < 2 ^ l.length →
    Ev (fun k => dates_jobs_order.l0 k l o1 (s : Int) o (o.length : Int) (i : Int)) ((o.drop i).all (inN l.length) && decide (o1.length = l.length) && decide (setAll s (o.drop i) = 2 ^ l.length - 1)) := by
  intro d
  induction d with
  | zero =>
    intro i s hi hs
    rw [show i = o.length by omega, List.drop_length]
    by_cases h1 : o1.length = l.length
    · refine Ev.step (f := fun _ => some ((s : Int) == ((2 ^ l.length - 1 : Nat) : Int))) (fun k => ?_) ?_
      · simp only [dates_jobs_order.l0]
        rw [if_neg (by omega), if_pos (by omega), full_shl hn]
      · have : ((s : Int) == ((2 ^ l.length - 1 : Nat) : Int)) = decide (setAll s [] = 2 ^ l.length - 1) := by
          rw [Bool.beq_eq_decide_eq]
          exact decide_eq_decide.2 (by simp only [setAll]; omega)
        rw [this]
        simp [h1]
        exact Ev.now _
    · refine Ev.step (f := fun _ => some false) (fun k => ?_) ?_
      · simp only [dates_jobs_order.l0]
        rw [if_neg (by omega), if_neg (by omega)]
      · simp [h1]
        exact Ev.now _
  | succ d ih =>
    intro i s hi hs
    have h8 := pow8 hn
    have hlt : i < o.length := by omega
    rw [List.drop_eq_getElem_cons hlt, List.all_cons]
    by_cases h0 : o[i] < 0
    · refine Ev.step (f := fun _ => some false) (fun k => ?_) ?_
      · simp only [dates_jobs_order.l0]
        rw [if_pos (by omega), if_pos (by omega), if_pos (by omega), rd_nat o i hlt, if_pos h0]
      · have : inN l.length o[i] = false := by simp [inN]; omega
        rw [this]
        exact Ev.now _
    · by_cases h1 : o[i] ≥ (l.length : Int)
      · refine Ev.step (f := fun _ => some false) (fun k => ?_) ?_
        · simp only [dates_jobs_order.l0]
          rw [if_pos (by omega), if_pos (by omega), if_pos (by omega), rd_nat o i hlt, if_neg h0, if_pos h1]
        · have : inN l.length o[i] = false := by simp [inN]; omega
          rw [this]
          exact Ev.now _
      · have hx : inN l.length o[i] = true := by simp [inN]; omega
        have hr := ih (i + 1) (put s o[i].toNat) (by omega) (put_pow hn (by omega) hs)
        rw [hx, Bool.true_and]
        refine Ev.step (fun k => ?_) hr
        simp only [dates_jobs_order.l0]
        rw [if_pos (by omega), if_pos (by omega), if_pos (by omega), rd_nat o i hlt, if_neg h0, if_neg h1, if_pos (by omega), w64s i o.length hlt hl]
        congr 1
        have ho := or_put (s := s) (i := o[i].toNat) (by omega) (by omega)
        rw [show ((o[i].toNat : Nat) : Int) = o[i] by omega] at ho
        exact ho
theorem order_f (l : List S48) (o : List Int) (hn : l.length ≤ 8) (hl : o.length ≤ 9223372036854775807) : Ev (fun k => dates_jobs_order.f k l o) (orderB l.length o) := by
  unfold dates_jobs_order.f
  have h := order_loop l o o hn hl o.length 0 0 (by omega) (Nat.two_pow_pos _)
  have he : orderB l.length o = ((o.drop 0).all (inN l.length) && decide (o.length = l.length) && decide (setAll 0 (o.drop 0) = 2 ^ l.length - 1)) := by
    rw [List.drop_zero]
    unfold orderB
    cases ha : o.all (inN l.length) with
    | false => simp
    | true =>
      by_cases hc : o.length = l.length
      · obtain ⟨_, h2⟩ := setAll_pc hn o 0 ha (Nat.two_pow_pos _)
        have h3 := full_pc hn (setAll_lt hn o 0 ha (Nat.two_pow_pos _))
        rw [show pc 0 = 0 from rfl, hc, Nat.zero_add] at h2
        simp only [hc, decide_true, Bool.true_and]
        cases hf : fresh 0 o with
        | true => rw [decide_eq_true (h3.1 (h2.2 hf))]
        | false =>
          rw [decide_eq_false]
          intro hh
          rw [h2.1 (h3.2 hh)] at hf
          cases hf
      · simp [hc]
  rw [he]
  exact h
def rowFrom (l : List S48) : Int → List Int → List Int → List Int
  | _, acc, [] => acc
  | now, acc, x :: xs => rowFrom l (now + (jb l x.toNat).f0) (acc.set x.toNat (now + (jb l x.toNat).f0)) xs
def rowOf (l : List S48) (o : List Int) : List Int := rowFrom l 0 (List.replicate l.length 0) o
theorem rowFrom_length (l : List S48) : ∀ (o acc : List Int) (now : Int), (rowFrom l now acc o).length = acc.length
  | [], _, _ => rfl
  | x :: xs, acc, now => by rw [rowFrom, rowFrom_length, List.length_set]
theorem rowOf_length (l : List S48) (o : List Int) : (rowOf l o).length = l.length := by rw [rowOf, rowFrom_length, List.length_replicate]
theorem time_le {l : List S48} (hv : valid48 l = true) (i : Nat) : 0 ≤ (jb l i).f0 ∧ (jb l i).f0 ≤ 20 := by
  by_cases h : i < l.length
  · rw [jb_get h]
    simp only [valid48, Bool.and_eq_true, List.all_eq_true, decide_eq_true_eq] at hv
    have := hv.2 l[i] (List.getElem_mem h)
    simp only [ok48, decide_eq_true_eq] at this
    omega
  · simp [jb, List.getD_eq_getElem?_getD, List.getElem?_eq_none (Nat.le_of_not_lt h), z48]
theorem ends_loop (l : List S48) (hv : valid48 l = true) (o : List Int) (ha : o.all (inN l.length) = true) (hl : o.length ≤ 1000000) : ∀ (d i : Nat) (acc : List Int) (now : Int), i + d = o.length → acc.length = l.length → 0 ≤ now → now ≤ 20 * i →
    Ev (fun k => dates_jobs_ends.l0 k l acc now o (o.length : Int) (i : Int)) (rowFrom l now acc (o.drop i)) := by
  intro d
  induction d with
  | zero =>
    intro i acc now hi hac h0 h1
    rw [show i = o.length by omega, List.drop_length]
    refine Ev.step (f := fun _ => some acc) (fun k => ?_) (Ev.now _)
    simp only [dates_jobs_ends.l0]
    rw [if_neg (by omega)]
  | succ d ih =>
    intro i acc now hi hac h0 h1
    have hlt : i < o.length := by omega
    have hx := List.all_eq_true.1 ha o[i] (List.getElem_mem hlt)
    rw [inN_iff] at hx
    have ht := time_le hv o[i].toNat
    have hget : rd_T48 l o[i] = jb l o[i].toNat := by
      have := rd48 l o[i].toNat (by omega)
      rw [show ((o[i].toNat : Nat) : Int) = o[i] by omega] at this
      rw [this, jb_get (by omega)]
    rw [List.drop_eq_getElem_cons hlt, rowFrom]
    refine Ev.step (fun k => ?_) (ih (i + 1) (acc.set o[i].toNat (now + (jb l o[i].toNat).f0)) (now + (jb l o[i].toNat).f0) (by omega) (by rw [List.length_set, hac]) (by omega) (by omega))
    simp only [dates_jobs_ends.l0]
    rw [if_pos (by omega), if_pos (by omega), if_pos (by omega), rd_nat o i hlt, if_pos (by omega), if_pos (by omega), if_pos (by omega), w64s i o.length hlt (by omega), hget, w64 (by omega) (by omega)]
theorem ends_f (l : List S48) (hv : valid48 l = true) (o : List Int) (ha : o.all (inN l.length) = true) (hl : o.length ≤ 1000000) : Ev (fun k => dates_jobs_ends.f k l o) (rowOf l o) := by
  unfold dates_jobs_ends.f
  have hn : l.length ≤ 8 := by
    simp only [valid48, Bool.and_eq_true, decide_eq_true_eq] at hv
    exact hv.1.2
  simp only [if_pos (show (0 : Int) ≤ (l.length : Int) by omega), if_pos (show ((l.length : Int) : Int).toNat ≤ 35184372088832 by omega)]
  rw [show ((l.length : Int)).toNat = l.length by omega]
  exact ends_loop l hv o ha hl o.length 0 _ 0 (by omega) (by simp) (by omega) (by omega)
theorem orderB_all {n : Nat} {o : List Int} (h : orderB n o = true) : o.all (inN n) = true ∧ o.length = n := by
  simp only [orderB, Bool.and_eq_true, decide_eq_true_eq] at h
  exact ⟨h.1.2, h.1.1⟩
theorem Ends_f (l : List S48) (o : List Int) (hl : l.length ≤ 9223372036854775807) (ho : o.length ≤ 1000000) : Ev (fun k => dates_Ends.f k l o) (if (valid48 l && orderB l.length o) = true then (rowOf l o, 0) else ([], 2)) := by
  unfold dates_Ends.f
  refine Ev.bind (valid_f l hl) ?_
  cases hv : valid48 l with
  | false => simp; exact Ev.now _
  | true =>
    simp only [if_true, Bool.true_and]
    refine Ev.bind (order_f l o (valid_len hv).2 (by omega)) ?_
    cases hb : orderB l.length o with
    | false => simp; exact Ev.now _
    | true =>
      simp only [if_true]
      exact Ev.bind (ends_f l hv o (orderB_all hb).1 ho) (Ev.now _)
theorem mn_min (a b : Int) : mn a b = min a b := by unfold mn; omega
theorem list_f (o : List Int) : corrodylaw06_list.f o = some (o.take 10) := by
  unfold corrodylaw06_list.f slices_Clone_int_int.f
  rw [mn_min, if_pos (by omega), if_pos (by omega)]
  have : (min (o.length : Int) 10).toNat = min o.length 10 := by omega
  rw [this]
  simp only [Option.bind_some, List.length_nil, List.length_take, List.nil_append]
  rw [if_pos (by omega)]
  simp only [Option.bind_some]
  congr 1
  rcases Nat.le_total o.length 10 with h | h
  · rw [Nat.min_eq_left h, List.take_of_length_le h, List.take_of_length_le (Nat.le_refl _)]
  · rw [Nat.min_eq_right h]
theorem orderB_take {n : Nat} (hn : n ≤ 8) (o : List Int) : orderB n (o.take 10) = orderB n o := by
  by_cases h : o.length ≤ 10
  · rw [List.take_of_length_le h]
  · have h1 : decide ((o.take 10).length = n) = false := by simp; omega
    have h2 : decide (o.length = n) = false := by simp; omega
    unfold orderB
    rw [h1, h2]
    simp
theorem order_take {n : Nat} {o : List Int} (hn : n ≤ 8) (h : orderB n o = true) : o.take 10 = o := by
  have := (orderB_all h).2
  exact List.take_of_length_le (by omega)
end Go.Proofs.Ytaboleeclpllpaa.M


namespace Go.Proofs.Ytaboleeclpllpaa.M
open Go.RowKit Go.Proofs.YtaboleeclpllpaaW.PrintWords Go.Proofs.YtaboleeclpllpaaW.PrintLast Go.Proofs.YtaboleeclpllpaaW.PrintMore Go.Proofs.Ytaboleeclpllpaa.P Go.Proofs.Ytaboleeclpllpaa.T
set_option linter.unusedVariables false
set_option linter.unusedSimpArgs false
end Go.Proofs.Ytaboleeclpllpaa.M


namespace Go.Proofs.Ytaboleeclpllpaa.M
open Go.RowKit Go.Proofs.YtaboleeclpllpaaW.PrintWords Go.Proofs.YtaboleeclpllpaaW.PrintLast Go.Proofs.YtaboleeclpllpaaW.PrintMore Go.Proofs.Ytaboleeclpllpaa.P Go.Proofs.Ytaboleeclpllpaa.T
set_option linter.unusedVariables false
set_option linter.unusedSimpArgs false
def free (bs : List Int) (s i : Nat) : Bool := !s.testBit i && decide (Go.bits .andNot .i64 (rd bs (i : Int)) (s : Int) = 0)
def cost (l : List S48) : Int → List Nat → Int
  | _, [] => -1000
  | a, i :: r => mx (cost l (a + timf l i) r) (a + timf l i - duef l i)
def conts (bs : List Int) (n : Nat) : Nat → Nat → List (List Nat)
  | 0, s => if s = 2 ^ n - 1 then [[]] else []
  | m + 1, s => if s = 2 ^ n - 1 then [[]] else (List.range n).flatMap (fun i => if free bs s i = true then (conts bs n m (put s i)).map (i :: ·) else [])
def atS (l : List S48) (s : Nat) : Int := sumN l.length (fun i => if s.testBit i = true then timf l i else 0)
theorem put_bit0 : ∀ s : Fin 256, ∀ i j : Fin 8, (put s i).testBit j = ((s : Nat).testBit j || decide ((j : Nat) = (i : Nat))) := by decide +kernel
theorem put_bit {s i j : Nat} (hs : s < 256) (hi : i < 8) (hj : j < 8) : (put s i).testBit j = (s.testBit j || decide (j = i)) := put_bit0 ⟨s, hs⟩ ⟨i, hi⟩ ⟨j, hj⟩
theorem atS_put (l : List S48) (h8 : l.length ≤ 8) {s i : Nat} (hs : s < 256) (hi : i < l.length) (hb : s.testBit i = false) : atS l (put s i) = atS l s + timf l i := by
  unfold atS
  rw [sumN_at (f := fun j => if (put s i).testBit j = true then timf l j else 0) (g := fun j => if s.testBit j = true then timf l j else 0) i hi (fun j hj hne => by
    show (if (put s i).testBit j = true then timf l j else 0) = (if s.testBit j = true then timf l j else 0)
    rw [put_bit hs (by omega) (by omega)]
    simp [hne])]
  simp only [put_bit hs (show i < 8 by omega) (show i < 8 by omega), hb]
  simp
theorem atS_bound (l : List S48) (hv : valid48 l = true) (s : Nat) : 0 ≤ atS l s ∧ atS l s ≤ 160 := by
  have hlen := valid_len hv
  have h : ∀ n : Nat, n ≤ l.length → 0 ≤ sumN n (fun i => if s.testBit i = true then timf l i else 0) ∧ sumN n (fun i => if s.testBit i = true then timf l i else 0) ≤ 20 * n := by
    intro n
    induction n with
    | zero => intro _; simp [sumN]
    | succ n ih =>
      intro h
      have h1 := ih (by omega)
      have h2 := valid_jb hv (i := n) (by omega)
      simp only [sumN]
      unfold timf at h1 ⊢
      split <;> omega
  have := h l.length (Nat.le_refl _)
  unfold atS
  omega
theorem at_run (l : List S48) (hv : valid48 l = true) (s : Nat) (hs : s < 256) : dates_jobs_worst.at l (s : Int) l.length 0 0 = atS l s := by
  have hlen := valid_len hv
  have h : ∀ m i : Nat, i + m = l.length → ∀ a : Int, a = sumN i (fun i => if s.testBit i = true then timf l i else 0) → 0 ≤ a → a ≤ 20 * i → dates_jobs_worst.at l (s : Int) m i a = atS l s := by
    intro m
    induction m with
    | zero =>
      intro i hi a ha _ _
      rw [dates_jobs_worst.at, ha, show i = l.length by omega]
      rfl
    | succ m ih =>
      intro i hi a ha h0 h1
      have h2 := valid_jb hv (i := i) (by omega)
      rw [dates_jobs_worst.at, bit_test hs (by omega), rd48 l i (by omega), ← jb_get (by omega)]
      have e : sumN (i + 1) (fun i => if s.testBit i = true then timf l i else 0) = sumN i (fun i => if s.testBit i = true then timf l i else 0) + (if s.testBit i = true then timf l i else 0) := rfl
      by_cases c : s.testBit i = true
      · rw [if_pos c] at e ⊢
        rw [Int.mul_one, w64 (x := (jb l i).f0) (by omega) (by omega), w64 (by omega) (by omega)]
        refine ih (i + 1) (by omega) _ (by rw [e, ha]; rfl) (by omega) (by omega)
      · rw [if_neg c] at e ⊢
        rw [Int.mul_zero, w64 (x := 0) (by omega) (by omega), w64 (by omega) (by omega)]
        refine ih (i + 1) (by omega) _ (by rw [e, ha]) (by omega) (by omega)
  exact h l.length 0 (by omega) 0 rfl (by omega) (by omega)
def Tells (l : List S48) (a : Int) (L : List (List Nat)) (r : Int × Bool) : Prop := (r.2 = false → L = []) ∧ (r.2 = true → (∃ o, o ∈ L ∧ cost l a o = r.1) ∧ ∀ o, o ∈ L → r.1 ≤ cost l a o)
theorem mx_le_mx {a b c : Int} (h : a ≤ b) : mx a c ≤ mx b c := by unfold mx; split <;> split <;> omega
theorem tells_cons {l : List S48} {a : Int} {i : Nat} {L : List (List Nat)} {r : Int × Bool} (h : Tells l (a + timf l i) L r) : Tells l a (L.map (i :: ·)) (mx r.1 (a + timf l i - duef l i), r.2) := by
  refine ⟨fun e => by rw [h.1 e]; rfl, fun e => ?_⟩
  obtain ⟨⟨o, ho, hc⟩, hm⟩ := h.2 e
  refine ⟨⟨i :: o, List.mem_map.2 ⟨o, ho, rfl⟩, by rw [cost, hc]⟩, fun o' ho' => ?_⟩
  obtain ⟨q, hq, rfl⟩ := List.mem_map.1 ho'
  rw [cost]
  exact mx_le_mx (hm q hq)
theorem tells_app {l : List S48} {a : Int} {L M : List (List Nat)} {b x : Int} {f g : Bool} (h : Tells l a L (b, f)) (k : Tells l a M (x, g)) :
    Tells l a (L ++ M) (if g = true then (if f = true then (if x < b then (x, true) else (b, f)) else (x, true)) else (b, f)) := by
  cases g with
  | false =>
    rw [if_neg (by simp), k.1 rfl, List.append_nil]
    exact h
  | true =>
    obtain ⟨⟨o, ho, hc⟩, hm⟩ := k.2 rfl
    simp only at hc hm
    rw [if_pos rfl]
    cases f with
    | false =>
      rw [if_neg (by simp), h.1 rfl, List.nil_append]
      exact k
    | true =>
      obtain ⟨⟨p, hp, hd⟩, hn⟩ := h.2 rfl
      simp only at hd hn
      rw [if_pos rfl]
      by_cases c : x < b
      · rw [if_pos c]
        refine ⟨fun e => absurd e (by simp), fun _ => ⟨⟨o, List.mem_append.2 (Or.inr ho), hc⟩, fun q hq => ?_⟩⟩
        rcases List.mem_append.1 hq with hq | hq
        · have := hn q hq
          simp only
          omega
        · exact hm q hq
      · rw [if_neg c]
        refine ⟨fun e => absurd e (by simp), fun _ => ⟨⟨p, List.mem_append.2 (Or.inl hp), hd⟩, fun q hq => ?_⟩⟩
        rcases List.mem_append.1 hq with hq | hq
        · exact hn q hq
        · have := hm q hq
          simp only
          omega
theorem free_iff {bs : List Int} {s i : Nat} (hs : s < 256) (hi : i < 8) : free bs s i = true ↔ ¬ Go.bits .and .i64 (shr .i64 (s : Int) (i : Int)) 1 = 1 ∧ ¬ Go.bits .andNot .i64 (rd bs (i : Int)) (s : Int) ≠ 0 := by
  rw [bit_test hs hi]
  unfold free
  cases s.testBit i <;> simp
theorem full_shl' {n : Nat} (hn : n ≤ 8) : wrap64 (shl .i64 1 (n : Int) - 1) = ((2 ^ n - 1 : Nat) : Int) := full_shl hn
theorem worst_tells (l : List S48) (hv : valid48 l = true) (bs : List Int) (hb : bs.length = l.length) : ∀ (k s : Nat), s < 2 ^ l.length → l.length ≤ pc s + k → ∃ r, dates_jobs_worst.f (k + 1) l bs (s : Int) = some r ∧ Tells l (atS l s) (conts bs l.length k s) r := by
  have hlen := valid_len hv
  have h8 := pow8 hlen.2
  intro k
  induction k with
  | zero =>
    intro s hs hk
    have hpc : pc s ≤ l.length := by
      have := setAll_pc hlen.2 [] s rfl hs
      by_cases c : pc s ≤ l.length
      · exact c
      · exfalso
        have h0 : ∀ n : Fin 9, ∀ s : Fin 256, (s : Nat) < 2 ^ (n : Nat) → pc s ≤ n := by decide +kernel
        exact c (h0 ⟨l.length, by omega⟩ ⟨s, by omega⟩ hs)
    have hf : s = 2 ^ l.length - 1 := (full_pc hlen.2 hs).1 (by omega)
    refine ⟨(-1000, true), by rw [dates_jobs_worst.f, full_shl' hlen.2, if_pos (by rw [hf])], ?_⟩
    rw [conts, if_pos hf]
    exact ⟨fun e => absurd e (by simp), fun _ => ⟨⟨[], by simp, rfl⟩, fun o ho => by rw [List.mem_singleton.1 ho]; exact Int.le_refl _⟩⟩
  | succ k ih =>
    intro s hs hk
    rw [dates_jobs_worst.f, full_shl' hlen.2]
    by_cases hf : s = 2 ^ l.length - 1
    · refine ⟨(-1000, true), by rw [if_pos (by rw [hf])], ?_⟩
      rw [conts, if_pos hf]
      exact ⟨fun e => absurd e (by simp), fun _ => ⟨⟨[], by simp, rfl⟩, fun o ho => by rw [List.mem_singleton.1 ho]; exact Int.le_refl _⟩⟩
    · rw [if_neg (by omega), conts, if_neg hf, at_run l hv s (by omega)]
      have hat := atS_bound l hv s
      have hscan : ∀ (m i : Nat), i + m = l.length → ∀ (b : Int) (f : Bool), Tells l (atS l s) ((List.range i).flatMap (fun i => if free bs s i = true then (conts bs l.length k (put s i)).map (i :: ·) else [])) (b, f) →
          ∃ r, dates_jobs_worst.scan (dates_jobs_worst.f (k + 1) l bs) l bs (s : Int) (atS l s) m i b f = some r ∧ Tells l (atS l s) ((List.range l.length).flatMap (fun i => if free bs s i = true then (conts bs l.length k (put s i)).map (i :: ·) else [])) r := by
        intro m
        induction m with
        | zero =>
          intro i hi b f ht
          refine ⟨(b, f), rfl, ?_⟩
          rw [show i = l.length by omega] at ht
          exact ht
        | succ m ihm =>
          intro i hi b f ht
          have hil : i < l.length := by omega
          rw [dates_jobs_worst.scan]
          have hnext : ∀ (x : Int) (g : Bool), Tells l (atS l s) (if free bs s i = true then (conts bs l.length k (put s i)).map (i :: ·) else []) (x, g) → Tells l (atS l s) ((List.range (i + 1)).flatMap (fun i => if free bs s i = true then (conts bs l.length k (put s i)).map (i :: ·) else [])) (if g = true then (if f = true then (if x < b then (x, true) else (b, f)) else (x, true)) else (b, f)) := by
            intro x g hg
            rw [List.range_succ, List.flatMap_append]
            have e : [i].flatMap (fun i => if free bs s i = true then (conts bs l.length k (put s i)).map (i :: ·) else []) = if free bs s i = true then (conts bs l.length k (put s i)).map (i :: ·) else [] := by simp
            rw [e]
            exact tells_app ht hg
          by_cases c1 : Go.bits .and .i64 (shr .i64 (s : Int) (i : Int)) 1 = 1
          · rw [if_pos c1]
            have hnf : ¬ free bs s i = true := fun h => (((free_iff (by omega) (by omega)).1 h).1) c1
            have h1 := hnext 0 false (by rw [if_neg hnf]; exact ⟨fun _ => rfl, fun e => absurd e (by simp)⟩)
            rw [if_neg (by simp)] at h1
            exact ihm (i + 1) (by omega) b f h1
          · rw [if_neg c1, if_pos (by omega)]
            by_cases c2 : Go.bits .andNot .i64 (rd bs (i : Int)) (s : Int) ≠ 0
            · rw [if_pos c2]
              have hnf : ¬ free bs s i = true := fun h => (((free_iff (by omega) (by omega)).1 h).2) c2
              have h1 := hnext 0 false (by rw [if_neg hnf]; exact ⟨fun _ => rfl, fun e => absurd e (by simp)⟩)
              rw [if_neg (by simp)] at h1
              exact ihm (i + 1) (by omega) b f h1
            · rw [if_neg c2]
              have hfr : free bs s i = true := (free_iff (by omega) (by omega)).2 ⟨c1, c2⟩
              have hbit : s.testBit i = false := by
                unfold free at hfr
                cases h : s.testBit i
                · rfl
                · rw [h] at hfr; simp at hfr
              rw [or_put (by omega) (by omega)]
              obtain ⟨rr, hrr, ht2⟩ := ih (put s i) (put_pow hlen.2 hil hs) (by rw [put_pc (by omega) (by omega), hbit]; simp; omega)
              rw [hrr, Option.bind_some]
              rw [atS_put l hlen.2 (by omega) hil hbit] at ht2
              have hj := valid_jb hv hil
              have hw : wrap64 (wrap64 (atS l s + (rd_T48 l (i : Int)).f0) - (rd_T48 l (i : Int)).f2) = atS l s + timf l i - duef l i := by
                rw [rd48 l i hil, ← jb_get hil, w64 (x := atS l s + (jb l i).f0) (by omega) (by omega), w64 (by omega) (by omega)]
                rfl
              rw [hw]
              have h1 := hnext _ _ (by rw [if_pos hfr]; exact tells_cons ht2)
              obtain ⟨x, g⟩ := rr
              simp only at h1 ⊢
              cases g with
              | false =>
                rw [if_neg (by simp)] at h1 ⊢
                exact ihm (i + 1) (by omega) _ _ h1
              | true =>
                rw [if_pos rfl] at h1 ⊢
                cases f with
                | false =>
                  rw [if_neg (by simp)] at h1 ⊢
                  exact ihm (i + 1) (by omega) _ _ h1
                | true =>
                  rw [if_pos rfl] at h1 ⊢
                  by_cases c3 : mx x (atS l s + timf l i - duef l i) < b
                  · rw [if_pos c3] at h1 ⊢
                    exact ihm (i + 1) (by omega) _ _ h1
                  · rw [if_neg c3] at h1 ⊢
                    exact ihm (i + 1) (by omega) _ _ h1
      exact hscan l.length 0 (by omega) 0 false ⟨fun _ => rfl, fun e => absurd e (by simp)⟩
end Go.Proofs.Ytaboleeclpllpaa.M


namespace Go.Proofs.Ytaboleeclpllpaa.M
open Go.RowKit Go.Proofs.YtaboleeclpllpaaW.PrintWords Go.Proofs.YtaboleeclpllpaaW.PrintLast Go.Proofs.YtaboleeclpllpaaW.PrintMore Go.Proofs.Ytaboleeclpllpaa.P Go.Proofs.Ytaboleeclpllpaa.T
set_option linter.unusedVariables false
set_option linter.unusedSimpArgs false
def step1 (c : List Nat → Int) (acc : Option (List Nat × Int)) (o : List Nat) : Option (List Nat × Int) := match acc with
  | none => some (o, c o)
  | some (p, x) => if c o < x then some (o, c o) else some (p, x)
def firstMin (c : List Nat → Int) (L : List (List Nat)) : Option (List Nat × Int) := L.foldl (step1 c) none
def Kept1 (c : List Nat → Int) (L : List (List Nat)) : Option (List Nat × Int) → Prop
  | none => L = []
  | some (o, x) => L.find? (fun q => decide (c q ≤ x)) = some o ∧ c o = x ∧ ∀ q, q ∈ L → x ≤ c q
theorem kept_step {c : List Nat → Int} {L : List (List Nat)} {acc : Option (List Nat × Int)} (h : Kept1 c L acc) (o : List Nat) : Kept1 c (L ++ [o]) (step1 c acc o) := by
  cases acc with
  | none =>
    have h : L = [] := h
    subst h
    refine ⟨?_, rfl, fun q hq => ?_⟩
    · rw [List.nil_append, List.find?_cons_of_pos (by simp)]
    · rw [List.nil_append, List.mem_singleton] at hq
      rw [hq]
      exact Int.le_refl _
  | some px =>
    obtain ⟨p, x⟩ := px
    obtain ⟨h1, h2, h3⟩ := h
    rw [step1]
    by_cases u : c o < x
    · rw [if_pos u]
      refine ⟨?_, rfl, fun q hq => ?_⟩
      · rw [List.find?_append]
        have : L.find? (fun q => decide (c q ≤ c o)) = none := by
          rw [List.find?_eq_none]
          intro q hq
          have := h3 q hq
          simp
          omega
        rw [this, Option.none_or, List.find?_cons_of_pos (by simp)]
      · rcases List.mem_append.1 hq with hq | hq
        · have := h3 q hq
          omega
        · rw [List.mem_singleton.1 hq]
          exact Int.le_refl _
    · rw [if_neg u]
      refine ⟨?_, h2, fun q hq => ?_⟩
      · rw [List.find?_append, h1]
        rfl
      · rcases List.mem_append.1 hq with hq | hq
        · exact h3 q hq
        · rw [List.mem_singleton.1 hq]
          omega
theorem kept_fold {c : List Nat → Int} : ∀ (L M : List (List Nat)) (acc : Option (List Nat × Int)), Kept1 c M acc → Kept1 c (M ++ L) (L.foldl (step1 c) acc)
  | [], M, acc, h => by rw [List.append_nil]; exact h
  | o :: L, M, acc, h => by
    have := kept_fold L (M ++ [o]) (step1 c acc o) (kept_step h o)
    rw [List.append_assoc] at this
    exact this
theorem firstMin_kept (c : List Nat → Int) (L : List (List Nat)) : Kept1 c L (firstMin c L) := kept_fold L [] none rfl
def leastOf (l : List S48) (bs : List Int) : List Int × Int × Int := match firstMin (cost l 0) (conts bs l.length 8 0) with
  | none => ([], 0, 6)
  | some (o, x) => (o.map (fun i : Nat => (i : Int)), x, 0)
theorem mx_le {a b c : Int} : mx a b ≤ c ↔ a ≤ c ∧ b ≤ c := by unfold mx; split <;> omega
def within1 (l : List S48) (bs : List Int) (k s : Nat) (a x : Int) (j : Nat) : Option (List Nat) :=
  if free bs s j = true ∧ a + timf l j - duef l j ≤ x then ((conts bs l.length k (put s j)).find? (fun q => decide (cost l (a + timf l j) q ≤ x))).map (j :: ·) else none
theorem within1_find (l : List S48) (bs : List Int) (k s : Nat) (a x : Int) (j : Nat) : (if free bs s j = true then (conts bs l.length k (put s j)).map (j :: ·) else []).find? (fun q => decide (cost l a q ≤ x)) = within1 l bs k s a x j := by
  unfold within1
  by_cases c : free bs s j = true
  · rw [if_pos c, List.find?_map]
    by_cases d : a + timf l j - duef l j ≤ x
    · rw [if_pos ⟨c, d⟩]
      congr 2
      funext q
      simp only [Function.comp, cost, mx_le, d, and_true]
    · rw [if_neg (fun h => d h.2)]
      have : (conts bs l.length k (put s j)).find? ((fun q => decide (cost l a q ≤ x)) ∘ (j :: ·)) = none := by
        rw [List.find?_eq_none]
        intro q hq
        simp only [Function.comp, cost, mx_le, d, and_false, decide_false]
        simp
      rw [this]
      rfl
  · rw [if_neg c, if_neg (fun h => c h.1)]
    rfl
theorem tells_find {l : List S48} {a : Int} {L : List (List Nat)} {r : Int × Bool} (h : Tells l a L r) (x : Int) : (∃ o, L.find? (fun q => decide (cost l a q ≤ x)) = some o) ↔ r.2 = true ∧ r.1 ≤ x := by
  constructor
  · rintro ⟨o, ho⟩
    have h1 := List.mem_of_find?_eq_some ho
    have h2 := List.find?_some ho
    simp only [decide_eq_true_eq] at h2
    cases hb : r.2 with
    | false =>
      rw [h.1 hb] at h1
      exact absurd h1 (by simp)
    | true => exact ⟨rfl, Int.le_trans ((h.2 hb).2 o h1) h2⟩
  · rintro ⟨hb, hx⟩
    obtain ⟨⟨o, ho, hc⟩, _⟩ := h.2 hb
    have : (L.find? (fun q => decide (cost l a q ≤ x))).isSome = true := by
      rw [List.find?_isSome]
      exact ⟨o, ho, by simp; omega⟩
    exact Option.isSome_iff_exists.1 this
theorem pick_first (l : List S48) (hv : valid48 l = true) (bs : List Int) (hb : bs.length = l.length) (k s : Nat) (hs : s < 2 ^ l.length) (hk : l.length ≤ pc s + (k + 1)) (x : Int) : ∀ (m i : Nat), i + m = l.length → ∀ o, (List.range' i m).findSome? (within1 l bs k s (atS l s) x) = some o →
    ∃ j o', o = j :: o' ∧ j < l.length ∧ free bs s j = true ∧ (conts bs l.length k (put s j)).find? (fun q => decide (cost l (atS l s + timf l j) q ≤ x)) = some o' ∧ dates_Least.pick l bs (s : Int) (atS l s) x m i = some j := by
  have hlen := valid_len hv
  have h8 := pow8 hlen.2
  have hat := atS_bound l hv s
  intro m
  induction m with
  | zero =>
    intro i hi o ho
    exact absurd ho (by simp)
  | succ m ih =>
    intro i hi o ho
    have hil : i < l.length := by omega
    rw [List.range'_succ, List.findSome?_cons] at ho
    have hj := valid_jb hv hil
    have hw : wrap64 (wrap64 (atS l s + (rd_T48 l (i : Int)).f0) - (rd_T48 l (i : Int)).f2) = atS l s + timf l i - duef l i := by
      rw [rd48 l i hil, ← jb_get hil, w64 (x := atS l s + (jb l i).f0) (by omega) (by omega), w64 (by omega) (by omega)]
      rfl
    have hnext : within1 l bs k s (atS l s) x i = none → ∃ j o', o = j :: o' ∧ j < l.length ∧ free bs s j = true ∧ (conts bs l.length k (put s j)).find? (fun q => decide (cost l (atS l s + timf l j) q ≤ x)) = some o' ∧ dates_Least.pick l bs (s : Int) (atS l s) x m (i + 1) = some j := by
      intro hn
      rw [hn] at ho
      exact ih (i + 1) (by omega) o ho
    rw [dates_Least.pick]
    by_cases c1 : Go.bits .and .i64 (shr .i64 (s : Int) (i : Int)) 1 = 1
    · rw [if_pos c1]
      exact hnext (by unfold within1; rw [if_neg (fun h => (((free_iff (by omega) (by omega)).1 h.1).1) c1)])
    · rw [if_neg c1, if_pos (by omega)]
      by_cases c2 : Go.bits .andNot .i64 (rd bs (i : Int)) (s : Int) ≠ 0
      · rw [if_pos c2]
        exact hnext (by unfold within1; rw [if_neg (fun h => (((free_iff (by omega) (by omega)).1 h.1).2) c2)])
      · rw [if_neg c2, hw]
        have hfr : free bs s i = true := (free_iff (by omega) (by omega)).2 ⟨c1, c2⟩
        have hbit : s.testBit i = false := by
          unfold free at hfr
          cases h : s.testBit i
          · rfl
          · rw [h] at hfr; simp at hfr
        by_cases c3 : atS l s + timf l i - duef l i > x
        · rw [if_pos c3]
          exact hnext (by unfold within1; rw [if_neg (fun h => absurd h.2 (by omega))])
        · rw [if_neg c3, or_put (by omega) (by omega)]
          obtain ⟨rr, hrr, ht⟩ := worst_tells l hv bs hb k (put s i) (put_pow hlen.2 hil hs) (by rw [put_pc (by omega) (by omega), hbit]; simp; omega)
          have hrr9 : dates_jobs_worst.f 9 l bs ((put s i : Nat) : Int) = some rr := by
            obtain ⟨r9, h9, ht9⟩ := worst_tells l hv bs hb 8 (put s i) (put_pow hlen.2 hil hs) (by omega)
            rw [h9]
            exact congrArg some (dates_jobs_worst.det l bs hrr h9)
          rw [hrr9, Option.bind_some]
          rw [atS_put l hlen.2 (by omega) hil hbit] at ht
          have hf := tells_find ht x
          have hw1 : within1 l bs k s (atS l s) x i = ((conts bs l.length k (put s i)).find? (fun q => decide (cost l (atS l s + timf l i) q ≤ x))).map (i :: ·) := by
            unfold within1
            rw [if_pos ⟨hfr, by omega⟩]
          by_cases c4 : rr.2 = true
          · rw [if_pos c4]
            by_cases c5 : rr.1 ≤ x
            · rw [if_pos c5]
              obtain ⟨o', ho'⟩ := hf.2 ⟨c4, c5⟩
              rw [hw1, ho'] at ho
              simp only [Option.map_some, Option.some.injEq] at ho
              exact ⟨i, o', ho.symm, hil, hfr, ho', rfl⟩
            · rw [if_neg c5]
              refine hnext ?_
              rw [hw1]
              cases h : (conts bs l.length k (put s i)).find? (fun q => decide (cost l (atS l s + timf l i) q ≤ x)) with
              | none => rfl
              | some o' => exact absurd (hf.1 ⟨o', h⟩).2 c5
          · rw [if_neg c4]
            refine hnext ?_
            rw [hw1]
            cases h : (conts bs l.length k (put s i)).find? (fun q => decide (cost l (atS l s + timf l i) q ≤ x)) with
            | none => rfl
            | some o' => exact absurd (hf.1 ⟨o', h⟩).1 c4
theorem go_first (l : List S48) (hv : valid48 l = true) (bs : List Int) (hb : bs.length = l.length) (x : Int) : ∀ (m k s : Nat), s < 2 ^ l.length → pc s + m = l.length → l.length ≤ pc s + k → ∀ (out : List Int) (o : List Nat), (conts bs l.length k s).find? (fun q => decide (cost l (atS l s) q ≤ x)) = some o →
    dates_Least.go l bs x m out (s : Int) (atS l s) = some (out ++ o.map (fun i : Nat => (i : Int))) := by
  have hlen := valid_len hv
  have h8 := pow8 hlen.2
  intro m
  induction m with
  | zero =>
    intro k s hs hm hk out o ho
    have hf : s = 2 ^ l.length - 1 := (full_pc hlen.2 hs).1 (by omega)
    have hc : conts bs l.length k s = [[]] := by cases k <;> rw [conts, if_pos hf]
    rw [hc] at ho
    have := List.mem_of_find?_eq_some ho
    rw [List.mem_singleton.1 this, dates_Least.go]
    simp
  | succ m ih =>
    intro k s hs hm hk out o ho
    have hf : ¬ s = 2 ^ l.length - 1 := fun h => by
      have := (full_pc hlen.2 hs).2 h
      omega
    obtain ⟨k, rfl⟩ : ∃ k', k = k' + 1 := ⟨k - 1, by omega⟩
    rw [conts, if_neg hf, List.find?_flatMap] at ho
    have ho2 : (List.range' 0 l.length).findSome? (within1 l bs k s (atS l s) x) = some o := by
      rw [← ho, List.range_eq_range']
      congr 1
      funext j
      exact (within1_find l bs k s (atS l s) x j).symm
    obtain ⟨j, o', rfl, hj, hfr, hfo, hp⟩ := pick_first l hv bs hb k s hs hk x l.length 0 (by omega) o ho2
    have hbit : s.testBit j = false := by
      unfold free at hfr
      cases h : s.testBit j
      · rfl
      · rw [h] at hfr; simp at hfr
    have hpc : pc (put s j) = pc s + 1 := by rw [put_pc (by omega) (by omega), hbit]; simp
    have hvj := valid_jb hv hj
    have hat := atS_bound l hv s
    rw [dates_Least.go, hp, Option.bind_some, or_put (by omega) (by omega), rd48 l j hj, ← jb_get hj, w64 (by omega) (by omega)]
    have ha := atS_put l hlen.2 (show s < 256 by omega) hj hbit
    have e : atS l s + (jb l j).f0 = atS l (put s j) := ha.symm
    rw [e]
    rw [← ha] at hfo
    rw [ih k (put s j) (put_pow hlen.2 hj hs) (by omega) (by omega) _ o' hfo]
    simp
theorem atS_zero (l : List S48) : atS l 0 = 0 := by
  unfold atS
  rw [sumN_congr (g := fun _ => 0) (fun i hi => by simp), sumN_zero]
theorem least_sem (l : List S48) (hv : valid48 l = true) (bs : List Int) (hb : bs.length = l.length) : ∃ r, dates_jobs_worst.f 9 l bs 0 = some r ∧ (if r.2 = true then (dates_Least.go l bs r.1 l.length [] 0 0).bind (fun o => some (o, r.1, (0 : Int))) else some ([], 0, 6)) = some (leastOf l bs) := by
  have hlen := valid_len hv
  have hpos : 0 < 2 ^ l.length := Nat.two_pow_pos _
  have hpc0 : pc 0 = 0 := by decide
  obtain ⟨r, hr, ht⟩ := worst_tells l hv bs hb 8 0 hpos (by omega)
  have hk := firstMin_kept (cost l 0) (conts bs l.length 8 0)
  rw [atS_zero] at ht
  refine ⟨r, hr, ?_⟩
  unfold leastOf
  cases h : firstMin (cost l 0) (conts bs l.length 8 0) with
  | none =>
    rw [h] at hk
    have hk : conts bs l.length 8 0 = [] := hk
    have : ¬ r.2 = true := fun e => by
      obtain ⟨⟨o, ho, _⟩, _⟩ := ht.2 e
      rw [hk] at ho
      exact absurd ho (by simp)
    rw [if_neg this]
  | some ox =>
    obtain ⟨o, x⟩ := ox
    rw [h] at hk
    obtain ⟨h1, h2, h3⟩ := hk
    have hom := List.mem_of_find?_eq_some h1
    have hr2 : r.2 = true := by
      cases e : r.2
      · rw [ht.1 e] at hom
        exact absurd hom (by simp)
      · rfl
    obtain ⟨⟨p, hp, hpx⟩, hmin⟩ := ht.2 hr2
    have hx : r.1 = x := by
      have a1 := hmin o hom
      have a2 := h3 p hp
      omega
    rw [if_pos hr2, hx]
    have := go_first l hv bs hb x l.length 8 0 hpos (by omega) (by omega) [] o (by rw [atS_zero]; exact h1)
    rw [atS_zero] at this
    have hz : ((0 : Nat) : Int) = 0 := rfl
    rw [hz] at this
    rw [this, Option.bind_some, List.nil_append]
end Go.Proofs.Ytaboleeclpllpaa.M


namespace Go.Proofs.Ytaboleeclpllpaa.M
open Go.RowKit Go.Proofs.YtaboleeclpllpaaW.PrintWords Go.Proofs.YtaboleeclpllpaaW.PrintLast Go.Proofs.YtaboleeclpllpaaW.PrintMore Go.Proofs.Ytaboleeclpllpaa.P Go.Proofs.Ytaboleeclpllpaa.T
set_option linter.unusedVariables false
set_option linter.unusedSimpArgs false
theorem andnot_eq {b s : Nat} (hb : b < 256) (hs : s < 256) : Go.bits .andNot .i64 (b : Int) (s : Int) = ((b &&& (2 ^ 64 - (s + 1)) : Nat) : Int) := by
  have h1 : b % 2 ^ 64 = b := Nat.mod_eq_of_lt (by omega)
  have h2 : s % 2 ^ 64 = s := Nat.mod_eq_of_lt (by omega)
  have h3 : b &&& (2 ^ 64 - (s + 1)) < 256 := Nat.lt_of_le_of_lt Nat.and_le_left hb
  have h4 : Go.bits .andNot .i64 (b : Int) (s : Int) = IntKind.i64.wrap ((b % 2 ^ 64 &&& (2 ^ 64 - 1 - s % 2 ^ 64) : Nat) : Int) := by
    simp only [Go.bits, BitVec.ofInt_natCast, BitVec.toNat_and, BitVec.toNat_not, BitVec.toNat_ofNat]
    rfl
  rw [h4, h1, h2, show 2 ^ 64 - 1 - s = 2 ^ 64 - (s + 1) by omega, i64_w, w64 (by omega) (by omega)]
theorem andnot0 {b s : Nat} (hb : b < 256) (hs : s < 256) : Go.bits .andNot .i64 (b : Int) (s : Int) = 0 ↔ ∀ i, i < 8 → b.testBit i = true → s.testBit i = true := by
  rw [andnot_eq hb hs]
  constructor
  · intro h i hi hbi
    have h0 : b &&& (2 ^ 64 - (s + 1)) = 0 := by omega
    have h1 : (b &&& (2 ^ 64 - (s + 1))).testBit i = false := by rw [h0]; simp
    rw [Nat.testBit_and, Nat.testBit_two_pow_sub_succ (by omega), hbi] at h1
    simp at h1
    exact h1 (by omega)
  · intro h
    have h0 : b &&& (2 ^ 64 - (s + 1)) = 0 := by
      apply Nat.eq_of_testBit_eq
      intro i
      rw [Nat.testBit_and, Nat.testBit_two_pow_sub_succ (by omega), Nat.zero_testBit]
      by_cases hi : i < 8
      · cases hbi : b.testBit i
        · simp
        · rw [h i hi hbi]
          simp
      · have : b.testBit i = false := Nat.testBit_lt_two_pow (Nat.lt_of_lt_of_le hb (Nat.pow_le_pow_right (n := 2) (by omega) (show 8 ≤ i by omega)))
        rw [this]
        simp
    rw [h0]
    rfl
def prOk (n : Nat) (p : S64) : Bool := decide (0 ≤ p.f0 ∧ p.f0 < (n : Int) ∧ 0 ≤ p.f1 ∧ p.f1 < (n : Int))
def befOk (n : Nat) (ps : List S64) : Bool := decide (ps.length ≤ 16) && ps.all (prOk n)
def masksFrom (acc : List Nat) (ps : List S64) : List Nat := ps.foldl (fun a p => a.set p.f1.toNat (put (a.getD p.f1.toNat 0) p.f0.toNat)) acc
def masks (n : Nat) (ps : List S64) : List Nat := masksFrom (List.replicate n 0) ps
def castL (a : List Nat) : List Int := a.map (fun x : Nat => (x : Int))
theorem rd_cast (a : List Nat) (i : Nat) : rd (castL a) (i : Int) = ((a.getD i 0 : Nat) : Int) := by
  unfold rd castL
  rw [Int.toNat_natCast, List.getD_eq_getElem?_getD, List.getD_eq_getElem?_getD, List.getElem?_map]
  cases a[i]? <;> rfl
theorem masksFrom_length : ∀ (ps : List S64) (acc : List Nat), (masksFrom acc ps).length = acc.length
  | [], _ => rfl
  | p :: ps, acc => by
    show (masksFrom (acc.set _ _) ps).length = _
    rw [masksFrom_length ps, List.length_set]
theorem getD_set_eq (a : List Nat) (i j v : Nat) (hi : i < a.length) : (a.set i v).getD j 0 = if j = i then v else a.getD j 0 := by
  rw [List.getD_eq_getElem?_getD, List.getD_eq_getElem?_getD, List.getElem?_set]
  by_cases h : i = j
  · subst h
    simp [hi]
  · rw [if_neg h, if_neg (fun e => h e.symm)]
def small (n : Nat) (a : List Nat) : Prop := ∀ i, a.getD i 0 < 2 ^ n
theorem small_set {n : Nat} (hn : n ≤ 8) {a : List Nat} (ha : small n a) {p : S64} (hp : prOk n p = true) (hl : a.length = n) : small n (a.set p.f1.toNat (put (a.getD p.f1.toNat 0) p.f0.toNat)) := by
  intro i
  unfold prOk at hp
  simp only [decide_eq_true_eq] at hp
  rw [getD_set_eq _ _ _ _ (by omega)]
  split
  · exact put_pow hn (by omega) (ha _)
  · exact ha i
theorem masksFrom_small {n : Nat} (hn : n ≤ 8) : ∀ (ps : List S64) (acc : List Nat), ps.all (prOk n) = true → acc.length = n → small n acc → small n (masksFrom acc ps)
  | [], _, _, _, h => h
  | p :: ps, acc, hp, hl, h => by
    rw [List.all_cons, Bool.and_eq_true] at hp
    exact masksFrom_small hn ps _ hp.2 (by rw [List.length_set]; exact hl) (small_set hn h hp.1 hl)
theorem masks_small {n : Nat} (hn : n ≤ 8) {ps : List S64} (hp : ps.all (prOk n) = true) : small n (masks n ps) := by
  refine masksFrom_small hn ps _ hp (by simp) (fun i => ?_)
  rw [List.getD_eq_getElem?_getD, List.getElem?_replicate]
  have := Nat.two_pow_pos n
  split <;> simpa using this
theorem masksFrom_bit {n : Nat} (hn : n ≤ 8) : ∀ (ps : List S64) (acc : List Nat), ps.all (prOk n) = true → acc.length = n → small n acc → ∀ i j, i < n → j < n →
    (((masksFrom acc ps).getD j 0).testBit i = true ↔ (acc.getD j 0).testBit i = true ∨ ∃ p, p ∈ ps ∧ p.f0 = (i : Int) ∧ p.f1 = (j : Int))
  | [], acc, _, _, _, i, j, _, _ => by simp [masksFrom]
  | p :: ps, acc, hp, hl, hs, i, j, hi, hj => by
    rw [List.all_cons, Bool.and_eq_true] at hp
    have h8 := pow8 hn
    show ((masksFrom (acc.set _ _) ps).getD j 0).testBit i = true ↔ _
    rw [masksFrom_bit hn ps _ hp.2 (by rw [List.length_set]; exact hl) (small_set hn hs hp.1 hl) i j hi hj]
    have hpp := hp.1
    unfold prOk at hpp
    simp only [decide_eq_true_eq] at hpp
    rw [getD_set_eq _ _ _ _ (by omega)]
    have hsm := hs p.f1.toNat
    constructor
    · rintro (h | ⟨q, hq, h1, h2⟩)
      · by_cases e : j = p.f1.toNat
        · rw [if_pos e, put_bit (by omega) (by omega) (by omega)] at h
          simp only [Bool.or_eq_true, decide_eq_true_eq] at h
          rcases h with h | h
          · exact Or.inl (by rw [e]; exact h)
          · exact Or.inr ⟨p, List.mem_cons_self .., by omega, by omega⟩
        · rw [if_neg e] at h
          exact Or.inl h
      · exact Or.inr ⟨q, List.mem_cons_of_mem _ hq, h1, h2⟩
    · rintro (h | ⟨q, hq, h1, h2⟩)
      · left
        by_cases e : j = p.f1.toNat
        · rw [if_pos e, put_bit (by omega) (by omega) (by omega), ← e, h]
          rfl
        · rw [if_neg e]
          exact h
      · rcases List.mem_cons.1 hq with rfl | hq
        · left
          rw [if_pos (by omega), put_bit (by omega) (by omega) (by omega)]
          simp
          right
          omega
        · exact Or.inr ⟨q, hq, h1, h2⟩
theorem masks_bit {n : Nat} (hn : n ≤ 8) {ps : List S64} (hp : ps.all (prOk n) = true) {i j : Nat} (hi : i < n) (hj : j < n) : ((masks n ps).getD j 0).testBit i = true ↔ ∃ p, p ∈ ps ∧ p.f0 = (i : Int) ∧ p.f1 = (j : Int) := by
  unfold masks
  rw [masksFrom_bit hn ps _ hp (by simp) (fun i => by
    rw [List.getD_eq_getElem?_getD, List.getElem?_replicate]
    have := Nat.two_pow_pos n
    split <;> simpa using this) i j hi hj]
  constructor
  · rintro (h | h)
    · exfalso
      rw [List.getD_eq_getElem?_getD, List.getElem?_replicate] at h
      split at h <;> simp at h
    · exact h
  · exact Or.inr
theorem rd64 (l : List S64) (i : Nat) (h : i < l.length) : rd_T64 l (i : Int) = l[i] := by simp [rd_T64, List.getD_eq_getElem?_getD, List.getElem?_eq_getElem h]
theorem castL_set (a : List Nat) (i v : Nat) : (castL a).set i (v : Int) = castL (a.set i v) := by
  unfold castL
  rw [List.map_set]
theorem befores_loop (l : List S48) (hn : l.length ≤ 8) (ps : List S64) (hps : ps.length ≤ 9223372036854775807) : ∀ (d i : Nat) (acc : List Nat), i + d = ps.length → acc.length = l.length → small l.length acc →
    Ev (fun k => dates_jobs_befores.l0 k l (castL acc) ps (ps.length : Int) (i : Int)) (if (ps.drop i).all (prOk l.length) = true then (castL (masksFrom acc (ps.drop i)), true) else ([], false)) := by
  intro d
  induction d with
  | zero =>
    intro i acc hi hl hs
    refine Ev.step (f := fun _ => some (castL acc, true)) (fun k => ?_) ?_
    · simp only [dates_jobs_befores.l0]
      rw [if_neg (by omega)]
    · rw [show i = ps.length by omega, List.drop_length]
      exact Ev.now _
  | succ d ih =>
    intro i acc hi hl hs
    have hlt : i < ps.length := by omega
    have h8 := pow8 hn
    rw [List.drop_eq_getElem_cons hlt, List.all_cons]
    obtain ⟨p, hp⟩ : ∃ p, p = ps[i] := ⟨_, rfl⟩
    rw [← hp]
    have hw : wrap64 ((l.length : Int) - 1) = (l.length : Int) - 1 := w64 (by omega) (by omega)
    have hb1 := between_f (mn p.f0 p.f1) 0 ((l.length : Int) - 1)
    have hb2 := between_f (mx p.f0 p.f1) 0 ((l.length : Int) - 1)
    have hiff : prOk l.length p = true ↔ decide (0 ≤ mn p.f0 p.f1 ∧ mn p.f0 p.f1 ≤ (l.length : Int) - 1) = true ∧ decide (0 ≤ mx p.f0 p.f1 ∧ mx p.f0 p.f1 ≤ (l.length : Int) - 1) = true := by
      unfold prOk
      rw [mn_min, mx_max]
      simp only [decide_eq_true_eq]
      omega
    by_cases c : prOk l.length p = true
    · obtain ⟨c1, c2⟩ := hiff.1 c
      have hpp := c
      unfold prOk at hpp
      simp only [decide_eq_true_eq] at hpp
      rw [c, Bool.true_and]
      refine Ev.step (fun k => ?_) (ih (i + 1) (acc.set p.f1.toNat (put (acc.getD p.f1.toNat 0) p.f0.toNat)) (by omega) (by rw [List.length_set]; exact hl) (small_set hn hs c hl))
      simp only [dates_jobs_befores.l0]
      have hcl : ((castL acc).length : Int) = (l.length : Int) := by unfold castL; rw [List.length_map, hl]
      have hor : Go.bits .or .i64 (rd (castL acc) p.f1) (shl .i64 1 p.f0) = ((put (acc.getD p.f1.toNat 0) p.f0.toNat : Nat) : Int) := by
        obtain ⟨u, hu⟩ := Int.eq_ofNat_of_zero_le hpp.2.2.1
        obtain ⟨v, hv⟩ := Int.eq_ofNat_of_zero_le hpp.1
        rw [hu, hv, rd_cast, or_put (by have := hs u; omega) (by omega), Int.toNat_natCast, Int.toNat_natCast]
      rw [if_pos (by omega), if_pos (by omega), if_pos (by omega), rd64 ps i hlt, ← hp, hw, hb1, Option.bind_some, if_pos c1, hb2, Option.bind_some, if_pos c2, if_pos (by omega), if_pos (by omega), if_pos (by omega), w64s i ps.length hlt hps, hor, castL_set]
    · rw [show prOk l.length p = false by simpa using c, Bool.false_and, if_neg (by simp)]
      refine Ev.step (f := fun _ => some ([], false)) (fun k => ?_) (Ev.now _)
      simp only [dates_jobs_befores.l0]
      rw [if_pos (by omega), if_pos (by omega), if_pos (by omega), rd64 ps i hlt, ← hp, hw, hb1, Option.bind_some, hb2]
      by_cases c1 : decide (0 ≤ mn p.f0 p.f1 ∧ mn p.f0 p.f1 ≤ (l.length : Int) - 1) = true
      · rw [if_pos c1, Option.bind_some, if_neg (fun c2 => c (hiff.2 ⟨c1, c2⟩))]
      · rw [if_neg c1]
theorem befores_f (l : List S48) (hn : l.length ≤ 8) (ps : List S64) (hps : ps.length ≤ 9223372036854775807) : Ev (fun k => dates_jobs_befores.f k l ps) (if befOk l.length ps = true then (castL (masks l.length ps), true) else ([], false)) := by
  unfold dates_jobs_befores.f
  simp only [if_pos (show (0 : Int) ≤ (l.length : Int) by omega), if_pos (show ((l.length : Int)).toNat ≤ 35184372088832 by omega)]
  by_cases c : (ps.length : Int) > 16
  · simp only [if_pos c]
    unfold befOk
    rw [show decide (ps.length ≤ 16) = false by simp; omega, Bool.false_and, if_neg (by simp)]
    exact Ev.now _
  · simp only [if_neg c]
    have h := befores_loop l hn ps hps ps.length 0 (List.replicate l.length 0) (by omega) (by simp) (fun i => by
      rw [List.getD_eq_getElem?_getD, List.getElem?_replicate]
      have := Nat.two_pow_pos l.length
      split <;> simpa using this)
    rw [List.drop_zero] at h
    have e : castL (List.replicate l.length 0) = List.replicate ((l.length : Int)).toNat 0 := by
      unfold castL
      rw [List.map_replicate, Int.toNat_natCast]
      rfl
    rw [e] at h
    unfold befOk masks
    rw [show decide (ps.length ≤ 16) = true by simp; omega, Bool.true_and]
    exact h
theorem pairs_f (ps : List S64) : corrodylaw06_pairs.f ps = some (ps.take 18) := by
  unfold corrodylaw06_pairs.f
  rw [mn_min, if_pos (by omega), if_pos (by omega), show (min (ps.length : Int) 18).toNat = min ps.length 18 by omega]
  have e : ps.take (min ps.length 18) = ps.take 18 := by
    by_cases h : ps.length ≤ 18
    · rw [Nat.min_eq_left h, List.take_length, List.take_of_length_le h]
    · rw [Nat.min_eq_right (by omega)]
  rw [e]
  simp only [slices_Clone_2_int_2_int.f]
  have hl : (ps.take 18).length ≤ 18 := List.length_take_le _ _
  simp
  omega
theorem befOk_take (n : Nat) (ps : List S64) : befOk n (ps.take 18) = befOk n ps := by
  unfold befOk
  by_cases h : ps.length ≤ 16
  · rw [List.take_of_length_le (by omega)]
  · have e1 : decide ((ps.take 18).length ≤ 16) = false := by simp; omega
    have e2 : decide (ps.length ≤ 16) = false := by simp; omega
    rw [e1, e2]
    rfl
theorem bef_take {n : Nat} {ps : List S64} (h : befOk n ps = true) : ps.take 18 = ps := by
  unfold befOk at h
  simp only [Bool.and_eq_true, decide_eq_true_eq] at h
  exact List.take_of_length_le (by omega)
theorem masks_length (n : Nat) (ps : List S64) : (castL (masks n ps)).length = n := by
  unfold castL masks
  rw [List.length_map, masksFrom_length, List.length_replicate]
theorem Least_f (l : List S48) (hl : l.length ≤ 9223372036854775807) (ps : List S64) (hps : ps.length ≤ 9223372036854775807) : Ev (fun k => dates_Least.f k l ps) (if (valid48 l && befOk l.length ps) = true then leastOf l (castL (masks l.length ps)) else ([], 0, 2)) := by
  unfold dates_Least.f
  refine Ev.bind (valid_f l hl) ?_
  cases hv : valid48 l with
  | false =>
    simp only [Bool.false_eq_true, if_false, Bool.false_and]
    exact Ev.now _
  | true =>
    have hlen := valid_len hv
    simp only [if_true, Bool.true_and]
    refine Ev.bind (befores_f l hlen.2 ps hps) ?_
    by_cases c : befOk l.length ps = true
    · simp only [if_pos c, if_true, if_pos hlen.2]
      obtain ⟨r, hr, hs⟩ := least_sem l hv (castL (masks l.length ps)) (masks_length _ _)
      simp only [hr, Option.bind_some, hs]
      exact Ev.now _
    · simp only [if_neg c, Bool.false_eq_true, if_false]
      exact Ev.now _
end Go.Proofs.Ytaboleeclpllpaa.M


namespace Go.Proofs.Ytaboleeclpllpaa.M
open Go.RowKit Go.Proofs.YtaboleeclpllpaaW.PrintWords Go.Proofs.YtaboleeclpllpaaW.PrintLast Go.Proofs.YtaboleeclpllpaaW.PrintMore Go.Proofs.Ytaboleeclpllpaa.P Go.Proofs.Ytaboleeclpllpaa.T
set_option linter.unusedVariables false
set_option linter.unusedSimpArgs false
def maskOf (o : List Nat) (s : Nat) : Nat := o.foldl put s
theorem maskOf_lt {n : Nat} (hn : n ≤ 8) : ∀ (o : List Nat) (s : Nat), (∀ x, x ∈ o → x < n) → s < 2 ^ n → maskOf o s < 2 ^ n
  | [], _, _, h => h
  | x :: o, s, ho, h => maskOf_lt hn o (put s x) (fun y hy => ho y (List.mem_cons_of_mem _ hy)) (put_pow hn (ho x (List.mem_cons_self ..)) h)
theorem castL_length (o : List Nat) : (castL o).length = o.length := by simp [castL]
theorem tm_setR (a : List Int) (i j : Nat) (v : Int) (hi : i < a.length) : tm (a.set i v) j = if j = i then v else tm a j := by
  unfold tm
  rw [List.getD_eq_getElem?_getD, List.getD_eq_getElem?_getD, List.getElem?_set]
  by_cases h : i = j
  · subst h
    simp [hi]
  · rw [if_neg h, if_neg (fun e => h e.symm)]
theorem row_keep (l : List S48) : ∀ (o : List Nat) (acc : List Int) (now : Int) (j : Nat), (∀ x, x ∈ o → x < acc.length) → j ∉ o → tm (rowFrom l now acc (castL o)) j = tm acc j
  | [], _, _, _, _, _ => rfl
  | x :: o, acc, now, j, hx, hj => by
    show tm (rowFrom l (now + (jb l ((x : Int)).toNat).f0) (acc.set ((x : Int)).toNat (now + (jb l ((x : Int)).toNat).f0)) (castL o)) j = _
    rw [Int.toNat_natCast]
    rw [row_keep l o _ _ j (fun y hy => by rw [List.length_set]; exact hx y (List.mem_cons_of_mem _ hy)) (fun h => hj (List.mem_cons_of_mem _ h))]
    rw [tm_setR _ _ _ _ (hx x (List.mem_cons_self ..)), if_neg (fun e => hj (by rw [e]; exact List.mem_cons_self ..))]
theorem row_cost (l : List S48) : ∀ (o : List Nat) (acc : List Int) (now : Int) (x : Int), -1000 ≤ x → o.Nodup → (∀ y, y ∈ o → y < acc.length) → (cost l now o ≤ x ↔ ∀ j, j ∈ o → tm (rowFrom l now acc (castL o)) j - duef l j ≤ x)
  | [], _, _, x, hx, _, _ => by simp [cost]; omega
  | i :: o, acc, now, x, hx, hn, hy => by
    rw [List.nodup_cons] at hn
    have ih := row_cost l o (acc.set i (now + timf l i)) (now + timf l i) x hx hn.2 (fun y h => by rw [List.length_set]; exact hy y (List.mem_cons_of_mem _ h))
    have hrow : rowFrom l now acc (castL (i :: o)) = rowFrom l (now + timf l i) (acc.set i (now + timf l i)) (castL o) := by
      show rowFrom l (now + (jb l ((i : Int)).toNat).f0) (acc.set ((i : Int)).toNat (now + (jb l ((i : Int)).toNat).f0)) (castL o) = _
      rw [Int.toNat_natCast]
      rfl
    have hi : tm (rowFrom l (now + timf l i) (acc.set i (now + timf l i)) (castL o)) i = now + timf l i := by
      rw [row_keep l o _ _ i (fun y h => by rw [List.length_set]; exact hy y (List.mem_cons_of_mem _ h)) hn.1, tm_setR _ _ _ _ (hy i (List.mem_cons_self ..)), if_pos rfl]
    rw [cost, mx_le, ih, hrow]
    constructor
    · rintro ⟨h1, h2⟩ j hj
      rcases List.mem_cons.1 hj with rfl | hj
      · rw [hi]; exact h2
      · exact h1 j hj
    · intro h
      refine ⟨fun j hj => h j (List.mem_cons_of_mem _ hj), ?_⟩
      have := h i (List.mem_cons_self ..)
      rw [hi] at this
      exact this
theorem cost_ge (l : List S48) : ∀ (o : List Nat) (a : Int), -1000 ≤ cost l a o
  | [], _ => by simp [cost]
  | i :: o, a => by
    have := cost_ge l o (a + timf l i)
    rw [cost]
    unfold mx
    split <;> omega
theorem row_pos (l : List S48) (hv : valid48 l = true) : ∀ (o : List Nat) (acc : List Int) (now : Int), 0 ≤ now → (∀ x, x ∈ acc → 0 ≤ x ∧ x ≤ 1000000) → now + 20 * o.length ≤ 1000000 → ∀ x, x ∈ rowFrom l now acc (castL o) → 0 ≤ x ∧ x ≤ 1000000
  | [], acc, now, _, ha, _, x, hx => ha x hx
  | i :: o, acc, now, h0, ha, hb, x, hx => by
    have ht := time_le hv i
    have hx2 : x ∈ rowFrom l (now + (jb l i).f0) (acc.set i (now + (jb l i).f0)) (castL o) := by
      have e : rowFrom l now acc (castL (i :: o)) = rowFrom l (now + (jb l i).f0) (acc.set i (now + (jb l i).f0)) (castL o) := by
        show rowFrom l (now + (jb l ((i : Int)).toNat).f0) (acc.set ((i : Int)).toNat (now + (jb l ((i : Int)).toNat).f0)) (castL o) = _
        rw [Int.toNat_natCast]
      rw [← e]
      exact hx
    rw [List.length_cons] at hb
    refine row_pos l hv o _ _ (by omega) (fun y hy => ?_) (by omega) x hx2
    rcases List.mem_or_eq_of_mem_set hy with hy | hy
    · exact ha y hy
    · omega
def Whole (n : Nat) (o : List Nat) : Prop := o.Nodup ∧ (∀ x, x ∈ o → x < n) ∧ ∀ x, x < n → x ∈ o
theorem row_worst (l : List S48) (hv : valid48 l = true) {o : List Nat} (ho : Whole l.length o) (hol : o.length ≤ 8) : worstOf l (rowOf l (castL o)) = cost l 0 o := by
  have hlen := valid_len hv
  have hpos := row_pos l hv o (List.replicate l.length 0) 0 (by omega) (fun x hx => by rw [List.eq_of_mem_replicate hx]; omega) (by omega)
  have hiff : ∀ x : Int, -1000 ≤ x → (worstOf l (rowOf l (castL o)) ≤ x ↔ cost l 0 o ≤ x) := by
    intro x hx
    rw [worstOf_le (by omega), row_cost l o (List.replicate l.length 0) 0 x hx ho.1 (fun y hy => by rw [List.length_replicate]; exact ho.2.1 y hy)]
    exact ⟨fun h j hj => h j (ho.2.1 j hj), fun h j hj => h j (ho.2.2 j hj)⟩
  have h1 := (hiff (cost l 0 o) (cost_ge l o 0)).2 (Int.le_refl _)
  have h2 : -1000 ≤ worstOf l (rowOf l (castL o)) := by
    obtain ⟨i, hi, he⟩ := worstOf_at hv hpos
    have h3 := valid_jb hv hi
    have h4 := endsB_tm hpos i
    have he2 : worstOf l (rowOf l (castL o)) = tm (rowOf l (castL o)) i - (jb l i).f2 := he
    have h5 : 0 ≤ tm (rowOf l (castL o)) i := h4.1
    omega
  have h3 := (hiff _ h2).1 (Int.le_refl _)
  omega
end Go.Proofs.Ytaboleeclpllpaa.M


namespace Go.Proofs.Ytaboleeclpllpaa.M
open Go.RowKit Go.Proofs.YtaboleeclpllpaaW.PrintWords Go.Proofs.YtaboleeclpllpaaW.PrintLast Go.Proofs.YtaboleeclpllpaaW.PrintMore Go.Proofs.Ytaboleeclpllpaa.P Go.Proofs.Ytaboleeclpllpaa.T
set_option linter.unusedVariables false
set_option linter.unusedSimpArgs false
end Go.Proofs.Ytaboleeclpllpaa.M


namespace Go.Proofs.Ytaboleeclpllpaa.M
open Go.RowKit Go.Proofs.YtaboleeclpllpaaW.PrintWords Go.Proofs.YtaboleeclpllpaaW.PrintLast Go.Proofs.YtaboleeclpllpaaW.PrintMore Go.Proofs.Ytaboleeclpllpaa.P Go.Proofs.Ytaboleeclpllpaa.T
set_option linter.unusedVariables false
set_option linter.unusedSimpArgs false
def after (q : Option Pc) (x : Pc) : Prop := match q with
  | none => True
  | some y => y.f2 ≤ x.f1 ∧ ¬ (y.f2 = x.f1 ∧ y.f0 = x.f0)
instance (q : Option Pc) (x : Pc) : Decidable (after q x) := by unfold after; split <;> infer_instance
theorem sum_stretch {a b : Int} (ha : 0 ≤ a) (hab : a ≤ b) : ∀ H : Nat, sumN H (fun s => one (a ≤ (s : Int) ∧ (s : Int) < b)) = max 0 (min (H : Int) b - a) := by
  intro H
  induction H with
  | zero => simp [sumN]; omega
  | succ H ih =>
    simp only [sumN]
    rw [ih]
    by_cases h : a ≤ (H : Int) ∧ (H : Int) < b
    · rw [one_pos h]; omega
    · rw [one_neg h]; omega
end Go.Proofs.Ytaboleeclpllpaa.M


namespace Go.Proofs.Ytaboleeclpllpaa.T
set_option linter.unusedVariables false
set_option linter.unusedSimpArgs false
section
variable {n : Nat} {tim rel : Nat → Int} {u : Nat → Option Nat} {C : Nat → Int} {H : Nat}
theorem Sched.total (h : Sched n tim rel u C H) : sumN n C = sumN H (fun a => sumN n (fun j => one ((a : Int) < C j))) := by
  rw [← sumN_swap]
  refine sumN_congr (fun j hj => ?_)
  have hb := h.end_le hj
  have := Go.Proofs.Ytaboleeclpllpaa.M.sum_stretch (a := 0) (b := C j) (by omega) (by omega) H
  have e : sumN H (fun s => one (0 ≤ (s : Int) ∧ (s : Int) < C j)) = sumN H (fun s => one ((s : Int) < C j)) := sumN_congr (fun s _ => by
    by_cases hc : (s : Int) < C j
    · rw [one_pos hc, one_pos ⟨by omega, hc⟩]
    · rw [one_neg hc, one_neg (fun h => hc h.2)])
  rw [e] at this
  omega
end
section
variable {n : Nat} {tim rel : Nat → Int} {u v : Nat → Option Nat} {C D : Nat → Int} {H : Nat}
end
end Go.Proofs.Ytaboleeclpllpaa.T
namespace Go.Proofs.Ytaboleeclpllpaa.M
open Go.RowKit Go.Proofs.YtaboleeclpllpaaW.PrintWords Go.Proofs.YtaboleeclpllpaaW.PrintLast Go.Proofs.YtaboleeclpllpaaW.PrintMore Go.Proofs.Ytaboleeclpllpaa.P Go.Proofs.Ytaboleeclpllpaa.T
set_option linter.unusedVariables false
set_option linter.unusedSimpArgs false
end Go.Proofs.Ytaboleeclpllpaa.M


namespace Go.Proofs.Ytaboleeclpllpaa.M
open Go.RowKit Go.Proofs.YtaboleeclpllpaaW.PrintWords Go.Proofs.YtaboleeclpllpaaW.PrintLast Go.Proofs.YtaboleeclpllpaaW.PrintMore Go.Proofs.Ytaboleeclpllpaa.P Go.Proofs.Ytaboleeclpllpaa.T
set_option linter.unusedVariables false
set_option linter.unusedSimpArgs false
structure Slow (l x : List S48) (z : Nat) : Prop where
  len : x.length = l.length
  at_ : z < l.length
  up : timf x z = timf l z + 1
  keep : ∀ j, j ≠ z → timf x j = timf l j
  rel : ∀ j, relf x j = relf l j
  due : ∀ j, duef x j = duef l j
theorem Slow.le {l x : List S48} {z : Nat} (h : Slow l x z) (j : Nat) : timf l j ≤ timf x j := by
  by_cases c : j = z
  · rw [c, h.up]; omega
  · rw [h.keep j c]; exact Int.le_refl _
theorem not_full {n s : Nat} (hs : s < 2 ^ n) (h : s ≠ 2 ^ n - 1) : ∃ i, i < n ∧ s.testBit i = false := by
  by_cases c : ∃ i, i < n ∧ s.testBit i = false
  · exact c
  · exfalso
    apply h
    apply Nat.eq_of_testBit_eq
    intro i
    rw [Nat.testBit_two_pow_sub_one]
    by_cases hi : i < n
    · cases e : s.testBit i
      · exact absurd ⟨i, hi, e⟩ c
      · simp [hi]
    · rw [Nat.testBit_lt_two_pow (Nat.lt_of_lt_of_le hs (Nat.pow_le_pow_right (n := 2) (by omega) (by omega)))]
      simp [hi]
theorem masks_nil (n i : Nat) : rd (castL (masks n [])) (i : Int) = 0 := by
  rw [rd_cast]
  unfold masks masksFrom
  rw [List.foldl_nil, List.getD_eq_getElem?_getD, List.getElem?_replicate]
  split <;> rfl
theorem free_nil (n s i : Nat) (hs : s < 256) : free (castL (masks n [])) s i = !s.testBit i := by
  unfold free
  rw [masks_nil]
  have : Go.bits .andNot .i64 0 (s : Int) = 0 := by
    have h1 : ∀ s : Fin 256, Go.bits .andNot .i64 0 ((s : Nat) : Int) = 0 := by decide +kernel
    exact h1 ⟨s, hs⟩
  rw [this]
  simp
theorem conts_nil {n : Nat} (hn : n ≤ 8) : ∀ (m s : Nat), s < 2 ^ n → n ≤ pc s + m → conts (castL (masks n [])) n m s ≠ [] := by
  have h8 := pow8 hn
  intro m
  induction m with
  | zero =>
    intro s hs hm
    have h0 : ∀ n : Fin 9, ∀ s : Fin 256, (s : Nat) < 2 ^ (n : Nat) → pc s ≤ n := by decide +kernel
    have h1 := h0 ⟨n, by omega⟩ ⟨s, by omega⟩ hs
    simp only at h1
    rw [conts, if_pos ((full_pc hn hs).1 (by omega))]
    simp
  | succ m ih =>
    intro s hs hm
    rw [conts]
    split
    · simp
    · rename_i hf
      obtain ⟨i, hi, hb⟩ := not_full hs hf
      intro he
      rw [List.flatMap_eq_nil_iff] at he
      have h1 := he i (List.mem_range.2 hi)
      rw [if_pos (by rw [free_nil n s i (by omega), hb]; rfl)] at h1
      rw [List.map_eq_nil_iff] at h1
      exact ih (put s i) (put_pow hn hi hs) (by rw [put_pc (by omega) (by omega), hb]; simp; omega) h1
theorem least_nil (l : List S48) (hv : valid48 l = true) : ∃ (o : List Nat) (v : Int), leastOf l (castL (masks l.length [])) = (o.map (fun i : Nat => (i : Int)), v, 0) ∧ o ∈ conts (castL (masks l.length [])) l.length 8 0 ∧ cost l 0 o = v ∧ ∀ q, q ∈ conts (castL (masks l.length [])) l.length 8 0 → v ≤ cost l 0 q := by
  have hlen := valid_len hv
  have hk := firstMin_kept (cost l 0) (conts (castL (masks l.length [])) l.length 8 0)
  unfold leastOf
  cases h : firstMin (cost l 0) (conts (castL (masks l.length [])) l.length 8 0) with
  | none =>
    rw [h] at hk
    exact absurd hk (conts_nil hlen.2 8 0 (Nat.two_pow_pos _) (by omega))
  | some ox =>
    obtain ⟨o, x⟩ := ox
    rw [h] at hk
    exact ⟨o, x, rfl, List.mem_of_find?_eq_some hk.1, hk.2.1, hk.2.2⟩
end Go.Proofs.Ytaboleeclpllpaa.M


namespace Go.Proofs.Ytaboleeclpllpaa.M
open Go.RowKit Go.Proofs.YtaboleeclpllpaaW.PrintWords Go.Proofs.YtaboleeclpllpaaW.PrintLast Go.Proofs.YtaboleeclpllpaaW.PrintMore Go.Proofs.Ytaboleeclpllpaa.P Go.Proofs.Ytaboleeclpllpaa.T
set_option linter.unusedVariables false
set_option linter.unusedSimpArgs false
theorem castL_cons (x : Nat) (o : List Nat) : castL (x :: o) = (x : Int) :: castL o := rfl
theorem castL_all {n : Nat} {o : List Nat} (h : ∀ x, x ∈ o → x < n) : (castL o).all (inN n) = true := by
  rw [List.all_eq_true]
  intro x hx
  obtain ⟨y, hy, rfl⟩ := List.mem_map.1 hx
  rw [inN_iff]
  have := h y hy
  omega
theorem castL_of {n : Nat} {o : List Int} (h : o.all (inN n) = true) : castL (o.map Int.toNat) = o ∧ ∀ x, x ∈ o.map Int.toNat → x < n := by
  rw [List.all_eq_true] at h
  constructor
  · unfold castL
    rw [List.map_map]
    conv => rhs; rw [← List.map_id o]
    refine List.map_congr_left (fun x hx => ?_)
    have := inN_iff.1 (h x hx)
    simp only [Function.comp, id]
    omega
  · intro x hx
    obtain ⟨y, hy, rfl⟩ := List.mem_map.1 hx
    have := inN_iff.1 (h y hy)
    omega
theorem setAll_mask : ∀ (o : List Nat) (s : Nat), setAll s (castL o) = maskOf o s
  | [], s => rfl
  | x :: o, s => by
    rw [castL_cons, setAll, Int.toNat_natCast, setAll_mask o]
    rfl
theorem mask_bit : ∀ (o : List Nat) (s i : Nat), s < 256 → (∀ x, x ∈ o → x < 8) → i < 8 → ((maskOf o s).testBit i = true ↔ s.testBit i = true ∨ i ∈ o)
  | [], s, i, _, _, _ => by simp [maskOf]
  | x :: o, s, i, hs, ho, hi => by
    have hx := ho x (List.mem_cons_self ..)
    show (maskOf o (put s x)).testBit i = true ↔ _
    rw [mask_bit o (put s x) i (put_lt hs hx) (fun y hy => ho y (List.mem_cons_of_mem _ hy)) hi, put_bit hs hx hi, List.mem_cons]
    simp only [Bool.or_eq_true, decide_eq_true_eq]
    constructor
    · rintro ((h | h) | h)
      · exact Or.inl h
      · exact Or.inr (Or.inl h)
      · exact Or.inr (Or.inr h)
    · rintro (h | h | h)
      · exact Or.inl (Or.inl h)
      · exact Or.inl (Or.inr h)
      · exact Or.inr h
theorem fresh_iff : ∀ (o : List Nat) (s : Nat), s < 256 → (∀ x, x ∈ o → x < 8) → (fresh s (castL o) = true ↔ o.Nodup ∧ ∀ x, x ∈ o → s.testBit x = false)
  | [], s, _, _ => by simp [fresh, castL]
  | x :: o, s, hs, ho => by
    have hx := ho x (List.mem_cons_self ..)
    have ho2 : ∀ y, y ∈ o → y < 8 := fun y hy => ho y (List.mem_cons_of_mem _ hy)
    rw [castL_cons, fresh, Int.toNat_natCast, Bool.and_eq_true, fresh_iff o (put s x) (put_lt hs hx) ho2, List.nodup_cons, Bool.not_eq_true']
    constructor
    · rintro ⟨h1, h2, h3⟩
      refine ⟨⟨fun hm => ?_, h2⟩, fun y hy => ?_⟩
      · have := h3 x hm
        rw [put_bit hs hx hx] at this
        simp at this
      · rcases List.mem_cons.1 hy with rfl | hy
        · exact h1
        · have := h3 y hy
          rw [put_bit hs hx (ho2 y hy), Bool.or_eq_false_iff] at this
          exact this.1
    · rintro ⟨⟨h1, h2⟩, h3⟩
      refine ⟨h3 x (List.mem_cons_self ..), h2, fun y hy => ?_⟩
      rw [put_bit hs hx (ho2 y hy), Bool.or_eq_false_iff]
      refine ⟨h3 y (List.mem_cons_of_mem _ hy), ?_⟩
      rw [decide_eq_false_iff_not]
      rintro rfl
      exact h1 hy
theorem mask_full {n : Nat} (hn : n ≤ 8) {o : List Nat} (hlt : ∀ x, x ∈ o → x < n) (hnd : o.Nodup) : pc (maskOf o 0) = o.length := by
  have h1 := (setAll_pc hn (castL o) 0 (castL_all hlt) (Nat.two_pow_pos _)).2.2 ((fresh_iff o 0 (by omega) (fun x hx => by have := hlt x hx; omega)).2 ⟨hnd, fun x _ => by simp⟩)
  rw [setAll_mask, castL_length] at h1
  have : pc 0 = 0 := by decide
  omega
theorem whole_length {n : Nat} (hn : n ≤ 8) {o : List Nat} (h : Whole n o) : o.length = n := by
  have h1 := mask_full hn h.2.1 h.1
  have hs := maskOf_lt hn o 0 h.2.1 (Nat.two_pow_pos _)
  have h8 := pow8 hn
  by_cases c : maskOf o 0 = 2 ^ n - 1
  · rw [← h1]
    exact (full_pc hn hs).2 c
  · exfalso
    obtain ⟨i, hi, hb⟩ := not_full hs c
    have := (mask_bit o 0 i (by omega) (fun x hx => by have := h.2.1 x hx; omega) (by omega)).2 (Or.inr (h.2.2 i hi))
    rw [hb] at this
    exact absurd this (by simp)
theorem whole_order {n : Nat} (hn : n ≤ 8) {o : List Nat} (h : Whole n o) : orderB n (castL o) = true := by
  unfold orderB
  rw [Bool.and_eq_true, Bool.and_eq_true, decide_eq_true_eq, castL_length]
  exact ⟨⟨whole_length hn h, castL_all h.2.1⟩, (fresh_iff o 0 (by omega) (fun x hx => by have := h.2.1 x hx; omega)).2 ⟨h.1, fun x _ => by simp⟩⟩
theorem order_whole {n : Nat} (hn : n ≤ 8) {o : List Int} (h : orderB n o = true) : ∃ q, o = castL q ∧ Whole n q := by
  obtain ⟨h1, h2⟩ := orderB_all h
  obtain ⟨e, hlt⟩ := castL_of h1
  refine ⟨o.map Int.toNat, e.symm, ?_⟩
  unfold orderB at h
  rw [Bool.and_eq_true] at h
  rw [← e] at h
  have hf := (fresh_iff (o.map Int.toNat) 0 (by omega) (fun x hx => by have := hlt x hx; omega)).1 h.2
  refine ⟨hf.1, hlt, fun x hx => ?_⟩
  have hp := mask_full hn hlt hf.1
  have hs := maskOf_lt hn (o.map Int.toNat) 0 hlt (Nat.two_pow_pos _)
  have hfull := (full_pc hn hs).1 (by rw [hp, List.length_map, h2])
  have hb := (mask_bit (o.map Int.toNat) 0 x (by omega) (fun y hy => by have := hlt y hy; omega) (by omega)).1 (by rw [hfull, Nat.testBit_two_pow_sub_one]; simpa using hx)
  rcases hb with hb | hb
  · simp at hb
  · exact hb
def nsum (g : Nat → Int) : List Nat → Int
  | [] => 0
  | x :: o => g x + nsum g o
theorem nsum_append (g : Nat → Int) : ∀ p q : List Nat, nsum g (p ++ q) = nsum g p + nsum g q
  | [], q => by simp [nsum]
  | x :: p, q => by rw [List.cons_append, nsum, nsum, nsum_append g p q]; omega
theorem nsum_congr {f g : Nat → Int} : ∀ {o : List Nat}, (∀ x, x ∈ o → f x = g x) → nsum f o = nsum g o
  | [], _ => rfl
  | x :: o, h => by rw [nsum, nsum, h x (List.mem_cons_self ..), nsum_congr (fun y hy => h y (List.mem_cons_of_mem _ hy))]
theorem nsum_zero {g : Nat → Int} {o : List Nat} (h : ∀ x, x ∈ o → g x = 0) : nsum g o = 0 := by
  rw [nsum_congr (g := fun _ => 0) h]
  clear h
  induction o with
  | nil => rfl
  | cons x o ih => rw [nsum, ih]; rfl
theorem nsum_sumN (g : Nat → Int) (n : Nat) : ∀ o : List Nat, o.Nodup → (∀ x, x ∈ o → x < n) → nsum g o = sumN n (fun i => if i ∈ o then g i else 0)
  | [], _, _ => by simp [nsum, sumN_zero]
  | x :: o, hn, hlt => by
    rw [List.nodup_cons] at hn
    have ih := nsum_sumN g n o hn.2 (fun y hy => hlt y (List.mem_cons_of_mem _ hy))
    have e := sumN_at (f := fun i => if i ∈ x :: o then g i else 0) (g := fun i => if i ∈ o then g i else 0) x (hlt x (List.mem_cons_self ..)) (fun i _ hne => by
      by_cases c : i ∈ o
      · rw [if_pos c, if_pos (List.mem_cons_of_mem _ c)]
      · rw [if_neg c, if_neg (fun h => by exact (List.mem_cons.1 h).elim hne c)])
    rw [nsum, ih, e, if_pos (List.mem_cons_self ..), if_neg hn.1]
    omega
theorem row_cons (l : List S48) (i : Nat) (o : List Nat) (acc : List Int) (now : Int) : rowFrom l now acc (castL (i :: o)) = rowFrom l (now + timf l i) (acc.set i (now + timf l i)) (castL o) := by
  show rowFrom l (now + (jb l ((i : Int)).toNat).f0) (acc.set ((i : Int)).toNat (now + (jb l ((i : Int)).toNat).f0)) (castL o) = _
  rw [Int.toNat_natCast]
  rfl
theorem row_at (l : List S48) (j : Nat) (q : List Nat) : ∀ (p : List Nat) (acc : List Int) (now : Int), (p ++ j :: q).Nodup → (∀ x, x ∈ p ++ j :: q → x < acc.length) → tm (rowFrom l now acc (castL (p ++ j :: q))) j = now + nsum (timf l) p + timf l j
  | [], acc, now, hn, hlt => by
    rw [List.nil_append] at hn hlt ⊢
    rw [List.nodup_cons] at hn
    rw [row_cons, row_keep l q _ _ j (fun x hx => by rw [List.length_set]; exact hlt x (List.mem_cons_of_mem _ hx)) hn.1, tm_setR _ _ _ _ (hlt j (List.mem_cons_self ..)), if_pos rfl, nsum]
    omega
  | x :: p, acc, now, hn, hlt => by
    rw [List.cons_append] at hn hlt ⊢
    rw [List.nodup_cons] at hn
    rw [row_cons, row_at l j q p _ _ hn.2 (fun y hy => by rw [List.length_set]; exact hlt y (List.mem_cons_of_mem _ hy)), nsum]
    omega
theorem row_sum (l : List S48) (ht : ∀ i, 0 ≤ timf l i) (b : Int) : ∀ (o : List Nat) (acc : List Int) (now : Int), o.Nodup → (∀ x, x ∈ o → x < acc.length) →
    nsum (fun i => if tm (rowFrom l now acc (castL o)) i ≤ b then timf l i else 0) o ≤ max 0 (b - now)
  | [], acc, now, _, _ => by simp [nsum]; omega
  | i :: o, acc, now, hn, hlt => by
    have hn0 := hn
    rw [List.nodup_cons] at hn
    have hlt2 : ∀ x, x ∈ o → x < (acc.set i (now + timf l i)).length := fun x hx => by rw [List.length_set]; exact hlt x (List.mem_cons_of_mem _ hx)
    have ih := row_sum l ht b o (acc.set i (now + timf l i)) (now + timf l i) hn.2 hlt2
    have hi : tm (rowFrom l now acc (castL (i :: o))) i = now + timf l i := by
      have := row_at l i o [] acc now hn0 hlt
      rw [List.nil_append, nsum] at this
      rw [this]
      omega
    rw [nsum]
    simp only [hi]
    have e : nsum (fun j => if tm (rowFrom l now acc (castL (i :: o))) j ≤ b then timf l j else 0) o = nsum (fun j => if tm (rowFrom l (now + timf l i) (acc.set i (now + timf l i)) (castL o)) j ≤ b then timf l j else 0) o := nsum_congr (fun j hj => by rw [row_cons])
    rw [e]
    have h0 := ht i
    split <;> omega
theorem timf_nn {l : List S48} (hv : valid48 l = true) (i : Nat) : 0 ≤ timf l i := (time_le hv i).1
theorem set_sum {l : List S48} (hv : valid48 l = true) {o : List Nat} (ho : Whole l.length o) (S : Nat → Prop) [DecidablePred S] {b : Int} (hb : 0 ≤ b) (hS : ∀ i, i < l.length → S i → tm (rowOf l (castL o)) i ≤ b) :
    sumN l.length (fun i => if S i then timf l i else 0) ≤ b := by
  have h1 := row_sum l (timf_nn hv) b o (List.replicate l.length 0) 0 ho.1 (fun x hx => by rw [List.length_replicate]; exact ho.2.1 x hx)
  have h2 := nsum_sumN (fun i => if tm (rowFrom l 0 (List.replicate l.length 0) (castL o)) i ≤ b then timf l i else 0) l.length o ho.1 ho.2.1
  have h3 : sumN l.length (fun i => if S i then timf l i else 0) ≤ sumN l.length (fun i => if i ∈ o then (if tm (rowFrom l 0 (List.replicate l.length 0) (castL o)) i ≤ b then timf l i else 0) else 0) := sumN_le (fun i hi => by
    rw [if_pos (ho.2.2 i hi)]
    have h0 := timf_nn hv i
    by_cases c : S i
    · have hSi : tm (rowFrom l 0 (List.replicate l.length 0) (castL o)) i ≤ b := hS i hi c
      rw [if_pos c, if_pos hSi]
      exact Int.le_refl _
    · rw [if_neg c]
      split <;> omega)
  omega
theorem mem_fold {lt : Int → Int → Bool} {x : Int} : ∀ (xs r : List Int), x ∈ xs.foldl (insRev lt) r ↔ x ∈ r ∨ x ∈ xs
  | [], r => by simp
  | y :: xs, r => by
    rw [List.foldl_cons, mem_fold xs, mem_insRev, List.mem_cons]
    constructor
    · rintro ((h | h) | h)
      · exact Or.inr (Or.inl h)
      · exact Or.inl h
      · exact Or.inr (Or.inr h)
    · rintro (h | h | h)
      · exact Or.inl (Or.inr h)
      · exact Or.inl (Or.inl h)
      · exact Or.inr h
theorem desc_fold2 {l : List S48} : ∀ (xs r : List Int), r.Pairwise (fun a b => lex l b a) → (∀ x, x ∈ r → ∀ y, y ∈ xs → x < y) → xs.Pairwise (· < ·) → (xs.foldl (insRev (ltD l)) r).Pairwise (fun a b => lex l b a)
  | [], r, h, _, _ => h
  | y :: xs, r, h, hlt, hp => by
    rw [List.pairwise_cons] at hp
    rw [List.foldl_cons]
    refine desc_fold2 xs _ (desc_insRev h (fun x hx => hlt x hx y (List.mem_cons_self ..))) (fun x hx z hz => ?_) hp.2
    rcases mem_insRev.1 hx with rfl | hx
    · exact hp.1 z hz
    · exact hlt x hx z (List.mem_cons_of_mem _ hz)
theorem sort_lex (l : List S48) (xs : List Int) (hp : xs.Pairwise (· < ·)) : (dates_jobs_byDue.srt.sort (ltD l) xs).Pairwise (lex l) ∧ ∀ x, x ∈ dates_jobs_byDue.srt.sort (ltD l) xs ↔ x ∈ xs := by
  rw [sort_rev]
  refine ⟨?_, fun x => ?_⟩
  · rw [List.pairwise_reverse]
    exact desc_fold2 xs [] List.Pairwise.nil (fun x hx => absurd hx (by simp)) hp
  · rw [List.mem_reverse, mem_fold]
    simp
theorem lex_nodup {l : List S48} {o : List Nat} (h : (castL o).Pairwise (lex l)) : o.Nodup := by
  unfold castL at h
  rw [List.pairwise_map] at h
  exact h.imp (fun {a b} hab e => by subst e; exact lex_irrefl _ hab)
theorem lex_sum (l : List S48) (g : Nat → Int) {p q : List Nat} {j : Nat} (h : (castL (p ++ j :: q)).Pairwise (lex l)) : nsum g p + g j = nsum (fun i => if lex l (i : Int) (j : Int) ∨ i = j then g i else 0) (p ++ j :: q) := by
  unfold castL at h
  rw [List.pairwise_map, List.pairwise_append, List.pairwise_cons] at h
  obtain ⟨h1, ⟨h2, h3⟩, h4⟩ := h
  rw [nsum_append, nsum, if_pos (Or.inr rfl)]
  rw [nsum_congr (o := p) (f := fun i => if lex l (i : Int) (j : Int) ∨ i = j then g i else 0) (g := g) (fun i hi => if_pos (Or.inl (h4 i hi j (List.mem_cons_self ..))))]
  rw [nsum_zero (o := q) (g := fun i => if lex l (i : Int) (j : Int) ∨ i = j then g i else 0) (fun i hi => by
    rw [if_neg]
    rintro (c | c)
    · exact lex_irrefl _ (lex_trans c (h2 i hi))
    · subst c
      exact lex_irrefl _ (h2 i hi))]
  omega
theorem due_best {l : List S48} (hv : valid48 l = true) {e o : List Nat} (he : Whole l.length e) (hs : (castL e).Pairwise (lex l)) (ho : Whole l.length o) : cost l 0 e ≤ cost l 0 o := by
  have hlen := valid_len hv
  have hlo := whole_length hlen.2 ho
  have hc := cost_ge l o 0
  have h1 := (row_cost l o (List.replicate l.length 0) 0 (cost l 0 o) hc ho.1 (fun y hy => by rw [List.length_replicate]; exact ho.2.1 y hy)).1 (Int.le_refl _)
  refine (row_cost l e (List.replicate l.length 0) 0 (cost l 0 o) hc he.1 (fun y hy => by rw [List.length_replicate]; exact he.2.1 y hy)).2 (fun j hj => ?_)
  obtain ⟨p, q, rfl⟩ := List.append_of_mem hj
  rw [row_at l j q p _ 0 he.1 (fun x hx => by rw [List.length_replicate]; exact he.2.1 x hx)]
  have hjl := he.2.1 j hj
  have e1 := lex_sum l (timf l) hs
  rw [nsum_sumN _ l.length _ he.1 he.2.1] at e1
  have hpos := row_pos l hv o (List.replicate l.length 0) 0 (by omega) (fun x hx => by rw [List.eq_of_mem_replicate hx]; omega) (by omega)
  have hjo := h1 j (ho.2.2 j hjl)
  have hjn := (endsB_tm hpos j).1
  have e2 := set_sum hv ho (fun i => i ∈ p ++ j :: q ∧ (lex l (i : Int) (j : Int) ∨ i = j)) (b := cost l 0 o + duef l j) (by omega) (fun i hi hS => by
    have h3 := h1 i (ho.2.2 i hi)
    have h4 : duef l i ≤ duef l j := by
      rcases hS.2 with c | c
      · unfold lex at c
        simp only [Int.toNat_natCast] at c
        omega
      · rw [c]; exact Int.le_refl _
    show tm (rowFrom l 0 (List.replicate l.length 0) (castL o)) i ≤ _
    omega)
  have e3 : sumN l.length (fun i => if i ∈ p ++ j :: q then (if lex l (i : Int) (j : Int) ∨ i = j then timf l i else 0) else 0) = sumN l.length (fun i => if i ∈ p ++ j :: q ∧ (lex l (i : Int) (j : Int) ∨ i = j) then timf l i else 0) := sumN_congr (fun i _ => by
    by_cases c : i ∈ p ++ j :: q
    · by_cases d : lex l (i : Int) (j : Int) ∨ i = j
      · rw [if_pos c, if_pos d, if_pos ⟨c, d⟩]
      · rw [if_pos c, if_neg d, if_neg (fun h => d h.2)]
    · rw [if_neg c, if_neg (fun h => c h.1)])
  omega
end Go.Proofs.Ytaboleeclpllpaa.M


namespace Go.Proofs.Ytaboleeclpllpaa.Open
open Go.RowKit Go.ChangeShapes Go.WideShapes Go.Deep Go.Proofs.YtaboleeclpllpaaW.PrintWords Go.Proofs.Ytaboleeclpllpaa.P
set_option linter.unusedVariables false
set_option linter.unusedSimpArgs false
def wfi (x : Int) : Prop := -9223372036854775808 ≤ x ∧ x ≤ 9223372036854775807
theorem wfi_of {x : Int} (h : (Lit.int .i64 x).wf = true) : wfi x := by
  simp only [Lit.wf, Bool.and_eq_true, decide_eq_true_eq] at h
  exact ⟨h.1, h.2⟩
section
variable {H : Type} {enc : TypeId × Value → H} {W : World} {base : Nat} {spare : Nat → Bool} {held : Bool} {fuel : Nat} {y : DataW H × List MemPlace}
theorem open_i64 {t : TypeId} {P : Program} (hu : P.underlying t = some (.int .i64)) {cs : List Value} (h : DataW.trod enc P W base spare held fuel t cs = some y) : ∃ x : Int, cs = [.int .i64 x] ∧ wfi x := by
  obtain ⟨x, hx, _, hw⟩ := DataW.trod_int hu h
  exact ⟨x, hx, wfi_of hw⟩
theorem open_struct4 {P : Program} {e ti : TypeId} {f0 f1 f2 f3 : Field} (he : P.underlying e = some (.struct #[f0, f1, f2, f3])) (hC : P.cellsOf e = 4) (hu : P.underlying ti = some (.int .i64)) (hk : P.cellsOf ti = 1)
    (h0 : f0.type = ti ∧ f0.offset = 0) (h1 : f1.type = ti ∧ f1.offset = 1) (h2 : f2.type = ti ∧ f2.offset = 2) (h3 : f3.type = ti ∧ f3.offset = 3)
    {cs : List Value} (h : DataW.trod enc P W base spare held fuel e cs = some y) :
    ∃ x0 x1 x2 x3 : Int, cs = [.int .i64 x0, .int .i64 x1, .int .i64 x2, .int .i64 x3] ∧ wfi x0 ∧ wfi x1 ∧ wfi x2 ∧ wfi x3 := by
  obtain ⟨ys, n, _, _, hlen, hyl, hf⟩ := DataW.trod_struct he h
  rw [hC] at hlen
  match cs, hlen with
  | [c0, c1, c2, c3], _ =>
    match ys, hyl with
    | [y0, y1, y2, y3], _ =>
      have g0 := hf 0 f0 rfl
      have g1 := hf 1 f1 rfl
      have g2 := hf 2 f2 rfl
      have g3 := hf 3 f3 rfl
      rw [h0.1, h0.2, hk] at g0
      rw [h1.1, h1.2, hk] at g1
      rw [h2.1, h2.2, hk] at g2
      rw [h3.1, h3.2, hk] at g3
      obtain ⟨x0, e0, w0⟩ := open_i64 hu g0
      obtain ⟨x1, e1, w1⟩ := open_i64 hu g1
      obtain ⟨x2, e2, w2⟩ := open_i64 hu g2
      obtain ⟨x3, e3, w3⟩ := open_i64 hu g3
      simp at e0 e1 e2 e3
      exact ⟨x0, x1, x2, x3, by rw [e0, e1, e2, e3], w0, w1, w2, w3⟩
theorem open_array2 {P : Program} {e ti : TypeId} (he : P.underlying e = some (.array 2 ti)) (hC : P.cellsOf e = 2) (hu : P.underlying ti = some (.int .i64)) (hk : P.cellsOf ti = 1)
    {cs : List Value} (h : DataW.trod enc P W base spare held fuel e cs = some y) : ∃ x0 x1 : Int, cs = [.int .i64 x0, .int .i64 x1] ∧ wfi x0 ∧ wfi x1 := by
  obtain ⟨ys, n, _, _, hlen, hyl, hf⟩ := DataW.trod_array he h
  rw [hC] at hlen
  match cs, hlen with
  | [c0, c1], _ =>
    match ys, hyl with
    | [y0, y1], _ =>
      have g0 := hf 0 (by omega)
      have g1 := hf 1 (by omega)
      rw [hk] at g0 g1
      obtain ⟨x0, e0, w0⟩ := open_i64 hu g0
      obtain ⟨x1, e1, w1⟩ := open_i64 hu g1
      simp at e0 e1
      exact ⟨x0, x1, by rw [e0, e1], w0, w1⟩
theorem open_rows {α : Type} {P : Program} (d : Kd α) (good : α → Prop) {t e : TypeId} (ht : P.underlying t = some (.slice e)) (hsz : P.cellsOf e = d.sz)
    (hel : ∀ (n : Nat) (cs : List Value) (y : DataW H × List MemPlace), DataW.trod enc P W base spare held n e cs = some y → ∃ x : α, d.K W x cs ∧ good x)
    {a : Option Addr} {len cap : Nat} {dd : DataW H} {ps : List MemPlace} (h : DataW.Trod enc P W base spare held t (.slice a len cap) dd ps) :
    ∃ l : List α, l.length = len ∧ Kd.C d W a len l ∧ len ≤ cap ∧ ∀ x ∈ l, good x := by
  obtain ⟨fuel, hf⟩ := h
  rcases open_slice ht hf with ⟨hcs, _⟩ | ⟨a', len', cap', m, n, D, Pl, hcs, _, hl, hm, hmm, _, hi⟩
  · simp [Value.cells] at hcs
    obtain ⟨rfl, rfl, rfl⟩ := hcs
    exact ⟨[], rfl, ⟨rfl, by omega, fun h => by omega⟩, Nat.le_refl _, fun x hx => by cases hx⟩
  · simp [Value.cells] at hcs
    obtain ⟨rfl, rfl, rfl⟩ := hcs
    have hlm : len ≤ m := by rw [hmm]; split <;> omega
    have hM : len ≤ 9223372036854775807 := by unfold maxLen at hm; omega
    have hx : ∀ k : Nat, k ≤ len → ∃ l : List α, l.length = k ∧ (∀ j p, l[j]? = some p → ∃ cs, W.cells? base (a'.add (j * P.cellsOf e)) (P.cellsOf e) = some cs ∧ d.K W p cs) ∧ ∀ x ∈ l, good x := by
      intro k
      induction k with
      | zero => exact fun _ => ⟨[], rfl, fun j p hj => by simp at hj, fun x hx => by cases hx⟩
      | succ k ih =>
        intro hk
        obtain ⟨l, hll, h1, h2⟩ := ih (by omega)
        obtain ⟨cs, hc, htr⟩ := hi k (by omega)
        obtain ⟨x, hK, hg⟩ := hel _ _ _ htr
        refine ⟨l ++ [x], by simp [hll], fun j p hj => ?_, fun z hz => ?_⟩
        · by_cases hjk : j < l.length
          · rw [List.getElem?_append_left hjk] at hj
            exact h1 j p hj
          · have hjl : j = l.length := by
              have := (List.getElem?_eq_some_iff.1 hj).1
              simp at this
              omega
            subst hjl
            simp at hj
            subst hj
            rw [hll]
            exact ⟨cs, hc, hK⟩
        · rcases List.mem_append.1 hz with hz | hz
          · exact h2 z hz
          · simp at hz
            subst hz
            exact hg
    obtain ⟨l, hll, h1, h2⟩ := hx len (Nat.le_refl _)
    refine ⟨l, hll, ⟨hll, hM, fun _ => ⟨a', rfl, fun j p hj => ?_⟩⟩, hl, h2⟩
    obtain ⟨cs, hc, hk⟩ := h1 j p hj
    obtain ⟨_, hcl, hat⟩ := World.cells?_some hc
    refine ⟨cs, by rw [hcl, hsz], hk, fun i u hu => ?_⟩
    have hil : i < P.cellsOf e := by have := (List.getElem?_eq_some_iff.1 hu).1; omega
    have := hat i hil
    rw [Go.Deep.add_add, hsz] at this
    rw [this, hu]
end
def W43 (x : S43) : Prop := wfi x.f0 ∧ wfi x.f1 ∧ wfi x.f2 ∧ wfi x.f3
def W64 (x : S64) : Prop := wfi x.f0 ∧ wfi x.f1
section
variable {H : Type} {enc : TypeId × Value → H} {W : World} {base : Nat} {spare : Nat → Bool} {held : Bool} {a : Option Addr} {len cap : Nat} {dd : DataW H} {ps : List MemPlace}
theorem rows_43 (h : DataW.Trod enc Try.prog W base spare held 22 (.slice a len cap) dd ps) : ∃ l : List S43, l.length = len ∧ Kd.C k43 W a len l ∧ len ≤ cap ∧ ∀ x ∈ l, W43 x :=
  open_rows k43 W43 Try.underlying22 (by kernel_rfl) (fun n cs y hy => by
    obtain ⟨x0, x1, x2, x3, rfl, hw⟩ := open_struct4 Try.underlying43 (by kernel_rfl) Try.underlying3 (by kernel_rfl) ⟨rfl, rfl⟩ ⟨rfl, rfl⟩ ⟨rfl, rfl⟩ ⟨rfl, rfl⟩ hy
    exact ⟨⟨x0, x1, x2, x3⟩, k43_mk _ _, hw⟩) h
theorem rows_64 (h : DataW.Trod enc Try.prog W base spare held 72 (.slice a len cap) dd ps) : ∃ l : List S64, l.length = len ∧ Kd.C k64 W a len l ∧ len ≤ cap ∧ ∀ x ∈ l, W64 x :=
  open_rows k64 W64 Try.underlying72 (by kernel_rfl) (fun n cs y hy => by
    obtain ⟨x0, x1, rfl, hw⟩ := open_array2 Try.underlying64 (by kernel_rfl) Try.underlying3 (by kernel_rfl) hy
    exact ⟨⟨x0, x1⟩, k64_mk _ _, hw⟩) h
theorem rows_int (h : DataW.Trod enc Try.prog W base spare held 41 (.slice a len cap) dd ps) : ∃ l : List Int, l.length = len ∧ Kd.C (Kd.int .i64) W a len l ∧ len ≤ cap ∧ ∀ x ∈ l, wfi x :=
  open_rows (Kd.int .i64) wfi Try.underlying41 (by kernel_rfl) (fun n cs y hy => by
    obtain ⟨x, rfl, hw⟩ := open_i64 Try.underlying3 hy
    exact ⟨x, rfl, hw⟩) h
end
end Go.Proofs.Ytaboleeclpllpaa.Open


namespace Go.Proofs.Ytaboleeclpllpaa.M.Orders
open Go.RowKit Go.Proofs.YtaboleeclpllpaaW.PrintWords Go.Proofs.YtaboleeclpllpaaW.PrintLast Go.Proofs.YtaboleeclpllpaaW.PrintMore Go.Proofs.Ytaboleeclpllpaa.P Go.Proofs.Ytaboleeclpllpaa.T Go.Proofs.Ytaboleeclpllpaa.M
set_option linter.unusedVariables false
set_option linter.unusedSimpArgs false
theorem due43 (l : List S43) (x : Int) : (rd_T43 l x).f2 = duef (l.map to48) x.toNat := by
  unfold duef jb rd_T43
  rw [List.getD_eq_getElem?_getD, List.getD_eq_getElem?_getD, List.getElem?_map]
  cases l[x.toNat]? <;> rfl
theorem due_bound {L : List S48} (hv : valid48 L = true) (i : Nat) : 0 ≤ duef L i ∧ duef L i ≤ 200 := by
  by_cases h : i < L.length
  · have := valid_jb hv h
    unfold duef
    omega
  · simp [duef, jb, List.getD_eq_getElem?_getD, List.getElem?_eq_none (Nat.le_of_not_lt h), z48]
theorem lt_eq (l : List S43) (hv : valid48 (l.map to48) = true) : corrodylaw06_DatesOrders_srt.lt l = ltD (l.map to48) := by
  funext x y
  unfold corrodylaw06_DatesOrders_srt.lt ltD
  rw [due43 l x, due43 l y]
  have h1 := due_bound hv x.toNat
  have h2 := due_bound hv y.toNat
  rw [w64 (by omega) (by omega)]
  rw [decide_eq_decide]
  omega
theorem range_lt (n : Nat) : (castL (List.range n)).Pairwise (· < ·) := by
  unfold castL
  rw [List.pairwise_map]
  exact List.pairwise_lt_range.imp (fun {a b} h => by omega)
theorem due_form (l : List S43) (hv : valid48 (l.map to48) = true) : ∃ e : List Nat, corrodylaw06_DatesOrders.due l = castL e ∧ (castL e).Pairwise (lex (l.map to48)) ∧ Whole l.length e := by
  have hd : corrodylaw06_DatesOrders.due l = dates_jobs_byDue.srt.sort (ltD (l.map to48)) (castL (List.range l.length)) := by
    unfold corrodylaw06_DatesOrders.due
    rw [lt_eq l hv]
    rfl
  obtain ⟨h1, h2⟩ := sort_lex (l.map to48) (castL (List.range l.length)) (range_lt l.length)
  have hall : (corrodylaw06_DatesOrders.due l).all (inN l.length) = true := by
    rw [List.all_eq_true]
    intro x hx
    rw [hd, h2] at hx
    obtain ⟨y, hy, rfl⟩ := List.mem_map.1 hx
    have := List.mem_range.1 hy
    rw [inN_iff]
    omega
  obtain ⟨e, hlt⟩ := castL_of hall
  refine ⟨(corrodylaw06_DatesOrders.due l).map Int.toNat, e.symm, ?_, ?_, hlt, ?_⟩
  · rw [e, hd]
    exact h1
  · refine lex_nodup (l := l.map to48) ?_
    rw [e, hd]
    exact h1
  · intro x hx
    rw [List.mem_map]
    refine ⟨(x : Int), ?_, by omega⟩
    rw [hd, h2]
    exact List.mem_map.2 ⟨x, List.mem_range.2 hx, rfl⟩
theorem go_late (l : List S43) (hv : valid48 (l.map to48) = true) (e : List Int) (hel : e.length = l.length) (he : ∀ x ∈ e, 0 ≤ x ∧ x ≤ 1000000) : ∀ (d i : Nat), i + d = e.length →
    corrodylaw06_DatesOrders_worst.go l i (e.drop i) (lateN (l.map to48) e (-1073741824) i) = worstOf (l.map to48) e := by
  have hlen := valid_len hv
  rw [List.length_map] at hlen
  intro d
  induction d with
  | zero =>
    intro i hi
    rw [show i = e.length by omega, List.drop_length, corrodylaw06_DatesOrders_worst.go, worstOf, List.length_map, hel]
  | succ d ih =>
    intro i hi
    have hlt : i < e.length := by omega
    have hd := due_bound hv i
    have h3 := endsB_tm he i
    rw [corrodylaw06_DatesOrders_worst.go_at l e i _ hlt, due43, Int.toNat_natCast, rd_nat e i hlt, ← tm_get hlt, mx_max, w64 (x := tm e i - duef (l.map to48) i) (by omega) (by omega)]
    exact ih (i + 1) (by omega)
theorem worst_f (l : List S43) (hl : l.length ≤ 9223372036854775807) (hv : valid48 (l.map to48) = true) (o : List Int) (ho : o.length ≤ 1000000) : Ev (fun k => corrodylaw06_DatesOrders_worst.f k l o) (if orderB l.length o = true then (cost (l.map to48) 0 (o.map Int.toNat), true) else (-1073741824, false)) := by
  have hlen := valid_len hv
  have hmap : (l.map to48).length = l.length := List.length_map _
  rw [hmap] at hlen
  unfold corrodylaw06_DatesOrders_worst.f
  have hOf := Of_f l hl
  rw [of_valid hv] at hOf
  refine Ev.bind hOf (Ev.bind (Ends_f (l.map to48) o (by omega) ho) ?_)
  simp only [hv, hmap, Bool.true_and]
  cases hb : orderB l.length o with
  | false =>
    simp only [Bool.false_eq_true, if_false]
    rw [show corrodylaw06_DatesOrders_worst.go l 0 [] (-1073741824) = -1073741824 from rfl]
    simp
    exact Ev.now _
  | true =>
    obtain ⟨q, rfl, hq⟩ := order_whole hlen.2 hb
    have hql := whole_length hlen.2 hq
    have hrl : (rowOf (l.map to48) (castL q)).length = l.length := by rw [rowOf_length, hmap]
    simp only [if_true, hrl, Nat.le_refl]
    have hpos := row_pos (l.map to48) hv q (List.replicate (l.map to48).length 0) 0 (by omega) (fun x hx => by rw [List.eq_of_mem_replicate hx]; omega) (by omega)
    have hg := go_late l hv (rowOf (l.map to48) (castL q)) hrl hpos (rowOf (l.map to48) (castL q)).length 0 (by omega)
    rw [List.drop_zero] at hg
    have hg2 : corrodylaw06_DatesOrders_worst.go l 0 (rowOf (l.map to48) (castL q)) (-1073741824) = worstOf (l.map to48) (rowOf (l.map to48) (castL q)) := hg
    rw [hg2, row_worst (l.map to48) hv (by rw [hmap]; exact hq) (by omega)]
    have hcq : (castL q).map Int.toNat = q := by
      unfold castL
      rw [List.map_map]
      conv => rhs; rw [← List.map_id q]
      exact List.map_congr_left (fun x _ => by simp)
    rw [hcq]
    simp
    exact Ev.now _
def at_ (o : List Int) (x : Int) : Int := match o.findIdx? (fun y => decide (y = x)) with
  | some i => (i : Int)
  | none => -1
theorem index_loop (o : List Int) (ho : o.length ≤ 9223372036854775807) (x : Int) : ∀ (d i : Nat), i + d = o.length → Ev (fun k => slices_Index_int_int.l0 k o x (o.length : Int) (i : Int)) (match (o.drop i).findIdx? (fun y => decide (y = x)) with | some j => ((i + j : Nat) : Int) | none => -1) := by
  intro d
  induction d with
  | zero =>
    intro i hi
    rw [show i = o.length by omega, List.drop_length]
    refine Ev.step (f := fun _ => some (-1)) (fun k => ?_) (Ev.now _)
    simp only [slices_Index_int_int.l0]
    rw [if_neg (by omega)]
  | succ d ih =>
    intro i hi
    have hlt : i < o.length := by omega
    rw [List.drop_eq_getElem_cons hlt, List.findIdx?_cons]
    by_cases c : o[i] = x
    · rw [show decide (o[i] = x) = true by simp [c]]
      refine Ev.step (f := fun _ => some (i : Int)) (fun k => ?_) (Ev.now _)
      simp only [slices_Index_int_int.l0]
      rw [if_pos (by omega), if_pos (by omega), if_pos (by omega), rd_nat o i hlt, if_pos c.symm]
    · rw [show decide (o[i] = x) = false by simp [c]]
      have h := ih (i + 1) (by omega)
      refine Ev.step (f := fun k => slices_Index_int_int.l0 k o x (o.length : Int) ((i + 1 : Nat) : Int)) (fun k => ?_) ?_
      · simp only [slices_Index_int_int.l0]
        rw [if_pos (by omega), if_pos (by omega), if_pos (by omega), rd_nat o i hlt, if_neg (fun e => c e.symm), w64s i o.length hlt ho]
      · cases e : (o.drop (i + 1)).findIdx? (fun y => decide (y = x)) with
        | none =>
          rw [e] at h
          simpa using h
        | some j =>
          rw [e] at h
          simp only [Bool.false_eq_true, if_false, Option.map_some]
          have e2 : ((i + (j + 1) : Nat) : Int) = ((i + 1 + j : Nat) : Int) := by omega
          rw [e2]
          exact h
theorem index_f (o : List Int) (ho : o.length ≤ 9223372036854775807) (x : Int) : Ev (fun k => slices_Index_int_int.f k o x) (at_ o x) := by
  unfold slices_Index_int_int.f at_
  have h := index_loop o ho x o.length 0 (by omega)
  rw [List.drop_zero] at h
  cases e : o.findIdx? (fun y => decide (y = x)) with
  | none =>
    rw [e] at h
    exact h
  | some j =>
    rw [e] at h
    simp only [Nat.zero_add] at h
    exact h
def keepsB (o : List Int) (ps : List S64) : Bool := ps.all (fun p => decide (at_ o p.f0 < at_ o p.f1))
theorem keeps_f (o : List Int) (ho : o.length ≤ 9223372036854775807) : ∀ ps : List S64, Ev (fun k => corrodylaw06_DatesOrders_keeps.go k o ps) (keepsB o ps)
  | [] => Ev.now _
  | p :: ps => by
    simp only [corrodylaw06_DatesOrders_keeps.go]
    refine Ev.bind (index_f o ho p.f0) (Ev.bind (index_f o ho p.f1) ?_)
    unfold keepsB
    rw [List.all_cons]
    by_cases c : at_ o p.f0 ≥ at_ o p.f1
    · simp only [if_pos c]
      rw [show decide (at_ o p.f0 < at_ o p.f1) = false by simp; omega, Bool.false_and]
      exact Ev.now _
    · simp only [if_neg c]
      rw [show decide (at_ o p.f0 < at_ o p.f1) = true by simp; omega, Bool.true_and]
      exact keeps_f o ho ps
theorem at_cons (x : Nat) (o : List Nat) (j : Nat) : at_ (castL (x :: o)) (j : Int) = if x = j then 0 else (if at_ (castL o) (j : Int) < 0 then -1 else at_ (castL o) (j : Int) + 1) := by
  unfold at_
  rw [castL_cons, List.findIdx?_cons]
  by_cases c : x = j
  · rw [if_pos c, show decide ((x : Int) = (j : Int)) = true by simp; omega]
    rfl
  · rw [if_neg c, show decide ((x : Int) = (j : Int)) = false by simp; omega]
    cases e : (castL o).findIdx? (fun y => decide (y = (j : Int))) with
    | none => simp
    | some i =>
      simp only [Bool.false_eq_true, if_false, Option.map_some]
      rw [if_neg (by omega)]
      omega
theorem at_mem : ∀ (o : List Nat) (j : Nat), j ∈ o ↔ 0 ≤ at_ (castL o) (j : Int)
  | [], j => by simp [at_, castL]
  | x :: o, j => by
    rw [at_cons, List.mem_cons, at_mem o j]
    by_cases c : x = j
    · rw [if_pos c]
      simp [c]
    · rw [if_neg c]
      split <;> (constructor <;> intro h)
      · rcases h with h | h
        · exact absurd h.symm c
        · omega
      · omega
      · omega
      · omega
theorem conts_keep {n : Nat} (hn : n ≤ 8) {ps : List S64} (hok : ps.all (prOk n) = true) : ∀ (m s : Nat) (o : List Nat), s < 2 ^ n → n ≤ pc s + m →
    (o ∈ conts (castL (masks n ps)) n m s ↔ (o.Nodup ∧ (∀ x, x ∈ o → x < n ∧ s.testBit x = false) ∧ (∀ x, x < n → s.testBit x = true ∨ x ∈ o)) ∧ ∀ p, p ∈ ps → ∀ i j : Nat, p.f0 = (i : Int) → p.f1 = (j : Int) → j ∈ o → s.testBit i = true ∨ at_ (castL o) (i : Int) < at_ (castL o) (j : Int) ∧ i ∈ o) := by
  have h8 := pow8 hn
  have hfree : ∀ s x, s < 2 ^ n → x < n → (free (castL (masks n ps)) s x = true ↔ s.testBit x = false ∧ ∀ p, p ∈ ps → ∀ i : Nat, p.f0 = (i : Int) → p.f1 = (x : Int) → s.testBit i = true) := by
    intro s x hs hx
    have hmx := masks_small hn hok x
    unfold free
    rw [Bool.and_eq_true, Bool.not_eq_true', decide_eq_true_eq, rd_cast, andnot0 (by omega) (by omega)]
    refine and_congr Iff.rfl ⟨fun h p hp i h0 h1 => ?_, fun h i hi hb => ?_⟩
    · have hpo := List.all_eq_true.1 hok p hp
      unfold prOk at hpo
      simp only [decide_eq_true_eq] at hpo
      exact h i (by omega) ((masks_bit hn hok (by omega) hx).2 ⟨p, hp, h0, h1⟩)
    · by_cases hin : i < n
      · obtain ⟨p, hp, h0, h1⟩ := (masks_bit hn hok hin hx).1 hb
        exact h p hp i h0 h1
      · rw [Nat.testBit_lt_two_pow (Nat.lt_of_lt_of_le hmx (Nat.pow_le_pow_right (n := 2) (by omega) (by omega)))] at hb
        exact absurd hb (by simp)
  have hfull : ∀ s, s = 2 ^ n - 1 → ∀ o : List Nat, (o ∈ ([[]] : List (List Nat)) ↔ (o.Nodup ∧ (∀ x, x ∈ o → x < n ∧ s.testBit x = false) ∧ (∀ x, x < n → s.testBit x = true ∨ x ∈ o)) ∧ ∀ p, p ∈ ps → ∀ i j : Nat, p.f0 = (i : Int) → p.f1 = (j : Int) → j ∈ o → s.testBit i = true ∨ at_ (castL o) (i : Int) < at_ (castL o) (j : Int) ∧ i ∈ o) := by
    intro s hs o
    have hall : ∀ x, x < n → s.testBit x = true := fun x hx => by rw [hs, Nat.testBit_two_pow_sub_one]; simpa using hx
    rw [List.mem_singleton]
    constructor
    · rintro rfl
      exact ⟨⟨List.nodup_nil, fun x hx => absurd hx (by simp), fun x hx => Or.inl (hall x hx)⟩, fun p _ i j _ _ hj => absurd hj (by simp)⟩
    · rintro ⟨⟨_, h2, _⟩, _⟩
      cases o with
      | nil => rfl
      | cons x o =>
        obtain ⟨a, b⟩ := h2 x (List.mem_cons_self ..)
        rw [hall x a] at b
        exact absurd b (by simp)
  intro m
  induction m with
  | zero =>
    intro s o hs hm
    have h0 : ∀ n : Fin 9, ∀ s : Fin 256, (s : Nat) < 2 ^ (n : Nat) → pc s ≤ n := by decide +kernel
    have h1 := h0 ⟨n, by omega⟩ ⟨s, by omega⟩ hs
    simp only at h1
    have hf := (full_pc hn hs).1 (by omega)
    rw [conts, if_pos hf]
    exact hfull s hf o
  | succ m ih =>
    intro s o hs hm
    rw [conts]
    by_cases hf : s = 2 ^ n - 1
    · rw [if_pos hf]
      exact hfull s hf o
    · rw [if_neg hf, List.mem_flatMap]
      constructor
      · rintro ⟨x, hx, ho⟩
        have hxn := List.mem_range.1 hx
        by_cases hfr : free (castL (masks n ps)) s x = true
        · rw [if_pos hfr] at ho
          obtain ⟨q, hq, rfl⟩ := List.mem_map.1 ho
          obtain ⟨hb, hpre⟩ := (hfree s x hs hxn).1 hfr
          obtain ⟨⟨a1, a2, a3⟩, a4⟩ := (ih (put s x) q (put_pow hn hxn hs) (by rw [put_pc (by omega) (by omega), hb]; simp; omega)).1 hq
          have hxq : x ∉ q := fun h => by
            have := (a2 x h).2
            rw [put_bit (by omega) (by omega) (by omega)] at this
            simp at this
          refine ⟨⟨List.nodup_cons.2 ⟨hxq, a1⟩, fun y hy => ?_, fun y hy => ?_⟩, fun p hp i j h0 h1 hj => ?_⟩
          · rcases List.mem_cons.1 hy with rfl | hy
            · exact ⟨hxn, hb⟩
            · obtain ⟨b1, b2⟩ := a2 y hy
              rw [put_bit (by omega) (by omega) (by omega), Bool.or_eq_false_iff] at b2
              exact ⟨b1, b2.1⟩
          · rcases a3 y hy with h | h
            · rw [put_bit (by omega) (by omega) (by omega)] at h
              simp only [Bool.or_eq_true, decide_eq_true_eq] at h
              rcases h with h | h
              · exact Or.inl h
              · exact Or.inr (by rw [h]; exact List.mem_cons_self ..)
            · exact Or.inr (List.mem_cons_of_mem _ h)
          · have hpo := List.all_eq_true.1 hok p hp
            unfold prOk at hpo
            simp only [decide_eq_true_eq] at hpo
            by_cases hjx : j = x
            · exact Or.inl (hpre p hp i h0 (by omega))
            · have hjq : j ∈ q := (List.mem_cons.1 hj).elim (fun h => absurd h hjx) id
              have hatj : 0 ≤ at_ (castL q) (j : Int) := (at_mem q j).1 hjq
              rcases a4 p hp i j h0 h1 hjq with h | h
              · rw [put_bit (by omega) (by omega) (by omega)] at h
                simp only [Bool.or_eq_true, decide_eq_true_eq] at h
                rcases h with h | h
                · exact Or.inl h
                · refine Or.inr ⟨?_, by rw [h]; exact List.mem_cons_self ..⟩
                  rw [at_cons, at_cons, if_pos h.symm, if_neg (show ¬ x = j from fun e => hjx e.symm), if_neg (show ¬ at_ (castL q) (j : Int) < 0 by omega)]
                  omega
              · have hati : 0 ≤ at_ (castL q) (i : Int) := (at_mem q i).1 h.2
                refine Or.inr ⟨?_, List.mem_cons_of_mem _ h.2⟩
                have hix : x ≠ i := fun e => hxq (by rw [e]; exact h.2)
                rw [at_cons, at_cons, if_neg hix, if_neg (show ¬ x = j from fun e => hjx e.symm), if_neg (show ¬ at_ (castL q) (i : Int) < 0 by omega), if_neg (show ¬ at_ (castL q) (j : Int) < 0 by omega)]
                omega
        · rw [if_neg hfr] at ho
          exact absurd ho (by simp)
      · rintro ⟨⟨a1, a2, a3⟩, a4⟩
        cases o with
        | nil =>
          exfalso
          obtain ⟨i, hi, hb⟩ := not_full hs hf
          rcases a3 i hi with h | h
          · rw [hb] at h; exact absurd h (by simp)
          · exact absurd h (by simp)
        | cons x q =>
          obtain ⟨hxn, hb⟩ := a2 x (List.mem_cons_self ..)
          rw [List.nodup_cons] at a1
          have hfr : free (castL (masks n ps)) s x = true := (hfree s x hs hxn).2 ⟨hb, fun p hp i h0 h1 => by
            have hpo := List.all_eq_true.1 hok p hp
            unfold prOk at hpo
            simp only [decide_eq_true_eq] at hpo
            rcases a4 p hp i x h0 h1 (List.mem_cons_self ..) with h | h
            · exact h
            · exfalso
              have h3 := h.1
              rw [at_cons x q x, if_pos rfl] at h3
              have := (at_mem (x :: q) i).1 h.2
              omega⟩
          refine ⟨x, List.mem_range.2 hxn, ?_⟩
          rw [if_pos hfr]
          refine List.mem_map.2 ⟨q, ?_, rfl⟩
          refine (ih (put s x) q (put_pow hn hxn hs) (by rw [put_pc (by omega) (by omega), hb]; simp; omega)).2 ⟨⟨a1.2, fun y hy => ?_, fun y hy => ?_⟩, fun p hp i j h0 h1 hj => ?_⟩
          · obtain ⟨b1, b2⟩ := a2 y (List.mem_cons_of_mem _ hy)
            refine ⟨b1, ?_⟩
            rw [put_bit (by omega) (by omega) (by omega), Bool.or_eq_false_iff]
            refine ⟨b2, ?_⟩
            rw [decide_eq_false_iff_not]
            rintro rfl
            exact a1.1 hy
          · rw [put_bit (by omega) (by omega) (by omega)]
            simp only [Bool.or_eq_true, decide_eq_true_eq]
            rcases a3 y hy with h | h
            · exact Or.inl (Or.inl h)
            · rcases List.mem_cons.1 h with h | h
              · exact Or.inl (Or.inr h)
              · exact Or.inr h
          · have hpo := List.all_eq_true.1 hok p hp
            unfold prOk at hpo
            simp only [decide_eq_true_eq] at hpo
            have hjx : x ≠ j := fun e => a1.1 (by rw [e]; exact hj)
            have hatj : 0 ≤ at_ (castL q) (j : Int) := (at_mem q j).1 hj
            rw [put_bit (by omega) (by omega) (by omega)]
            simp only [Bool.or_eq_true, decide_eq_true_eq]
            rcases a4 p hp i j h0 h1 (List.mem_cons_of_mem _ hj) with h | h
            · exact Or.inl (Or.inl h)
            · by_cases hix : x = i
              · exact Or.inl (Or.inr hix.symm)
              · have hiq : i ∈ q := (List.mem_cons.1 h.2).elim (fun e => absurd e.symm hix) id
                have hati : 0 ≤ at_ (castL q) (i : Int) := (at_mem q i).1 hiq
                have h3 := h.1
                rw [at_cons, at_cons, if_neg hix, if_neg hjx, if_neg (show ¬ at_ (castL q) (i : Int) < 0 by omega), if_neg (show ¬ at_ (castL q) (j : Int) < 0 by omega)] at h3
                exact Or.inr ⟨by omega, hiq⟩
theorem conts_all {n : Nat} (hn : n ≤ 8) {ps : List S64} (hok : ps.all (prOk n) = true) (o : List Nat) : o ∈ conts (castL (masks n ps)) n 8 0 ↔ Whole n o ∧ keepsB (castL o) ps = true := by
  rw [conts_keep hn hok 8 0 o (Nat.two_pow_pos _) (by omega)]
  have hk : keepsB (castL o) ps = true ↔ ∀ p, p ∈ ps → at_ (castL o) p.f0 < at_ (castL o) p.f1 := by
    unfold keepsB
    rw [List.all_eq_true]
    exact ⟨fun h p hp => by simpa using h p hp, fun h p hp => by simpa using h p hp⟩
  rw [hk]
  constructor
  · rintro ⟨⟨a1, a2, a3⟩, a4⟩
    have hc : ∀ x, x < n → x ∈ o := fun x hx => (a3 x hx).elim (fun h => absurd h (by simp)) id
    refine ⟨⟨a1, fun x hx => (a2 x hx).1, hc⟩, fun p hp => ?_⟩
    have hpo := List.all_eq_true.1 hok p hp
    unfold prOk at hpo
    simp only [decide_eq_true_eq] at hpo
    obtain ⟨i, hi⟩ := Int.eq_ofNat_of_zero_le hpo.1
    obtain ⟨j, hj⟩ := Int.eq_ofNat_of_zero_le hpo.2.2.1
    rcases a4 p hp i j hi hj (hc j (by omega)) with h | h
    · exact absurd h (by simp)
    · rw [hi, hj]
      exact h.1
  · rintro ⟨⟨a1, a2, a3⟩, a4⟩
    refine ⟨⟨a1, fun x hx => ⟨a2 x hx, by simp⟩, fun x hx => Or.inr (a3 x hx)⟩, fun p hp i j h0 h1 hj => Or.inr ⟨?_, ?_⟩⟩
    · have := a4 p hp
      rw [h0, h1] at this
      exact this
    · have hpo := List.all_eq_true.1 hok p hp
      unfold prOk at hpo
      simp only [decide_eq_true_eq] at hpo
      exact a3 i (by omega)
end Go.Proofs.Ytaboleeclpllpaa.M.Orders
namespace Go.Proofs.Ytaboleeclpllpaa.Pure
open Go.RowKit Go.Proofs.YtaboleeclpllpaaW.PrintWords Go.Proofs.YtaboleeclpllpaaW.PrintLast Go.Proofs.YtaboleeclpllpaaW.PrintMore Go.Proofs.Ytaboleeclpllpaa.P Go.Proofs.Ytaboleeclpllpaa.M Go.Proofs.Ytaboleeclpllpaa.T Go.Proofs.Ytaboleeclpllpaa.M.Orders
set_option linter.unusedVariables false
set_option linter.unusedSimpArgs false
theorem castL_toNat (q : List Nat) : (castL q).map Int.toNat = q := by
  unfold castL
  rw [List.map_map]
  conv => rhs; rw [← List.map_id q]
  exact List.map_congr_left (fun x _ => by simp)
theorem worst_whole (l : List S43) (hl : l.length ≤ 9223372036854775807) (hv : valid48 (l.map to48) = true) {q : List Nat} (hq : Whole l.length q) : Ev (fun k => corrodylaw06_DatesOrders_worst.f k l (castL q)) (cost (l.map to48) 0 q, true) := by
  have hlen := valid_len hv
  rw [List.length_map] at hlen
  have h := worst_f l hl hv (castL q) (by rw [castL_length, whole_length hlen.2 hq]; omega)
  rw [if_pos (whole_order hlen.2 hq), castL_toNat] at h
  exact h
theorem DatesOrders (l : List S43) (hl : l.length ≤ 9223372036854775807) (hg : ∀ x ∈ l, Open.W43 x) (ps : List S64) (hps : ps.length ≤ 9223372036854775807) (hpg : ∀ x ∈ ps, Open.W64 x) (o : List Int) (hol : o.length ≤ 9223372036854775807) (hog : ∀ x ∈ o, Open.wfi x) : ∃ k, corrodylaw06_DatesOrders.f k l ps o = some true := by
  refine Ev.rounds (g := fun k => corrodylaw06_DatesOrders.f k l ps o) ?_
  unfold corrodylaw06_DatesOrders.f
  have hl10 : ((l.take 10).map to48).length ≤ 9223372036854775807 := by simp; omega
  refine Ev.bind (Of_f l hl) ?_
  refine Ev.bind (Least_f _ hl10 [] (by simp)) ?_
  simp only [pairs_f, Option.bind_some]
  refine Ev.bind (Least_f _ hl10 (ps.take 18) (by simp; omega)) ?_
  cases hv : valid48 (l.map to48) with
  | false =>
    have hv' : valid48 ((l.take 10).map to48) = false := by rw [valid_of]; exact hv
    simp only [hv', Bool.false_and, Bool.false_eq_true, if_false, if_true]
    exact awake_f
  | true =>
    rw [of_valid hv]
    have hlen := valid_len hv
    have hmap : (l.map to48).length = l.length := List.length_map _
    rw [hmap] at hlen
    have hb0 : befOk l.length [] = true := rfl
    simp only [hv, hmap, hb0, befOk_take, Bool.and_self, Bool.true_and, if_true]
    obtain ⟨oA, v, hA, hAm, hAc, hAl⟩ := least_nil (l.map to48) hv
    rw [hmap] at hA hAm hAl
    have hAw := (conts_all hlen.2 (ps := []) rfl oA).1 hAm
    rw [hA]
    simp only [show ¬ ((0 : Int) = 2) by decide, if_false, if_true]
    refine Ev.bind (refvalid_f l hl) ?_
    simp only [hv, true_and, if_pos hlen]
    obtain ⟨e, he1, he2, he3⟩ := due_form l hv
    rw [he1]
    refine Ev.bind (worst_whole l hl hv he3) ?_
    refine Ev.bind (worst_whole l hl hv hAw.1) ?_
    have hev : cost (l.map to48) 0 e = v := by
      have h1 := due_best hv (e := e) (o := oA) (by rw [hmap]; exact he3) he2 (by rw [hmap]; exact hAw.1)
      have h2 := hAl e ((conts_all hlen.2 (ps := []) rfl e).2 ⟨he3, rfl⟩)
      omega
    simp only [hev, hAc, and_self, if_true]
    cases hb : befOk l.length ps with
    | false =>
      simp only [Bool.false_eq_true, if_false, show ¬ ((2 : Int) = 0) by decide, true_or, if_true]
      exact awake_f
    | true =>
      have hok : ps.all (prOk l.length) = true := by
        unfold befOk at hb
        rw [Bool.and_eq_true] at hb
        exact hb.2
      rw [bef_take hb]
      simp only [if_true]
      have hk := firstMin_kept (cost (l.map to48) 0) (conts (castL (masks l.length ps)) l.length 8 0)
      cases hf : firstMin (cost (l.map to48) 0) (conts (castL (masks l.length ps)) l.length 8 0) with
      | none =>
        have hlo : M.leastOf (l.map to48) (castL (masks l.length ps)) = ([], 0, 6) := by
          unfold M.leastOf
          rw [hmap, hf]
        rw [hlo]
        simp only [show ¬ ((6 : Int) = 0) by decide, if_false, or_true, if_true]
        exact awake_f
      | some ox =>
        obtain ⟨oB, m⟩ := ox
        rw [hf] at hk
        have hlo : M.leastOf (l.map to48) (castL (masks l.length ps)) = (castL oB, m, 0) := by
          unfold M.leastOf
          rw [hmap, hf]
          rfl
        rw [hlo]
        obtain ⟨k1, k2, k3⟩ := hk
        have hBm := List.mem_of_find?_eq_some k1
        obtain ⟨hBw, hBk⟩ := (conts_all hlen.2 hok oB).1 hBm
        simp only [if_true]
        have hBl := whole_length hlen.2 hBw
        refine Ev.bind (worst_whole l hl hv hBw) ?_
        refine Ev.bind (keeps_f (castL oB) (by rw [castL_length]; omega) ps) ?_
        have hvm : v ≤ m := by
          rw [← k2]
          exact hAl oB ((conts_all hlen.2 (ps := []) rfl oB).2 ⟨hBw, rfl⟩)
        simp only [hBk, k2, hvm, and_self, if_true, list_f, Option.bind_some]
        refine Ev.bind (worst_f l hl hv (o.take 10) (by simp; omega)) ?_
        rw [orderB_take hlen.2]
        cases ho : orderB l.length o with
        | false =>
          simp only [Bool.false_eq_true, if_false]
          exact awake_f
        | true =>
          rw [order_take hlen.2 ho]
          obtain ⟨q, rfl, hq⟩ := order_whole hlen.2 ho
          simp only [if_true, castL_toNat]
          refine Ev.bind (keeps_f (castL q) hol ps) ?_
          cases hkq : keepsB (castL q) ps with
          | false =>
            simp only [Bool.false_eq_true, if_false]
            exact awake_f
          | true =>
            have hmq := k3 q ((conts_all hlen.2 hok q).2 ⟨hq, hkq⟩)
            simp only [if_true, hmq]
            exact awake_f
end Go.Proofs.Ytaboleeclpllpaa.Pure
