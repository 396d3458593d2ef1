/-
Plain lemmas on what the functions compute, put together into one text.
Conditions: each lemma's own.
-/
import Derived.RowKit
import Derived.Deep.Slices
import Derived.OpenShut
import Derived.ChangeSlices
import Derived.Test.YtaboleeclpllpaaClaimProg1
import Derived.Test.YtaboleeclpllpaaClaimProg2
import Derived.Test.YtaboleeclpllpaaClaimProg3
import Derived.Test.YtaboleeclpllpaaClaimProg5

namespace Go.Proofs.Ytaboleeclpllpaa.M
open Go.RowKit Go.Proofs.YtaboleeclpllpaaW.PrintWords Go.Proofs.YtaboleeclpllpaaW.PrintLast Go.Proofs.YtaboleeclpllpaaW.PrintMore Go.Proofs.Ytaboleeclpllpaa.P
set_option linter.unusedVariables false
set_option linter.unusedSimpArgs false
theorem w64 {x : Int} (h0 : -9223372036854775808 ≤ x) (h1 : x ≤ 9223372036854775807) : wrap64 x = x := by
  unfold wrap64
  omega
theorem w64s (i n : Nat) (h : i < n) (hn : n ≤ 9223372036854775807) : wrap64 ((i : Int) + 1) = ((i + 1 : Nat) : Int) := by
  rw [w64 (by omega) (by omega)]
  omega
def to48 (x : S43) : S48 := ⟨x.f0, x.f1, x.f2, x.f3⟩
def to44 (x : S36) : S44 := ⟨x.f0, x.f1, x.f2⟩
theorem rd_nat (l : List Int) (i : Nat) (h : i < l.length) : rd l (i : Int) = l[i] := by simp [rd, List.getD_eq_getElem?_getD, List.getElem?_eq_getElem h]
theorem rd43 (l : List S43) (i : Nat) (h : i < l.length) : rd_T43 l (i : Int) = l[i] := by simp [rd_T43, List.getD_eq_getElem?_getD, List.getElem?_eq_getElem h]
theorem rd48 (l : List S48) (i : Nat) (h : i < l.length) : rd_T48 l (i : Int) = l[i] := by simp [rd_T48, List.getD_eq_getElem?_getD, List.getElem?_eq_getElem h]
theorem rd44 (l : List S44) (i : Nat) (h : i < l.length) : rd_T44 l (i : Int) = l[i] := by simp [rd_T44, List.getD_eq_getElem?_getD, List.getElem?_eq_getElem h]
theorem rd36 (l : List S36) (i : Nat) (h : i < l.length) : rd_T36 l (i : Int) = l[i] := by simp [rd_T36, List.getD_eq_getElem?_getD, List.getElem?_eq_getElem h]
def ok48 (x : S48) : Bool := decide (1 ≤ x.f0 ∧ x.f0 ≤ 20 ∧ 0 ≤ x.f1 ∧ x.f1 ≤ 100 ∧ 0 ≤ x.f2 ∧ x.f2 ≤ 200 ∧ 0 ≤ x.f3 ∧ x.f3 ≤ 20)
def valid48 (l : List S48) : Bool := decide (1 ≤ l.length ∧ l.length ≤ 8) && l.all ok48
theorem between_f (a b c : Int) : dates_between.f a b c = some (decide (b ≤ a ∧ a ≤ c)) := by
  unfold dates_between.f
  by_cases h : a ≥ b
  · rw [if_pos h]
    have : b ≤ a := h
    simp [this]
  · rw [if_neg h]
    have : ¬ b ≤ a := h
    simp [this]
theorem valid1_f (x : S48) : dates_jobs_valid_1.f x.f0 x.f1 x.f2 x.f3 = some (!ok48 x) := by
  unfold dates_jobs_valid_1.f
  simp only [between_f, Option.bind_some]
  by_cases h0 : 1 ≤ x.f0 ∧ x.f0 ≤ 20
  · by_cases h1 : 0 ≤ x.f1 ∧ x.f1 ≤ 100
    · by_cases h2 : 0 ≤ x.f2 ∧ x.f2 ≤ 200
      · by_cases h3 : 0 ≤ x.f3 ∧ x.f3 ≤ 20
        · have : ok48 x = true := by simp only [ok48, decide_eq_true_eq]; omega
          simp [h0, h1, h2, h3, this]
        · have : ok48 x = false := by simp only [ok48, decide_eq_false_iff_not]; omega
          rw [decide_eq_false h3]
          simp [h0, h1, h2, this]
      · have : ok48 x = false := by simp only [ok48, decide_eq_false_iff_not]; omega
        rw [decide_eq_false h2]
        simp [h0, h1, this]
    · have : ok48 x = false := by simp only [ok48, decide_eq_false_iff_not]; omega
      rw [decide_eq_false h1]
      simp [h0, this]
  · have : ok48 x = false := by simp only [ok48, decide_eq_false_iff_not]; omega
    rw [decide_eq_false h0]
    simp [this]
theorem index_loop (l : List S48) (hl : l.length ≤ 9223372036854775807) : ∀ (d i : Nat), i + d = l.length → ∃ r : Int, Ev (fun k => dates_Job_87.l0 k l (l.length : Int) (i : Int)) r ∧ (decide (r ≥ 0) = !(l.drop i).all ok48) := by
  intro d
  induction d with
  | zero =>
    intro i hi
    refine ⟨-1, Ev.step (f := fun _ => some (-1)) (fun k => ?_) (Ev.now _), ?_⟩
    · simp only [dates_Job_87.l0]
      rw [if_neg (by omega)]
    · rw [show i = l.length by omega, List.drop_length]
      rfl
  | succ d ih =>
    intro i hi
    have hlt : i < l.length := by omega
    rw [List.drop_eq_getElem_cons hlt, List.all_cons]
    cases hok : ok48 l[i] with
    | false =>
      refine ⟨i, Ev.step (f := fun _ => some (i : Int)) (fun k => ?_) (Ev.now _), ?_⟩
      · simp only [dates_Job_87.l0]
        rw [if_pos (by omega), if_pos (by omega), if_pos (by omega), rd48 l i hlt, valid1_f, hok]
        rfl
      · simp
    | true =>
      obtain ⟨r, hr, hr2⟩ := ih (i + 1) (by omega)
      refine ⟨r, Ev.step (fun k => ?_) hr, by simpa using hr2⟩
      simp only [dates_Job_87.l0]
      rw [if_pos (by omega), if_pos (by omega), if_pos (by omega), rd48 l i hlt, valid1_f, hok, w64s i l.length hlt hl]
      rfl
theorem valid_f (l : List S48) (hl : l.length ≤ 9223372036854775807) : Ev (fun k => dates_jobs_valid.f k l) (valid48 l) := by
  unfold dates_jobs_valid.f
  simp only [between_f, Option.bind_some]
  by_cases h : 1 ≤ l.length ∧ l.length ≤ 8
  · obtain ⟨r, hr, hr2⟩ := index_loop l hl l.length 0 (by omega)
    have hd : decide ((1 : Int) ≤ (l.length : Int) ∧ (l.length : Int) ≤ 8) = true := decide_eq_true (by omega)
    simp only [hd, if_true]
    have h1 : Ev (fun k => dates_Job_77.f k l) (!l.all ok48) := by
      unfold dates_Job_77.f dates_Job_87.f
      refine Ev.bind (a := r) hr ?_
      rw [hr2]
      exact Ev.now _
    refine Ev.bind h1 ?_
    have : valid48 l = l.all ok48 := by simp [valid48, h]
    rw [this, Bool.not_not]
    exact Ev.now _
  · have hd : decide ((1 : Int) ≤ (l.length : Int) ∧ (l.length : Int) ≤ 8) = false := decide_eq_false (by omega)
    simp only [hd]
    have : valid48 l = false := by simp [valid48, h]
    rw [this]
    exact Ev.now _
theorem refvalid_loop (l0 l : List S43) (hl : l.length ≤ 9223372036854775807) : ∀ (d i : Nat), i + d = l.length → Ev (fun k => corrodyref06_Valid.l0 k l0 l (l.length : Int) (i : Int)) ((((l.drop i).map to48).all ok48) && decide (1 ≤ l0.length ∧ l0.length ≤ 8)) := by
  intro d
  induction d with
  | zero =>
    intro i hi
    rw [show i = l.length by omega, List.drop_length]
    by_cases h1 : 1 ≤ l0.length
    · refine Ev.step (f := fun _ => some (decide ((l0.length : Int) ≤ 8))) (fun k => ?_) ?_
      · simp only [corrodyref06_Valid.l0]
        rw [if_neg (by omega), if_pos (by omega)]
      · have : decide ((l0.length : Int) ≤ 8) = (([].map to48).all ok48 && decide (1 ≤ l0.length ∧ l0.length ≤ 8)) := by
          simp [h1]
          omega
        rw [this]
        exact Ev.now _
    · refine Ev.step (f := fun _ => some false) (fun k => ?_) ?_
      · simp only [corrodyref06_Valid.l0]
        rw [if_neg (by omega), if_neg (by omega)]
      · simp [h1]
        exact Ev.now _
  | succ d ih =>
    intro i hi
    have hlt : i < l.length := by omega
    rw [List.drop_eq_getElem_cons hlt, List.map_cons, List.all_cons]
    have hb : ∀ k, corrodyref06_Valid.l0 (k + 1) l0 l (l.length : Int) (i : Int) = if ok48 (to48 l[i]) = true then corrodyref06_Valid.l0 k l0 l (l.length : Int) ((i + 1 : Nat) : Int) else some false := by
      intro k
      simp only [corrodyref06_Valid.l0]
      rw [if_pos (by omega), if_pos (by omega), if_pos (by omega), rd43 l i hlt, w64s i l.length hlt hl]
      have he : ∀ x : S43, ok48 (to48 x) = decide (1 ≤ x.f0 ∧ x.f0 ≤ 20 ∧ 0 ≤ x.f1 ∧ x.f1 ≤ 100 ∧ 0 ≤ x.f2 ∧ x.f2 ≤ 200 ∧ 0 ≤ x.f3 ∧ x.f3 ≤ 20) := fun _ => rfl
      rw [he]
      generalize l[i] = x
      by_cases h0 : x.f0 < 1
      · rw [if_pos h0, decide_eq_false (by omega)]; rfl
      by_cases h1 : x.f0 > 20
      · rw [if_neg h0, if_pos h1, decide_eq_false (by omega)]; rfl
      by_cases h2 : x.f1 < 0
      · rw [if_neg h0, if_neg h1, if_pos h2, decide_eq_false (by omega)]; rfl
      by_cases h3 : x.f1 > 100
      · rw [if_neg h0, if_neg h1, if_neg h2, if_pos h3, decide_eq_false (by omega)]; rfl
      by_cases h4 : x.f2 < 0
      · rw [if_neg h0, if_neg h1, if_neg h2, if_neg h3, if_pos h4, decide_eq_false (by omega)]; rfl
      by_cases h5 : x.f2 > 200
      · rw [if_neg h0, if_neg h1, if_neg h2, if_neg h3, if_neg h4, if_pos h5, decide_eq_false (by omega)]; rfl
      by_cases h6 : x.f3 < 0
      · rw [if_neg h0, if_neg h1, if_neg h2, if_neg h3, if_neg h4, if_neg h5, if_pos h6, decide_eq_false (by omega)]; rfl
      by_cases h7 : x.f3 > 20
      · rw [if_neg h0, if_neg h1, if_neg h2, if_neg h3, if_neg h4, if_neg h5, if_neg h6, if_pos h7, decide_eq_false (by omega)]; rfl
      rw [if_neg h0, if_neg h1, if_neg h2, if_neg h3, if_neg h4, if_neg h5, if_neg h6, if_neg h7, decide_eq_true (by omega)]; rfl
    cases hok : ok48 (to48 l[i]) with
    | false =>
      refine Ev.step (f := fun _ => some false) (fun k => ?_) (Ev.now _)
      rw [hb, hok]
      rfl
    | true =>
      refine Ev.step (fun k => ?_) (ih (i + 1) (by omega))
      rw [hb, hok]
      rfl
theorem refvalid_f (l : List S43) (hl : l.length ≤ 9223372036854775807) : Ev (fun k => corrodyref06_Valid.f k l) (valid48 (l.map to48)) := by
  have h := refvalid_loop l l hl l.length 0 (by omega)
  unfold corrodyref06_Valid.f
  have e : valid48 (l.map to48) = ((((l.drop 0).map to48).all ok48) && decide (1 ≤ l.length ∧ l.length ≤ 8)) := by
    simp only [valid48, List.length_map, List.drop_zero]
    rw [Bool.and_comm]
  rw [e]
  exact h
theorem Of_loop (l : List S43) (hl : l.length ≤ 9223372036854775807) : ∀ (d i : Nat) (acc : List S48), i + d = l.length → acc.length = min i 10 → Ev (fun k => corrodylaw06_Of.l0 k acc l (l.length : Int) (i : Int)) (acc ++ ((l.take 10).drop i).map to48) := by
  intro d
  induction d with
  | zero =>
    intro i acc hi ha
    rw [List.drop_eq_nil_of_le (by rw [List.length_take]; omega), List.map_nil, List.append_nil]
    refine Ev.step (f := fun _ => some acc) (fun k => ?_) (Ev.now _)
    simp only [corrodylaw06_Of.l0]
    rw [if_neg (by omega)]
  | succ d ih =>
    intro i acc hi ha
    have hlt : i < l.length := by omega
    by_cases h10 : i < 10
    · have hd : (l.take 10).drop i = l[i] :: (l.take 10).drop (i + 1) := by
        rw [List.drop_eq_getElem_cons (by rw [List.length_take]; omega)]
        simp
      have := ih (i + 1) (acc ++ [to48 l[i]]) (by omega) (by simp; omega)
      rw [hd, List.map_cons, show acc ++ to48 l[i] :: ((l.take 10).drop (i + 1)).map to48 = (acc ++ [to48 l[i]]) ++ ((l.take 10).drop (i + 1)).map to48 by simp]
      refine Ev.step (fun k => ?_) this
      simp only [corrodylaw06_Of.l0]
      rw [if_pos (by omega), if_pos (by omega), if_pos (by omega), if_pos (by omega), if_pos (by omega), rd43 l i hlt, w64s i l.length hlt hl]
      rfl
    · have := ih (i + 1) acc (by omega) (by omega)
      rw [List.drop_eq_nil_of_le (by rw [List.length_take]; omega)] at this ⊢
      refine Ev.step (fun k => ?_) this
      simp only [corrodylaw06_Of.l0]
      rw [if_pos (by omega), if_pos (by omega), if_pos (by omega), if_neg (by omega), w64s i l.length hlt hl]
theorem Of_f (l : List S43) (hl : l.length ≤ 9223372036854775807) : Ev (fun k => corrodylaw06_Of.f k l) ((l.take 10).map to48) := by
  have := Of_loop l hl l.length 0 [] (by omega) rfl
  rw [List.drop_zero, List.nil_append] at this
  exact this
theorem valid_of (l : List S43) : valid48 ((l.take 10).map to48) = valid48 (l.map to48) := by
  by_cases h : l.length ≤ 10
  · rw [List.take_of_length_le h]
  · simp only [valid48, List.length_map, List.length_take]
    rw [decide_eq_false (by omega), decide_eq_false (by omega)]
    rfl
theorem of_valid {l : List S43} (h : valid48 (l.map to48) = true) : (l.take 10).map to48 = l.map to48 := by
  have : l.length ≤ 8 := by
    simp only [valid48, Bool.and_eq_true, decide_eq_true_eq, List.length_map] at h
    exact h.1.2
  rw [List.take_of_length_le (by omega)]
theorem pieces_loop (l : List S36) (hl : l.length ≤ 9223372036854775807) : ∀ (d i : Nat) (acc : List S44), i + d = l.length → acc.length = min i 200 → Ev (fun k => corrodylaw06_pieces.l0 k acc l (l.length : Int) (i : Int)) (acc ++ ((l.take 200).drop i).map to44) := by
  intro d
  induction d with
  | zero =>
    intro i acc hi ha
    rw [List.drop_eq_nil_of_le (by rw [List.length_take]; omega), List.map_nil, List.append_nil]
    refine Ev.step (f := fun _ => some acc) (fun k => ?_) (Ev.now _)
    simp only [corrodylaw06_pieces.l0]
    rw [if_neg (by omega)]
  | succ d ih =>
    intro i acc hi ha
    have hlt : i < l.length := by omega
    by_cases h10 : i < 200
    · have hd : (l.take 200).drop i = l[i] :: (l.take 200).drop (i + 1) := by
        rw [List.drop_eq_getElem_cons (by rw [List.length_take]; omega)]
        simp
      have := ih (i + 1) (acc ++ [to44 l[i]]) (by omega) (by simp; omega)
      rw [hd, List.map_cons, show acc ++ to44 l[i] :: ((l.take 200).drop (i + 1)).map to44 = (acc ++ [to44 l[i]]) ++ ((l.take 200).drop (i + 1)).map to44 by simp]
      refine Ev.step (fun k => ?_) this
      simp only [corrodylaw06_pieces.l0]
      rw [if_pos (by omega), if_pos (by omega), if_pos (by omega), if_pos (by omega), if_pos (by omega), rd36 l i hlt, w64s i l.length hlt hl]
      rfl
    · have := ih (i + 1) acc (by omega) (by omega)
      rw [List.drop_eq_nil_of_le (by rw [List.length_take]; omega)] at this ⊢
      refine Ev.step (fun k => ?_) this
      simp only [corrodylaw06_pieces.l0]
      rw [if_pos (by omega), if_pos (by omega), if_pos (by omega), if_neg (by omega), w64s i l.length hlt hl]
theorem pieces_f (l : List S36) (hl : l.length ≤ 9223372036854775807) : Ev (fun k => corrodylaw06_pieces.f k l) ((l.take 200).map to44) := by
  have := pieces_loop l hl l.length 0 [] (by omega) rfl
  rw [List.drop_zero, List.nil_append] at this
  exact this
end Go.Proofs.Ytaboleeclpllpaa.M


namespace Go.Proofs.Ytaboleeclpllpaa.M
open Go.RowKit Go.Proofs.YtaboleeclpllpaaW.PrintWords Go.Proofs.YtaboleeclpllpaaW.PrintLast Go.Proofs.YtaboleeclpllpaaW.PrintMore Go.Proofs.Ytaboleeclpllpaa.P
set_option linter.unusedVariables false
set_option linter.unusedSimpArgs false
abbrev Pc := S44
def jobsIn (n : Nat) (p : List Pc) : Prop := ∀ x ∈ p, 0 ≤ x.f0 ∧ x.f0 < (n : Int)
def endsFrom (acc : List Int) (p : List Pc) : List Int := p.foldl (fun a x => a.set x.f0.toNat x.f2) acc
def endsOf (n : Nat) (p : List Pc) : List Int := endsFrom (List.replicate n 0) p
theorem endsFrom_length (p : List Pc) : ∀ acc : List Int, (endsFrom acc p).length = acc.length := by
  induction p with
  | nil => intro acc; rfl
  | cons x p ih =>
    intro acc
    show (endsFrom (acc.set x.f0.toNat x.f2) p).length = _
    rw [ih, List.length_set]
theorem endsOf_length (n : Nat) (p : List Pc) : (endsOf n p).length = n := by rw [endsOf, endsFrom_length, List.length_replicate]
theorem finished_loop (n : Nat) (p : List Pc) (hp : p.length ≤ 9223372036854775807) (hj : jobsIn n p) : ∀ (d i : Nat) (acc : List Int), i + d = p.length → acc.length = n → Ev (fun k => dates_jobs_finished.l0 k acc p (p.length : Int) (i : Int)) (endsFrom acc (p.drop i)) := by
  intro d
  induction d with
  | zero =>
    intro i acc hi ha
    rw [show i = p.length by omega, List.drop_length]
    refine Ev.step (f := fun _ => some acc) (fun k => ?_) (Ev.now _)
    simp only [dates_jobs_finished.l0]
    rw [if_neg (by omega)]
  | succ d ih =>
    intro i acc hi ha
    have hlt : i < p.length := by omega
    have hx := hj p[i] (List.getElem_mem hlt)
    have := ih (i + 1) (acc.set (p[i]).f0.toNat (p[i]).f2) (by omega) (by rw [List.length_set, ha])
    rw [List.drop_eq_getElem_cons hlt]
    refine Ev.step (fun k => ?_) this
    simp only [dates_jobs_finished.l0]
    rw [if_pos (by omega), if_pos (by omega), if_pos (by omega), rd44 p i hlt, if_pos (by omega), if_pos (by omega), w64s i p.length hlt hp]
theorem finished_f (l : List S48) (p : List Pc) (hl : l.length ≤ 8) (hp : p.length ≤ 9223372036854775807) (hj : jobsIn l.length p) : Ev (fun k => dates_jobs_finished.f k l p) (endsOf l.length p) := by
  have := finished_loop l.length p hp hj p.length 0 (List.replicate l.length 0) (by omega) (by simp)
  rw [List.drop_zero] at this
  refine Ev.congr (fun k => ?_) this
  unfold dates_jobs_finished.f
  rw [if_pos (by omega), if_pos (by omega), Int.toNat_natCast]
  rfl
def total (l : List Int) : Int := l.foldr (· + ·) 0
theorem total_cons (x : Int) (l : List Int) : total (x :: l) = x + total l := rfl
theorem total_append (a b : List Int) : total (a ++ b) = total a + total b := by
  induction a with
  | nil => simp [total]
  | cons x a ih => rw [List.cons_append, total_cons, total_cons, ih]; omega
theorem total_bound (l : List Int) (b : Int) (hb : 0 ≤ b) (h : ∀ x ∈ l, -b ≤ x ∧ x ≤ b) : -(b * (l.length : Int)) ≤ total l ∧ total l ≤ b * (l.length : Int) := by
  induction l with
  | nil => simp [total]
  | cons x l ih =>
    have hx := h x (by simp)
    have := ih (fun y hy => h y (by simp [hy]))
    rw [total_cons, List.length_cons]
    have e : b * ((l.length + 1 : Nat) : Int) = b * (l.length : Int) + b := by rw [Int.natCast_add]; simp [Int.mul_add]
    omega
theorem total_small {l : List Int} (hl : l.length ≤ 8) (h : ∀ x ∈ l, -1000000 ≤ x ∧ x ≤ 1000000) : -8000000 ≤ total l ∧ total l ≤ 8000000 := by
  have := total_bound l 1000000 (by omega) h
  omega
theorem short_sum (t : List Pc) (e : List Int) (hl : e.length ≤ 8) (he : ∀ x ∈ e, -1000000 ≤ x ∧ x ≤ 1000000) : ∀ (d i : Nat) (acc : Int), i + d = e.length → acc = total (e.take i) → Ev (fun k => dates_Short.l0 k t acc e (e.length : Int) (i : Int)) (t, total e, 0) := by
  intro d
  induction d with
  | zero =>
    intro i acc hi ha
    rw [show i = e.length by omega] at ha ⊢
    rw [List.take_length] at ha
    subst ha
    refine Ev.step (f := fun _ => some (t, total e, 0)) (fun k => ?_) (Ev.now _)
    simp only [dates_Short.l0]
    rw [if_neg (by omega)]
  | succ d ih =>
    intro i acc hi ha
    have hlt : i < e.length := by omega
    have ht : total (e.take (i + 1)) = acc + e[i] := by
      rw [List.take_succ_eq_append_getElem hlt, total_append, ← ha, total_cons]
      simp [total]
    have hb := total_small (l := e.take (i + 1)) (by rw [List.length_take]; omega) (fun x hx => he x (List.mem_of_mem_take hx))
    refine Ev.step (fun k => ?_) (ih (i + 1) (acc + e[i]) (by omega) ht.symm)
    simp only [dates_Short.l0]
    rw [if_pos (by omega), if_pos (by omega), if_pos (by omega), rd_nat e i hlt, w64 (by omega) (by omega), w64s i e.length hlt (by omega)]
theorem eq44_loop (l : List S44) (hl : l.length ≤ 9223372036854775807) : ∀ (d i : Nat), i + d = l.length → Ev (fun k => dates_Piece.l0 k l l (l.length : Int) (i : Int)) true := by
  intro d
  induction d with
  | zero =>
    intro i hi
    refine Ev.step (f := fun _ => some true) (fun k => ?_) (Ev.now _)
    simp only [dates_Piece.l0]
    rw [if_neg (by omega)]
  | succ d ih =>
    intro i hi
    have hlt : i < l.length := by omega
    refine Ev.step (fun k => ?_) (ih (i + 1) (by omega))
    simp only [dates_Piece.l0]
    rw [if_pos (by omega), if_pos (by omega), if_pos (by omega), if_pos (by omega), w64s i l.length hlt hl, if_neg (by simp)]
theorem eq44_f (l : List S44) (hl : l.length ≤ 9223372036854775807) : Ev (fun k => dates_Piece.f k l l) true := by
  have := eq44_loop l hl l.length 0 (by omega)
  refine Ev.congr (fun k => ?_) this
  unfold dates_Piece.f
  rw [if_pos rfl]
  rfl
theorem mx_max (a b : Int) : mx a b = max a b := by unfold mx; omega
theorem max_loop (l : List Int) (hl : l.length ≤ 9223372036854775807) : ∀ (d i : Nat) (m : Int), i + d = l.length → 1 ≤ i → (m > 0 ↔ ∃ x ∈ l.take i, x > 0) → ∃ r, Ev (fun k => dates_left_int.l0 k l m (i : Int)) r ∧ (r > 0 ↔ ∃ x ∈ l, x > 0) := by
  intro d
  induction d with
  | zero =>
    intro i m hi h1 hm
    rw [show i = l.length by omega, List.take_length] at hm
    refine ⟨m, Ev.step (f := fun _ => some m) (fun k => ?_) (Ev.now _), hm⟩
    simp only [dates_left_int.l0]
    rw [if_neg (by omega)]
  | succ d ih =>
    intro i m hi h1 hm
    have hlt : i < l.length := by omega
    obtain ⟨r, hr, hr2⟩ := ih (i + 1) (mx m l[i]) (by omega) (by omega) (by
      rw [mx_max, List.take_succ_eq_append_getElem hlt]
      constructor
      · intro h
        by_cases hx : l[i] > 0
        · exact ⟨l[i], List.mem_append.2 (.inr (List.mem_singleton.2 rfl)), hx⟩
        · obtain ⟨y, hy, hy2⟩ := hm.1 (by omega)
          exact ⟨y, List.mem_append.2 (.inl hy), hy2⟩
      · rintro ⟨y, hy, hy2⟩
        rcases List.mem_append.1 hy with hy | hy
        · have := hm.2 ⟨y, hy, hy2⟩
          omega
        · simp at hy
          omega)
    refine ⟨r, Ev.step (fun k => ?_) hr, hr2⟩
    simp only [dates_left_int.l0]
    rw [if_pos (by omega), if_pos (by omega), rd_nat l i hlt, w64s i l.length hlt hl]
theorem max_f (l : List Int) (h1 : 1 ≤ l.length) (hl : l.length ≤ 9223372036854775807) : ∃ r, Ev (fun k => dates_left_int.f k l) r ∧ (r > 0 ↔ ∃ x ∈ l, x > 0) := by
  have h0 : rd l 0 = l[0] := rd_nat l 0 h1
  obtain ⟨r, hr, hr2⟩ := max_loop l hl (l.length - 1) 1 (l[0]) (by omega) (by omega) (by
    rw [List.take_succ_eq_append_getElem h1]
    simp)
  refine ⟨r, Ev.congr (fun k => ?_) hr, hr2⟩
  unfold dates_left_int.f
  rw [if_neg (by omega), if_pos (by omega), h0]
  rfl
end Go.Proofs.Ytaboleeclpllpaa.M


namespace Go.Proofs.Ytaboleeclpllpaa.M
open Go.RowKit Go.Proofs.YtaboleeclpllpaaW.PrintWords Go.Proofs.YtaboleeclpllpaaW.PrintLast Go.Proofs.YtaboleeclpllpaaW.PrintMore Go.Proofs.Ytaboleeclpllpaa.P
set_option linter.unusedVariables false
set_option linter.unusedSimpArgs false
def tm (t : List Int) (i : Nat) : Int := t.getD i 0
def jb (l : List S48) (i : Nat) : S48 := l.getD i z48
def ahead (short : Bool) (l : List S48) (t : List Int) (i j : Nat) : Bool := if short then decide (tm t i < tm t j) else decide ((jb l i).f2 < (jb l j).f2)
def ready (l : List S48) (t : List Int) (a : Int) (i : Nat) : Prop := (jb l i).f1 ≤ a ∧ tm t i > 0
instance (l : List S48) (t : List Int) (a : Int) (i : Nat) : Decidable (ready l t a i) := by unfold ready; infer_instance
def pickN (short : Bool) (l : List S48) (t : List Int) (a : Int) : Nat → Option Nat
  | 0 => none
  | i + 1 => if ready l t a i then (match pickN short l t a i with
      | none => some i
      | some j => if ahead short l t i j = true then some i else some j) else pickN short l t a i
def pick (short : Bool) (l : List S48) (t : List Int) (a : Int) : Option Nat := pickN short l t a l.length
def addPc (out : List Pc) (j : Int) (a : Int) : List Pc := match out.getLast? with
  | some p => if p.f0 = j ∧ p.f2 = a then out.set (out.length - 1) ⟨p.f0, p.f1, p.f2 + 1⟩ else out ++ [⟨j, a, a + 1⟩]
  | none => [⟨j, a, a + 1⟩]
abbrev St := List Int × List Pc
def stepF (short : Bool) (l : List S48) (a : Int) (s : St) : St := match pick short l s.1 a with
  | none => s
  | some j => (s.1.set j (tm s.1 j - 1), addPc s.2 (j : Int) a)
def runF (short : Bool) (l : List S48) : Nat → Int → St → St
  | 0, _, s => s
  | n + 1, a, s => runF short l n (a + 1) (stepF short l a s)
def times (l : List S48) : List Int := l.map (·.f0)
def planOf (short : Bool) (l : List S48) : List Pc := (runF short l 300 0 (times l, [])).2
theorem pickN_lt {short : Bool} {l : List S48} {t : List Int} {a : Int} : ∀ {n j : Nat}, pickN short l t a n = some j → j < n ∧ ready l t a j := by
  intro n
  induction n with
  | zero => intro j h; cases h
  | succ n ih =>
    intro j h
    rw [pickN] at h
    by_cases hr : ready l t a n
    · rw [if_pos hr] at h
      cases hp : pickN short l t a n with
      | none =>
        rw [hp] at h
        simp at h
        subst h
        exact ⟨by omega, hr⟩
      | some j' =>
        rw [hp] at h
        have := ih hp
        by_cases ha : ahead short l t n j' = true
        · simp [ha] at h
          subst h
          exact ⟨by omega, hr⟩
        · simp [ha] at h
          subst h
          exact ⟨by omega, this.2⟩
    · rw [if_neg hr] at h
      have := ih h
      exact ⟨by omega, this.2⟩
theorem pickN_none {short : Bool} {l : List S48} {t : List Int} {a : Int} : ∀ {n : Nat}, pickN short l t a n = none ↔ ∀ i, i < n → ¬ ready l t a i := by
  intro n
  induction n with
  | zero => exact ⟨fun _ i hi => by omega, fun _ => rfl⟩
  | succ n ih =>
    rw [pickN]
    by_cases hr : ready l t a n
    · rw [if_pos hr]
      constructor
      · intro h
        exfalso
        cases hp : pickN short l t a n with
        | none => rw [hp] at h; cases h
        | some j =>
          rw [hp] at h
          by_cases ha : ahead short l t n j = true
          · simp [ha] at h
          · simp [ha] at h
      · intro h
        exact absurd hr (h n (by omega))
    · rw [if_neg hr, ih]
      constructor
      · intro h i hi
        by_cases e : i = n
        · subst e; exact hr
        · exact h i (by omega)
      · intro h i hi
        exact h i (by omega)
theorem addPc_length (out : List Pc) (j a : Int) : (addPc out j a).length ≤ out.length + 1 := by
  unfold addPc
  split
  · split
    · rw [List.length_set]; omega
    · simp
  · simp
theorem stepF_len (short : Bool) (l : List S48) (a : Int) (s : St) : (stepF short l a s).1.length = s.1.length := by
  unfold stepF
  split
  · rfl
  · simp
theorem stepF_out (short : Bool) (l : List S48) (a : Int) (s : St) : (stepF short l a s).2.length ≤ s.2.length + 1 := by
  unfold stepF
  split
  · omega
  · exact addPc_length _ _ _
theorem runF_add (short : Bool) (l : List S48) : ∀ (m n : Nat) (a : Int) (s : St), runF short l (m + n) a s = runF short l n (a + m) (runF short l m a s) := by
  intro m
  induction m with
  | zero => intro n a s; simp [runF]
  | succ m ih =>
    intro n a s
    rw [show m + 1 + n = (m + n) + 1 by omega, runF, runF, ih]
    congr 1
    omega
theorem runF_succ (short : Bool) (l : List S48) (n : Nat) (a : Int) (s : St) : runF short l (n + 1) a s = stepF short l (a + n) (runF short l n a s) := by
  rw [runF_add]
  rfl
theorem runF_len (short : Bool) (l : List S48) : ∀ (n : Nat) (a : Int) (s : St), (runF short l n a s).1.length = s.1.length := by
  intro n
  induction n with
  | zero => intro a s; rfl
  | succ n ih => intro a s; rw [runF, ih, stepF_len]
theorem runF_out (short : Bool) (l : List S48) : ∀ (n : Nat) (a : Int) (s : St), (runF short l n a s).2.length ≤ s.2.length + n := by
  intro n
  induction n with
  | zero => intro a s; exact Nat.le_refl _
  | succ n ih =>
    intro a s
    rw [runF]
    have := ih (a + 1) (stepF short l a s)
    have := stepF_out short l a s
    omega
theorem tm_mem {t : List Int} {i : Nat} (h : i < t.length) : tm t i ∈ t := by
  unfold tm
  rw [List.getD_eq_getElem?_getD, List.getElem?_eq_getElem h]
  exact List.getElem_mem h
theorem tm_get {t : List Int} {i : Nat} (h : i < t.length) : tm t i = t[i] := by
  unfold tm
  rw [List.getD_eq_getElem?_getD, List.getElem?_eq_getElem h]
  rfl
theorem tm_out {t : List Int} {i : Nat} (h : t.length ≤ i) : tm t i = 0 := by
  unfold tm
  rw [List.getD_eq_getElem?_getD, List.getElem?_eq_none h]
  rfl
theorem jb_get {l : List S48} {i : Nat} (h : i < l.length) : jb l i = l[i] := by
  unfold jb
  rw [List.getD_eq_getElem?_getD, List.getElem?_eq_getElem h]
  rfl
theorem tm_set (t : List Int) (j i : Nat) (x : Int) (h : j < t.length) : tm (t.set j x) i = if i = j then x else tm t i := by
  unfold tm
  rw [List.getD_eq_getElem?_getD, List.getElem?_set]
  by_cases e : i = j
  · subst e
    rw [if_pos rfl, if_pos rfl, if_pos h]
    rfl
  · rw [if_neg (Ne.symm e), if_neg e, List.getD_eq_getElem?_getD]
theorem total_set : ∀ (t : List Int) (j : Nat) (x : Int), j < t.length → total (t.set j x) = total t - tm t j + x := by
  intro t
  induction t with
  | nil => intro j x h; simp at h
  | cons y t ih =>
    intro j x h
    cases j with
    | zero => simp [total, tm]; omega
    | succ j =>
      have := ih j x (by simpa using h)
      rw [List.set_cons_succ, total_cons, total_cons, this]
      have : tm (y :: t) (j + 1) = tm t j := rfl
      omega
def fine (t : List Int) : Prop := ∀ x ∈ t, 0 ≤ x
theorem fine_tm {t : List Int} (h : fine t) (i : Nat) : 0 ≤ tm t i := by
  by_cases hi : i < t.length
  · exact h _ (tm_mem hi)
  · rw [tm_out (by omega)]
    exact Int.le_refl _
theorem fine_of_tm {t : List Int} (h : ∀ i, i < t.length → 0 ≤ tm t i) : fine t := by
  intro x hx
  obtain ⟨i, hi, rfl⟩ := List.mem_iff_getElem.1 hx
  have := h i hi
  rwa [tm_get hi] at this
theorem total_fine {t : List Int} (h : fine t) : 0 ≤ total t := by
  induction t with
  | nil => exact Int.le_refl _
  | cons x t ih =>
    rw [total_cons]
    have := h x (by simp)
    have := ih (fun y hy => h y (by simp [hy]))
    omega
theorem total_zero {t : List Int} (h : fine t) (h0 : total t ≤ 0) : ∀ i, tm t i = 0 := by
  induction t with
  | nil => intro i; rfl
  | cons x t ih =>
    rw [total_cons] at h0
    have hx := h x (by simp)
    have ht : fine t := fun y hy => h y (by simp [hy])
    have := total_fine ht
    intro i
    cases i with
    | zero => show x = 0; omega
    | succ i => exact ih ht (by omega) i
theorem step_fine {short : Bool} {l : List S48} {a : Int} {s : St} (hl : s.1.length = l.length) (h : fine s.1) : fine (stepF short l a s).1 := by
  unfold stepF
  split
  · exact h
  · rename_i j hj
    have ⟨hlt, hr⟩ := pickN_lt hj
    refine fine_of_tm fun i hi => ?_
    rw [tm_set _ _ _ _ (by omega)]
    by_cases e : i = j
    · rw [if_pos e]
      have := hr.2
      omega
    · rw [if_neg e]
      exact fine_tm h i
theorem run_fine {short : Bool} {l : List S48} : ∀ (n : Nat) (a : Int) (s : St), s.1.length = l.length → fine s.1 → fine (runF short l n a s).1 := by
  intro n
  induction n with
  | zero => intro a s hl h; exact h
  | succ n ih =>
    intro a s hl h
    rw [runF]
    exact ih _ _ (by rw [stepF_len, hl]) (step_fine hl h)
theorem step_total {short : Bool} {l : List S48} {a : Int} {s : St} (hl : s.1.length = l.length) : total (stepF short l a s).1 = total s.1 - (if (pick short l s.1 a).isSome = true then 1 else 0) := by
  unfold stepF
  split
  · rename_i hp
    rw [hp]
    simp
  · rename_i j hj
    rw [hj]
    have ⟨hlt, hr⟩ := pickN_lt hj
    show total (s.1.set j (tm s.1 j - 1)) = _
    rw [total_set _ _ _ (by omega)]
    simp
    omega
theorem run_done {short : Bool} {l : List S48} (hrel : ∀ i, i < l.length → (jb l i).f1 ≤ 100) : ∀ (n : Nat) (a : Int) (s : St), s.1.length = l.length → fine s.1 → total s.1 + (if a < 100 then 100 - a else 0) ≤ (n : Int) → total (runF short l n a s).1 ≤ 0 := by
  intro n
  induction n with
  | zero =>
    intro a s hl hf h
    show total s.1 ≤ 0
    split at h <;> omega
  | succ n ih =>
    intro a s hl hf h
    rw [runF]
    have h2 := step_total (short := short) (a := a) hl
    refine ih _ _ (by rw [stepF_len, hl]) (step_fine hl hf) ?_
    cases hp : pick short l s.1 a with
    | some j =>
      rw [hp] at h2
      simp at h2
      split at h <;> split <;> omega
    | none =>
      rw [hp] at h2
      simp at h2
      by_cases ha : a < 100
      · rw [if_pos ha] at h
        split <;> omega
      ·
        have hz : total s.1 ≤ 0 := by
          have hn := pickN_none.1 hp
          have : ∀ i, tm s.1 i = 0 := by
            intro i
            by_cases hi : i < l.length
            · have h1 := hn i hi
              have h3 := fine_tm hf i
              have h4 := hrel i hi
              unfold ready at h1
              omega
            · exact tm_out (by omega)
          have h5 : ∀ t : List Int, (∀ i, tm t i = 0) → total t = 0 := by
            intro t
            induction t with
            | nil => intro _; rfl
            | cons x t iht =>
              intro h
              rw [total_cons, iht (fun i => h (i + 1))]
              have := h 0
              have e : tm (x :: t) 0 = x := rfl
              omega
          rw [h5 _ this]
          exact Int.le_refl _
        have := total_fine hf
        split <;> omega
end Go.Proofs.Ytaboleeclpllpaa.M


namespace Go.Proofs.Ytaboleeclpllpaa.M
open Go.RowKit Go.Proofs.YtaboleeclpllpaaW.PrintWords Go.Proofs.YtaboleeclpllpaaW.PrintLast Go.Proofs.YtaboleeclpllpaaW.PrintMore Go.Proofs.Ytaboleeclpllpaa.P
set_option linter.unusedVariables false
set_option linter.unusedSimpArgs false
def curI : Option Nat → Int
  | none => -1
  | some j => (j : Int)
theorem step_le {short : Bool} {l : List S48} {a : Int} {t : List Int} {out : List Pc} (h : ∀ x ∈ t, x ≤ 20) : ∀ x ∈ (stepF short l a (t, out)).1, x ≤ 20 := by
  intro x hx
  unfold stepF at hx
  split at hx
  · exact h x hx
  · rename_i j hj
    obtain ⟨i, hi, rfl⟩ := List.mem_iff_getElem.1 hx
    simp only [List.length_set] at hi
    rw [List.getElem_set]
    split
    · by_cases hjl : j < t.length
      · have := h _ (tm_mem hjl)
        show tm t j - 1 ≤ 20
        omega
      · show tm t j - 1 ≤ 20
        rw [tm_out (by omega)]
        omega
    · exact h _ (List.getElem_mem hi)
theorem stepF_idle {short : Bool} {l : List S48} {a : Int} {s : St} (h : ∀ i, tm s.1 i = 0) : stepF short l a s = s := by
  have : pick short l s.1 a = none := pickN_none.2 fun i _ hr => by have := hr.2; rw [h i] at this; omega
  unfold stepF
  rw [this]
theorem runF_idle {short : Bool} {l : List S48} {t : List Int} {out : List Pc} (h : ∀ i, tm t i = 0) : ∀ {n : Nat} {a : Int}, runF short l n a (t, out) = (t, out) := by
  intro n
  induction n with
  | zero => intro a; rfl
  | succ n ih =>
    intro a
    rw [runF, stepF_idle (s := (t, out)) h, ih]
theorem valid_len {l : List S48} (h : valid48 l = true) : 1 ≤ l.length ∧ l.length ≤ 8 := by
  simp only [valid48, Bool.and_eq_true, decide_eq_true_eq] at h
  exact h.1
theorem valid_ok {l : List S48} (h : valid48 l = true) {x : S48} (hx : x ∈ l) : 1 ≤ x.f0 ∧ x.f0 ≤ 20 ∧ 0 ≤ x.f1 ∧ x.f1 ≤ 100 ∧ 0 ≤ x.f2 ∧ x.f2 ≤ 200 ∧ 0 ≤ x.f3 ∧ x.f3 ≤ 20 := by
  simp only [valid48, Bool.and_eq_true, List.all_eq_true] at h
  have := h.2 x hx
  simpa [ok48] using this
theorem valid_jb {l : List S48} (h : valid48 l = true) {i : Nat} (hi : i < l.length) : 1 ≤ (jb l i).f0 ∧ (jb l i).f0 ≤ 20 ∧ 0 ≤ (jb l i).f1 ∧ (jb l i).f1 ≤ 100 ∧ 0 ≤ (jb l i).f2 ∧ (jb l i).f2 ≤ 200 ∧ 0 ≤ (jb l i).f3 ∧ (jb l i).f3 ≤ 20 := by
  rw [jb_get hi]
  exact valid_ok h (List.getElem_mem hi)
theorem times_fine {l : List S48} (h : valid48 l = true) : fine (times l) := by
  intro x hx
  obtain ⟨y, hy, rfl⟩ := List.mem_map.1 hx
  have := valid_ok h hy
  omega
theorem times_le {l : List S48} (h : valid48 l = true) : ∀ x ∈ times l, x ≤ 20 := by
  intro x hx
  obtain ⟨y, hy, rfl⟩ := List.mem_map.1 hx
  have := valid_ok h hy
  omega
theorem times_total {l : List S48} (h : valid48 l = true) : total (times l) ≤ 160 := by
  have h1 := total_bound (times l) 20 (by omega) (fun x hx => ⟨by have := times_fine h x hx; omega, times_le h x hx⟩)
  have h2 := valid_len h
  have h3 : (times l).length = l.length := by simp [times]
  omega
theorem plan_done (short : Bool) {l : List S48} (h : valid48 l = true) : total (runF short l 300 0 (times l, [])).1 ≤ 0 := by
  refine run_done (fun i hi => (valid_jb h hi).2.2.2.1) 300 0 (times l, []) (by simp [times]) (times_fine h) ?_
  have := times_total h
  simp
  omega
theorem short_first (l : List S48) (t : List Int) (hl : t.length = l.length) (i j : Nat) (hi : i < l.length) (hj : j < l.length) : dates_shortest_first.f (i : Int) (j : Int) t = some (ahead true l t i j) := by
  unfold dates_shortest_first.f
  rw [if_pos (by omega), if_pos (by omega), if_pos (by omega), if_pos (by omega), rd_nat t i (by omega), rd_nat t j (by omega)]
  simp [ahead, tm_get (show i < t.length by omega), tm_get (show j < t.length by omega)]
theorem short_inner (l : List S48) (t : List Int) (out : List Pc) (a : Int) (hl : l.length ≤ 8) (ht : t.length = l.length) (r : List Pc) : ∀ (d i : Nat), i + d = l.length →
    Ev (fun k => dates_jobs_plan_short.l2 k l out t a (curI (pick true l t a)) l (l.length : Int) (l.length : Int)) r → Ev (fun k => dates_jobs_plan_short.l2 k l out t a (curI (pickN true l t a i)) l (l.length : Int) (i : Int)) r := by
  intro d
  induction d with
  | zero =>
    intro i hi h
    rw [show i = l.length by omega]
    exact h
  | succ d ih =>
    intro i hi h
    have hlt : i < l.length := by omega
    refine Ev.step (fun k => ?_) (ih (i + 1) (by omega) h)
    simp only [dates_jobs_plan_short.l2]
    rw [if_pos (by omega), if_pos (by omega), if_pos (by omega), rd48 l i hlt, w64s i l.length hlt (by omega), if_pos (show (i : Int) < (t.length : Int) by omega)]
    have hjb : jb l i = l[i] := jb_get hlt
    have htm : rd t (i : Int) = tm t i := by rw [rd_nat t i (by omega), tm_get (by omega)]
    by_cases h1 : (l[i]).f1 ≤ a
    · rw [if_pos h1, htm]
      by_cases h2 : tm t i > 0
      · rw [if_pos h2]
        have hr : ready l t a i := ⟨by rw [hjb]; exact h1, h2⟩
        rw [pickN, if_pos hr]
        cases hp : pickN true l t a i with
        | none => rw [if_pos (show curI none < 0 by decide)]; rfl
        | some j =>
          have ⟨hji, _⟩ := pickN_lt hp
          have hc : curI (some j) = (j : Int) := rfl
          rw [hc, if_neg (by omega), short_first l t ht i j hlt (by omega)]
          by_cases ha : ahead true l t i j = true
          · simp only [ha, if_true, Option.bind_some]
            rfl
          · simp only [Bool.eq_false_iff.mpr ha, Option.bind_some, if_false, Bool.false_eq_true]
            rfl
      · rw [if_neg h2]
        have hr : ¬ ready l t a i := fun h => h2 h.2
        rw [pickN, if_neg hr]
    · rw [if_neg h1]
      have hr : ¬ ready l t a i := fun h => h1 (by have := h.1; rwa [hjb] at this)
      rw [pickN, if_neg hr]
theorem short_step (l : List S48) (t : List Int) (out : List Pc) (a : Int) (hl : l.length ≤ 8) (ht : t.length = l.length) (h20 : ∀ x ∈ t, x ≤ 20) (ha0 : 0 ≤ a) (ha : a ≤ 1000) (ho : out.length ≤ 1000) (r : List Pc)
    (h : Ev (fun k => dates_jobs_plan_short.l1 k l (stepF true l a (t, out)).2 (stepF true l a (t, out)).1 (a + 1)) r) : Ev (fun k => dates_jobs_plan_short.l2 k l out t a (-1) l (l.length : Int) 0) r := by
  refine short_inner l t out a hl ht r l.length 0 (by omega) ?_
  refine Ev.step (fun k => ?_) h
  simp only [dates_jobs_plan_short.l2]
  rw [if_neg (by omega)]
  unfold stepF
  cases hp : pick true l t a with
  | none =>
    rw [if_pos (show curI none < 0 by decide), w64 (by omega) (by omega)]
  | some j =>
    have ⟨hj, hr⟩ := pickN_lt hp
    have hc : curI (some j) = (j : Int) := rfl
    have htm : rd t (j : Int) = tm t j := by rw [rd_nat t j (by omega), tm_get (by omega)]
    have h1 := hr.2
    have h2 := h20 _ (tm_mem (show j < t.length by omega))
    rw [hc, if_neg (by omega), if_pos (by omega), if_pos (by omega), Option.bind_some, htm, w64 (x := tm t j - 1) (by omega) (by omega), w64 (x := a + 1) (by omega) (by omega), Int.toNat_natCast]
    show _ = dates_jobs_plan_short.l1 k l (addPc out (j : Int) a) (t.set j (tm t j - 1)) (a + 1)
    rcases List.eq_nil_or_concat out with rfl | ⟨o, p, rfl⟩
    · have hw : wrap64 ((([] : List S44).length : Int) - 1) = -1 := w64 (by simp) (by simp)
      rw [hw, if_neg (by omega), if_pos (by simp)]
      simp [addPc]
    · have hlen : (o.concat p).length = o.length + 1 := by simp
      have hw : wrap64 (((o.concat p).length : Int) - 1) = (o.length : Int) := by rw [hlen, w64 (by omega) (by omega)]; omega
      have hrd : rd_T44 (o.concat p) (o.length : Int) = p := by rw [rd44 _ _ (by omega)]; simp
      rw [hw, if_pos (by omega), if_pos (by omega), if_pos (by omega), hrd]
      have hadd : addPc (o.concat p) (j : Int) a = if p.f0 = (j : Int) ∧ p.f2 = a then (o.concat p).set o.length ⟨p.f0, p.f1, p.f2 + 1⟩ else o.concat p ++ [⟨(j : Int), a, a + 1⟩] := by
        simp [addPc]
      rw [hadd, Int.toNat_natCast]
      by_cases h3 : p.f0 = (j : Int)
      · rw [if_pos h3]
        by_cases h4 : p.f2 = a
        · rw [if_pos h4, if_pos ⟨h3, h4⟩, w64 (x := p.f2 + 1) (by omega) (by omega)]
        · rw [if_neg h4, if_pos (by omega), if_neg (fun h => h4 h.2)]
      · rw [if_neg h3, if_pos (by omega), if_neg (fun h => h3 h.1)]
theorem short_main (l : List S48) (hl : l.length ≤ 8) (h1 : 1 ≤ l.length) : ∀ (n : Nat) (a : Int) (t : List Int) (out : List Pc), t.length = l.length → fine t → (∀ x ∈ t, x ≤ 20) → 0 ≤ a → a + n ≤ 1000 → (out.length : Int) ≤ a → total (runF true l n a (t, out)).1 ≤ 0 →
    Ev (fun k => dates_jobs_plan_short.l1 k l out t a) (runF true l n a (t, out)).2 := by
  intro n
  induction n with
  | zero =>
    intro a t out ht hf h20 ha0 ha ho hd
    obtain ⟨m, hm, hm2⟩ := max_f t (by omega) (by omega)
    have hz := total_zero hf hd
    have : ¬ m > 0 := fun h => by
      obtain ⟨x, hx, hx2⟩ := hm2.1 h
      obtain ⟨i, hi, rfl⟩ := List.mem_iff_getElem.1 hx
      have := hz i
      rw [tm_get hi] at this
      omega
    refine Ev.step (f := fun k => (dates_left_int.f k t).bind fun t128 => (if t128 > 0 then (dates_jobs_plan_short.l2 k l out t a (-1) l (l.length : Int) 0) else (some out))) (fun k => by simp only [dates_jobs_plan_short.l1]) ?_
    refine Ev.bind hm ?_
    simp only [if_neg this]
    exact Ev.now _
  | succ n ih =>
    intro a t out ht hf h20 ha0 ha ho hd
    obtain ⟨m, hm, hm2⟩ := max_f t (by omega) (by omega)
    refine Ev.step (f := fun k => (dates_left_int.f k t).bind fun t128 => (if t128 > 0 then (dates_jobs_plan_short.l2 k l out t a (-1) l (l.length : Int) 0) else (some out))) (fun k => by simp only [dates_jobs_plan_short.l1]) ?_
    refine Ev.bind hm ?_
    by_cases hmp : m > 0
    · simp only [if_pos hmp]
      rw [runF] at hd ⊢
      refine short_step l t out a hl ht h20 ha0 (by omega) (by omega) _ ?_
      have hs20 : ∀ x ∈ (stepF true l a (t, out)).1, x ≤ 20 := step_le h20
      exact ih (a + 1) _ _ (by rw [stepF_len, ht]) (step_fine ht hf) hs20 (by omega) (by omega) (by have := stepF_out true l a (t, out); simp at this; omega) hd
    · simp only [if_neg hmp]
      rw [runF_idle (fun i => by
        by_cases hi : i < t.length
        · have := fun hh => hmp (hm2.2 hh)
          have h0 := fine_tm hf i
          by_cases h5 : tm t i > 0
          · exact absurd ⟨_, tm_mem hi, h5⟩ this
          · show tm t i = 0
            omega
        · exact tm_out (by omega))]
      exact Ev.now _
theorem short_start (l : List S48) (hl : l.length ≤ 8) (r : List Pc) (h : Ev (fun k => dates_jobs_plan_short.l1 k l [] (times l) 0) r) : ∀ (d i : Nat) (t : List Int), i + d = l.length → t.length = l.length → t.take i = (times l).take i → Ev (fun k => dates_jobs_plan_short.l0 k l t l (l.length : Int) (i : Int)) r := by
  intro d
  induction d with
  | zero =>
    intro i t hi ht he
    have : t = times l := by
      have h1 : t.take i = t := List.take_of_length_le (by omega)
      have h2 : (times l).take i = times l := List.take_of_length_le (by simp [times]; omega)
      rw [← h1, ← h2, he]
    subst this
    refine Ev.step (fun k => ?_) h
    simp only [dates_jobs_plan_short.l0]
    rw [if_neg (by omega)]
  | succ d ih =>
    intro i t hi ht he
    have hlt : i < l.length := by omega
    refine Ev.step (fun k => ?_) (ih (i + 1) (t.set i (l[i]).f0) (by omega) (by simpa using ht) ?_)
    · simp only [dates_jobs_plan_short.l0]
      rw [if_pos (by omega), if_pos (by omega), if_pos (by omega), if_pos (show (i : Int) < (t.length : Int) by omega), rd48 l i hlt, w64s i l.length hlt (by omega), Int.toNat_natCast]
    · rw [List.take_succ_eq_append_getElem (by simpa using (show i < t.length by omega)), List.take_succ_eq_append_getElem (by simpa [times] using hlt), List.take_set_of_le (Nat.le_refl i), he]
      simp [times]
theorem short_f (l : List S48) (hv : valid48 l = true) : Ev (fun k => dates_jobs_plan_short.f k l) (planOf true l) := by
  have hl := valid_len hv
  have hm := short_main l hl.2 hl.1 300 0 (times l) [] (by simp [times]) (times_fine hv) (times_le hv) (by omega) (by omega) (by simp) (plan_done true hv)
  have := short_start l hl.2 _ hm l.length 0 (List.replicate l.length 0) (by omega) (by simp) rfl
  refine Ev.congr (fun k => ?_) this
  unfold dates_jobs_plan_short.f
  rw [if_pos (by omega), if_pos (by omega), Int.toNat_natCast]
  rfl
theorem due_first (l : List S48) (t : List Int) (hl : t.length = l.length) (i j : Nat) (hi : i < l.length) (hj : j < l.length) : dates_jobs_first.f l (i : Int) (j : Int) t = some (ahead false l t i j) := by
  unfold dates_jobs_first.f
  rw [if_pos (by omega), if_pos (by omega), if_pos (by omega), if_pos (by omega), rd48 l i (by omega), rd48 l j (by omega)]
  simp [ahead, jb_get hi, jb_get hj]
theorem due_inner (l : List S48) (t : List Int) (out : List Pc) (a : Int) (hl : l.length ≤ 8) (ht : t.length = l.length) (r : List Pc) : ∀ (d i : Nat), i + d = l.length →
    Ev (fun k => dates_jobs_plan_due.l2 k l out t a (curI (pick false l t a)) l (l.length : Int) (l.length : Int)) r → Ev (fun k => dates_jobs_plan_due.l2 k l out t a (curI (pickN false l t a i)) l (l.length : Int) (i : Int)) r := by
  intro d
  induction d with
  | zero =>
    intro i hi h
    rw [show i = l.length by omega]
    exact h
  | succ d ih =>
    intro i hi h
    have hlt : i < l.length := by omega
    refine Ev.step (fun k => ?_) (ih (i + 1) (by omega) h)
    simp only [dates_jobs_plan_due.l2]
    rw [if_pos (by omega), if_pos (by omega), if_pos (by omega), rd48 l i hlt, w64s i l.length hlt (by omega), if_pos (show (i : Int) < (t.length : Int) by omega)]
    have hjb : jb l i = l[i] := jb_get hlt
    have htm : rd t (i : Int) = tm t i := by rw [rd_nat t i (by omega), tm_get (by omega)]
    by_cases h1 : (l[i]).f1 ≤ a
    · rw [if_pos h1, htm]
      by_cases h2 : tm t i > 0
      · rw [if_pos h2]
        have hr : ready l t a i := ⟨by rw [hjb]; exact h1, h2⟩
        rw [pickN, if_pos hr]
        cases hp : pickN false l t a i with
        | none => rw [if_pos (show curI none < 0 by decide)]; rfl
        | some j =>
          have ⟨hji, _⟩ := pickN_lt hp
          have hc : curI (some j) = (j : Int) := rfl
          rw [hc, if_neg (by omega), due_first l t ht i j hlt (by omega)]
          by_cases ha : ahead false l t i j = true
          · simp only [ha, if_true, Option.bind_some]
            rfl
          · simp only [Bool.eq_false_iff.mpr ha, Option.bind_some, if_false, Bool.false_eq_true]
            rfl
      · rw [if_neg h2]
        have hr : ¬ ready l t a i := fun h => h2 h.2
        rw [pickN, if_neg hr]
    · rw [if_neg h1]
      have hr : ¬ ready l t a i := fun h => h1 (by have := h.1; rwa [hjb] at this)
      rw [pickN, if_neg hr]
theorem due_step (l : List S48) (t : List Int) (out : List Pc) (a : Int) (hl : l.length ≤ 8) (ht : t.length = l.length) (h20 : ∀ x ∈ t, x ≤ 20) (ha0 : 0 ≤ a) (ha : a ≤ 1000) (ho : out.length ≤ 1000) (r : List Pc)
    (h : Ev (fun k => dates_jobs_plan_due.l1 k l (stepF false l a (t, out)).2 (stepF false l a (t, out)).1 (a + 1)) r) : Ev (fun k => dates_jobs_plan_due.l2 k l out t a (-1) l (l.length : Int) 0) r := by
  refine due_inner l t out a hl ht r l.length 0 (by omega) ?_
  refine Ev.step (fun k => ?_) h
  simp only [dates_jobs_plan_due.l2]
  rw [if_neg (by omega)]
  unfold stepF
  cases hp : pick false l t a with
  | none =>
    rw [if_pos (show curI none < 0 by decide), w64 (by omega) (by omega)]
  | some j =>
    have ⟨hj, hr⟩ := pickN_lt hp
    have hc : curI (some j) = (j : Int) := rfl
    have htm : rd t (j : Int) = tm t j := by rw [rd_nat t j (by omega), tm_get (by omega)]
    have h1 := hr.2
    have h2 := h20 _ (tm_mem (show j < t.length by omega))
    rw [hc, if_neg (by omega), if_pos (by omega), if_pos (by omega), Option.bind_some, htm, w64 (x := tm t j - 1) (by omega) (by omega), w64 (x := a + 1) (by omega) (by omega), Int.toNat_natCast]
    show _ = dates_jobs_plan_due.l1 k l (addPc out (j : Int) a) (t.set j (tm t j - 1)) (a + 1)
    rcases List.eq_nil_or_concat out with rfl | ⟨o, p, rfl⟩
    · have hw : wrap64 ((([] : List S44).length : Int) - 1) = -1 := w64 (by simp) (by simp)
      rw [hw, if_neg (by omega), if_pos (by simp)]
      simp [addPc]
    · have hlen : (o.concat p).length = o.length + 1 := by simp
      have hw : wrap64 (((o.concat p).length : Int) - 1) = (o.length : Int) := by rw [hlen, w64 (by omega) (by omega)]; omega
      have hrd : rd_T44 (o.concat p) (o.length : Int) = p := by rw [rd44 _ _ (by omega)]; simp
      rw [hw, if_pos (by omega), if_pos (by omega), if_pos (by omega), hrd]
      have hadd : addPc (o.concat p) (j : Int) a = if p.f0 = (j : Int) ∧ p.f2 = a then (o.concat p).set o.length ⟨p.f0, p.f1, p.f2 + 1⟩ else o.concat p ++ [⟨(j : Int), a, a + 1⟩] := by
        simp [addPc]
      rw [hadd, Int.toNat_natCast]
      by_cases h3 : p.f0 = (j : Int)
      · rw [if_pos h3]
        by_cases h4 : p.f2 = a
        · rw [if_pos h4, if_pos ⟨h3, h4⟩, w64 (x := p.f2 + 1) (by omega) (by omega)]
        · rw [if_neg h4, if_pos (by omega), if_neg (fun h => h4 h.2)]
      · rw [if_neg h3, if_pos (by omega), if_neg (fun h => h3 h.1)]
theorem due_main (l : List S48) (hl : l.length ≤ 8) (h1 : 1 ≤ l.length) : ∀ (n : Nat) (a : Int) (t : List Int) (out : List Pc), t.length = l.length → fine t → (∀ x ∈ t, x ≤ 20) → 0 ≤ a → a + n ≤ 1000 → (out.length : Int) ≤ a → total (runF false l n a (t, out)).1 ≤ 0 →
    Ev (fun k => dates_jobs_plan_due.l1 k l out t a) (runF false l n a (t, out)).2 := by
  intro n
  induction n with
  | zero =>
    intro a t out ht hf h20 ha0 ha ho hd
    obtain ⟨m, hm, hm2⟩ := max_f t (by omega) (by omega)
    have hz := total_zero hf hd
    have : ¬ m > 0 := fun h => by
      obtain ⟨x, hx, hx2⟩ := hm2.1 h
      obtain ⟨i, hi, rfl⟩ := List.mem_iff_getElem.1 hx
      have := hz i
      rw [tm_get hi] at this
      omega
    refine Ev.step (f := fun k => (dates_left_int.f k t).bind fun t128 => (if t128 > 0 then (dates_jobs_plan_due.l2 k l out t a (-1) l (l.length : Int) 0) else (some out))) (fun k => by simp only [dates_jobs_plan_due.l1]) ?_
    refine Ev.bind hm ?_
    simp only [if_neg this]
    exact Ev.now _
  | succ n ih =>
    intro a t out ht hf h20 ha0 ha ho hd
    obtain ⟨m, hm, hm2⟩ := max_f t (by omega) (by omega)
    refine Ev.step (f := fun k => (dates_left_int.f k t).bind fun t128 => (if t128 > 0 then (dates_jobs_plan_due.l2 k l out t a (-1) l (l.length : Int) 0) else (some out))) (fun k => by simp only [dates_jobs_plan_due.l1]) ?_
    refine Ev.bind hm ?_
    by_cases hmp : m > 0
    · simp only [if_pos hmp]
      rw [runF] at hd ⊢
      refine due_step l t out a hl ht h20 ha0 (by omega) (by omega) _ ?_
      have hs20 : ∀ x ∈ (stepF false l a (t, out)).1, x ≤ 20 := step_le h20
      exact ih (a + 1) _ _ (by rw [stepF_len, ht]) (step_fine ht hf) hs20 (by omega) (by omega) (by have := stepF_out false l a (t, out); simp at this; omega) hd
    · simp only [if_neg hmp]
      rw [runF_idle (fun i => by
        by_cases hi : i < t.length
        · have := fun hh => hmp (hm2.2 hh)
          have h0 := fine_tm hf i
          by_cases h5 : tm t i > 0
          · exact absurd ⟨_, tm_mem hi, h5⟩ this
          · show tm t i = 0
            omega
        · exact tm_out (by omega))]
      exact Ev.now _
theorem due_start (l : List S48) (hl : l.length ≤ 8) (r : List Pc) (h : Ev (fun k => dates_jobs_plan_due.l1 k l [] (times l) 0) r) : ∀ (d i : Nat) (t : List Int), i + d = l.length → t.length = l.length → t.take i = (times l).take i → Ev (fun k => dates_jobs_plan_due.l0 k l t l (l.length : Int) (i : Int)) r := by
  intro d
  induction d with
  | zero =>
    intro i t hi ht he
    have : t = times l := by
      have h1 : t.take i = t := List.take_of_length_le (by omega)
      have h2 : (times l).take i = times l := List.take_of_length_le (by simp [times]; omega)
      rw [← h1, ← h2, he]
    subst this
    refine Ev.step (fun k => ?_) h
    simp only [dates_jobs_plan_due.l0]
    rw [if_neg (by omega)]
  | succ d ih =>
    intro i t hi ht he
    have hlt : i < l.length := by omega
    refine Ev.step (fun k => ?_) (ih (i + 1) (t.set i (l[i]).f0) (by omega) (by simpa using ht) ?_)
    · simp only [dates_jobs_plan_due.l0]
      rw [if_pos (by omega), if_pos (by omega), if_pos (by omega), if_pos (show (i : Int) < (t.length : Int) by omega), rd48 l i hlt, w64s i l.length hlt (by omega), Int.toNat_natCast]
    · rw [List.take_succ_eq_append_getElem (by simpa using (show i < t.length by omega)), List.take_succ_eq_append_getElem (by simpa [times] using hlt), List.take_set_of_le (Nat.le_refl i), he]
      simp [times]
theorem due_f (l : List S48) (hv : valid48 l = true) : Ev (fun k => dates_jobs_plan_due.f k l) (planOf false l) := by
  have hl := valid_len hv
  have hm := due_main l hl.2 hl.1 300 0 (times l) [] (by simp [times]) (times_fine hv) (times_le hv) (by omega) (by omega) (by simp) (plan_done false hv)
  have := due_start l hl.2 _ hm l.length 0 (List.replicate l.length 0) (by omega) (by simp) rfl
  refine Ev.congr (fun k => ?_) this
  unfold dates_jobs_plan_due.f
  rw [if_pos (by omega), if_pos (by omega), Int.toNat_natCast]
  rfl
end Go.Proofs.Ytaboleeclpllpaa.M


namespace Go.Proofs.Ytaboleeclpllpaa.M
open Go.RowKit Go.Proofs.YtaboleeclpllpaaW.PrintWords Go.Proofs.YtaboleeclpllpaaW.PrintLast Go.Proofs.YtaboleeclpllpaaW.PrintMore Go.Proofs.Ytaboleeclpllpaa.P
set_option linter.unusedVariables false
set_option linter.unusedSimpArgs false
end Go.Proofs.Ytaboleeclpllpaa.M


namespace Go.Proofs.Ytaboleeclpllpaa.M
open Go.RowKit Go.Proofs.YtaboleeclpllpaaW.PrintWords Go.Proofs.YtaboleeclpllpaaW.PrintLast Go.Proofs.YtaboleeclpllpaaW.PrintMore Go.Proofs.Ytaboleeclpllpaa.P
set_option linter.unusedVariables false
set_option linter.unusedSimpArgs false
def Pcs (n : Nat) (a : Int) (p : List Pc) : Prop := ∀ x ∈ p, 0 ≤ x.f0 ∧ x.f0 < (n : Int) ∧ 0 ≤ x.f1 ∧ x.f1 < x.f2 ∧ x.f2 ≤ a
theorem addPc_pcs {n : Nat} {a : Int} {out : List Pc} {j : Nat} (ha : 0 ≤ a) (hj : j < n) (h : Pcs n a out) : Pcs n (a + 1) (addPc out (j : Int) a) := by
  have hold : ∀ x ∈ out, 0 ≤ x.f0 ∧ x.f0 < (n : Int) ∧ 0 ≤ x.f1 ∧ x.f1 < x.f2 ∧ x.f2 ≤ a + 1 := fun x hx => by have := h x hx; omega
  unfold addPc
  split
  · rename_i p hp
    have hpm : p ∈ out := List.mem_of_getLast? hp
    have hpp := h p hpm
    split
    · intro x hx
      rcases List.mem_or_eq_of_mem_set hx with hx | rfl
      · exact hold x hx
      · show 0 ≤ p.f0 ∧ p.f0 < (n : Int) ∧ 0 ≤ p.f1 ∧ p.f1 < p.f2 + 1 ∧ p.f2 + 1 ≤ a + 1
        omega
    · intro x hx
      rcases List.mem_append.1 hx with hx | hx
      · exact hold x hx
      · simp at hx
        subst hx
        show 0 ≤ (j : Int) ∧ (j : Int) < (n : Int) ∧ 0 ≤ a ∧ a < a + 1 ∧ a + 1 ≤ a + 1
        omega
  · intro x hx
    simp at hx
    subst hx
    show 0 ≤ (j : Int) ∧ (j : Int) < (n : Int) ∧ 0 ≤ a ∧ a < a + 1 ∧ a + 1 ≤ a + 1
    omega
theorem stepF_pcs {short : Bool} {l : List S48} {a : Int} {s : St} (ha : 0 ≤ a) (h : Pcs l.length a s.2) : Pcs l.length (a + 1) (stepF short l a s).2 := by
  unfold stepF
  split
  · intro x hx
    have := h x hx
    omega
  · rename_i j hj
    exact addPc_pcs ha (pickN_lt hj).1 h
theorem runF_pcs {short : Bool} {l : List S48} : ∀ (n : Nat) (a : Int) (s : St), 0 ≤ a → Pcs l.length a s.2 → Pcs l.length (a + n) (runF short l n a s).2 := by
  intro n
  induction n with
  | zero => intro a s ha h; simpa [runF] using h
  | succ n ih =>
    intro a s ha h
    rw [runF]
    have := ih (a + 1) _ (by omega) (stepF_pcs (short := short) ha h)
    rwa [show a + ((n + 1 : Nat) : Int) = a + 1 + (n : Int) by omega]
theorem plan_pcs (short : Bool) (l : List S48) : Pcs l.length 300 (planOf short l) := by
  have := runF_pcs (short := short) (l := l) 300 0 (times l, []) (Int.le_refl _) (fun x hx => by cases hx)
  rw [show (0 : Int) + ((300 : Nat) : Int) = 300 from rfl] at this
  exact this
theorem plan_length (short : Bool) (l : List S48) : (planOf short l).length ≤ 300 := by
  have := runF_out short l 300 0 (times l, [])
  simpa [planOf] using this
theorem pcs_jobs {n : Nat} {a : Int} {p : List Pc} (h : Pcs n a p) : jobsIn n p := fun x hx => ⟨(h x hx).1, (h x hx).2.1⟩
theorem endsFrom_bound {b : Int} (p : List Pc) (hp : ∀ x ∈ p, 0 ≤ x.f2 ∧ x.f2 ≤ b) : ∀ acc : List Int, (∀ x ∈ acc, 0 ≤ x ∧ x ≤ b) → ∀ x ∈ endsFrom acc p, 0 ≤ x ∧ x ≤ b := by
  induction p with
  | nil => intro acc h; exact h
  | cons y p ih =>
    intro acc h
    show ∀ x ∈ endsFrom (acc.set y.f0.toNat y.f2) p, _
    refine ih (fun x hx => hp x (by simp [hx])) _ (fun x hx => ?_)
    rcases List.mem_or_eq_of_mem_set hx with hx | rfl
    · exact h x hx
    · exact hp y (by simp)
theorem endsOf_bound {n : Nat} {a : Int} {p : List Pc} (ha : 0 ≤ a) (h : Pcs n a p) : ∀ x ∈ endsOf n p, 0 ≤ x ∧ x ≤ a :=
  endsFrom_bound p (fun x hx => by have := h x hx; omega) _ (fun x hx => by
    have := (List.mem_replicate.1 hx).2
    omega)
theorem due_f' (l : List S48) (hv : valid48 l = true) : Ev (fun k => dates_jobs_due.f k l) (planOf false l) := by
  refine Ev.congr (fun k => ?_) (due_f l hv)
  unfold dates_jobs_due.f
  cases dates_jobs_plan_due.f k l <;> rfl
theorem Plan_f (l : List S48) (hl : l.length ≤ 9223372036854775807) : Ev (fun k => dates_Plan.f k l) (if valid48 l = true then (planOf false l, 0) else ([], 2)) := by
  unfold dates_Plan.f
  refine Ev.bind (valid_f l hl) ?_
  cases hv : valid48 l with
  | true =>
    simp only [if_true]
    exact Ev.bind (due_f' l hv) (Ev.now _)
  | false =>
    simp only [Bool.false_eq_true, if_false]
    exact Ev.now _
theorem Short_f (l : List S48) (hl : l.length ≤ 9223372036854775807) : Ev (fun k => dates_Short.f k l) (if valid48 l = true then (planOf true l, total (endsOf l.length (planOf true l)), 0) else ([], 0, 2)) := by
  unfold dates_Short.f
  refine Ev.bind (valid_f l hl) ?_
  cases hv : valid48 l with
  | true =>
    simp only [if_true]
    have hlen := valid_len hv
    have hpl := plan_length true l
    refine Ev.bind (short_f l hv) ?_
    refine Ev.bind (finished_f l _ hlen.2 (by omega) (pcs_jobs (plan_pcs true l))) ?_
    have hb := endsOf_bound (by omega) (plan_pcs true l)
    exact short_sum _ _ (by rw [endsOf_length]; exact hlen.2) (fun x hx => by have := hb x hx; omega) (endsOf l.length (planOf true l)).length 0 0 (by omega) rfl
  | false =>
    simp only [Bool.false_eq_true, if_false]
    exact Ev.now _
theorem awake_plan : planOf false [(⟨2, 1, 9, 0⟩ : S48)] = [(⟨0, 1, 3⟩ : S44)] := by kernel_rfl
theorem awake_valid : valid48 [(⟨2, 1, 9, 0⟩ : S48)] = true := by kernel_rfl
theorem awake_f : Ev (fun k => corrodylaw06_awake.f k) true := by
  unfold corrodylaw06_awake.f
  have h := Plan_f [(⟨2, 1, 9, 0⟩ : S48)] (by simp)
  rw [awake_valid, if_pos rfl, awake_plan] at h
  refine Ev.bind h ?_
  simp only [if_true]
  exact Ev.bind (eq44_f _ (by simp)) (Ev.now _)
end Go.Proofs.Ytaboleeclpllpaa.M


namespace Go.Proofs.Ytaboleeclpllpaa.M
open Go.RowKit Go.Proofs.YtaboleeclpllpaaW.PrintWords Go.Proofs.YtaboleeclpllpaaW.PrintLast Go.Proofs.YtaboleeclpllpaaW.PrintMore Go.Proofs.Ytaboleeclpllpaa.P
set_option linter.unusedVariables false
set_option linter.unusedSimpArgs false
def lateN (l : List S48) (e : List Int) (w : Int) : Nat → Int
  | 0 => w
  | n + 1 => max (lateN l e w n) (tm e n - (jb l n).f2)
theorem lateN_le (l : List S48) (e : List Int) (w d : Int) : ∀ n : Nat, lateN l e w n ≤ d ↔ w ≤ d ∧ ∀ i, i < n → tm e i - (jb l i).f2 ≤ d
  | 0 => by simp [lateN]
  | n + 1 => by
    rw [lateN, Int.max_le, lateN_le l e w d n]
    constructor
    · rintro ⟨⟨h1, h2⟩, h3⟩
      refine ⟨h1, fun i hi => ?_⟩
      by_cases h : i = n
      · subst h; exact h3
      · exact h2 i (by omega)
    · rintro ⟨h1, h2⟩
      exact ⟨⟨h1, fun i hi => h2 i (by omega)⟩, h2 n (by omega)⟩
theorem lateN_at (l : List S48) (e : List Int) (w : Int) : ∀ n : Nat, lateN l e w n = w ∨ ∃ i, i < n ∧ lateN l e w n = tm e i - (jb l i).f2
  | 0 => Or.inl rfl
  | n + 1 => by
    rw [lateN]
    rcases Int.le_total (lateN l e w n) (tm e n - (jb l n).f2) with h | h
    · rw [Int.max_eq_right h]
      exact Or.inr ⟨n, by omega, rfl⟩
    · rw [Int.max_eq_left h]
      rcases lateN_at l e w n with h1 | ⟨i, hi, h1⟩
      · exact Or.inl h1
      · exact Or.inr ⟨i, by omega, h1⟩
def worstOf (l : List S48) (e : List Int) : Int := lateN l e (-1073741824) l.length
def delayOf (l : List S48) : Int := worstOf l (endsOf l.length (planOf false l))
theorem worstOf_le {l : List S48} {e : List Int} {d : Int} (hd : -1073741824 ≤ d) : worstOf l e ≤ d ↔ ∀ i, i < l.length → tm e i - (jb l i).f2 ≤ d := by
  rw [worstOf, lateN_le]
  exact ⟨fun h => h.2, fun h => ⟨hd, h⟩⟩
theorem endsB_tm {e : List Int} (he : ∀ x ∈ e, 0 ≤ x ∧ x ≤ 1000000) (i : Nat) : 0 ≤ tm e i ∧ tm e i ≤ 1000000 := by
  by_cases h : i < e.length
  · exact he _ (tm_mem h)
  · rw [tm_out (by omega)]; omega
theorem worstOf_at {l : List S48} (hv : valid48 l = true) {e : List Int} (he : ∀ x ∈ e, 0 ≤ x ∧ x ≤ 1000000) : ∃ i, i < l.length ∧ worstOf l e = tm e i - (jb l i).f2 := by
  rcases lateN_at l e (-1073741824) l.length with h | h
  · exfalso
    have h1 := (worstOf_le (l := l) (e := e) (d := -1073741824) (Int.le_refl _)).1 (by rw [worstOf, h]; exact Int.le_refl _) 0 (valid_len hv).1
    have h2 := valid_jb hv (i := 0) (valid_len hv).1
    have h3 := endsB_tm he 0
    omega
  · exact h
theorem lateN_bound {l : List S48} (hv : valid48 l = true) {e : List Int} (he : ∀ x ∈ e, 0 ≤ x ∧ x ≤ 1000000) {w : Int} (hw : -1073741824 ≤ w ∧ w ≤ 1000000) : ∀ n : Nat, n ≤ l.length → -1073741824 ≤ lateN l e w n ∧ lateN l e w n ≤ 1000000
  | 0, _ => hw
  | n + 1, h => by
    have h1 := lateN_bound hv he hw n (by omega)
    have h2 := valid_jb hv (i := n) (by omega)
    have h3 := endsB_tm he n
    rw [lateN]
    omega
theorem delay_loop (l : List S48) (hv : valid48 l = true) (e : List Int) (hel : e.length = l.length) (he : ∀ x ∈ e, 0 ≤ x ∧ x ≤ 1000000) (w : Int) : ∀ (d i : Nat), i + d = l.length → Ev (fun k => dates_jobs_delay.l0 k e (lateN l e w i) l (l.length : Int) (i : Int)) (lateN l e w l.length) := by
  have hlen := valid_len hv
  intro d
  induction d with
  | zero =>
    intro i hi
    refine Ev.step (f := fun _ => some (lateN l e w i)) (fun k => ?_) (by rw [show i = l.length by omega]; exact Ev.now _)
    simp only [dates_jobs_delay.l0]
    rw [if_neg (by omega)]
  | succ d ih =>
    intro i hi
    have hlt : i < l.length := by omega
    refine Ev.step (fun k => ?_) (ih (i + 1) (by omega))
    have h2 := valid_jb hv hlt
    have h3 := endsB_tm he i
    simp only [dates_jobs_delay.l0]
    rw [if_pos (by omega), if_pos (by omega), if_pos (by omega), if_pos (by omega), rd48 l i hlt, rd_nat e i (by omega), ← tm_get (by omega), ← jb_get hlt, mx_max, w64 (by omega) (by omega), w64s i l.length hlt (by omega), lateN]
theorem worst_start {l : List S48} (hv : valid48 l = true) {e : List Int} (he : ∀ x ∈ e, 0 ≤ x ∧ x ≤ 1000000) : lateN l e (tm e 0 - (jb l 0).f2) l.length = worstOf l e := by
  have hlen := valid_len hv
  have h2 := valid_jb hv (i := 0) (by omega)
  have h3 := endsB_tm he 0
  have hb := lateN_bound hv he (w := tm e 0 - (jb l 0).f2) (by omega) l.length (Nat.le_refl _)
  have hc := lateN_bound hv he (w := -1073741824) (by omega) l.length (Nat.le_refl _)
  refine Int.le_antisymm ?_ ?_
  · rw [lateN_le]
    have h := (worstOf_le (l := l) (e := e) (d := worstOf l e) hc.1).1 (Int.le_refl _)
    exact ⟨h 0 (by omega), h⟩
  · rw [worstOf_le hb.1]
    exact ((lateN_le l e _ _ l.length).1 (Int.le_refl _)).2
theorem delay_f (l : List S48) (hv : valid48 l = true) (p : List Pc) (hp : p.length ≤ 9223372036854775807) (hpc : Pcs l.length 1000000 p) : Ev (fun k => dates_jobs_delay.f k l p) (worstOf l (endsOf l.length p)) := by
  have hlen := valid_len hv
  unfold dates_jobs_delay.f
  refine Ev.bind (finished_f l p hlen.2 hp (pcs_jobs hpc)) ?_
  have he := endsOf_bound (by omega) hpc
  have hel := endsOf_length l.length p
  simp only [if_pos (show (0 : Int) < ((endsOf l.length p).length : Int) by omega), if_pos (show (0 : Int) < (l.length : Int) by omega)]
  have h2 := valid_jb hv (i := 0) (by omega)
  have h3 := endsB_tm he 0
  have h0 : wrap64 (rd (endsOf l.length p) 0 - (rd_T48 l 0).f2) = tm (endsOf l.length p) 0 - (jb l 0).f2 := by
    have e1 := rd_nat (endsOf l.length p) 0 (by omega)
    have e2 := rd48 l 0 (by omega)
    rw [show ((0 : Nat) : Int) = 0 from rfl] at e1 e2
    rw [e1, e2, ← tm_get (by omega), ← jb_get (by omega), w64 (by omega) (by omega)]
  rw [h0, ← worst_start hv he]
  exact delay_loop l hv _ hel he _ l.length 0 (by omega)
theorem pcs_weaken {n : Nat} {a b : Int} {p : List Pc} (h : Pcs n a p) (hab : a ≤ b) : Pcs n b p := fun x hx => by have := h x hx; omega
theorem Delay_f (l : List S48) (hl : l.length ≤ 9223372036854775807) : Ev (fun k => dates_Delay.f k l) (if valid48 l = true then (delayOf l, 0) else (0, 2)) := by
  unfold dates_Delay.f
  refine Ev.bind (valid_f l hl) ?_
  cases hv : valid48 l with
  | true =>
    simp only [if_true]
    refine Ev.bind (due_f' l hv) ?_
    have := plan_length false l
    refine Ev.bind (delay_f l hv _ (by omega) (pcs_weaken (plan_pcs false l) (by omega))) ?_
    exact Ev.now _
  | false =>
    simp only [Bool.false_eq_true, if_false]
    exact Ev.now _
end Go.Proofs.Ytaboleeclpllpaa.M


namespace Go.Proofs.Ytaboleeclpllpaa.T
set_option linter.unusedVariables false
set_option linter.unusedSimpArgs false
def sumN : Nat → (Nat → Int) → Int
  | 0, _ => 0
  | n + 1, f => sumN n f + f n
theorem sumN_congr {f g : Nat → Int} : ∀ {n : Nat}, (∀ i, i < n → f i = g i) → sumN n f = sumN n g
  | 0, _ => rfl
  | n + 1, h => by rw [sumN, sumN, sumN_congr (fun i hi => h i (by omega)), h n (by omega)]
theorem sumN_le {f g : Nat → Int} : ∀ {n : Nat}, (∀ i, i < n → f i ≤ g i) → sumN n f ≤ sumN n g
  | 0, _ => Int.le_refl _
  | n + 1, h => by
    have h1 := sumN_le (n := n) (fun i hi => h i (by omega))
    have h2 := h n (by omega)
    simp only [sumN]
    omega
theorem sumN_add (f g : Nat → Int) : ∀ n : Nat, sumN n (fun i => f i + g i) = sumN n f + sumN n g
  | 0 => rfl
  | n + 1 => by
    have := sumN_add f g n
    simp only [sumN]
    omega
theorem sumN_zero : ∀ n : Nat, sumN n (fun _ => 0) = 0
  | 0 => rfl
  | n + 1 => by rw [sumN, sumN_zero n]; rfl
theorem sumN_nonneg {f : Nat → Int} {n : Nat} (h : ∀ i, i < n → 0 ≤ f i) : 0 ≤ sumN n f := by
  have := sumN_le (f := fun _ => 0) (g := f) (n := n) h
  rwa [sumN_zero] at this
theorem sumN_at {f g : Nat → Int} {n : Nat} (j : Nat) (hj : j < n) (h : ∀ i, i < n → i ≠ j → f i = g i) : sumN n f = sumN n g + (f j - g j) := by
  induction n with
  | zero => omega
  | succ n ih =>
    by_cases hjn : j = n
    · subst hjn
      have : sumN j f = sumN j g := sumN_congr (fun i hi => h i (by omega) (by omega))
      simp only [sumN]
      omega
    · have := ih (by omega) (fun i hi hne => h i (by omega) hne)
      have h2 := h n (by omega) (fun he => hjn he.symm)
      simp only [sumN]
      omega
theorem sumN_pos {f : Nat → Int} {n : Nat} (hf : ∀ i, i < n → 0 ≤ f i) (j : Nat) (hj : j < n) : f j ≤ sumN n f := by
  have := sumN_at (f := f) (g := fun i => if i = j then 0 else f i) j hj (fun i _ hne => by rw [if_neg hne])
  have h2 : 0 ≤ sumN n (fun i => if i = j then 0 else f i) := sumN_nonneg (fun i hi => by
    by_cases h : i = j
    · rw [if_pos h]; exact Int.le_refl _
    · rw [if_neg h]; exact hf i hi)
  rw [if_pos rfl] at this
  omega
theorem sumN_eq_zero {f : Nat → Int} {n : Nat} (hf : ∀ i, i < n → 0 ≤ f i) (h : sumN n f ≤ 0) (i : Nat) (hi : i < n) : f i = 0 := by
  have := sumN_pos hf i hi
  have := hf i hi
  omega
theorem sumN_swap (f : Nat → Nat → Int) : ∀ m n : Nat, sumN m (fun i => sumN n (f i)) = sumN n (fun j => sumN m (fun i => f i j))
  | 0, n => by simp only [sumN]; rw [sumN_zero]
  | m + 1, n => by
    simp only [sumN]
    rw [sumN_swap f m n, ← sumN_add]
def one (b : Prop) [Decidable b] : Int := if b then 1 else 0
def cnt (u : Nat → Option Nat) (j : Nat) (a : Nat) : Int := sumN a (fun s => one (u s = some j))
theorem one_nn (b : Prop) [Decidable b] : 0 ≤ one b := by unfold one; split <;> omega
theorem one_le (b : Prop) [Decidable b] : one b ≤ 1 := by unfold one; split <;> omega
theorem one_pos {b : Prop} [Decidable b] (h : b) : one b = 1 := if_pos h
theorem one_neg {b : Prop} [Decidable b] (h : ¬ b) : one b = 0 := if_neg h
theorem cnt_succ (u : Nat → Option Nat) (j a : Nat) : cnt u j (a + 1) = cnt u j a + one (u a = some j) := rfl
theorem cnt_mono (u : Nat → Option Nat) (j : Nat) {a : Nat} : ∀ {b : Nat}, a ≤ b → cnt u j a ≤ cnt u j b := by
  intro b
  induction b with
  | zero => intro h; rw [show a = 0 by omega]; exact Int.le_refl _
  | succ b ih =>
    intro h
    by_cases hab : a = b + 1
    · subst hab; exact Int.le_refl _
    · have := ih (by omega)
      have := one_nn (u b = some j)
      rw [cnt_succ]
      omega
theorem cnt_nn (u : Nat → Option Nat) (j a : Nat) : 0 ≤ cnt u j a := sumN_nonneg (fun i _ => one_nn _)
theorem cnt_still {u : Nat → Option Nat} {j a : Nat} : ∀ {b : Nat}, a ≤ b → (∀ s, a ≤ s → s < b → u s ≠ some j) → cnt u j b = cnt u j a := by
  intro b
  induction b with
  | zero => intro h _; rw [show a = 0 by omega]
  | succ b ih =>
    intro h hs
    by_cases hab : a = b + 1
    · subst hab; rfl
    · rw [cnt_succ, ih (by omega) (fun s h1 h2 => hs s h1 (by omega)), one_neg (hs b (by omega) (by omega))]
      omega
structure Sched (n : Nat) (tim rel : Nat → Int) (u : Nat → Option Nat) (C : Nat → Int) (H : Nat) : Prop where
  job : ∀ a j, a < H → u a = some j → j < n ∧ rel j ≤ a
  full : ∀ j, j < n → cnt u j H = tim j
  last : ∀ j, j < n → ∃ a : Nat, a < H ∧ C j = (a : Int) + 1 ∧ u a = some j ∧ ∀ s, a < s → s < H → u s ≠ some j
def got (n : Nat) (S : Nat → Prop) [DecidablePred S] (u : Nat → Option Nat) (a : Nat) : Int := sumN n (fun i => if S i then cnt u i a else 0)
theorem got_succ {n : Nat} {S : Nat → Prop} [DecidablePred S] {u : Nat → Option Nat} {a : Nat} : got n S u (a + 1) = got n S u a + sumN n (fun i => if S i then one (u a = some i) else 0) := by
  unfold got
  rw [← sumN_add]
  refine sumN_congr (fun i _ => ?_)
  by_cases h : S i
  · rw [if_pos h, if_pos h, if_pos h, cnt_succ]
  · rw [if_neg h, if_neg h, if_neg h]; rfl
theorem got_in {n : Nat} {S : Nat → Prop} [DecidablePred S] {u : Nat → Option Nat} {a i : Nat} (hi : i < n) (hu : u a = some i) (hS : S i) : got n S u (a + 1) = got n S u a + 1 := by
  rw [got_succ]
  have := sumN_at (f := fun k => if S k then one (u a = some k) else 0) (g := fun _ => 0) i hi (fun k _ hne => by
    by_cases h : S k
    · simp only [if_pos h]
      exact one_neg (by rw [hu]; intro he; exact hne (Option.some.inj he).symm)
    · simp only [if_neg h])
  rw [this, sumN_zero]
  simp only [if_pos hS]
  rw [one_pos hu]
  omega
theorem got_out {n : Nat} {S : Nat → Prop} [DecidablePred S] {u : Nat → Option Nat} {a : Nat} (h : ∀ i, i < n → u a = some i → ¬ S i) : got n S u (a + 1) = got n S u a := by
  rw [got_succ, sumN_congr (g := fun _ => 0) (fun k hk => ?_), sumN_zero]
  · omega
  · by_cases hS : S k
    · simp only [if_pos hS]
      exact one_neg (fun he => h k hk he hS)
    · simp only [if_neg hS]
theorem got_nn (n : Nat) (S : Nat → Prop) [DecidablePred S] (u : Nat → Option Nat) (a : Nat) : 0 ≤ got n S u a := sumN_nonneg (fun i _ => by
  by_cases h : S i
  · rw [if_pos h]; exact cnt_nn _ _ _
  · rw [if_neg h]; exact Int.le_refl _)
section
variable {n : Nat} {tim rel : Nat → Int} {u : Nat → Option Nat} {C : Nat → Int} {H : Nat}
theorem Sched.before (h : Sched n tim rel u C H) {j s : Nat} (hj : j < n) (hs : s < H) (hu : u s = some j) : (s : Int) < C j := by
  obtain ⟨a, ha, hC, hua, hl⟩ := h.last j hj
  by_cases hsa : s ≤ a
  · omega
  · exact absurd hu (hl s (by omega) hs)
theorem Sched.le (h : Sched n tim rel u C H) {j : Nat} (hj : j < n) (a : Nat) (ha : a ≤ H) : cnt u j a ≤ tim j := by
  rw [← h.full j hj]; exact cnt_mono u j ha
theorem Sched.open (h : Sched n tim rel u C H) {j : Nat} (hj : j < n) {a s : Nat} (has : a ≤ s) (hs : s < H) (hu : u s = some j) : cnt u j a < tim j := by
  have h1 := cnt_mono u j has
  have h2 := h.le hj (s + 1) (by omega)
  rw [cnt_succ, one_pos hu] at h2
  omega
theorem Sched.unfinished (h : Sched n tim rel u C H) {j : Nat} (hj : j < n) {a : Nat} (ha : a ≤ H) : cnt u j a < tim j ↔ (a : Int) < C j := by
  obtain ⟨e, he, hC, hue, hl⟩ := h.last j hj
  constructor
  · intro hc
    by_cases hae : a ≤ e
    · omega
    · exfalso
      have h1 : cnt u j H = cnt u j a := cnt_still ha (fun s h1 h2 => hl s (by omega) h2)
      rw [h.full j hj] at h1
      omega
  · intro hlt
    exact h.open hj (show a ≤ e by omega) he hue
theorem Sched.end_le (h : Sched n tim rel u C H) {j : Nat} (hj : j < n) : 0 < C j ∧ C j ≤ H := by
  obtain ⟨e, he, hC, hue, hl⟩ := h.last j hj
  omega
theorem Sched.urgent (h : Sched n tim rel u C H) {due : Nat → Int} (hr : ∀ j, j < n → 0 ≤ rel j)
    (edf : ∀ a i, a < H → i < n → rel i ≤ a → cnt u i a < tim i → ∃ j, u a = some j ∧ due j ≤ due i) {j : Nat} (hj : j < n) :
    ∃ a : Nat, (a : Int) < C j ∧ a < H ∧ C j - a ≤ sumN n (fun i => if (a : Int) ≤ rel i ∧ due i ≤ due j then tim i else 0) := by
  obtain ⟨e, he, hC, hue, hl⟩ := h.last j hj
  have hex : ∀ d : Nat, d ≤ e → ∃ a : Nat, a ≤ e ∧ (∀ s, a ≤ s → s ≤ e → ∃ i, u s = some i ∧ due i ≤ due j) ∧ (a ≤ e - d ∨ (0 < a ∧ ¬ ∃ i, u (a - 1) = some i ∧ due i ≤ due j)) := by
    intro d
    induction d with
    | zero => exact fun _ => ⟨e, Nat.le_refl _, fun s h1 h2 => ⟨j, by rw [show s = e by omega]; exact hue, Int.le_refl _⟩, Or.inl (by omega)⟩
    | succ d ih =>
      intro hd
      obtain ⟨a, ha, hrun, hor⟩ := ih (by omega)
      rcases hor with hor | hor
      · by_cases ha0 : a ≤ e - (d + 1)
        · exact ⟨a, ha, hrun, Or.inl ha0⟩
        · by_cases hp : ∃ i, u (a - 1) = some i ∧ due i ≤ due j
          · refine ⟨a - 1, by omega, fun s h1 h2 => ?_, Or.inl (by omega)⟩
            by_cases hs : s = a - 1
            · rw [hs]; exact hp
            · exact hrun s (by omega) h2
          · exact ⟨a, ha, hrun, Or.inr ⟨by omega, hp⟩⟩
      · exact ⟨a, ha, hrun, Or.inr hor⟩
  obtain ⟨a, ha, hrun, hor⟩ := hex e (Nat.le_refl _)
  refine ⟨a, by omega, by omega, ?_⟩
  have hrel : ∀ s i, a ≤ s → s ≤ e → u s = some i → due i ≤ due j → (a : Int) ≤ rel i := by
    intro s i h1 h2 hu hd
    have hi := h.job s i (by omega) hu
    rcases hor with hor | ⟨hpos, hno⟩
    · have := hr i hi.1
      omega
    · by_cases hri : (a : Int) ≤ rel i
      · exact hri
      · exfalso
        obtain ⟨k, hk, hkd⟩ := edf (a - 1) i (by omega) hi.1 (by omega) (h.open hi.1 (show a - 1 ≤ s by omega) (by omega) hu)
        exact hno ⟨k, hk, Int.le_trans hkd hd⟩
  have hstep : ∀ m : Nat, a + m ≤ e + 1 → (m : Int) ≤ got n (fun i => (a : Int) ≤ rel i ∧ due i ≤ due j) u (a + m) := by
    intro m
    induction m with
    | zero => exact fun _ => got_nn _ _ _ _
    | succ m ih =>
      intro hm
      have h1 := ih (by omega)
      obtain ⟨i, hu, hd⟩ := hrun (a + m) (by omega) (by omega)
      have h2 := got_in (S := fun i => (a : Int) ≤ rel i ∧ due i ≤ due j) (h.job _ i (by omega) hu).1 hu ⟨hrel (a + m) i (by omega) (by omega) hu hd, hd⟩
      rw [show a + (m + 1) = a + m + 1 by omega, h2]
      omega
  have h1 := hstep (e + 1 - a) (by omega)
  have h2 : got n (fun i => (a : Int) ≤ rel i ∧ due i ≤ due j) u (a + (e + 1 - a)) ≤ sumN n (fun i => if (a : Int) ≤ rel i ∧ due i ≤ due j then tim i else 0) := by
    refine sumN_le (fun i hi => ?_)
    by_cases hS : (a : Int) ≤ rel i ∧ due i ≤ due j
    · simp only [if_pos hS]
      exact h.le hi _ (by omega)
    · simp only [if_neg hS]; exact Int.le_refl _
  omega
theorem Sched.within (h : Sched n tim rel u C H) {S : Nat → Prop} [DecidablePred S] {a b : Int} (ha : ∀ i, i < n → S i → a ≤ rel i) (hb : ∀ i, i < n → S i → C i ≤ b) (hab : a ≤ b) :
    sumN n (fun i => if S i then tim i else 0) ≤ b - a := by
  have hstep : ∀ m : Nat, m ≤ H → got n S u m ≤ max 0 (min (m : Int) b - a) := by
    intro m
    induction m with
    | zero =>
      intro _
      have : got n S u 0 = 0 := by
        unfold got
        rw [sumN_congr (g := fun _ => 0) (fun i _ => ?_), sumN_zero]
        by_cases hS : S i
        · rw [if_pos hS]; rfl
        · rw [if_neg hS]
      omega
    | succ m ih =>
      intro hm
      have h1 := ih (by omega)
      by_cases hin : ∃ i, i < n ∧ u m = some i ∧ S i
      · obtain ⟨i, hi, hu, hS⟩ := hin
        have h2 := got_in hi hu hS
        have h3 := ha i hi hS
        have h4 := hb i hi hS
        have h5 := (h.job m i (by omega) hu).2
        have h6 := h.before hi (by omega) hu
        rw [h2]
        omega
      · rw [got_out (fun i hi hu hS => hin ⟨i, hi, hu, hS⟩)]
        omega
  have h1 := hstep H (Nat.le_refl _)
  have h2 : got n S u H = sumN n (fun i => if S i then tim i else 0) := sumN_congr (fun i hi => by rw [h.full i hi])
  rw [h2] at h1
  omega
end
def outside (n : Nat) (S : Nat → Prop) [DecidablePred S] (f : Nat → Int) : Int := sumN n (fun i => if S i then 0 else f i)
def size (n : Nat) (S : Nat → Prop) [DecidablePred S] : Int := sumN n (fun i => one (S i))
def Below' (n : Nat) (x y : Nat → Int) : Prop := ∀ S : Nat → Bool, ∃ S' : Nat → Bool, size n (fun i => S' i = true) ≤ size n (fun i => S i = true) ∧ outside n (fun i => S' i = true) x ≤ outside n (fun i => S i = true) y
theorem Below'.refl (n : Nat) (x : Nat → Int) : Below' n x x := fun S => ⟨S, Int.le_refl _, Int.le_refl _⟩
theorem below_arrive {n : Nat} {x y : Nat → Int} (h : Below' n x y) {z : Nat} (hz : z < n) {p : Int} (hp : 0 ≤ p) (hx : x z = 0) (hy : y z = 0) : Below' n (fun i => if i = z then p else x i) (fun i => if i = z then p else y i) := by
  intro S
  cases hS : S z with
  | true =>
    obtain ⟨S', h1, h2⟩ := h (fun i => if i = z then false else S i)
    refine ⟨fun i => if i = z then true else S' i, ?_, ?_⟩
    · have e1 : size n (fun i => S i = true) = size n (fun i => (if i = z then false else S i) = true) + (one (S z = true) - one ((if z = z then false else S z) = true)) := sumN_at z hz (fun i _ hne => by simp only [if_neg hne])
      have e2 : size n (fun i => (if i = z then true else S' i) = true) = size n (fun i => S' i = true) + (one ((if z = z then true else S' z) = true) - one (S' z = true)) := sumN_at z hz (fun i _ hne => by simp only [if_neg hne])
      rw [one_pos hS, one_neg (by simp)] at e1
      have := one_nn (S' z = true)
      have := one_le ((if z = z then true else S' z) = true)
      dsimp only
      omega
    · have e1 : outside n (fun i => S i = true) (fun i => if i = z then p else y i) = outside n (fun i => (if i = z then false else S i) = true) y := by
        refine sumN_congr (fun i _ => ?_)
        by_cases hi : i = z
        · subst hi; simp [hS, hy]
        · simp [hi]
      have e2 : outside n (fun i => (if i = z then true else S' i) = true) (fun i => if i = z then p else x i) ≤ outside n (fun i => S' i = true) x := by
        refine sumN_le (fun i _ => ?_)
        by_cases hi : i = z
        · subst hi; simp [hx]
        · simp [hi]
      dsimp only
      omega
  | false =>
    obtain ⟨S', h1, h2⟩ := h S
    refine ⟨S', h1, ?_⟩
    have e1 : outside n (fun i => S i = true) (fun i => if i = z then p else y i) = outside n (fun i => S i = true) y + ((if S z = true then 0 else if z = z then p else y z) - (if S z = true then 0 else y z)) := sumN_at z hz (fun i _ hne => by simp only [if_neg hne])
    have e2 : outside n (fun i => S' i = true) (fun i => if i = z then p else x i) = outside n (fun i => S' i = true) x + ((if S' z = true then 0 else if z = z then p else x z) - (if S' z = true then 0 else x z)) := sumN_at z hz (fun i _ hne => by simp only [if_neg hne])
    rw [hS, hy] at e1
    rw [hx] at e2
    simp only [Bool.false_eq_true, if_false, if_true] at e1 e2
    have : (if S' z = true then 0 else p) ≤ p := by split <;> omega
    have : (if S' z = true then (0 : Int) else 0) = 0 := by split <;> rfl
    omega
theorem below_work {n : Nat} {x y x' y' : Nat → Int} (h : Below' n x y) (hx0 : ∀ i, i < n → 0 ≤ x i) (hy0 : ∀ i, i < n → 0 ≤ y i)
    (hx : (∀ i, i < n → x i = 0) ∧ (∀ i, i < n → x' i = x i) ∨ ∃ w, w < n ∧ 0 < x w ∧ (∀ i, i < n → 0 < x i → x w ≤ x i) ∧ ∀ i, i < n → x' i = if i = w then x i - 1 else x i)
    (hy : (∀ i, i < n → y' i = y i) ∨ ∃ v, v < n ∧ 0 < y v ∧ ∀ i, i < n → y' i = if i = v then y i - 1 else y i) : Below' n x' y' := by
  have hmono : ∀ S : Nat → Bool, outside n (fun i => S i = true) x' ≤ outside n (fun i => S i = true) x := by
    intro S
    refine sumN_le (fun i hi => ?_)
    rcases hx with ⟨_, hx⟩ | ⟨w, _, _, _, hx⟩
    · rw [hx i hi]; exact Int.le_refl _
    · rw [hx i hi]
      by_cases hS : S i = true
      · simp only [if_pos hS]; exact Int.le_refl _
      · simp only [if_neg hS]; split <;> omega
  intro S
  obtain ⟨S', h1, h2⟩ := h S
  have hkeep : outside n (fun i => S i = true) y' = outside n (fun i => S i = true) y → ∃ S' : Nat → Bool, size n (fun i => S' i = true) ≤ size n (fun i => S i = true) ∧ outside n (fun i => S' i = true) x' ≤ outside n (fun i => S i = true) y' := by
    intro he
    exact ⟨S', h1, by rw [he]; exact Int.le_trans (hmono S') h2⟩
  rcases hy with hy | ⟨v, hv, hyv, hy⟩
  · exact hkeep (sumN_congr (fun i hi => by rw [hy i hi]))
  · cases hSv : S v with
    | true =>
      refine hkeep (sumN_congr (fun i hi => ?_))
      rw [hy i hi]
      by_cases hiv : i = v
      · subst hiv; simp [hSv]
      · simp [hiv]
    | false =>
      have e1 : outside n (fun i => S i = true) y' = outside n (fun i => S i = true) y + ((if S v = true then 0 else y' v) - (if S v = true then 0 else y v)) := sumN_at v hv (fun i hi hne => by rw [hy i hi, if_neg hne])
      rw [hSv, hy v hv] at e1
      simp only [Bool.false_eq_true, if_false, if_true] at e1
      have hposy : 1 ≤ outside n (fun i => S i = true) y := by
        have := sumN_pos (f := fun i => if S i = true then 0 else y i) (n := n) (fun i hi => by
          by_cases hS : S i = true
          · simp only [if_pos hS]; exact Int.le_refl _
          · simp only [if_neg hS]; exact hy0 i hi) v hv
        simp only [hSv, Bool.false_eq_true, if_false] at this
        unfold outside
        dsimp only
        omega
      rcases hx with ⟨hz, hx⟩ | ⟨w, hw, hxw, hmin, hx⟩
      · refine ⟨S', h1, ?_⟩
        have : outside n (fun i => S' i = true) x' = 0 := by
          unfold outside
          rw [sumN_congr (g := fun _ => 0) (fun i hi => by rw [hx i hi, hz i hi]; split <;> rfl), sumN_zero]
        omega
      · cases hSw : S' w with
        | false =>
          refine ⟨S', h1, ?_⟩
          have e2 : outside n (fun i => S' i = true) x' = outside n (fun i => S' i = true) x + ((if S' w = true then 0 else x' w) - (if S' w = true then 0 else x w)) := sumN_at w hw (fun i hi hne => by rw [hx i hi, if_neg hne])
          rw [hSw, hx w hw] at e2
          simp only [Bool.false_eq_true, if_false, if_true] at e2
          omega
        | true =>
          by_cases hq : ∃ q, q < n ∧ S' q = false ∧ 0 < x q
          · obtain ⟨q, hqn, hSq, hxq⟩ := hq
            have hqw : q ≠ w := fun he => by rw [he, hSw] at hSq; cases hSq
            refine ⟨fun i => if i = w then false else if i = q then true else S' i, ?_, ?_⟩
            · have a1 : size n (fun i => (if i = w then false else if i = q then true else S' i) = true) = size n (fun i => (if i = q then true else S' i) = true) + (one ((if w = w then false else if w = q then true else S' w) = true) - one ((if w = q then true else S' w) = true)) := sumN_at w hw (fun i _ hne => by simp only [if_neg hne])
              have a2 : size n (fun i => (if i = q then true else S' i) = true) = size n (fun i => S' i = true) + (one ((if q = q then true else S' q) = true) - one (S' q = true)) := sumN_at q hqn (fun i _ hne => by simp only [if_neg hne])
              rw [one_neg (by simp), one_pos (by simp [hSw])] at a1
              rw [one_pos (by simp), one_neg (by simp [hSq])] at a2
              dsimp only
              omega
            · have a1 : outside n (fun i => (if i = w then false else if i = q then true else S' i) = true) x' = outside n (fun i => (if i = q then true else S' i) = true) x' + ((if (if w = w then false else if w = q then true else S' w) = true then 0 else x' w) - (if (if w = q then true else S' w) = true then 0 else x' w)) := sumN_at w hw (fun i _ hne => by simp only [if_neg hne])
              have a2 : outside n (fun i => (if i = q then true else S' i) = true) x' = outside n (fun i => S' i = true) x' + ((if (if q = q then true else S' q) = true then 0 else x' q) - (if S' q = true then 0 else x' q)) := sumN_at q hqn (fun i _ hne => by simp only [if_neg hne])
              have a3 : outside n (fun i => S' i = true) x' = outside n (fun i => S' i = true) x := sumN_congr (fun i hi => by
                rw [hx i hi]
                by_cases hiw : i = w
                · subst hiw; simp [hSw]
                · simp [hiw])
              have hwq : w ≠ q := fun he => hqw he.symm
              simp only [if_true, Bool.false_eq_true, if_false, if_neg hwq, hSw, hSq] at a1 a2
              have b1 := hx w hw
              have b2 := hx q hqn
              rw [if_pos rfl] at b1
              rw [if_neg hqw] at b2
              have b3 := hmin q hqn hxq
              dsimp only
              omega
          · refine ⟨S', h1, ?_⟩
            have : outside n (fun i => S' i = true) x' ≤ outside n (fun i => S' i = true) x := hmono S'
            have h0 : outside n (fun i => S' i = true) x ≤ 0 := by
              unfold outside
              rw [sumN_congr (g := fun _ => 0) (fun i hi => ?_), sumN_zero]
              · exact Int.le_refl _
              · show (if S' i = true then (0 : Int) else x i) = 0
                cases hSi : S' i with
                | true => simp
                | false =>
                  simp only [Bool.false_eq_true, if_false]
                  have := hx0 i hi
                  by_cases hp : 0 < x i
                  · exact absurd ⟨i, hi, hSi, hp⟩ hq
                  · omega
            omega
theorem below_count {n : Nat} {x y : Nat → Int} (h : Below' n x y) (hx0 : ∀ i, i < n → 0 ≤ x i) (hy0 : ∀ i, i < n → 0 ≤ y i) : size n (fun i => 0 < x i) ≤ size n (fun i => 0 < y i) := by
  obtain ⟨S', h1, h2⟩ := h (fun i => decide (0 < y i))
  have e1 : size n (fun i => decide (0 < y i) = true) = size n (fun i => 0 < y i) := sumN_congr (fun i _ => by
    by_cases hp : 0 < y i
    · rw [one_pos hp, one_pos (by simp [hp])]
    · rw [one_neg hp, one_neg (by simp [hp])])
  have e2 : outside n (fun i => decide (0 < y i) = true) y = 0 := by
    unfold outside
    rw [sumN_congr (g := fun _ => 0) (fun i hi => ?_), sumN_zero]
    by_cases hp : 0 < y i
    · rw [if_pos (by simp [hp])]
    · have := hy0 i hi
      rw [if_neg (by simp [hp])]
      omega
  have h3 : ∀ i, i < n → (if S' i = true then 0 else x i) = 0 := sumN_eq_zero (fun i hi => by
    by_cases hS : S' i = true
    · rw [if_pos hS]; exact Int.le_refl _
    · rw [if_neg hS]; exact hx0 i hi) (by unfold outside at h2 e2; dsimp only at h2 e2; omega)
  have h4 : size n (fun i => 0 < x i) ≤ size n (fun i => S' i = true) := sumN_le (fun i hi => by
    by_cases hS : S' i = true
    · rw [one_pos hS]; exact one_le _
    · have := h3 i hi
      rw [if_neg hS] at this
      rw [one_neg (show ¬ 0 < x i by omega), one_neg hS]
      exact Int.le_refl _)
  omega
end Go.Proofs.Ytaboleeclpllpaa.T


namespace Go.Proofs.Ytaboleeclpllpaa.M
open Go.RowKit Go.Proofs.YtaboleeclpllpaaW.PrintWords Go.Proofs.YtaboleeclpllpaaW.PrintLast Go.Proofs.YtaboleeclpllpaaW.PrintMore Go.Proofs.Ytaboleeclpllpaa.P Go.Proofs.Ytaboleeclpllpaa.T
set_option linter.unusedVariables false
set_option linter.unusedSimpArgs false
def stt (short : Bool) (l : List S48) (a : Nat) : St := runF short l a 0 (times l, [])
def unitOf (short : Bool) (l : List S48) (a : Nat) : Option Nat := pick short l (stt short l a).1 a
theorem stt_succ (short : Bool) (l : List S48) (a : Nat) : stt short l (a + 1) = stepF short l a (stt short l a) := by
  rw [stt, runF_succ, Int.zero_add]
  rfl
theorem stt_len (short : Bool) (l : List S48) (a : Nat) : (stt short l a).1.length = l.length := by
  rw [stt, runF_len]
  simp [times]
def timf (l : List S48) (j : Nat) : Int := (jb l j).f0
def relf (l : List S48) (j : Nat) : Int := (jb l j).f1
def duef (l : List S48) (j : Nat) : Int := (jb l j).f2
theorem stt_tm (short : Bool) (l : List S48) (j : Nat) : ∀ a : Nat, tm (stt short l a).1 j = timf l j - cnt (unitOf short l) j a := by
  intro a
  induction a with
  | zero =>
    show tm (times l) j = timf l j - 0
    unfold timf tm times jb
    rw [List.getD_eq_getElem?_getD, List.getD_eq_getElem?_getD, List.getElem?_map]
    cases l[j]? with
    | none => rfl
    | some x => simp
  | succ a ih =>
    rw [stt_succ, cnt_succ]
    have hu : unitOf short l a = pick short l (stt short l a).1 a := rfl
    unfold stepF
    split
    · rename_i hp
      rw [ih, hu, hp, one_neg (by simp)]
      omega
    · rename_i i hp
      have hi := (pickN_lt hp).1
      show tm ((stt short l a).1.set i (tm (stt short l a).1 i - 1)) j = _
      rw [tm_set _ _ _ _ (by rw [stt_len]; exact hi), hu, hp]
      by_cases hji : j = i
      · subst hji
        rw [if_pos rfl, one_pos rfl, ih]
        omega
      · rw [if_neg hji, one_neg (fun he => hji (Option.some.inj he).symm), ih]
        omega
theorem endsFrom_append (acc : List Int) (p q : List Pc) : endsFrom acc (p ++ q) = endsFrom (endsFrom acc p) q := by
  unfold endsFrom
  rw [List.foldl_append]
theorem getLast_split {α : Type} {p : List α} {x : α} (h : p.getLast? = some x) : ∃ q, p = q ++ [x] := by
  have hne : p ≠ [] := by intro he; rw [he] at h; cases h
  refine ⟨p.dropLast, ?_⟩
  have := List.dropLast_concat_getLast hne
  rw [List.getLast?_eq_some_getLast hne] at h
  rw [Option.some.inj h] at this
  exact this.symm
theorem addPc_cases (out : List Pc) (j a : Int) : (∃ q x, out = q ++ [x] ∧ x.f0 = j ∧ x.f2 = a ∧ addPc out j a = q ++ [⟨j, x.f1, a + 1⟩]) ∨ addPc out j a = out ++ [⟨j, a, a + 1⟩] := by
  unfold addPc
  cases h : out.getLast? with
  | none =>
    right
    rw [List.getLast?_eq_none_iff.1 h]
    rfl
  | some p =>
    by_cases hc : p.f0 = j ∧ p.f2 = a
    · obtain ⟨q, hq⟩ := getLast_split h
      left
      refine ⟨q, p, hq, hc.1, hc.2, ?_⟩
      simp only [if_pos hc]
      subst hq
      rw [hc.1, hc.2]
      simp
    · right
      simp only [if_neg hc]
theorem endsFrom_addPc (acc : List Int) (out : List Pc) (j : Nat) (a : Int) : endsFrom acc (addPc out (j : Int) a) = (endsFrom acc out).set j (a + 1) := by
  rcases addPc_cases out j a with ⟨q, x, ho, h0, h2, hr⟩ | hr
  · rw [hr, ho, endsFrom_append, endsFrom_append]
    show (endsFrom acc q).set ((j : Int)).toNat (a + 1) = ((endsFrom acc q).set x.f0.toNat x.f2).set j (a + 1)
    rw [h0]
    simp
  · rw [hr, endsFrom_append]
    show (endsFrom acc out).set ((j : Int)).toNat (a + 1) = _
    simp
theorem ends_last (short : Bool) (l : List S48) (j : Nat) (hj : j < l.length) : ∀ a : Nat, (tm (endsOf l.length (stt short l a).2) j = 0 ∧ ∀ s, s < a → unitOf short l s ≠ some j) ∨
    ∃ e : Nat, e < a ∧ tm (endsOf l.length (stt short l a).2) j = (e : Int) + 1 ∧ unitOf short l e = some j ∧ ∀ s, e < s → s < a → unitOf short l s ≠ some j := by
  intro a
  induction a with
  | zero =>
    left
    refine ⟨?_, fun s hs => by omega⟩
    show tm (List.replicate l.length 0) j = 0
    simp [tm, List.getD_eq_getElem?_getD, List.getElem?_replicate, hj]
  | succ a ih =>
    rw [stt_succ]
    have hu : unitOf short l a = pick short l (stt short l a).1 a := rfl
    unfold stepF
    split
    · rename_i hp
      rw [hp] at hu
      rcases ih with ⟨h0, hn⟩ | ⟨e, he, hE, hue, hl⟩
      · exact Or.inl ⟨h0, fun s hs => by
          by_cases hsa : s = a
          · rw [hsa, hu]; simp
          · exact hn s (by omega)⟩
      · exact Or.inr ⟨e, by omega, hE, hue, fun s h1 h2 => by
          by_cases hsa : s = a
          · rw [hsa, hu]; simp
          · exact hl s h1 (by omega)⟩
    · rename_i i hp
      rw [hp] at hu
      have hi := (pickN_lt hp).1
      have hset : tm (endsOf l.length (addPc (stt short l a).2 (i : Int) (a : Int))) j = if j = i then (a : Int) + 1 else tm (endsOf l.length (stt short l a).2) j := by
        unfold endsOf
        rw [endsFrom_addPc, tm_set _ _ _ _ (by rw [endsFrom_length, List.length_replicate]; exact hi)]
      by_cases hji : j = i
      · right
        refine ⟨a, by omega, ?_, by rw [hu, hji], fun s h1 h2 => by omega⟩
        show tm (endsOf l.length (addPc (stt short l a).2 (i : Int) (a : Int))) j = _
        rw [hset, if_pos hji]
      · have hne : unitOf short l a ≠ some j := by rw [hu]; intro he; exact hji (Option.some.inj he).symm
        have hset2 : tm (endsOf l.length (addPc (stt short l a).2 (i : Int) (a : Int))) j = tm (endsOf l.length (stt short l a).2) j := by rw [hset, if_neg hji]
        rcases ih with ⟨h0, hn⟩ | ⟨e, he, hE, hue, hl⟩
        · refine Or.inl ⟨by rw [← h0]; exact hset2, fun s hs => ?_⟩
          by_cases hsa : s = a
          · rw [hsa]; exact hne
          · exact hn s (by omega)
        · refine Or.inr ⟨e, by omega, by rw [← hE]; exact hset2, hue, fun s h1 h2 => ?_⟩
          by_cases hsa : s = a
          · rw [hsa]; exact hne
          · exact hl s h1 (by omega)
theorem stt_fine {l : List S48} (hv : valid48 l = true) (short : Bool) (a : Nat) : fine (stt short l a).1 :=
  run_fine a 0 _ (by simp [times]) (times_fine hv)
theorem stt_idle {l : List S48} (hv : valid48 l = true) (short : Bool) {a : Nat} (ha : 300 ≤ a) : stt short l a = stt short l 300 ∧ ∀ i, tm (stt short l a).1 i = 0 := by
  have hz := total_zero (stt_fine hv short 300) (plan_done short hv)
  have : stt short l a = stt short l 300 := by
    have h := runF_add short l 300 (a - 300) 0 (times l, [])
    rw [show 300 + (a - 300) = a by omega] at h
    have hz' : ∀ i, tm (runF short l 300 0 (times l, [])).1 i = 0 := hz
    unfold stt
    rw [h]
    generalize runF short l 300 0 (times l, []) = s at hz' ⊢
    obtain ⟨t, out⟩ := s
    exact runF_idle hz'
  exact ⟨this, by rw [this]; exact hz⟩
theorem unit_ready {short : Bool} {l : List S48} {a j : Nat} (h : unitOf short l a = some j) : j < l.length ∧ relf l j ≤ a ∧ 0 < tm (stt short l a).1 j := by
  have := pickN_lt h
  exact ⟨this.1, this.2.1, this.2.2⟩
def endf (l : List S48) (p : List Pc) (j : Nat) : Int := tm (endsOf l.length p) j
theorem plan_full {l : List S48} (hv : valid48 l = true) (short : Bool) (j : Nat) {H : Nat} (hH : 300 ≤ H) : cnt (unitOf short l) j H = timf l j := by
  have h1 := stt_tm short l j H
  have h2 := (stt_idle hv short hH).2 j
  omega
theorem plan_sched {l : List S48} (hv : valid48 l = true) (short : Bool) {H : Nat} (hH : 300 ≤ H) : Sched l.length (timf l) (relf l) (unitOf short l) (endf l (planOf short l)) H where
  job := fun a j _ h => ⟨(unit_ready h).1, (unit_ready h).2.1⟩
  full := fun j _ => plan_full hv short j hH
  last := fun j hj => by
    have hC : (stt short l H).2 = planOf short l := by rw [(stt_idle hv short hH).1]; rfl
    rcases ends_last short l j hj H with ⟨_, hn⟩ | ⟨e, he, hE, hue, hl⟩
    · exfalso
      have h1 := plan_full hv short j hH
      have h2 := (valid_jb hv hj).1
      have h3 : cnt (unitOf short l) j H = cnt (unitOf short l) j 0 := cnt_still (by omega) (fun s _ hs => hn s hs)
      rw [h1] at h3
      have : cnt (unitOf short l) j 0 = 0 := rfl
      unfold timf at h3
      omega
    · rw [hC] at hE
      exact ⟨e, he, hE, hue, hl⟩
theorem pickN_least {l : List S48} {t : List Int} {a : Int} {short : Bool} : ∀ {n i : Nat}, i < n → ready l t a i → ∃ j, pickN short l t a n = some j ∧ (if short = true then tm t j ≤ tm t i else (jb l j).f2 ≤ (jb l i).f2) := by
  intro n
  induction n with
  | zero => intro i hi; omega
  | succ n ih =>
    intro i hi hr
    rw [pickN]
    by_cases hrn : ready l t a n
    · rw [if_pos hrn]
      cases hp : pickN short l t a n with
      | none =>
        by_cases hin : i = n
        · subst hin
          exact ⟨i, rfl, by cases short <;> simp⟩
        · exact absurd hr (pickN_none.1 hp i (by omega))
      | some j =>
        by_cases ha : ahead short l t n j = true
        · refine ⟨n, by simp [ha], ?_⟩
          by_cases hin : i = n
          · subst hin
            cases short <;> simp
          · obtain ⟨j', hj', hle⟩ := ih (by omega) hr
            rw [hp] at hj'
            cases hj'
            cases short with
            | true =>
              simp only [ahead, if_true, decide_eq_true_eq] at ha hle ⊢
              omega
            | false =>
              simp only [ahead, Bool.false_eq_true, if_false, decide_eq_true_eq] at ha hle ⊢
              omega
        · refine ⟨j, by simp [ha], ?_⟩
          by_cases hin : i = n
          · subst hin
            cases short with
            | true =>
              simp only [ahead, if_true, decide_eq_true_eq] at ha ⊢
              omega
            | false =>
              simp only [ahead, Bool.false_eq_true, if_false, decide_eq_true_eq] at ha ⊢
              omega
          · obtain ⟨j', hj', hle⟩ := ih (by omega) hr
            rw [hp] at hj'
            cases hj'
            exact hle
    · rw [if_neg hrn]
      by_cases hin : i = n
      · subst hin; exact absurd hr hrn
      · exact ih (by omega) hr
theorem plan_edf (l : List S48) : ∀ a i : Nat, i < l.length → relf l i ≤ a → cnt (unitOf false l) i a < timf l i → ∃ j, unitOf false l a = some j ∧ duef l j ≤ duef l i := by
  intro a i hi hr hc
  have h := stt_tm false l i a
  obtain ⟨j, hj, hle⟩ := pickN_least (short := false) (l := l) (t := (stt false l a).1) (a := a) hi ⟨hr, by omega⟩
  exact ⟨j, hj, by simp only [Bool.false_eq_true, if_false] at hle; exact hle⟩
theorem plan_urgent {l : List S48} (hv : valid48 l = true) {j : Nat} (hj : j < l.length) :
    ∃ a : Nat, (a : Int) < endf l (planOf false l) j ∧ a < 300 ∧ endf l (planOf false l) j - a ≤ sumN l.length (fun i => if (a : Int) ≤ relf l i ∧ duef l i ≤ duef l j then timf l i else 0) :=
  (plan_sched hv false (Nat.le_refl 300)).urgent (fun i hi => (valid_jb hv hi).2.2.1) (fun a i _ hi hr hc => plan_edf l a i hi hr hc) hj
theorem plan_ends_bound {l : List S48} (short : Bool) : ∀ x ∈ endsOf l.length (planOf short l), 0 ≤ x ∧ x ≤ 1000000 := fun x hx => by
  have := endsOf_bound (by omega) (plan_pcs short l) x hx
  omega
theorem delay_at {l : List S48} (hv : valid48 l = true) : ∃ j, j < l.length ∧ delayOf l = endf l (planOf false l) j - duef l j := worstOf_at hv (plan_ends_bound false)
theorem plan_best {l : List S48} (hv : valid48 l = true) {u : Nat → Option Nat} {C : Nat → Int} {H : Nat} (h : Sched l.length (timf l) (relf l) u C H) {d : Int} (hC : ∀ i, i < l.length → C i - duef l i ≤ d) : delayOf l ≤ d := by
  obtain ⟨j, hj, hd⟩ := delay_at hv
  obtain ⟨a, ha, _, hsum⟩ := plan_urgent hv hj
  rw [hd]
  by_cases hle : endf l (planOf false l) j - duef l j ≤ d
  · exact hle
  · exfalso
    have hb := h.within (S := fun i => (a : Int) ≤ relf l i ∧ duef l i ≤ duef l j) (a := a) (b := max (a : Int) (duef l j + d)) (fun i _ hS => hS.1) (fun i hi hS => by
      have := hC i hi
      have := hS.2
      omega) (by omega)
    omega
end Go.Proofs.Ytaboleeclpllpaa.M


namespace Go.Proofs.Ytaboleeclpllpaa.M
open Go.RowKit Go.Proofs.YtaboleeclpllpaaW.PrintWords Go.Proofs.YtaboleeclpllpaaW.PrintLast Go.Proofs.YtaboleeclpllpaaW.PrintMore Go.Proofs.Ytaboleeclpllpaa.P Go.Proofs.Ytaboleeclpllpaa.T
set_option linter.unusedVariables false
set_option linter.unusedSimpArgs false
def after (q : Option Pc) (x : Pc) : Prop := match q with
  | none => True
  | some y => y.f2 ≤ x.f1 ∧ ¬ (y.f2 = x.f1 ∧ y.f0 = x.f0)
instance (q : Option Pc) (x : Pc) : Decidable (after q x) := by unfold after; split <;> infer_instance
def okPc (l : List S48) (q : Option Pc) (x : Pc) : Bool := decide ((0 ≤ x.f0 ∧ x.f0 < (l.length : Int) ∧ (jb l x.f0.toNat).f1 ≤ x.f1 ∧ x.f1 < x.f2 ∧ x.f2 ≤ 1000) ∧ after q x)
def chain (l : List S48) : Option Pc → List Pc → Bool
  | _, [] => true
  | q, x :: xs => okPc l q x && chain l (some x) xs
def workFrom (acc : List Int) (p : List Pc) : List Int := p.foldl (fun a x => a.set x.f0.toNat (tm a x.f0.toNat + (x.f2 - x.f1))) acc
def workOf (n : Nat) (p : List Pc) : List Int := workFrom (List.replicate n 0) p
def wholeB (l : List S48) (p : List Pc) : Bool := chain l none p && decide (workOf l.length p = times l)
def prevOf (p : List Pc) (i : Nat) : Option Pc := if i = 0 then none else p[i - 1]?
theorem times_len (l : List S48) : (times l).length = l.length := by simp [times]
theorem workFrom_length (p : List Pc) : ∀ acc : List Int, (workFrom acc p).length = acc.length := by
  induction p with
  | nil => intro acc; rfl
  | cons x xs ih =>
    intro acc
    show (workFrom (acc.set x.f0.toNat (tm acc x.f0.toNat + (x.f2 - x.f1))) xs).length = _
    rw [ih, List.length_set]
theorem sums_loop (l : List S48) (t : List Int) (hl : l.length ≤ 9223372036854775807) (ht : t.length = l.length) : ∀ (d i : Nat), i + d = l.length → Ev (fun k => dates_jobs_whole.l1 k t l (l.length : Int) (i : Int)) (decide (t.drop i = (times l).drop i)) := by
  intro d
  induction d with
  | zero =>
    intro i hi
    refine Ev.step (f := fun _ => some true) (fun k => ?_) ?_
    · simp only [dates_jobs_whole.l1]
      rw [if_neg (by omega)]
    · have : t.drop i = (times l).drop i := by rw [List.drop_eq_nil_of_le (by omega), List.drop_eq_nil_of_le (by rw [times_len]; omega)]
      rw [decide_eq_true this]
      exact Ev.now _
  | succ d ih =>
    intro i hi
    have hlt : i < l.length := by omega
    rw [List.drop_eq_getElem_cons (by omega : i < t.length), List.drop_eq_getElem_cons (by rw [times_len]; omega : i < (times l).length)]
    have hg : (times l)[i]'(by rw [times_len]; omega) = (l[i]).f0 := by simp [times]
    rw [hg]
    by_cases he : t[i]'(by omega) = (l[i]).f0
    · have := ih (i + 1) (by omega)
      have h2 : decide (t[i]'(by omega) :: t.drop (i + 1) = (l[i]).f0 :: (times l).drop (i + 1)) = decide (t.drop (i + 1) = (times l).drop (i + 1)) := by
        rw [he]
        exact decide_eq_decide.2 (by simp)
      rw [h2]
      refine Ev.step (fun k => ?_) this
      simp only [dates_jobs_whole.l1]
      rw [if_pos (by omega), if_pos (by omega), if_pos (by omega), if_pos (by omega), rd_nat t i (by omega), rd48 l i hlt, if_pos he, w64s i l.length hlt hl]
    · have h2 : decide (t[i]'(by omega) :: t.drop (i + 1) = (l[i]).f0 :: (times l).drop (i + 1)) = false := by
        rw [decide_eq_false]
        intro h
        exact he (List.cons.inj h).1
      rw [h2]
      refine Ev.step (f := fun _ => some false) (fun k => ?_) (Ev.now _)
      simp only [dates_jobs_whole.l1]
      rw [if_pos (by omega), if_pos (by omega), if_pos (by omega), if_pos (by omega), rd_nat t i (by omega), rd48 l i hlt, if_neg he]
def reach (q : Option Pc) : Int := match q with
  | none => 0
  | some y => y.f2
theorem okPc_iff {l : List S48} {q : Option Pc} {x : Pc} : okPc l q x = true ↔ (0 ≤ x.f0 ∧ x.f0 < (l.length : Int) ∧ (jb l x.f0.toNat).f1 ≤ x.f1 ∧ x.f1 < x.f2 ∧ x.f2 ≤ 1000) ∧ after q x := by simp [okPc]
theorem whole_loop (l : List S48) (hv : valid48 l = true) (p : List Pc) (hp : p.length ≤ 9223372036854775807) : ∀ (d i : Nat) (acc : List Int), i + d = p.length → acc.length = l.length → (∀ x ∈ acc, 0 ≤ x ∧ x ≤ reach (prevOf p i)) → reach (prevOf p i) ≤ 1000 →
    Ev (fun k => dates_jobs_whole.l0 k l p acc p (p.length : Int) (i : Int)) (chain l (prevOf p i) (p.drop i) && decide (workFrom acc (p.drop i) = times l)) := by
  have hlen := valid_len hv
  intro d
  induction d with
  | zero =>
    intro i acc hi hal hab hre
    rw [show i = p.length by omega, List.drop_length]
    have h := sums_loop l acc (by omega) hal l.length 0 (by omega)
    rw [List.drop_zero, List.drop_zero] at h
    show Ev _ (true && decide (acc = times l))
    rw [Bool.true_and]
    refine Ev.step (fun k => ?_) h
    simp only [dates_jobs_whole.l0]
    rw [if_neg (by omega)]
    rfl
  | succ d ih =>
    intro i acc hi hal hab hre
    have hlt : i < p.length := by omega
    rw [List.drop_eq_getElem_cons hlt, chain]
    have hnext : prevOf p (i + 1) = some p[i] := by simp [prevOf, List.getElem?_eq_getElem hlt]
    have hbad : okPc l (prevOf p i) p[i] = false → Ev (fun k => dates_jobs_whole.l0 k l p acc p (p.length : Int) (i : Int)) false → Ev (fun k => dates_jobs_whole.l0 k l p acc p (p.length : Int) (i : Int)) (okPc l (prevOf p i) p[i] && chain l (some p[i]) (p.drop (i + 1)) && decide (workFrom acc (p[i] :: p.drop (i + 1)) = times l)) := by
      intro h1 h2
      rw [h1]
      exact h2
    have hjt : ∀ b, b = true → Ev (fun k => dates_jobs_whole.j1 k l p acc (i : Int) p (p.length : Int) (i : Int) b (p[i]).f0 (p[i]).f1 (p[i]).f2) false := by
      intro b hb
      refine Ev.step (f := fun _ => some false) (fun k => ?_) (Ev.now _)
      simp only [dates_jobs_whole.j1, hb, if_true]
    by_cases c0 : 0 ≤ (p[i]).f0 ∧ (p[i]).f0 ≤ wrap64 ((l.length : Int) - 1)
    · have c0' : 0 ≤ (p[i]).f0 ∧ (p[i]).f0 < (l.length : Int) := by rw [w64 (by omega) (by omega)] at c0; omega
      have hrd : (rd_T48 l (p[i]).f0) = jb l (p[i]).f0.toNat := by
        have := rd48 l (p[i]).f0.toNat (by omega)
        rw [show (((p[i]).f0.toNat : Nat) : Int) = (p[i]).f0 by omega] at this
        rw [this, jb_get (by omega)]
      have hjbv := valid_jb hv (i := (p[i]).f0.toNat) (by omega)
      have hgo : ∀ b : Bool, b = decide (¬ ((jb l (p[i]).f0.toNat).f1 ≤ (p[i]).f1 ∧ (p[i]).f1 < (p[i]).f2 ∧ (p[i]).f2 ≤ 1000)) → ∀ r, Ev (fun k => dates_jobs_whole.j1 k l p acc (i : Int) p (p.length : Int) (i : Int) b (p[i]).f0 (p[i]).f1 (p[i]).f2) r → Ev (fun k => dates_jobs_whole.l0 k l p acc p (p.length : Int) (i : Int)) r := by
        intro b hb r hr
        refine Ev.step (fun k => ?_) hr
        simp only [dates_jobs_whole.l0]
        rw [if_pos (by omega), if_pos (by omega), if_pos (by omega), rd44 p i hlt, between_f, decide_eq_true c0]
        simp only [Option.bind_some, if_true]
        rw [if_pos (by omega), if_pos (by omega), hrd]
        by_cases c1 : (p[i]).f1 < (jb l (p[i]).f0.toNat).f1
        · rw [if_pos c1]
          have : b = true := by rw [hb]; exact decide_eq_true (by omega)
          rw [this]
        · rw [if_neg c1]
          by_cases c2 : (p[i]).f1 ≥ (p[i]).f2
          · rw [if_pos c2]
            have : b = true := by rw [hb]; exact decide_eq_true (by omega)
            rw [this]
          · rw [if_neg c2]
            have : b = decide ((p[i]).f2 > 1000) := by rw [hb]; exact decide_eq_decide.2 (by omega)
            rw [this]
      by_cases c1 : (jb l (p[i]).f0.toNat).f1 ≤ (p[i]).f1 ∧ (p[i]).f1 < (p[i]).f2 ∧ (p[i]).f2 ≤ 1000
      · by_cases c2 : after (prevOf p i) p[i]
        · have hok : okPc l (prevOf p i) p[i] = true := okPc_iff.2 ⟨⟨c0'.1, c0'.2, c1⟩, c2⟩
          rw [hok, Bool.true_and]
          have hacc := hab
          have ha : 0 ≤ tm acc (p[i]).f0.toNat ∧ tm acc (p[i]).f0.toNat ≤ reach (prevOf p i) := hab _ (tm_mem (by omega))
          have hrp : reach (prevOf p i) ≤ (p[i]).f1 := by
            cases hq : prevOf p i with
            | none => show (0 : Int) ≤ _; omega
            | some y =>
              rw [hq] at c2
              exact c2.1
          have hset : ∀ x ∈ acc.set (p[i]).f0.toNat (tm acc (p[i]).f0.toNat + ((p[i]).f2 - (p[i]).f1)), 0 ≤ x ∧ x ≤ reach (prevOf p (i + 1)) := by
            intro x hx
            rw [hnext]
            show 0 ≤ x ∧ x ≤ (p[i]).f2
            rcases List.mem_or_eq_of_mem_set hx with hx | hx
            · have := hab x hx
              omega
            · omega
          have hih := ih (i + 1) (acc.set (p[i]).f0.toNat (tm acc (p[i]).f0.toNat + ((p[i]).f2 - (p[i]).f1))) (by omega) (by rw [List.length_set, hal]) hset (by rw [hnext]; exact c1.2.2)
          rw [hnext] at hih
          refine hgo false (by rw [decide_eq_false (by simpa using c1)]) _ ?_
          refine Ev.step (fun k => ?_) hih
          have hadd : wrap64 (rd acc (p[i]).f0 + wrap64 ((p[i]).f2 - (p[i]).f1)) = tm acc (p[i]).f0.toNat + ((p[i]).f2 - (p[i]).f1) := by
            have h1 := rd_nat acc (p[i]).f0.toNat (by omega)
            rw [show (((p[i]).f0.toNat : Nat) : Int) = (p[i]).f0 by omega] at h1
            rw [h1, ← tm_get (by omega), w64 (x := (p[i]).f2 - (p[i]).f1) (by omega) (by omega), w64 (by omega) (by omega)]
          simp only [dates_jobs_whole.j1, Bool.false_eq_true, if_false]
          rw [hadd, w64s i p.length hlt hp]
          by_cases hi0 : i = 0
          · rw [if_neg (by omega), if_pos c0'.1, if_pos (by omega)]
          · have hq : prevOf p i = some p[i - 1] := by simp [prevOf, hi0, List.getElem?_eq_getElem (show i - 1 < p.length by omega)]
            rw [hq] at c2
            have c2' : (p[i - 1]).f2 ≤ (p[i]).f1 ∧ ¬ ((p[i - 1]).f2 = (p[i]).f1 ∧ (p[i - 1]).f0 = (p[i]).f0) := c2
            have hw : wrap64 ((i : Int) - 1) = ((i - 1 : Nat) : Int) := by rw [w64 (by omega) (by omega)]; omega
            rw [if_pos (by omega), hw, if_pos (by omega), if_pos (by omega), rd44 p (i - 1) (by omega), if_neg (by omega)]
            by_cases ce : (p[i - 1]).f2 = (p[i]).f1
            · rw [if_pos ce, if_neg (fun h => c2'.2 ⟨ce, h⟩), if_pos c0'.1, if_pos (by omega)]
            · rw [if_neg ce, if_pos c0'.1, if_pos (by omega)]
        · have hok : okPc l (prevOf p i) p[i] = false := by
            rw [Bool.eq_false_iff]
            intro h
            exact c2 (okPc_iff.1 h).2
          refine hbad hok ?_
          refine hgo false (by rw [decide_eq_false (by simpa using c1)]) _ ?_
          refine Ev.step (f := fun _ => some false) (fun k => ?_) (Ev.now _)
          have hi0 : i ≠ 0 := by
            intro h0
            apply c2
            simp [prevOf, h0, after]
          have hq : prevOf p i = some p[i - 1] := by simp [prevOf, hi0, List.getElem?_eq_getElem (show i - 1 < p.length by omega)]
          rw [hq] at c2
          have c2' : ¬ ((p[i - 1]).f2 ≤ (p[i]).f1 ∧ ¬ ((p[i - 1]).f2 = (p[i]).f1 ∧ (p[i - 1]).f0 = (p[i]).f0)) := c2
          have hw : wrap64 ((i : Int) - 1) = ((i - 1 : Nat) : Int) := by rw [w64 (by omega) (by omega)]; omega
          simp only [dates_jobs_whole.j1, Bool.false_eq_true, if_false]
          rw [if_pos (by omega), hw, if_pos (by omega), if_pos (by omega), rd44 p (i - 1) (by omega)]
          by_cases cg : (p[i - 1]).f2 > (p[i]).f1
          · rw [if_pos cg]
          · rw [if_neg cg]
            by_cases ce : (p[i - 1]).f2 = (p[i]).f1
            · rw [if_pos ce]
              by_cases cj : (p[i - 1]).f0 = (p[i]).f0
              · rw [if_pos cj]
              · exact absurd ⟨by omega, fun h => cj h.2⟩ c2'
            · exact absurd ⟨by omega, fun h => ce h.1⟩ c2'
      · have hok : okPc l (prevOf p i) p[i] = false := by
          rw [Bool.eq_false_iff]
          intro h
          exact c1 (okPc_iff.1 h).1.2.2
        refine hbad hok (hgo true (by rw [decide_eq_true c1]) _ (hjt true rfl))
    · have hok : okPc l (prevOf p i) p[i] = false := by
        rw [Bool.eq_false_iff]
        intro h
        apply c0
        have := (okPc_iff.1 h).1
        rw [w64 (by omega) (by omega)]
        omega
      refine hbad hok ?_
      refine Ev.step (fun k => ?_) (hjt true rfl)
      simp only [dates_jobs_whole.l0]
      rw [if_pos (by omega), if_pos (by omega), if_pos (by omega), rd44 p i hlt, between_f, decide_eq_false c0]
      simp only [Option.bind_some, Bool.false_eq_true, if_false]
theorem whole_f (l : List S48) (hv : valid48 l = true) (p : List Pc) (hp : p.length ≤ 9223372036854775807) : Ev (fun k => dates_jobs_whole.f k l p) (wholeB l p) := by
  unfold dates_jobs_whole.f
  have hlen := valid_len hv
  simp only [if_pos (show (0 : Int) ≤ (l.length : Int) by omega), if_pos (show ((l.length : Int) : Int).toNat ≤ 35184372088832 by omega)]
  rw [show ((l.length : Int)).toNat = l.length by omega]
  have h := whole_loop l hv p hp p.length 0 (List.replicate l.length 0) (by omega) (by simp) (fun x hx => by
    rw [(List.mem_replicate.1 hx).2]
    exact ⟨Int.le_refl _, Int.le_refl _⟩) (by show (0 : Int) ≤ 1000; omega)
  rw [List.drop_zero] at h
  exact h
theorem chain_jobs {l : List S48} : ∀ {p : List Pc} {q : Option Pc}, chain l q p = true → ∀ x ∈ p, 0 ≤ x.f0 ∧ x.f0 < (l.length : Int) ∧ (jb l x.f0.toNat).f1 ≤ x.f1 ∧ x.f1 < x.f2 ∧ x.f2 ≤ 1000
  | [], _, _, x, hx => by cases hx
  | y :: ys, q, h, x, hx => by
    rw [chain, Bool.and_eq_true] at h
    rcases List.mem_cons.1 hx with rfl | hx
    · exact (okPc_iff.1 h.1).1
    · exact chain_jobs h.2 x hx
theorem chain_pcs {l : List S48} (hv : valid48 l = true) {p : List Pc} {q : Option Pc} (h : chain l q p = true) : Pcs l.length 1000 p := fun x hx => by
  have h1 := chain_jobs h x hx
  have h2 := valid_jb hv (i := x.f0.toNat) (by omega)
  omega
theorem Check_f (l : List S48) (p : List Pc) (hl : l.length ≤ 9223372036854775807) (hp : p.length ≤ 9223372036854775807) : Ev (fun k => dates_Check.f k l p) (if valid48 l = true then (if wholeB l p = true then (endsOf l.length p, true, 0) else ([], false, 0)) else ([], false, 2)) := by
  unfold dates_Check.f
  refine Ev.bind (valid_f l hl) ?_
  cases hv : valid48 l with
  | false =>
    simp only [Bool.false_eq_true, if_false]
    exact Ev.now _
  | true =>
    simp only [if_true]
    refine Ev.bind (whole_f l hv p hp) ?_
    cases hw : wholeB l p with
    | false =>
      simp only [Bool.false_eq_true, if_false]
      exact Ev.now _
    | true =>
      simp only [if_true]
      have hc : chain l none p = true := by
        unfold wholeB at hw
        rw [Bool.and_eq_true] at hw
        exact hw.1
      refine Ev.bind (finished_f l p (valid_len hv).2 hp (pcs_jobs (chain_pcs hv hc))) ?_
      exact Ev.now _
def unitP (p : List Pc) (a : Nat) : Option Nat := (p.find? fun x => decide (x.f1 ≤ (a : Int) ∧ (a : Int) < x.f2)).map fun x => x.f0.toNat
theorem unitP_cons (x : Pc) (xs : List Pc) (a : Nat) : unitP (x :: xs) a = if x.f1 ≤ (a : Int) ∧ (a : Int) < x.f2 then some x.f0.toNat else unitP xs a := by
  unfold unitP
  rw [List.find?_cons]
  by_cases h : x.f1 ≤ (a : Int) ∧ (a : Int) < x.f2
  · rw [if_pos h, decide_eq_true h]
    rfl
  · rw [if_neg h, decide_eq_false h]
theorem chain_from {l : List S48} : ∀ {p : List Pc} {q : Pc}, chain l (some q) p = true → ∀ x ∈ p, q.f2 ≤ x.f1
  | [], _, _, x, hx => by cases hx
  | y :: ys, q, h, x, hx => by
    rw [chain, Bool.and_eq_true] at h
    have h1 := okPc_iff.1 h.1
    have h2 : q.f2 ≤ y.f1 := h1.2.1
    rcases List.mem_cons.1 hx with rfl | hx
    · exact h2
    · have := chain_from h.2 x hx
      omega
theorem unitP_none {p : List Pc} {b : Int} (h : ∀ x ∈ p, b ≤ x.f1) {a : Nat} (ha : (a : Int) < b) : unitP p a = none := by
  unfold unitP
  have : (p.find? fun x => decide (x.f1 ≤ (a : Int) ∧ (a : Int) < x.f2)) = none := by
    rw [List.find?_eq_none]
    intro x hx
    have := h x hx
    simp
    omega
  rw [this]
  rfl
theorem unitP_mem {p : List Pc} {a j : Nat} (h : unitP p a = some j) : ∃ x ∈ p, x.f1 ≤ (a : Int) ∧ (a : Int) < x.f2 ∧ x.f0.toNat = j := by
  unfold unitP at h
  cases hf : p.find? fun x => decide (x.f1 ≤ (a : Int) ∧ (a : Int) < x.f2) with
  | none => rw [hf] at h; cases h
  | some x =>
    rw [hf] at h
    have h1 := List.find?_some hf
    rw [decide_eq_true_eq] at h1
    exact ⟨x, List.mem_of_find?_eq_some hf, h1.1, h1.2, Option.some.inj h⟩
def wk (j : Nat) : List Pc → Int
  | [] => 0
  | x :: xs => (if x.f0.toNat = j then x.f2 - x.f1 else 0) + wk j xs
theorem workFrom_tm (j : Nat) : ∀ (p : List Pc) (acc : List Int), (∀ x ∈ p, x.f0.toNat < acc.length) → tm (workFrom acc p) j = tm acc j + wk j p
  | [], acc, _ => by simp [workFrom, wk]
  | x :: xs, acc, h => by
    have hx := h x (by simp)
    show tm (workFrom (acc.set x.f0.toNat (tm acc x.f0.toNat + (x.f2 - x.f1))) xs) j = _
    rw [workFrom_tm j xs _ (fun y hy => by rw [List.length_set]; exact h y (by simp [hy])), tm_set _ _ _ _ hx, wk]
    by_cases hj : j = x.f0.toNat
    · rw [if_pos hj, if_pos hj.symm, hj]
      omega
    · rw [if_neg hj, if_neg (fun e => hj e.symm)]
      omega
theorem sum_stretch {a b : Int} (ha : 0 ≤ a) (hab : a ≤ b) : ∀ H : Nat, sumN H (fun s => one (a ≤ (s : Int) ∧ (s : Int) < b)) = max 0 (min (H : Int) b - a) := by
  intro H
  induction H with
  | zero => simp [sumN]; omega
  | succ H ih =>
    simp only [sumN]
    rw [ih]
    by_cases h : a ≤ (H : Int) ∧ (H : Int) < b
    · rw [one_pos h]; omega
    · rw [one_neg h]; omega
theorem cnt_unitP {l : List S48} (hv : valid48 l = true) (j : Nat) {H : Nat} (hH : 1000 ≤ H) : ∀ {p : List Pc} {q : Option Pc}, chain l q p = true → cnt (unitP p) j H = wk j p
  | [], _, _ => by
    rw [wk]
    unfold cnt
    rw [sumN_congr (g := fun _ => 0) (fun i _ => one_neg (by simp [unitP])), sumN_zero]
  | x :: xs, q, h => by
    rw [chain, Bool.and_eq_true] at h
    have h1 := (okPc_iff.1 h.1).1
    have hj := valid_jb hv (i := x.f0.toNat) (by omega)
    have hfrom := chain_from h.2
    rw [wk, ← cnt_unitP hv j hH h.2]
    unfold cnt
    have hpt : ∀ s, s < H → one (unitP (x :: xs) s = some j) = (if x.f0.toNat = j then one (x.f1 ≤ (s : Int) ∧ (s : Int) < x.f2) else 0) + one (unitP xs s = some j) := by
      intro s _
      rw [unitP_cons]
      by_cases hin : x.f1 ≤ (s : Int) ∧ (s : Int) < x.f2
      · rw [if_pos hin, unitP_none hfrom hin.2, one_neg (by simp : ¬ (none : Option Nat) = some j), one_pos hin]
        by_cases hxj : x.f0.toNat = j
        · rw [if_pos hxj, one_pos (by rw [hxj])]; rfl
        · rw [if_neg hxj, one_neg (fun e => hxj (Option.some.inj e))]; rfl
      · rw [if_neg hin, one_neg hin]
        split <;> omega
    rw [sumN_congr hpt, sumN_add]
    congr 1
    by_cases hxj : x.f0.toNat = j
    · simp only [if_pos hxj]
      rw [sum_stretch (by omega) (by omega)]
      omega
    · simp only [if_neg hxj]
      exact sumN_zero _
theorem ends_unitP {l : List S48} (hv : valid48 l = true) (j : Nat) (hj : j < l.length) : ∀ {p : List Pc} {q : Option Pc} (acc : List Int), acc.length = l.length → chain l q p = true →
    (tm (endsFrom acc p) j = tm acc j ∧ ∀ s, unitP p s ≠ some j) ∨ ∃ e : Nat, e < 1000 ∧ tm (endsFrom acc p) j = (e : Int) + 1 ∧ unitP p e = some j ∧ ∀ s, e < s → unitP p s ≠ some j
  | [], _, acc, _, _ => Or.inl ⟨rfl, fun s => by simp [unitP]⟩
  | x :: xs, q, acc, hal, h => by
    rw [chain, Bool.and_eq_true] at h
    have h1 := (okPc_iff.1 h.1).1
    have hjv := valid_jb hv (i := x.f0.toNat) (by omega)
    have hfrom := chain_from h.2
    have hE : endsFrom acc (x :: xs) = endsFrom (acc.set x.f0.toNat x.f2) xs := rfl
    rw [hE]
    rcases ends_unitP hv j hj (acc.set x.f0.toNat x.f2) (by rw [List.length_set, hal]) h.2 with ⟨h2, h3⟩ | ⟨e, he, hT, hu, hl⟩
    · rw [h2, tm_set _ _ _ _ (by omega)]
      by_cases hjx : j = x.f0.toNat
      · right
        rw [if_pos hjx]
        refine ⟨(x.f2 - 1).toNat, by omega, by omega, ?_, fun s hs => ?_⟩
        · rw [unitP_cons, if_pos (by omega), hjx]
        · rw [unitP_cons, if_neg (by omega)]
          exact h3 s
      · left
        rw [if_neg hjx]
        refine ⟨rfl, fun s => ?_⟩
        rw [unitP_cons]
        split
        · intro he; exact hjx (Option.some.inj he).symm
        · exact h3 s
    · right
      have hge : x.f2 ≤ (e : Int) := by
        by_cases hc : x.f2 ≤ (e : Int)
        · exact hc
        · rw [unitP_none hfrom (by omega)] at hu
          cases hu
      refine ⟨e, he, hT, ?_, fun s hs => ?_⟩
      · rw [unitP_cons, if_neg (by omega)]; exact hu
      · rw [unitP_cons, if_neg (by omega)]; exact hl s hs
theorem whole_parts {l : List S48} {p : List Pc} (h : wholeB l p = true) : chain l none p = true ∧ workOf l.length p = times l := by
  unfold wholeB at h
  rw [Bool.and_eq_true, decide_eq_true_eq] at h
  exact h
theorem times_tm (l : List S48) (j : Nat) : tm (times l) j = timf l j := by
  unfold timf tm times jb
  rw [List.getD_eq_getElem?_getD, List.getD_eq_getElem?_getD, List.getElem?_map]
  cases l[j]? with
  | none => rfl
  | some x => simp
theorem whole_wk {l : List S48} (hv : valid48 l = true) {p : List Pc} (h : wholeB l p = true) {j : Nat} (hj : j < l.length) : wk j p = timf l j := by
  obtain ⟨hc, hw⟩ := whole_parts h
  have h1 := workFrom_tm j p (List.replicate l.length 0) (fun x hx => by
    have := chain_jobs hc x hx
    rw [List.length_replicate]
    omega)
  have h2 : tm (List.replicate l.length 0) j = 0 := by simp [tm, List.getD_eq_getElem?_getD, List.getElem?_replicate, hj]
  rw [h2, Int.zero_add] at h1
  rw [← h1, ← times_tm, ← hw]
  rfl
theorem whole_sched {l : List S48} (hv : valid48 l = true) {p : List Pc} (h : wholeB l p = true) {H : Nat} (hH : 1000 ≤ H) : Sched l.length (timf l) (relf l) (unitP p) (endf l p) H where
  job := fun a j _ hu => by
    obtain ⟨x, hx, h1, h2, rfl⟩ := unitP_mem hu
    have := chain_jobs (whole_parts h).1 x hx
    refine ⟨by omega, ?_⟩
    unfold relf
    omega
  full := fun j hj => by rw [cnt_unitP hv j hH (whole_parts h).1, whole_wk hv h hj]
  last := fun j hj => by
    rcases ends_unitP hv j hj (List.replicate l.length 0) (by simp) (whole_parts h).1 with ⟨_, h3⟩ | ⟨e, he, hT, hu, hl⟩
    · exfalso
      have h1 := cnt_unitP hv j hH (whole_parts h).1
      rw [whole_wk hv h hj] at h1
      have h2 : cnt (unitP p) j H = cnt (unitP p) j 0 := cnt_still (by omega) (fun s _ _ => h3 s)
      have h4 := (valid_jb hv hj).1
      have h5 : cnt (unitP p) j 0 = 0 := rfl
      have h6 : timf l j = (jb l j).f0 := rfl
      omega
    · exact ⟨e, by omega, hT, hu, fun s hs _ => hl s hs⟩
theorem chain_snoc {l : List S48} {x : Pc} : ∀ {p : List Pc} {q : Option Pc}, chain l q (p ++ [x]) = (chain l q p && okPc l (p.getLast?.or q) x)
  | [], q => by simp [chain]
  | y :: ys, q => by
    rw [List.cons_append, chain, chain, chain_snoc, Bool.and_assoc]
    congr 2
    cases ys with
    | nil => rfl
    | cons z zs =>
      rw [List.getLast?_cons_cons]
      cases hw : (z :: zs).getLast? with
      | none => rw [List.getLast?_eq_none_iff] at hw; cases hw
      | some w => rfl
theorem wk_append (j : Nat) : ∀ p q : List Pc, wk j (p ++ q) = wk j p + wk j q
  | [], q => by simp [wk]
  | x :: xs, q => by rw [List.cons_append, wk, wk, wk_append j xs q]; omega
theorem wk_addPc (j i : Nat) (out : List Pc) (a : Int) : wk j (addPc out (i : Int) a) = wk j out + one (j = i) := by
  have h1 : wk j [(⟨(i : Int), a, a + 1⟩ : Pc)] = one (j = i) := by
    show (if ((i : Int)).toNat = j then (a + 1) - a else 0) + 0 = _
    by_cases h : j = i
    · rw [one_pos h, if_pos (by omega)]; omega
    · rw [one_neg h, if_neg (by omega)]; rfl
  rcases addPc_cases out i a with ⟨q, x, ho, h0, h2, hr⟩ | hr
  · rw [hr, ho, wk_append, wk_append]
    have e1 : wk j [x] = (if x.f0.toNat = j then x.f2 - x.f1 else 0) + 0 := rfl
    have e2 : wk j [(⟨(i : Int), x.f1, a + 1⟩ : Pc)] = (if ((i : Int)).toNat = j then (a + 1) - x.f1 else 0) + 0 := rfl
    rw [e1, e2, h0, h2]
    by_cases h : j = i
    · rw [one_pos h, if_pos (by omega), if_pos (by omega)]; omega
    · rw [one_neg h, if_neg (by omega), if_neg (by omega)]; omega
  · rw [hr, wk_append, h1]
theorem stt_wk (short : Bool) (l : List S48) (j : Nat) : ∀ a : Nat, wk j (stt short l a).2 = cnt (unitOf short l) j a := by
  intro a
  induction a with
  | zero => rfl
  | succ a ih =>
    rw [stt_succ, cnt_succ, ← ih]
    have hu : unitOf short l a = pick short l (stt short l a).1 a := rfl
    unfold stepF
    split
    · rename_i hp
      rw [hu, hp, one_neg (by simp)]
      omega
    · rename_i i hp
      show wk j (addPc (stt short l a).2 (i : Int) a) = _
      rw [wk_addPc, hu, hp]
      congr 1
      by_cases h : j = i
      · rw [one_pos h, one_pos (by rw [h])]
      · rw [one_neg h, one_neg (fun e => h (Option.some.inj e).symm)]
theorem stt_chain {l : List S48} (hv : valid48 l = true) (short : Bool) : ∀ a : Nat, a ≤ 300 → chain l none (stt short l a).2 = true ∧ ∀ x ∈ (stt short l a).2, x.f2 ≤ (a : Int) := by
  intro a
  induction a with
  | zero => exact fun _ => ⟨rfl, fun x hx => by cases hx⟩
  | succ a ih =>
    intro ha
    obtain ⟨h1, h2⟩ := ih (by omega)
    rw [stt_succ]
    have hu : unitOf short l a = pick short l (stt short l a).1 a := rfl
    unfold stepF
    split
    · exact ⟨h1, fun x hx => by have := h2 x hx; omega⟩
    · rename_i i hp
      rw [hp] at hu
      have hr := unit_ready hu
      have hrj : relf l i = (jb l i).f1 := rfl
      show chain l none (addPc (stt short l a).2 (i : Int) a) = true ∧ ∀ x ∈ addPc (stt short l a).2 (i : Int) a, x.f2 ≤ _
      generalize ho : (stt short l a).2 = out at h1 h2
      rcases addPc_cases out i a with ⟨q, x, hq, h0, hx2, hres⟩ | hres
      · rw [hres]
        subst hq
        rw [chain_snoc, Bool.and_eq_true] at h1
        have hok := okPc_iff.1 h1.2
        refine ⟨?_, fun y hy => ?_⟩
        · rw [chain_snoc, Bool.and_eq_true]
          refine ⟨h1.1, okPc_iff.2 ⟨⟨by show (0 : Int) ≤ i; omega, by show (i : Int) < _; omega, ?_, by show x.f1 < (a : Int) + 1; omega, by show (a : Int) + 1 ≤ 1000; omega⟩, ?_⟩⟩
          · have := hok.1.2.2.1
            rw [h0] at this
            exact this
          · have h5 := hok.2
            rw [h0.symm]
            generalize (q.getLast?.or none) = z at h5 ⊢
            cases z with
            | none => trivial
            | some z => exact h5
        · rcases List.mem_append.1 hy with hy | hy
          · have := h2 y (by simp [hy])
            omega
          · simp at hy
            subst hy
            show (a : Int) + 1 ≤ _
            omega
      · rcases hcase : out.getLast? with _ | z
        · have hnil := List.getLast?_eq_none_iff.1 hcase
          subst hnil
          rw [hres]
          refine ⟨?_, fun y hy => ?_⟩
          · show chain l none ([] ++ [_]) = true
            rw [chain_snoc, Bool.and_eq_true]
            refine ⟨rfl, okPc_iff.2 ⟨⟨by show (0 : Int) ≤ i; omega, by show (i : Int) < _; omega, ?_, by show (a : Int) < (a : Int) + 1; omega, by show (a : Int) + 1 ≤ 1000; omega⟩, trivial⟩⟩
            show (jb l ((i : Int)).toNat).f1 ≤ (a : Int)
            rw [show ((i : Int)).toNat = i by omega]
            omega
          · simp at hy
            subst hy
            show (a : Int) + 1 ≤ _
            omega
        · have hz : z.f2 ≤ (a : Int) := h2 z (List.mem_of_getLast? hcase)
          have hne : ¬ (z.f2 = (a : Int) ∧ z.f0 = (i : Int)) := by
            rintro ⟨e1, e2⟩
            have hlen := congrArg List.length hres
            unfold addPc at hlen
            rw [hcase] at hlen
            simp only [e1, e2, and_self, if_true] at hlen
            simp at hlen
          rw [hres]
          refine ⟨?_, fun y hy => ?_⟩
          · rw [chain_snoc, Bool.and_eq_true, hcase]
            refine ⟨h1, okPc_iff.2 ⟨⟨by show (0 : Int) ≤ i; omega, by show (i : Int) < _; omega, ?_, by show (a : Int) < (a : Int) + 1; omega, by show (a : Int) + 1 ≤ 1000; omega⟩, ?_⟩⟩
            · show (jb l ((i : Int)).toNat).f1 ≤ (a : Int)
              rw [show ((i : Int)).toNat = i by omega]
              omega
            · exact ⟨hz, hne⟩
          · rcases List.mem_append.1 hy with hy | hy
            · have := h2 y hy
              omega
            · simp at hy
              subst hy
              show (a : Int) + 1 ≤ _
              omega
theorem list_tm_ext {s t : List Int} (hl : s.length = t.length) (h : ∀ i, i < s.length → tm s i = tm t i) : s = t := by
  refine List.ext_getElem hl (fun i h1 h2 => ?_)
  rw [← tm_get h1, ← tm_get h2]
  exact h i h1
theorem plan_whole {l : List S48} (hv : valid48 l = true) (short : Bool) : wholeB l (planOf short l) = true := by
  have hc : chain l none (planOf short l) = true := (stt_chain hv short 300 (Nat.le_refl _)).1
  unfold wholeB
  rw [Bool.and_eq_true, decide_eq_true_eq]
  refine ⟨hc, list_tm_ext ?_ (fun i hi => ?_)⟩
  · rw [workOf, workFrom_length, List.length_replicate, times_len]
  · rw [workOf, workFrom_length, List.length_replicate] at hi
    rw [workOf, workFrom_tm i _ _ (fun x hx => by
      have := chain_jobs hc x hx
      rw [List.length_replicate]
      omega), times_tm]
    have h2 : tm (List.replicate l.length 0) i = 0 := by simp [tm, List.getD_eq_getElem?_getD, List.getElem?_replicate, hi]
    have h3 : wk i (planOf short l) = cnt (unitOf short l) i 300 := stt_wk short l i 300
    rw [h2, h3, plan_full hv short i (Nat.le_refl _)]
    omega
end Go.Proofs.Ytaboleeclpllpaa.M


namespace Go.Proofs.Ytaboleeclpllpaa.T
set_option linter.unusedVariables false
set_option linter.unusedSimpArgs false
section
variable {n : Nat} {tim rel : Nat → Int} {u : Nat → Option Nat} {C : Nat → Int} {H : Nat}
theorem Sched.unborn (h : Sched n tim rel u C H) {j a : Nat} (hj : j < n) (ha : a ≤ H) (hr : (a : Int) ≤ rel j) : cnt u j a = 0 := by
  have : cnt u j a = cnt u j 0 := cnt_still (by omega) (fun s _ hs he => by
    have := (h.job s j (by omega) he).2
    omega)
  rw [this]
  rfl
def leftAt (tim rel : Nat → Int) (u : Nat → Option Nat) (a b : Nat) (j : Nat) : Int := if rel j ≤ (a : Int) then tim j - cnt u j b else 0
theorem leftAt_nn (h : Sched n tim rel u C H) {a b j : Nat} (hj : j < n) (hb : b ≤ H) : 0 ≤ leftAt tim rel u a b j := by
  unfold leftAt
  split
  · have := h.le hj b hb
    omega
  · omega
theorem Sched.count (h : Sched n tim rel u C H) (ht : ∀ j, j < n → 0 < tim j) {a : Nat} (ha : a ≤ H) : sumN n (fun j => one ((a : Int) < C j)) = size n (fun j => 0 < leftAt tim rel u a a j) + sumN n (fun j => one (¬ rel j ≤ (a : Int))) := by
  unfold size
  rw [← sumN_add]
  refine sumN_congr (fun j hj => ?_)
  have hu := h.unfinished hj ha
  show one ((a : Int) < C j) = one (0 < leftAt tim rel u a a j) + one (¬ rel j ≤ (a : Int))
  unfold leftAt
  by_cases hr : rel j ≤ (a : Int)
  · rw [if_pos hr, one_neg (show ¬ ¬ rel j ≤ (a : Int) from fun h => h hr)]
    by_cases hc : cnt u j a < tim j
    · rw [one_pos (hu.1 hc), one_pos (by omega)]; rfl
    · rw [one_neg (fun h => hc (hu.2 h)), one_neg (by omega)]; rfl
  · have h0 := h.unborn hj ha (by omega)
    have := ht j hj
    rw [if_neg hr, one_pos hr, one_pos (hu.1 (by omega)), one_neg (show ¬ (0 : Int) < 0 by omega)]
    rfl
theorem Sched.total (h : Sched n tim rel u C H) : sumN n C = sumN H (fun a => sumN n (fun j => one ((a : Int) < C j))) := by
  rw [← sumN_swap]
  refine sumN_congr (fun j hj => ?_)
  have hb := h.end_le hj
  have := Go.Proofs.Ytaboleeclpllpaa.M.sum_stretch (a := 0) (b := C j) (by omega) (by omega) H
  have e : sumN H (fun s => one (0 ≤ (s : Int) ∧ (s : Int) < C j)) = sumN H (fun s => one ((s : Int) < C j)) := sumN_congr (fun s _ => by
    by_cases hc : (s : Int) < C j
    · rw [one_pos hc, one_pos ⟨by omega, hc⟩]
    · rw [one_neg hc, one_neg (fun h => hc h.2)])
  rw [e] at this
  omega
end
theorem below_congr {n : Nat} {x y x' y' : Nat → Int} (h : Below' n x y) (hx : ∀ i, i < n → x' i = x i) (hy : ∀ i, i < n → y' i = y i) : Below' n x' y' := by
  intro S
  obtain ⟨S', h1, h2⟩ := h S
  refine ⟨S', h1, ?_⟩
  have e1 : outside n (fun i => S' i = true) x' = outside n (fun i => S' i = true) x := sumN_congr (fun i hi => by rw [hx i hi])
  have e2 : outside n (fun i => S i = true) y' = outside n (fun i => S i = true) y := sumN_congr (fun i hi => by rw [hy i hi])
  omega
theorem below_arrivals {n : Nat} {x y : Nat → Int} (N : Nat → Prop) [DecidablePred N] (p : Nat → Int) (hp : ∀ i, i < n → 0 ≤ p i) (hx : ∀ i, i < n → N i → x i = 0) (hy : ∀ i, i < n → N i → y i = 0) (h : Below' n x y) :
    ∀ m : Nat, m ≤ n → Below' n (fun i => if i < m ∧ N i then p i else x i) (fun i => if i < m ∧ N i then p i else y i)
  | 0, _ => below_congr h (fun i _ => by rw [if_neg (by omega)]) (fun i _ => by rw [if_neg (by omega)])
  | m + 1, hm => by
    have ih := below_arrivals N p hp hx hy h m (by omega)
    by_cases hN : N m
    · have h1 := below_arrive ih (z := m) (by omega) (hp m (by omega)) (by
        show (if m < m ∧ N m then p m else x m) = 0
        rw [if_neg (by omega)]
        exact hx m (by omega) hN) (by
        show (if m < m ∧ N m then p m else y m) = 0
        rw [if_neg (by omega)]
        exact hy m (by omega) hN)
      refine below_congr h1 (fun i _ => ?_) (fun i _ => ?_)
      · by_cases him : i = m
        · subst him
          rw [if_pos ⟨by omega, hN⟩]
          simp
        · simp only [if_neg him]
          by_cases hc : i < m ∧ N i
          · rw [if_pos hc, if_pos ⟨by omega, hc.2⟩]
          · rw [if_neg hc, if_neg (fun h => hc ⟨by omega, h.2⟩)]
      · by_cases him : i = m
        · subst him
          rw [if_pos ⟨by omega, hN⟩]
          simp
        · simp only [if_neg him]
          by_cases hc : i < m ∧ N i
          · rw [if_pos hc, if_pos ⟨by omega, hc.2⟩]
          · rw [if_neg hc, if_neg (fun h => hc ⟨by omega, h.2⟩)]
    · refine below_congr ih (fun i _ => ?_) (fun i _ => ?_)
      · by_cases hc : i < m ∧ N i
        · rw [if_pos hc, if_pos ⟨by omega, hc.2⟩]
        · rw [if_neg hc, if_neg (fun h => hc ⟨by
            by_cases him : i = m
            · subst him; exact absurd h.2 hN
            · omega, h.2⟩)]
      · by_cases hc : i < m ∧ N i
        · rw [if_pos hc, if_pos ⟨by omega, hc.2⟩]
        · rw [if_neg hc, if_neg (fun h => hc ⟨by
            by_cases him : i = m
            · subst him; exact absurd h.2 hN
            · omega, h.2⟩)]
section
variable {n : Nat} {tim rel : Nat → Int} {u v : Nat → Option Nat} {C D : Nat → Int} {H : Nat}
theorem srpt_below (hu : Sched n tim rel u C H) (hv : Sched n tim rel v D H) (ht : ∀ j, j < n → 0 < tim j)
    (srpt : ∀ a i, a < H → i < n → rel i ≤ a → cnt u i a < tim i → ∃ j, u a = some j ∧ tim j - cnt u j a ≤ tim i - cnt u i a) : ∀ a : Nat, a ≤ H → Below' n (leftAt tim rel u a a) (leftAt tim rel v a a) := by
  intro a
  induction a with
  | zero =>
    intro _
    refine below_congr (Below'.refl n (leftAt tim rel u 0 0)) (fun i _ => rfl) (fun i _ => ?_)
    unfold leftAt
    have h1 : cnt u i 0 = 0 := rfl
    have h2 : cnt v i 0 = 0 := rfl
    rw [h1, h2]
  | succ a ih =>
    intro ha
    have h0 := ih (by omega)
    have hw : Below' n (leftAt tim rel u a (a + 1)) (leftAt tim rel v a (a + 1)) := by
      refine below_work h0 (fun i hi => leftAt_nn hu hi (by omega)) (fun i hi => leftAt_nn hv hi (by omega)) ?_ ?_
      · cases hua : u a with
        | none =>
          left
          refine ⟨fun i hi => ?_, fun i hi => ?_⟩
          · unfold leftAt
            by_cases hr : rel i ≤ (a : Int)
            · rw [if_pos hr]
              by_cases hc : cnt u i a < tim i
              · obtain ⟨j, hj, _⟩ := srpt a i (by omega) hi hr hc
                rw [hua] at hj
                cases hj
              · have := hu.le hi a (by omega)
                omega
            · rw [if_neg hr]
          · unfold leftAt
            rw [cnt_succ, hua, one_neg (by simp)]
            split <;> omega
        | some w =>
          right
          have hjob := hu.job a w (by omega) hua
          have hopen := hu.open hjob.1 (Nat.le_refl a) (by omega) hua
          refine ⟨w, hjob.1, ?_, fun i hi hpos => ?_, fun i hi => ?_⟩
          · unfold leftAt
            rw [if_pos hjob.2]
            omega
          · unfold leftAt at hpos ⊢
            rw [if_pos hjob.2]
            by_cases hr : rel i ≤ (a : Int)
            · rw [if_pos hr] at hpos ⊢
              obtain ⟨j, hj, hle⟩ := srpt a i (by omega) hi hr (by omega)
              rw [hua] at hj
              cases hj
              exact hle
            · rw [if_neg hr] at hpos
              omega
          · unfold leftAt
            rw [cnt_succ, hua]
            by_cases hiw : i = w
            · subst hiw
              rw [if_pos hjob.2, if_pos rfl, one_pos rfl]
              simp only [if_pos hjob.2]
              omega
            · rw [if_neg hiw, one_neg (fun e => hiw (Option.some.inj e).symm)]
              split <;> omega
      · cases hva : v a with
        | none =>
          left
          intro i hi
          unfold leftAt
          rw [cnt_succ, hva, one_neg (by simp)]
          split <;> omega
        | some w =>
          right
          have hjob := hv.job a w (by omega) hva
          have hopen := hv.open hjob.1 (Nat.le_refl a) (by omega) hva
          refine ⟨w, hjob.1, ?_, fun i hi => ?_⟩
          · unfold leftAt
            rw [if_pos hjob.2]
            omega
          · unfold leftAt
            rw [cnt_succ, hva]
            by_cases hiw : i = w
            · subst hiw
              rw [if_pos hjob.2, if_pos rfl, one_pos rfl]
              simp only [if_pos hjob.2]
              omega
            · rw [if_neg hiw, one_neg (fun e => hiw (Option.some.inj e).symm)]
              split <;> omega
    have harr := below_arrivals (fun i => rel i ≤ ((a + 1 : Nat) : Int) ∧ ¬ rel i ≤ (a : Int)) tim (fun i hi => by have := ht i hi; omega) (fun i _ hN => by unfold leftAt; rw [if_neg hN.2]) (fun i _ hN => by unfold leftAt; rw [if_neg hN.2]) hw n (Nat.le_refl n)
    refine below_congr harr (fun i hi => ?_) (fun i hi => ?_)
    · unfold leftAt
      by_cases h1 : rel i ≤ (a : Int)
      · have n1 : ¬ (i < n ∧ (rel i ≤ ((a + 1 : Nat) : Int) ∧ ¬ rel i ≤ (a : Int))) := fun h => h.2.2 h1
        have n2 : rel i ≤ ((a + 1 : Nat) : Int) := by omega
        rw [if_pos n2, if_neg n1, if_pos h1]
      · by_cases h2 : rel i ≤ ((a + 1 : Nat) : Int)
        · have n1 : i < n ∧ (rel i ≤ ((a + 1 : Nat) : Int) ∧ ¬ rel i ≤ (a : Int)) := ⟨hi, h2, h1⟩
          rw [if_pos h2, if_pos n1, hu.unborn hi ha (by omega)]
          omega
        · have n1 : ¬ (i < n ∧ (rel i ≤ ((a + 1 : Nat) : Int) ∧ ¬ rel i ≤ (a : Int))) := fun h => h2 h.2.1
          rw [if_neg h2, if_neg n1, if_neg h1]
    · unfold leftAt
      by_cases h1 : rel i ≤ (a : Int)
      · have n1 : ¬ (i < n ∧ (rel i ≤ ((a + 1 : Nat) : Int) ∧ ¬ rel i ≤ (a : Int))) := fun h => h.2.2 h1
        have n2 : rel i ≤ ((a + 1 : Nat) : Int) := by omega
        rw [if_pos n2, if_neg n1, if_pos h1]
      · by_cases h2 : rel i ≤ ((a + 1 : Nat) : Int)
        · have n1 : i < n ∧ (rel i ≤ ((a + 1 : Nat) : Int) ∧ ¬ rel i ≤ (a : Int)) := ⟨hi, h2, h1⟩
          rw [if_pos h2, if_pos n1, hv.unborn hi ha (by omega)]
          omega
        · have n1 : ¬ (i < n ∧ (rel i ≤ ((a + 1 : Nat) : Int) ∧ ¬ rel i ≤ (a : Int))) := fun h => h2 h.2.1
          rw [if_neg h2, if_neg n1, if_neg h1]
theorem srpt_least (hu : Sched n tim rel u C H) (hv : Sched n tim rel v D H) (ht : ∀ j, j < n → 0 < tim j)
    (srpt : ∀ a i, a < H → i < n → rel i ≤ a → cnt u i a < tim i → ∃ j, u a = some j ∧ tim j - cnt u j a ≤ tim i - cnt u i a) : sumN n C ≤ sumN n D := by
  rw [hu.total, hv.total]
  refine sumN_le (fun a ha => ?_)
  rw [hu.count ht (by omega), hv.count ht (by omega)]
  have := below_count (srpt_below hu hv ht srpt a (by omega)) (fun i hi => leftAt_nn hu hi (by omega)) (fun i hi => leftAt_nn hv hi (by omega))
  omega
end
end Go.Proofs.Ytaboleeclpllpaa.T
namespace Go.Proofs.Ytaboleeclpllpaa.M
open Go.RowKit Go.Proofs.YtaboleeclpllpaaW.PrintWords Go.Proofs.YtaboleeclpllpaaW.PrintLast Go.Proofs.YtaboleeclpllpaaW.PrintMore Go.Proofs.Ytaboleeclpllpaa.P Go.Proofs.Ytaboleeclpllpaa.T
set_option linter.unusedVariables false
set_option linter.unusedSimpArgs false
theorem plan_srpt (l : List S48) : ∀ a i : Nat, i < l.length → relf l i ≤ a → cnt (unitOf true l) i a < timf l i → ∃ j, unitOf true l a = some j ∧ timf l j - cnt (unitOf true l) j a ≤ timf l i - cnt (unitOf true l) i a := by
  intro a i hi hr hc
  have h := stt_tm true l i a
  obtain ⟨j, hj, hle⟩ := pickN_least (short := true) (l := l) (t := (stt true l a).1) (a := a) hi ⟨hr, by omega⟩
  rw [if_pos rfl, h, stt_tm true l j a] at hle
  exact ⟨j, hj, hle⟩
theorem short_best {l : List S48} (hv : valid48 l = true) {u : Nat → Option Nat} {D : Nat → Int} {H : Nat} (hH : 300 ≤ H) (h : Sched l.length (timf l) (relf l) u D H) : sumN l.length (endf l (planOf true l)) ≤ sumN l.length D :=
  srpt_least (plan_sched hv true hH) h (fun j hj => (valid_jb hv hj).1) (fun a i _ hi hr hc => plan_srpt l a i hi hr hc)
theorem sumN_shift (f : Nat → Int) : ∀ n : Nat, sumN (n + 1) f = f 0 + sumN n (fun i => f (i + 1))
  | 0 => by simp [sumN]
  | n + 1 => by
    have := sumN_shift f n
    simp only [sumN] at this ⊢
    omega
theorem total_sumN : ∀ e : List Int, total e = sumN e.length (tm e)
  | [] => rfl
  | x :: xs => by
    rw [total_cons, total_sumN xs, List.length_cons, sumN_shift]
    rfl
theorem ends_total (l : List S48) (p : List Pc) : total (endsOf l.length p) = sumN l.length (endf l p) := by
  rw [total_sumN, endsOf_length]
  rfl
end Go.Proofs.Ytaboleeclpllpaa.M


namespace Go.Proofs.Ytaboleeclpllpaa.Open
open Go.RowKit Go.ChangeShapes Go.WideShapes Go.Deep Go.Proofs.YtaboleeclpllpaaW.PrintWords Go.Proofs.Ytaboleeclpllpaa.P
set_option linter.unusedVariables false
set_option linter.unusedSimpArgs false
def wfi (x : Int) : Prop := -9223372036854775808 ≤ x ∧ x ≤ 9223372036854775807
theorem wfi_of {x : Int} (h : (Lit.int .i64 x).wf = true) : wfi x := by
  simp only [Lit.wf, Bool.and_eq_true, decide_eq_true_eq] at h
  exact ⟨h.1, h.2⟩
section
variable {H : Type} {enc : TypeId × Value → H} {W : World} {base : Nat} {spare : Nat → Bool} {held : Bool} {fuel : Nat} {y : DataW H × List MemPlace}
theorem open_i64 {t : TypeId} {P : Program} (hu : P.underlying t = some (.int .i64)) {cs : List Value} (h : DataW.trod enc P W base spare held fuel t cs = some y) : ∃ x : Int, cs = [.int .i64 x] ∧ wfi x := by
  obtain ⟨x, hx, _, hw⟩ := DataW.trod_int hu h
  exact ⟨x, hx, wfi_of hw⟩
theorem open_struct4 {P : Program} {e ti : TypeId} {f0 f1 f2 f3 : Field} (he : P.underlying e = some (.struct #[f0, f1, f2, f3])) (hC : P.cellsOf e = 4) (hu : P.underlying ti = some (.int .i64)) (hk : P.cellsOf ti = 1)
    (h0 : f0.type = ti ∧ f0.offset = 0) (h1 : f1.type = ti ∧ f1.offset = 1) (h2 : f2.type = ti ∧ f2.offset = 2) (h3 : f3.type = ti ∧ f3.offset = 3)
    {cs : List Value} (h : DataW.trod enc P W base spare held fuel e cs = some y) :
    ∃ x0 x1 x2 x3 : Int, cs = [.int .i64 x0, .int .i64 x1, .int .i64 x2, .int .i64 x3] ∧ wfi x0 ∧ wfi x1 ∧ wfi x2 ∧ wfi x3 := by
  obtain ⟨ys, n, _, _, hlen, hyl, hf⟩ := DataW.trod_struct he h
  rw [hC] at hlen
  match cs, hlen with
  | [c0, c1, c2, c3], _ =>
    match ys, hyl with
    | [y0, y1, y2, y3], _ =>
      have g0 := hf 0 f0 rfl
      have g1 := hf 1 f1 rfl
      have g2 := hf 2 f2 rfl
      have g3 := hf 3 f3 rfl
      rw [h0.1, h0.2, hk] at g0
      rw [h1.1, h1.2, hk] at g1
      rw [h2.1, h2.2, hk] at g2
      rw [h3.1, h3.2, hk] at g3
      obtain ⟨x0, e0, w0⟩ := open_i64 hu g0
      obtain ⟨x1, e1, w1⟩ := open_i64 hu g1
      obtain ⟨x2, e2, w2⟩ := open_i64 hu g2
      obtain ⟨x3, e3, w3⟩ := open_i64 hu g3
      simp at e0 e1 e2 e3
      exact ⟨x0, x1, x2, x3, by rw [e0, e1, e2, e3], w0, w1, w2, w3⟩
theorem open_struct3 {P : Program} {e ti : TypeId} {f0 f1 f2 : Field} (he : P.underlying e = some (.struct #[f0, f1, f2])) (hC : P.cellsOf e = 3) (hu : P.underlying ti = some (.int .i64)) (hk : P.cellsOf ti = 1)
    (h0 : f0.type = ti ∧ f0.offset = 0) (h1 : f1.type = ti ∧ f1.offset = 1) (h2 : f2.type = ti ∧ f2.offset = 2)
    {cs : List Value} (h : DataW.trod enc P W base spare held fuel e cs = some y) :
    ∃ x0 x1 x2 : Int, cs = [.int .i64 x0, .int .i64 x1, .int .i64 x2] ∧ wfi x0 ∧ wfi x1 ∧ wfi x2 := by
  obtain ⟨ys, n, _, _, hlen, hyl, hf⟩ := DataW.trod_struct he h
  rw [hC] at hlen
  match cs, hlen with
  | [c0, c1, c2], _ =>
    match ys, hyl with
    | [y0, y1, y2], _ =>
      have g0 := hf 0 f0 rfl
      have g1 := hf 1 f1 rfl
      have g2 := hf 2 f2 rfl
      rw [h0.1, h0.2, hk] at g0
      rw [h1.1, h1.2, hk] at g1
      rw [h2.1, h2.2, hk] at g2
      obtain ⟨x0, e0, w0⟩ := open_i64 hu g0
      obtain ⟨x1, e1, w1⟩ := open_i64 hu g1
      obtain ⟨x2, e2, w2⟩ := open_i64 hu g2
      simp at e0 e1 e2
      exact ⟨x0, x1, x2, by rw [e0, e1, e2], w0, w1, w2⟩
theorem open_rows {α : Type} {P : Program} (d : Kd α) (good : α → Prop) {t e : TypeId} (ht : P.underlying t = some (.slice e)) (hsz : P.cellsOf e = d.sz)
    (hel : ∀ (n : Nat) (cs : List Value) (y : DataW H × List MemPlace), DataW.trod enc P W base spare held n e cs = some y → ∃ x : α, d.K W x cs ∧ good x)
    {a : Option Addr} {len cap : Nat} {dd : DataW H} {ps : List MemPlace} (h : DataW.Trod enc P W base spare held t (.slice a len cap) dd ps) :
    ∃ l : List α, l.length = len ∧ Kd.C d W a len l ∧ len ≤ cap ∧ ∀ x ∈ l, good x := by
  obtain ⟨fuel, hf⟩ := h
  rcases open_slice ht hf with ⟨hcs, _⟩ | ⟨a', len', cap', m, n, D, Pl, hcs, _, hl, hm, hmm, _, hi⟩
  · simp [Value.cells] at hcs
    obtain ⟨rfl, rfl, rfl⟩ := hcs
    exact ⟨[], rfl, ⟨rfl, by omega, fun h => by omega⟩, Nat.le_refl _, fun x hx => by cases hx⟩
  · simp [Value.cells] at hcs
    obtain ⟨rfl, rfl, rfl⟩ := hcs
    have hlm : len ≤ m := by rw [hmm]; split <;> omega
    have hM : len ≤ 9223372036854775807 := by unfold maxLen at hm; omega
    have hx : ∀ k : Nat, k ≤ len → ∃ l : List α, l.length = k ∧ (∀ j p, l[j]? = some p → ∃ cs, W.cells? base (a'.add (j * P.cellsOf e)) (P.cellsOf e) = some cs ∧ d.K W p cs) ∧ ∀ x ∈ l, good x := by
      intro k
      induction k with
      | zero => exact fun _ => ⟨[], rfl, fun j p hj => by simp at hj, fun x hx => by cases hx⟩
      | succ k ih =>
        intro hk
        obtain ⟨l, hll, h1, h2⟩ := ih (by omega)
        obtain ⟨cs, hc, htr⟩ := hi k (by omega)
        obtain ⟨x, hK, hg⟩ := hel _ _ _ htr
        refine ⟨l ++ [x], by simp [hll], fun j p hj => ?_, fun z hz => ?_⟩
        · by_cases hjk : j < l.length
          · rw [List.getElem?_append_left hjk] at hj
            exact h1 j p hj
          · have hjl : j = l.length := by
              have := (List.getElem?_eq_some_iff.1 hj).1
              simp at this
              omega
            subst hjl
            simp at hj
            subst hj
            rw [hll]
            exact ⟨cs, hc, hK⟩
        · rcases List.mem_append.1 hz with hz | hz
          · exact h2 z hz
          · simp at hz
            subst hz
            exact hg
    obtain ⟨l, hll, h1, h2⟩ := hx len (Nat.le_refl _)
    refine ⟨l, hll, ⟨hll, hM, fun _ => ⟨a', rfl, fun j p hj => ?_⟩⟩, hl, h2⟩
    obtain ⟨cs, hc, hk⟩ := h1 j p hj
    obtain ⟨_, hcl, hat⟩ := World.cells?_some hc
    refine ⟨cs, by rw [hcl, hsz], hk, fun i u hu => ?_⟩
    have hil : i < P.cellsOf e := by have := (List.getElem?_eq_some_iff.1 hu).1; omega
    have := hat i hil
    rw [Go.Deep.add_add, hsz] at this
    rw [this, hu]
end
def W43 (x : S43) : Prop := wfi x.f0 ∧ wfi x.f1 ∧ wfi x.f2 ∧ wfi x.f3
def W36 (x : S36) : Prop := wfi x.f0 ∧ wfi x.f1 ∧ wfi x.f2
section
variable {H : Type} {enc : TypeId × Value → H} {W : World} {base : Nat} {spare : Nat → Bool} {held : Bool} {a : Option Addr} {len cap : Nat} {dd : DataW H} {ps : List MemPlace}
theorem rows_43 (h : DataW.Trod enc Try.prog W base spare held 22 (.slice a len cap) dd ps) : ∃ l : List S43, l.length = len ∧ Kd.C k43 W a len l ∧ len ≤ cap ∧ ∀ x ∈ l, W43 x :=
  open_rows k43 W43 Try.underlying22 (by kernel_rfl) (fun n cs y hy => by
    obtain ⟨x0, x1, x2, x3, rfl, hw⟩ := open_struct4 Try.underlying43 (by kernel_rfl) Try.underlying3 (by kernel_rfl) ⟨rfl, rfl⟩ ⟨rfl, rfl⟩ ⟨rfl, rfl⟩ ⟨rfl, rfl⟩ hy
    exact ⟨⟨x0, x1, x2, x3⟩, k43_mk _ _, hw⟩) h
theorem rows_36 (h : DataW.Trod enc Try.prog W base spare held 31 (.slice a len cap) dd ps) : ∃ l : List S36, l.length = len ∧ Kd.C k36 W a len l ∧ len ≤ cap ∧ ∀ x ∈ l, W36 x :=
  open_rows k36 W36 Try.underlying31 (by kernel_rfl) (fun n cs y hy => by
    obtain ⟨x0, x1, x2, rfl, hw⟩ := open_struct3 Try.underlying36 (by kernel_rfl) Try.underlying3 (by kernel_rfl) ⟨rfl, rfl⟩ ⟨rfl, rfl⟩ ⟨rfl, rfl⟩ hy
    exact ⟨⟨x0, x1, x2⟩, k36_mk _ _, hw⟩) h
end
end Go.Proofs.Ytaboleeclpllpaa.Open


namespace Go.Proofs.Ytaboleeclpllpaa.M
open Go.RowKit Go.Proofs.YtaboleeclpllpaaW.PrintWords Go.Proofs.YtaboleeclpllpaaW.PrintLast Go.Proofs.YtaboleeclpllpaaW.PrintMore Go.Proofs.Ytaboleeclpllpaa.P Go.Proofs.Ytaboleeclpllpaa.T
set_option linter.unusedVariables false
set_option linter.unusedSimpArgs false
theorem total_take_succ (e : List Int) (i : Nat) (h : i < e.length) : total (e.take (i + 1)) = total (e.take i) + e[i] := by
  rw [List.take_succ_eq_append_getElem h, total_append]
  show _ + (e[i] + 0) = _
  omega
theorem best1_go (l : List S43) (hv : valid48 (l.map to48) = true) (e : List Int) (hel : e.length = l.length) (he : ∀ x ∈ e, 0 ≤ x ∧ x ≤ 1000000) : ∀ (d i : Nat), i + d = e.length →
    corrodylaw06_DatesBest_1.go l i (e.drop i) (lateN (l.map to48) e (-1073741824) i) (total (e.take i)) = (worstOf (l.map to48) e, total e) := by
  have hlen := valid_len hv
  rw [List.length_map] at hlen
  intro d
  induction d with
  | zero =>
    intro i hi
    rw [show i = e.length by omega, List.drop_length, List.take_length, corrodylaw06_DatesBest_1.go, worstOf, List.length_map, hel]
  | succ d ih =>
    intro i hi
    have hlt : i < e.length := by omega
    have hlt' : i < (l.map to48).length := by rw [List.length_map]; omega
    have h2 := valid_jb hv hlt'
    have h3 := endsB_tm he i
    have hsum := total_small (l := e.take i) (by rw [List.length_take]; omega) (fun x hx => by
      have := he x (List.mem_of_mem_take hx)
      omega)
    have hj : (rd_T43 l (i : Int)).f2 = (jb (l.map to48) i).f2 := by
      rw [rd43 l i (by omega), jb_get hlt', List.getElem_map]
      rfl
    rw [corrodylaw06_DatesBest_1.go_at l e i _ _ hlt, hj, rd_nat e i hlt, ← tm_get hlt, mx_max, w64 (x := tm e i - (jb (l.map to48) i).f2) (by omega) (by omega), w64 (x := total (e.take i) + tm e i) (by omega) (by omega), tm_get hlt, ← total_take_succ e i hlt, ← tm_get hlt]
    exact ih (i + 1) (by omega)
theorem best1_f (l : List S43) (hv : valid48 (l.map to48) = true) (e : List Int) (hel : e.length = l.length) (he : ∀ x ∈ e, 0 ≤ x ∧ x ≤ 1000000) : corrodylaw06_DatesBest_1.f l e = some (worstOf (l.map to48) e, total e) := by
  unfold corrodylaw06_DatesBest_1.f
  rw [if_pos (by omega)]
  congr 1
  exact best1_go l hv e hel he e.length 0 (by omega)
end Go.Proofs.Ytaboleeclpllpaa.M
namespace Go.Proofs.Ytaboleeclpllpaa.Pure
open Go.RowKit Go.Proofs.YtaboleeclpllpaaW.PrintWords Go.Proofs.YtaboleeclpllpaaW.PrintLast Go.Proofs.YtaboleeclpllpaaW.PrintMore Go.Proofs.Ytaboleeclpllpaa.P Go.Proofs.Ytaboleeclpllpaa.M Go.Proofs.Ytaboleeclpllpaa.T
set_option linter.unusedVariables false
set_option linter.unusedSimpArgs false
theorem DatesBest (l : List S43) (hl : l.length ≤ 9223372036854775807) (hg : ∀ x ∈ l, Open.W43 x) (p : List S36) (hpl : p.length ≤ 9223372036854775807) (hpg : ∀ x ∈ p, Open.W36 x) : ∃ k, corrodylaw06_DatesBest.f k l p = some true := by
  refine Ev.rounds (g := fun k => corrodylaw06_DatesBest.f k l p) ?_
  unfold corrodylaw06_DatesBest.f
  have hl10 : ((l.take 10).map to48).length ≤ 9223372036854775807 := by simp; omega
  refine Ev.bind (Of_f l hl) ?_
  refine Ev.bind (Plan_f _ hl10) ?_
  refine Ev.bind (Short_f _ hl10) ?_
  refine Ev.bind (Delay_f _ hl10) ?_
  cases hv : valid48 (l.map to48) with
  | false =>
    have hv' : valid48 ((l.take 10).map to48) = false := by rw [valid_of]; exact hv
    simp only [hv', Bool.false_eq_true, if_false]
    simp only [if_true, and_self]
    exact awake_f
  | true =>
    rw [of_valid hv]
    have hlen := valid_len hv
    have hlen' := hlen
    rw [List.length_map] at hlen'
    have hmap : (l.map to48).length = l.length := List.length_map _
    simp only [hv, if_true]
    simp only [show ¬ ((0 : Int) = 2) by decide, if_false, if_true, and_self]
    refine Ev.bind (refvalid_f l hl) ?_
    simp only [hv, if_true]
    have hpl0 := plan_length false (l.map to48)
    have hpl1 := plan_length true (l.map to48)
    refine Ev.bind (Check_f _ _ (by omega) (by omega)) ?_
    refine Ev.bind (Check_f _ _ (by omega) (by omega)) ?_
    simp only [hv, plan_whole hv, if_true, endsOf_length, hmap, and_self]
    have hb0 : ∀ x ∈ endsOf l.length (planOf false (l.map to48)), 0 ≤ x ∧ x ≤ 1000000 := by have := plan_ends_bound (l := l.map to48) false; rw [hmap] at this; exact this
    have hb1 : ∀ x ∈ endsOf l.length (planOf true (l.map to48)), 0 ≤ x ∧ x ≤ 1000000 := by have := plan_ends_bound (l := l.map to48) true; rw [hmap] at this; exact this
    simp only [best1_f l hv _ (endsOf_length _ _) hb0, best1_f l hv _ (endsOf_length _ _) hb1, Option.bind_some]
    have hd : delayOf (l.map to48) = worstOf (l.map to48) (endsOf l.length (planOf false (l.map to48))) := by unfold delayOf; rw [hmap]
    simp only [hd, and_self, if_true]
    refine Ev.bind (pieces_f p hpl) ?_
    generalize hq : (p.take 200).map to44 = q
    have hql : q.length ≤ 200 := by rw [← hq]; simp; omega
    refine Ev.bind (Check_f _ _ (by omega) (by omega)) ?_
    simp only [hv, if_true]
    cases hw : wholeB (l.map to48) q with
    | false =>
      simp only [Bool.false_eq_true, if_false, if_true]
      exact awake_f
    | true =>
      have hs := whole_sched hv hw (Nat.le_refl 1000)
      have hc := (whole_parts hw).1
      have hbq : ∀ x ∈ endsOf l.length q, 0 ≤ x ∧ x ≤ 1000000 := fun x hx => by
        have := endsOf_bound (n := l.length) (a := 1000) (by omega) (by have := chain_pcs hv hc; rw [hmap] at this; exact this) x hx
        omega
      simp only [if_true, hmap]
      simp only [best1_f l hv _ (endsOf_length _ _) hbq, Option.bind_some, endsOf_length, true_and]
      have hlow : -1073741824 ≤ worstOf (l.map to48) (endsOf l.length q) := (lateN_bound hv hbq (by omega) (l.map to48).length (Nat.le_refl _)).1
      have h1 : delayOf (l.map to48) ≤ worstOf (l.map to48) (endsOf l.length q) := plan_best hv hs (fun i hi => by
        have := (worstOf_le (l := l.map to48) (e := endsOf l.length q) hlow).1 (Int.le_refl _) i hi
        unfold endf
        rw [hmap]
        exact this)
      have h2 : total (endsOf l.length (planOf true (l.map to48))) ≤ total (endsOf l.length q) := by
        have e1 := ends_total (l.map to48) (planOf true (l.map to48))
        have e2 := ends_total (l.map to48) q
        have e3 := short_best hv (by omega) hs
        rw [hmap] at e1 e2 e3
        rw [e1, e2]
        exact e3
      rw [hd] at h1
      simp only [if_pos (And.intro h1 h2)]
      exact awake_f
end Go.Proofs.Ytaboleeclpllpaa.Pure
