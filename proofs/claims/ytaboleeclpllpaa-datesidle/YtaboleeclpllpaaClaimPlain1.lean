/-
Plain lemmas on what the functions compute, put together into one text.
Conditions: each lemma's own.
-/
import Derived.RowKit
import Derived.Deep.Slices
import Derived.OpenShut
import Derived.ChangeSlices
import Derived.Test.YtaboleeclpllpaaClaimProg1
import Derived.Test.YtaboleeclpllpaaClaimProg2
import Derived.Test.YtaboleeclpllpaaClaimProg3
import Derived.Test.YtaboleeclpllpaaClaimProg5

namespace Go.Proofs.Ytaboleeclpllpaa.M
open Go.RowKit Go.Proofs.YtaboleeclpllpaaW.PrintWords Go.Proofs.YtaboleeclpllpaaW.PrintLast Go.Proofs.YtaboleeclpllpaaW.PrintMore Go.Proofs.Ytaboleeclpllpaa.P
set_option linter.unusedVariables false
set_option linter.unusedSimpArgs false
theorem w64 {x : Int} (h0 : -9223372036854775808 ≤ x) (h1 : x ≤ 9223372036854775807) : wrap64 x = x := by
  unfold wrap64
  omega
theorem w64s (i n : Nat) (h : i < n) (hn : n ≤ 9223372036854775807) : wrap64 ((i : Int) + 1) = ((i + 1 : Nat) : Int) := by
  rw [w64 (by omega) (by omega)]
  omega
def to48 (x : S43) : S48 := ⟨x.f0, x.f1, x.f2, x.f3⟩
theorem rd_nat (l : List Int) (i : Nat) (h : i < l.length) : rd l (i : Int) = l[i] := by simp [rd, List.getD_eq_getElem?_getD, List.getElem?_eq_getElem h]
theorem rd43 (l : List S43) (i : Nat) (h : i < l.length) : rd_T43 l (i : Int) = l[i] := by simp [rd_T43, List.getD_eq_getElem?_getD, List.getElem?_eq_getElem h]
theorem rd48 (l : List S48) (i : Nat) (h : i < l.length) : rd_T48 l (i : Int) = l[i] := by simp [rd_T48, List.getD_eq_getElem?_getD, List.getElem?_eq_getElem h]
theorem rd44 (l : List S44) (i : Nat) (h : i < l.length) : rd_T44 l (i : Int) = l[i] := by simp [rd_T44, List.getD_eq_getElem?_getD, List.getElem?_eq_getElem h]
def ok48 (x : S48) : Bool := decide (1 ≤ x.f0 ∧ x.f0 ≤ 20 ∧ 0 ≤ x.f1 ∧ x.f1 ≤ 100 ∧ 0 ≤ x.f2 ∧ x.f2 ≤ 200 ∧ 0 ≤ x.f3 ∧ x.f3 ≤ 20)
def valid48 (l : List S48) : Bool := decide (1 ≤ l.length ∧ l.length ≤ 8) && l.all ok48
theorem between_f (a b c : Int) : dates_between.f a b c = some (decide (b ≤ a ∧ a ≤ c)) := by
  unfold dates_between.f
  by_cases h : a ≥ b
  · rw [if_pos h]
    have : b ≤ a := h
    simp [this]
  · rw [if_neg h]
    have : ¬ b ≤ a := h
    simp [this]
theorem valid1_f (x : S48) : dates_jobs_valid_1.f x.f0 x.f1 x.f2 x.f3 = some (!ok48 x) := by
  unfold dates_jobs_valid_1.f
  simp only [between_f, Option.bind_some]
  by_cases h0 : 1 ≤ x.f0 ∧ x.f0 ≤ 20
  · by_cases h1 : 0 ≤ x.f1 ∧ x.f1 ≤ 100
    · by_cases h2 : 0 ≤ x.f2 ∧ x.f2 ≤ 200
      · by_cases h3 : 0 ≤ x.f3 ∧ x.f3 ≤ 20
        · have : ok48 x = true := by simp only [ok48, decide_eq_true_eq]; omega
          simp [h0, h1, h2, h3, this]
        · have : ok48 x = false := by simp only [ok48, decide_eq_false_iff_not]; omega
          rw [decide_eq_false h3]
          simp [h0, h1, h2, this]
      · have : ok48 x = false := by simp only [ok48, decide_eq_false_iff_not]; omega
        rw [decide_eq_false h2]
        simp [h0, h1, this]
    · have : ok48 x = false := by simp only [ok48, decide_eq_false_iff_not]; omega
      rw [decide_eq_false h1]
      simp [h0, this]
  · have : ok48 x = false := by simp only [ok48, decide_eq_false_iff_not]; omega
    rw [decide_eq_false h0]
    simp [this]
theorem index_loop (l : List S48) (hl : l.length ≤ 9223372036854775807) : ∀ (d i : Nat), i + d = l.length → ∃ r : Int, Ev (fun k => dates_Job_87.l0 k l (l.length : Int) (i : Int)) r ∧ (decide (r ≥ 0) = !(l.drop i).all ok48) := by
  intro d
  induction d with
  | zero =>
    intro i hi
    refine ⟨-1, Ev.step (f := fun _ => some (-1)) (fun k => ?_) (Ev.now _), ?_⟩
    · simp only [dates_Job_87.l0]
      rw [if_neg (by omega)]
    · rw [show i = l.length by omega, List.drop_length]
      rfl
  | succ d ih =>
    intro i hi
    have hlt : i < l.length := by omega
    rw [List.drop_eq_getElem_cons hlt, List.all_cons]
    cases hok : ok48 l[i] with
    | false =>
      refine ⟨i, Ev.step (f := fun _ => some (i : Int)) (fun k => ?_) (Ev.now _), ?_⟩
      · simp only [dates_Job_87.l0]
        rw [if_pos (by omega), if_pos (by omega), if_pos (by omega), rd48 l i hlt, valid1_f, hok]
        rfl
      · simp
    | true =>
      obtain ⟨r, hr, hr2⟩ := ih (i + 1) (by omega)
      refine ⟨r, Ev.step (fun k => ?_) hr, by simpa using hr2⟩
      simp only [dates_Job_87.l0]
      rw [if_pos (by omega), if_pos (by omega), if_pos (by omega), rd48 l i hlt, valid1_f, hok, w64s i l.length hlt hl]
      rfl
theorem valid_f (l : List S48) (hl : l.length ≤ 9223372036854775807) : Ev (fun k => dates_jobs_valid.f k l) (valid48 l) := by
  unfold dates_jobs_valid.f
  simp only [between_f, Option.bind_some]
  by_cases h : 1 ≤ l.length ∧ l.length ≤ 8
  · obtain ⟨r, hr, hr2⟩ := index_loop l hl l.length 0 (by omega)
    have hd : decide ((1 : Int) ≤ (l.length : Int) ∧ (l.length : Int) ≤ 8) = true := decide_eq_true (by omega)
    simp only [hd, if_true]
    have h1 : Ev (fun k => dates_Job_77.f k l) (!l.all ok48) := by
      unfold dates_Job_77.f dates_Job_87.f
      refine Ev.bind (a := r) hr ?_
      rw [hr2]
      exact Ev.now _
    refine Ev.bind h1 ?_
    have : valid48 l = l.all ok48 := by simp [valid48, h]
    rw [this, Bool.not_not]
    exact Ev.now _
  · have hd : decide ((1 : Int) ≤ (l.length : Int) ∧ (l.length : Int) ≤ 8) = false := decide_eq_false (by omega)
    simp only [hd]
    have : valid48 l = false := by simp [valid48, h]
    rw [this]
    exact Ev.now _
theorem refvalid_loop (l0 l : List S43) (hl : l.length ≤ 9223372036854775807) : ∀ (d i : Nat), i + d = l.length → Ev (fun k => corrodyref06_Valid.l0 k l0 l (l.length : Int) (i : Int)) ((((l.drop i).map to48).all ok48) && decide (1 ≤ l0.length ∧ l0.length ≤ 8)) := by
  intro d
  induction d with
  | zero =>
    intro i hi
    rw [show i = l.length by omega, List.drop_length]
    by_cases h1 : 1 ≤ l0.length
    · refine Ev.step (f := fun _ => some (decide ((l0.length : Int) ≤ 8))) (fun k => ?_) ?_
      · simp only [corrodyref06_Valid.l0]
        rw [if_neg (by omega), if_pos (by omega)]
      · have : decide ((l0.length : Int) ≤ 8) = (([].map to48).all ok48 && decide (1 ≤ l0.length ∧ l0.length ≤ 8)) := by
          simp [h1]
          omega
        rw [this]
        exact Ev.now _
    · refine Ev.step (f := fun _ => some false) (fun k => ?_) ?_
      · simp only [corrodyref06_Valid.l0]
        rw [if_neg (by omega), if_neg (by omega)]
      · simp [h1]
        exact Ev.now _
  | succ d ih =>
    intro i hi
    have hlt : i < l.length := by omega
    rw [List.drop_eq_getElem_cons hlt, List.map_cons, List.all_cons]
    have hb : ∀ k, corrodyref06_Valid.l0 (k + 1) l0 l (l.length : Int) (i : Int) = if ok48 (to48 l[i]) = true then corrodyref06_Valid.l0 k l0 l (l.length : Int) ((i + 1 : Nat) : Int) else some false := by
      intro k
      simp only [corrodyref06_Valid.l0]
      rw [if_pos (by omega), if_pos (by omega), if_pos (by omega), rd43 l i hlt, w64s i l.length hlt hl]
      have he : ∀ x : S43, ok48 (to48 x) = decide (1 ≤ x.f0 ∧ x.f0 ≤ 20 ∧ 0 ≤ x.f1 ∧ x.f1 ≤ 100 ∧ 0 ≤ x.f2 ∧ x.f2 ≤ 200 ∧ 0 ≤ x.f3 ∧ x.f3 ≤ 20) := fun _ => rfl
      rw [he]
      generalize l[i] = x
      by_cases h0 : x.f0 < 1
      · rw [if_pos h0, decide_eq_false (by omega)]; rfl
      by_cases h1 : x.f0 > 20
      · rw [if_neg h0, if_pos h1, decide_eq_false (by omega)]; rfl
      by_cases h2 : x.f1 < 0
      · rw [if_neg h0, if_neg h1, if_pos h2, decide_eq_false (by omega)]; rfl
      by_cases h3 : x.f1 > 100
      · rw [if_neg h0, if_neg h1, if_neg h2, if_pos h3, decide_eq_false (by omega)]; rfl
      by_cases h4 : x.f2 < 0
      · rw [if_neg h0, if_neg h1, if_neg h2, if_neg h3, if_pos h4, decide_eq_false (by omega)]; rfl
      by_cases h5 : x.f2 > 200
      · rw [if_neg h0, if_neg h1, if_neg h2, if_neg h3, if_neg h4, if_pos h5, decide_eq_false (by omega)]; rfl
      by_cases h6 : x.f3 < 0
      · rw [if_neg h0, if_neg h1, if_neg h2, if_neg h3, if_neg h4, if_neg h5, if_pos h6, decide_eq_false (by omega)]; rfl
      by_cases h7 : x.f3 > 20
      · rw [if_neg h0, if_neg h1, if_neg h2, if_neg h3, if_neg h4, if_neg h5, if_neg h6, if_pos h7, decide_eq_false (by omega)]; rfl
      rw [if_neg h0, if_neg h1, if_neg h2, if_neg h3, if_neg h4, if_neg h5, if_neg h6, if_neg h7, decide_eq_true (by omega)]; rfl
    cases hok : ok48 (to48 l[i]) with
    | false =>
      refine Ev.step (f := fun _ => some false) (fun k => ?_) (Ev.now _)
      rw [hb, hok]
      rfl
    | true =>
      refine Ev.step (fun k => ?_) (ih (i + 1) (by omega))
      rw [hb, hok]
      rfl
theorem refvalid_f (l : List S43) (hl : l.length ≤ 9223372036854775807) : Ev (fun k => corrodyref06_Valid.f k l) (valid48 (l.map to48)) := by
  have h := refvalid_loop l l hl l.length 0 (by omega)
  unfold corrodyref06_Valid.f
  have e : valid48 (l.map to48) = ((((l.drop 0).map to48).all ok48) && decide (1 ≤ l.length ∧ l.length ≤ 8)) := by
    simp only [valid48, List.length_map, List.drop_zero]
    rw [Bool.and_comm]
  rw [e]
  exact h
theorem Of_loop (l : List S43) (hl : l.length ≤ 9223372036854775807) : ∀ (d i : Nat) (acc : List S48), i + d = l.length → acc.length = min i 10 → Ev (fun k => corrodylaw06_Of.l0 k acc l (l.length : Int) (i : Int)) (acc ++ ((l.take 10).drop i).map to48) := by
  intro d
  induction d with
  | zero =>
    intro i acc hi ha
    rw [List.drop_eq_nil_of_le (by rw [List.length_take]; omega), List.map_nil, List.append_nil]
    refine Ev.step (f := fun _ => some acc) (fun k => ?_) (Ev.now _)
    simp only [corrodylaw06_Of.l0]
    rw [if_neg (by omega)]
  | succ d ih =>
    intro i acc hi ha
    have hlt : i < l.length := by omega
    by_cases h10 : i < 10
    · have hd : (l.take 10).drop i = l[i] :: (l.take 10).drop (i + 1) := by
        rw [List.drop_eq_getElem_cons (by rw [List.length_take]; omega)]
        simp
      have := ih (i + 1) (acc ++ [to48 l[i]]) (by omega) (by simp; omega)
      rw [hd, List.map_cons, show acc ++ to48 l[i] :: ((l.take 10).drop (i + 1)).map to48 = (acc ++ [to48 l[i]]) ++ ((l.take 10).drop (i + 1)).map to48 by simp]
      refine Ev.step (fun k => ?_) this
      simp only [corrodylaw06_Of.l0]
      rw [if_pos (by omega), if_pos (by omega), if_pos (by omega), if_pos (by omega), if_pos (by omega), rd43 l i hlt, w64s i l.length hlt hl]
      rfl
    · have := ih (i + 1) acc (by omega) (by omega)
      rw [List.drop_eq_nil_of_le (by rw [List.length_take]; omega)] at this ⊢
      refine Ev.step (fun k => ?_) this
      simp only [corrodylaw06_Of.l0]
      rw [if_pos (by omega), if_pos (by omega), if_pos (by omega), if_neg (by omega), w64s i l.length hlt hl]
theorem Of_f (l : List S43) (hl : l.length ≤ 9223372036854775807) : Ev (fun k => corrodylaw06_Of.f k l) ((l.take 10).map to48) := by
  have := Of_loop l hl l.length 0 [] (by omega) rfl
  rw [List.drop_zero, List.nil_append] at this
  exact this
theorem valid_of (l : List S43) : valid48 ((l.take 10).map to48) = valid48 (l.map to48) := by
  by_cases h : l.length ≤ 10
  · rw [List.take_of_length_le h]
  · simp only [valid48, List.length_map, List.length_take]
    rw [decide_eq_false (by omega), decide_eq_false (by omega)]
    rfl
theorem of_valid {l : List S43} (h : valid48 (l.map to48) = true) : (l.take 10).map to48 = l.map to48 := by
  have : l.length ≤ 8 := by
    simp only [valid48, Bool.and_eq_true, decide_eq_true_eq, List.length_map] at h
    exact h.1.2
  rw [List.take_of_length_le (by omega)]
end Go.Proofs.Ytaboleeclpllpaa.M


namespace Go.Proofs.Ytaboleeclpllpaa.M
open Go.RowKit Go.Proofs.YtaboleeclpllpaaW.PrintWords Go.Proofs.YtaboleeclpllpaaW.PrintLast Go.Proofs.YtaboleeclpllpaaW.PrintMore Go.Proofs.Ytaboleeclpllpaa.P
set_option linter.unusedVariables false
set_option linter.unusedSimpArgs false
abbrev Pc := S44
def jobsIn (n : Nat) (p : List Pc) : Prop := ∀ x ∈ p, 0 ≤ x.f0 ∧ x.f0 < (n : Int)
def endsFrom (acc : List Int) (p : List Pc) : List Int := p.foldl (fun a x => a.set x.f0.toNat x.f2) acc
def endsOf (n : Nat) (p : List Pc) : List Int := endsFrom (List.replicate n 0) p
theorem endsFrom_length (p : List Pc) : ∀ acc : List Int, (endsFrom acc p).length = acc.length := by
  induction p with
  | nil => intro acc; rfl
  | cons x p ih =>
    intro acc
    show (endsFrom (acc.set x.f0.toNat x.f2) p).length = _
    rw [ih, List.length_set]
theorem endsOf_length (n : Nat) (p : List Pc) : (endsOf n p).length = n := by rw [endsOf, endsFrom_length, List.length_replicate]
theorem finished_loop (n : Nat) (p : List Pc) (hp : p.length ≤ 9223372036854775807) (hj : jobsIn n p) : ∀ (d i : Nat) (acc : List Int), i + d = p.length → acc.length = n → Ev (fun k => dates_jobs_finished.l0 k acc p (p.length : Int) (i : Int)) (endsFrom acc (p.drop i)) := by
  intro d
  induction d with
  | zero =>
    intro i acc hi ha
    rw [show i = p.length by omega, List.drop_length]
    refine Ev.step (f := fun _ => some acc) (fun k => ?_) (Ev.now _)
    simp only [dates_jobs_finished.l0]
    rw [if_neg (by omega)]
  | succ d ih =>
    intro i acc hi ha
    have hlt : i < p.length := by omega
    have hx := hj p[i] (List.getElem_mem hlt)
    have := ih (i + 1) (acc.set (p[i]).f0.toNat (p[i]).f2) (by omega) (by rw [List.length_set, ha])
    rw [List.drop_eq_getElem_cons hlt]
    refine Ev.step (fun k => ?_) this
    simp only [dates_jobs_finished.l0]
    rw [if_pos (by omega), if_pos (by omega), if_pos (by omega), rd44 p i hlt, if_pos (by omega), if_pos (by omega), w64s i p.length hlt hp]
theorem finished_f (l : List S48) (p : List Pc) (hl : l.length ≤ 8) (hp : p.length ≤ 9223372036854775807) (hj : jobsIn l.length p) : Ev (fun k => dates_jobs_finished.f k l p) (endsOf l.length p) := by
  have := finished_loop l.length p hp hj p.length 0 (List.replicate l.length 0) (by omega) (by simp)
  rw [List.drop_zero] at this
  refine Ev.congr (fun k => ?_) this
  unfold dates_jobs_finished.f
  rw [if_pos (by omega), if_pos (by omega), Int.toNat_natCast]
  rfl
def total (l : List Int) : Int := l.foldr (· + ·) 0
theorem total_cons (x : Int) (l : List Int) : total (x :: l) = x + total l := rfl
theorem total_append (a b : List Int) : total (a ++ b) = total a + total b := by
  induction a with
  | nil => simp [total]
  | cons x a ih => rw [List.cons_append, total_cons, total_cons, ih]; omega
theorem total_bound (l : List Int) (b : Int) (hb : 0 ≤ b) (h : ∀ x ∈ l, -b ≤ x ∧ x ≤ b) : -(b * (l.length : Int)) ≤ total l ∧ total l ≤ b * (l.length : Int) := by
  induction l with
  | nil => simp [total]
  | cons x l ih =>
    have hx := h x (by simp)
    have := ih (fun y hy => h y (by simp [hy]))
    rw [total_cons, List.length_cons]
    have e : b * ((l.length + 1 : Nat) : Int) = b * (l.length : Int) + b := by rw [Int.natCast_add]; simp [Int.mul_add]
    omega
theorem total_small {l : List Int} (hl : l.length ≤ 8) (h : ∀ x ∈ l, -1000000 ≤ x ∧ x ≤ 1000000) : -8000000 ≤ total l ∧ total l ≤ 8000000 := by
  have := total_bound l 1000000 (by omega) h
  omega
theorem short_sum (t : List Pc) (e : List Int) (hl : e.length ≤ 8) (he : ∀ x ∈ e, -1000000 ≤ x ∧ x ≤ 1000000) : ∀ (d i : Nat) (acc : Int), i + d = e.length → acc = total (e.take i) → Ev (fun k => dates_Short.l0 k t acc e (e.length : Int) (i : Int)) (t, total e, 0) := by
  intro d
  induction d with
  | zero =>
    intro i acc hi ha
    rw [show i = e.length by omega] at ha ⊢
    rw [List.take_length] at ha
    subst ha
    refine Ev.step (f := fun _ => some (t, total e, 0)) (fun k => ?_) (Ev.now _)
    simp only [dates_Short.l0]
    rw [if_neg (by omega)]
  | succ d ih =>
    intro i acc hi ha
    have hlt : i < e.length := by omega
    have ht : total (e.take (i + 1)) = acc + e[i] := by
      rw [List.take_succ_eq_append_getElem hlt, total_append, ← ha, total_cons]
      simp [total]
    have hb := total_small (l := e.take (i + 1)) (by rw [List.length_take]; omega) (fun x hx => he x (List.mem_of_mem_take hx))
    refine Ev.step (fun k => ?_) (ih (i + 1) (acc + e[i]) (by omega) ht.symm)
    simp only [dates_Short.l0]
    rw [if_pos (by omega), if_pos (by omega), if_pos (by omega), rd_nat e i hlt, w64 (by omega) (by omega), w64s i e.length hlt (by omega)]
theorem eq44_loop (l : List S44) (hl : l.length ≤ 9223372036854775807) : ∀ (d i : Nat), i + d = l.length → Ev (fun k => dates_Piece.l0 k l l (l.length : Int) (i : Int)) true := by
  intro d
  induction d with
  | zero =>
    intro i hi
    refine Ev.step (f := fun _ => some true) (fun k => ?_) (Ev.now _)
    simp only [dates_Piece.l0]
    rw [if_neg (by omega)]
  | succ d ih =>
    intro i hi
    have hlt : i < l.length := by omega
    refine Ev.step (fun k => ?_) (ih (i + 1) (by omega))
    simp only [dates_Piece.l0]
    rw [if_pos (by omega), if_pos (by omega), if_pos (by omega), if_pos (by omega), w64s i l.length hlt hl, if_neg (by simp)]
theorem eq44_f (l : List S44) (hl : l.length ≤ 9223372036854775807) : Ev (fun k => dates_Piece.f k l l) true := by
  have := eq44_loop l hl l.length 0 (by omega)
  refine Ev.congr (fun k => ?_) this
  unfold dates_Piece.f
  rw [if_pos rfl]
  rfl
theorem mx_max (a b : Int) : mx a b = max a b := by unfold mx; omega
theorem max_loop (l : List Int) (hl : l.length ≤ 9223372036854775807) : ∀ (d i : Nat) (m : Int), i + d = l.length → 1 ≤ i → (m > 0 ↔ ∃ x ∈ l.take i, x > 0) → ∃ r, Ev (fun k => dates_left_int.l0 k l m (i : Int)) r ∧ (r > 0 ↔ ∃ x ∈ l, x > 0) := by
  intro d
  induction d with
  | zero =>
    intro i m hi h1 hm
    rw [show i = l.length by omega, List.take_length] at hm
    refine ⟨m, Ev.step (f := fun _ => some m) (fun k => ?_) (Ev.now _), hm⟩
    simp only [dates_left_int.l0]
    rw [if_neg (by omega)]
  | succ d ih =>
    intro i m hi h1 hm
    have hlt : i < l.length := by omega
    obtain ⟨r, hr, hr2⟩ := ih (i + 1) (mx m l[i]) (by omega) (by omega) (by
      rw [mx_max, List.take_succ_eq_append_getElem hlt]
      constructor
      · intro h
        by_cases hx : l[i] > 0
        · exact ⟨l[i], List.mem_append.2 (.inr (List.mem_singleton.2 rfl)), hx⟩
        · obtain ⟨y, hy, hy2⟩ := hm.1 (by omega)
          exact ⟨y, List.mem_append.2 (.inl hy), hy2⟩
      · rintro ⟨y, hy, hy2⟩
        rcases List.mem_append.1 hy with hy | hy
        · have := hm.2 ⟨y, hy, hy2⟩
          omega
        · simp at hy
          omega)
    refine ⟨r, Ev.step (fun k => ?_) hr, hr2⟩
    simp only [dates_left_int.l0]
    rw [if_pos (by omega), if_pos (by omega), rd_nat l i hlt, w64s i l.length hlt hl]
theorem max_f (l : List Int) (h1 : 1 ≤ l.length) (hl : l.length ≤ 9223372036854775807) : ∃ r, Ev (fun k => dates_left_int.f k l) r ∧ (r > 0 ↔ ∃ x ∈ l, x > 0) := by
  have h0 : rd l 0 = l[0] := rd_nat l 0 h1
  obtain ⟨r, hr, hr2⟩ := max_loop l hl (l.length - 1) 1 (l[0]) (by omega) (by omega) (by
    rw [List.take_succ_eq_append_getElem h1]
    simp)
  refine ⟨r, Ev.congr (fun k => ?_) hr, hr2⟩
  unfold dates_left_int.f
  rw [if_neg (by omega), if_pos (by omega), h0]
  rfl
end Go.Proofs.Ytaboleeclpllpaa.M


namespace Go.Proofs.Ytaboleeclpllpaa.M
open Go.RowKit Go.Proofs.YtaboleeclpllpaaW.PrintWords Go.Proofs.YtaboleeclpllpaaW.PrintLast Go.Proofs.YtaboleeclpllpaaW.PrintMore Go.Proofs.Ytaboleeclpllpaa.P
set_option linter.unusedVariables false
set_option linter.unusedSimpArgs false
def tm (t : List Int) (i : Nat) : Int := t.getD i 0
def jb (l : List S48) (i : Nat) : S48 := l.getD i z48
def ahead (short : Bool) (l : List S48) (t : List Int) (i j : Nat) : Bool := if short then decide (tm t i < tm t j) else decide ((jb l i).f2 < (jb l j).f2)
def ready (l : List S48) (t : List Int) (a : Int) (i : Nat) : Prop := (jb l i).f1 ≤ a ∧ tm t i > 0
instance (l : List S48) (t : List Int) (a : Int) (i : Nat) : Decidable (ready l t a i) := by unfold ready; infer_instance
def pickN (short : Bool) (l : List S48) (t : List Int) (a : Int) : Nat → Option Nat
  | 0 => none
  | i + 1 => if ready l t a i then (match pickN short l t a i with
      | none => some i
      | some j => if ahead short l t i j = true then some i else some j) else pickN short l t a i
def pick (short : Bool) (l : List S48) (t : List Int) (a : Int) : Option Nat := pickN short l t a l.length
def addPc (out : List Pc) (j : Int) (a : Int) : List Pc := match out.getLast? with
  | some p => if p.f0 = j ∧ p.f2 = a then out.set (out.length - 1) ⟨p.f0, p.f1, p.f2 + 1⟩ else out ++ [⟨j, a, a + 1⟩]
  | none => [⟨j, a, a + 1⟩]
abbrev St := List Int × List Pc
def stepF (short : Bool) (l : List S48) (a : Int) (s : St) : St := match pick short l s.1 a with
  | none => s
  | some j => (s.1.set j (tm s.1 j - 1), addPc s.2 (j : Int) a)
def runF (short : Bool) (l : List S48) : Nat → Int → St → St
  | 0, _, s => s
  | n + 1, a, s => runF short l n (a + 1) (stepF short l a s)
def times (l : List S48) : List Int := l.map (·.f0)
def planOf (short : Bool) (l : List S48) : List Pc := (runF short l 300 0 (times l, [])).2
theorem pickN_lt {short : Bool} {l : List S48} {t : List Int} {a : Int} : ∀ {n j : Nat}, pickN short l t a n = some j → j < n ∧ ready l t a j := by
  intro n
  induction n with
  | zero => intro j h; cases h
  | succ n ih =>
    intro j h
    rw [pickN] at h
    by_cases hr : ready l t a n
    · rw [if_pos hr] at h
      cases hp : pickN short l t a n with
      | none =>
        rw [hp] at h
        simp at h
        subst h
        exact ⟨by omega, hr⟩
      | some j' =>
        rw [hp] at h
        have := ih hp
        by_cases ha : ahead short l t n j' = true
        · simp [ha] at h
          subst h
          exact ⟨by omega, hr⟩
        · simp [ha] at h
          subst h
          exact ⟨by omega, this.2⟩
    · rw [if_neg hr] at h
      have := ih h
      exact ⟨by omega, this.2⟩
theorem pickN_none {short : Bool} {l : List S48} {t : List Int} {a : Int} : ∀ {n : Nat}, pickN short l t a n = none ↔ ∀ i, i < n → ¬ ready l t a i := by
  intro n
  induction n with
  | zero => exact ⟨fun _ i hi => by omega, fun _ => rfl⟩
  | succ n ih =>
    rw [pickN]
    by_cases hr : ready l t a n
    · rw [if_pos hr]
      constructor
      · intro h
        exfalso
        cases hp : pickN short l t a n with
        | none => rw [hp] at h; cases h
        | some j =>
          rw [hp] at h
          by_cases ha : ahead short l t n j = true
          · simp [ha] at h
          · simp [ha] at h
      · intro h
        exact absurd hr (h n (by omega))
    · rw [if_neg hr, ih]
      constructor
      · intro h i hi
        by_cases e : i = n
        · subst e; exact hr
        · exact h i (by omega)
      · intro h i hi
        exact h i (by omega)
theorem addPc_length (out : List Pc) (j a : Int) : (addPc out j a).length ≤ out.length + 1 := by
  unfold addPc
  split
  · split
    · rw [List.length_set]; omega
    · simp
  · simp
theorem stepF_len (short : Bool) (l : List S48) (a : Int) (s : St) : (stepF short l a s).1.length = s.1.length := by
  unfold stepF
  split
  · rfl
  · simp
theorem stepF_out (short : Bool) (l : List S48) (a : Int) (s : St) : (stepF short l a s).2.length ≤ s.2.length + 1 := by
  unfold stepF
  split
  · omega
  · exact addPc_length _ _ _
theorem runF_add (short : Bool) (l : List S48) : ∀ (m n : Nat) (a : Int) (s : St), runF short l (m + n) a s = runF short l n (a + m) (runF short l m a s) := by
  intro m
  induction m with
  | zero => intro n a s; simp [runF]
  | succ m ih =>
    intro n a s
    rw [show m + 1 + n = (m + n) + 1 by omega, runF, runF, ih]
    congr 1
    omega
theorem runF_succ (short : Bool) (l : List S48) (n : Nat) (a : Int) (s : St) : runF short l (n + 1) a s = stepF short l (a + n) (runF short l n a s) := by
  rw [runF_add]
  rfl
theorem runF_len (short : Bool) (l : List S48) : ∀ (n : Nat) (a : Int) (s : St), (runF short l n a s).1.length = s.1.length := by
  intro n
  induction n with
  | zero => intro a s; rfl
  | succ n ih => intro a s; rw [runF, ih, stepF_len]
theorem runF_out (short : Bool) (l : List S48) : ∀ (n : Nat) (a : Int) (s : St), (runF short l n a s).2.length ≤ s.2.length + n := by
  intro n
  induction n with
  | zero => intro a s; exact Nat.le_refl _
  | succ n ih =>
    intro a s
    rw [runF]
    have := ih (a + 1) (stepF short l a s)
    have := stepF_out short l a s
    omega
theorem tm_mem {t : List Int} {i : Nat} (h : i < t.length) : tm t i ∈ t := by
  unfold tm
  rw [List.getD_eq_getElem?_getD, List.getElem?_eq_getElem h]
  exact List.getElem_mem h
theorem tm_get {t : List Int} {i : Nat} (h : i < t.length) : tm t i = t[i] := by
  unfold tm
  rw [List.getD_eq_getElem?_getD, List.getElem?_eq_getElem h]
  rfl
theorem tm_out {t : List Int} {i : Nat} (h : t.length ≤ i) : tm t i = 0 := by
  unfold tm
  rw [List.getD_eq_getElem?_getD, List.getElem?_eq_none h]
  rfl
theorem jb_get {l : List S48} {i : Nat} (h : i < l.length) : jb l i = l[i] := by
  unfold jb
  rw [List.getD_eq_getElem?_getD, List.getElem?_eq_getElem h]
  rfl
theorem tm_set (t : List Int) (j i : Nat) (x : Int) (h : j < t.length) : tm (t.set j x) i = if i = j then x else tm t i := by
  unfold tm
  rw [List.getD_eq_getElem?_getD, List.getElem?_set]
  by_cases e : i = j
  · subst e
    rw [if_pos rfl, if_pos rfl, if_pos h]
    rfl
  · rw [if_neg (Ne.symm e), if_neg e, List.getD_eq_getElem?_getD]
theorem total_set : ∀ (t : List Int) (j : Nat) (x : Int), j < t.length → total (t.set j x) = total t - tm t j + x := by
  intro t
  induction t with
  | nil => intro j x h; simp at h
  | cons y t ih =>
    intro j x h
    cases j with
    | zero => simp [total, tm]; omega
    | succ j =>
      have := ih j x (by simpa using h)
      rw [List.set_cons_succ, total_cons, total_cons, this]
      have : tm (y :: t) (j + 1) = tm t j := rfl
      omega
def fine (t : List Int) : Prop := ∀ x ∈ t, 0 ≤ x
theorem fine_tm {t : List Int} (h : fine t) (i : Nat) : 0 ≤ tm t i := by
  by_cases hi : i < t.length
  · exact h _ (tm_mem hi)
  · rw [tm_out (by omega)]
    exact Int.le_refl _
theorem fine_of_tm {t : List Int} (h : ∀ i, i < t.length → 0 ≤ tm t i) : fine t := by
  intro x hx
  obtain ⟨i, hi, rfl⟩ := List.mem_iff_getElem.1 hx
  have := h i hi
  rwa [tm_get hi] at this
theorem total_fine {t : List Int} (h : fine t) : 0 ≤ total t := by
  induction t with
  | nil => exact Int.le_refl _
  | cons x t ih =>
    rw [total_cons]
    have := h x (by simp)
    have := ih (fun y hy => h y (by simp [hy]))
    omega
theorem total_zero {t : List Int} (h : fine t) (h0 : total t ≤ 0) : ∀ i, tm t i = 0 := by
  induction t with
  | nil => intro i; rfl
  | cons x t ih =>
    rw [total_cons] at h0
    have hx := h x (by simp)
    have ht : fine t := fun y hy => h y (by simp [hy])
    have := total_fine ht
    intro i
    cases i with
    | zero => show x = 0; omega
    | succ i => exact ih ht (by omega) i
theorem step_fine {short : Bool} {l : List S48} {a : Int} {s : St} (hl : s.1.length = l.length) (h : fine s.1) : fine (stepF short l a s).1 := by
  unfold stepF
  split
  · exact h
  · rename_i j hj
    have ⟨hlt, hr⟩ := pickN_lt hj
    refine fine_of_tm fun i hi => ?_
    rw [tm_set _ _ _ _ (by omega)]
    by_cases e : i = j
    · rw [if_pos e]
      have := hr.2
      omega
    · rw [if_neg e]
      exact fine_tm h i
theorem run_fine {short : Bool} {l : List S48} : ∀ (n : Nat) (a : Int) (s : St), s.1.length = l.length → fine s.1 → fine (runF short l n a s).1 := by
  intro n
  induction n with
  | zero => intro a s hl h; exact h
  | succ n ih =>
    intro a s hl h
    rw [runF]
    exact ih _ _ (by rw [stepF_len, hl]) (step_fine hl h)
theorem step_total {short : Bool} {l : List S48} {a : Int} {s : St} (hl : s.1.length = l.length) : total (stepF short l a s).1 = total s.1 - (if (pick short l s.1 a).isSome = true then 1 else 0) := by
  unfold stepF
  split
  · rename_i hp
    rw [hp]
    simp
  · rename_i j hj
    rw [hj]
    have ⟨hlt, hr⟩ := pickN_lt hj
    show total (s.1.set j (tm s.1 j - 1)) = _
    rw [total_set _ _ _ (by omega)]
    simp
    omega
theorem run_done {short : Bool} {l : List S48} (hrel : ∀ i, i < l.length → (jb l i).f1 ≤ 100) : ∀ (n : Nat) (a : Int) (s : St), s.1.length = l.length → fine s.1 → total s.1 + (if a < 100 then 100 - a else 0) ≤ (n : Int) → total (runF short l n a s).1 ≤ 0 := by
  intro n
  induction n with
  | zero =>
    intro a s hl hf h
    show total s.1 ≤ 0
    split at h <;> omega
  | succ n ih =>
    intro a s hl hf h
    rw [runF]
    have h2 := step_total (short := short) (a := a) hl
    refine ih _ _ (by rw [stepF_len, hl]) (step_fine hl hf) ?_
    cases hp : pick short l s.1 a with
    | some j =>
      rw [hp] at h2
      simp at h2
      split at h <;> split <;> omega
    | none =>
      rw [hp] at h2
      simp at h2
      by_cases ha : a < 100
      · rw [if_pos ha] at h
        split <;> omega
      ·
        have hz : total s.1 ≤ 0 := by
          have hn := pickN_none.1 hp
          have : ∀ i, tm s.1 i = 0 := by
            intro i
            by_cases hi : i < l.length
            · have h1 := hn i hi
              have h3 := fine_tm hf i
              have h4 := hrel i hi
              unfold ready at h1
              omega
            · exact tm_out (by omega)
          have h5 : ∀ t : List Int, (∀ i, tm t i = 0) → total t = 0 := by
            intro t
            induction t with
            | nil => intro _; rfl
            | cons x t iht =>
              intro h
              rw [total_cons, iht (fun i => h (i + 1))]
              have := h 0
              have e : tm (x :: t) 0 = x := rfl
              omega
          rw [h5 _ this]
          exact Int.le_refl _
        have := total_fine hf
        split <;> omega
end Go.Proofs.Ytaboleeclpllpaa.M


namespace Go.Proofs.Ytaboleeclpllpaa.M
open Go.RowKit Go.Proofs.YtaboleeclpllpaaW.PrintWords Go.Proofs.YtaboleeclpllpaaW.PrintLast Go.Proofs.YtaboleeclpllpaaW.PrintMore Go.Proofs.Ytaboleeclpllpaa.P
set_option linter.unusedVariables false
set_option linter.unusedSimpArgs false
def curI : Option Nat → Int
  | none => -1
  | some j => (j : Int)
theorem step_le {short : Bool} {l : List S48} {a : Int} {t : List Int} {out : List Pc} (h : ∀ x ∈ t, x ≤ 20) : ∀ x ∈ (stepF short l a (t, out)).1, x ≤ 20 := by
  intro x hx
  unfold stepF at hx
  split at hx
  · exact h x hx
  · rename_i j hj
    obtain ⟨i, hi, rfl⟩ := List.mem_iff_getElem.1 hx
    simp only [List.length_set] at hi
    rw [List.getElem_set]
    split
    · by_cases hjl : j < t.length
      · have := h _ (tm_mem hjl)
        show tm t j - 1 ≤ 20
        omega
      · show tm t j - 1 ≤ 20
        rw [tm_out (by omega)]
        omega
    · exact h _ (List.getElem_mem hi)
theorem stepF_idle {short : Bool} {l : List S48} {a : Int} {s : St} (h : ∀ i, tm s.1 i = 0) : stepF short l a s = s := by
  have : pick short l s.1 a = none := pickN_none.2 fun i _ hr => by have := hr.2; rw [h i] at this; omega
  unfold stepF
  rw [this]
theorem runF_idle {short : Bool} {l : List S48} {t : List Int} {out : List Pc} (h : ∀ i, tm t i = 0) : ∀ {n : Nat} {a : Int}, runF short l n a (t, out) = (t, out) := by
  intro n
  induction n with
  | zero => intro a; rfl
  | succ n ih =>
    intro a
    rw [runF, stepF_idle (s := (t, out)) h, ih]
theorem valid_len {l : List S48} (h : valid48 l = true) : 1 ≤ l.length ∧ l.length ≤ 8 := by
  simp only [valid48, Bool.and_eq_true, decide_eq_true_eq] at h
  exact h.1
theorem valid_ok {l : List S48} (h : valid48 l = true) {x : S48} (hx : x ∈ l) : 1 ≤ x.f0 ∧ x.f0 ≤ 20 ∧ 0 ≤ x.f1 ∧ x.f1 ≤ 100 ∧ 0 ≤ x.f2 ∧ x.f2 ≤ 200 ∧ 0 ≤ x.f3 ∧ x.f3 ≤ 20 := by
  simp only [valid48, Bool.and_eq_true, List.all_eq_true] at h
  have := h.2 x hx
  simpa [ok48] using this
theorem valid_jb {l : List S48} (h : valid48 l = true) {i : Nat} (hi : i < l.length) : 1 ≤ (jb l i).f0 ∧ (jb l i).f0 ≤ 20 ∧ 0 ≤ (jb l i).f1 ∧ (jb l i).f1 ≤ 100 ∧ 0 ≤ (jb l i).f2 ∧ (jb l i).f2 ≤ 200 ∧ 0 ≤ (jb l i).f3 ∧ (jb l i).f3 ≤ 20 := by
  rw [jb_get hi]
  exact valid_ok h (List.getElem_mem hi)
theorem times_fine {l : List S48} (h : valid48 l = true) : fine (times l) := by
  intro x hx
  obtain ⟨y, hy, rfl⟩ := List.mem_map.1 hx
  have := valid_ok h hy
  omega
theorem times_le {l : List S48} (h : valid48 l = true) : ∀ x ∈ times l, x ≤ 20 := by
  intro x hx
  obtain ⟨y, hy, rfl⟩ := List.mem_map.1 hx
  have := valid_ok h hy
  omega
theorem times_total {l : List S48} (h : valid48 l = true) : total (times l) ≤ 160 := by
  have h1 := total_bound (times l) 20 (by omega) (fun x hx => ⟨by have := times_fine h x hx; omega, times_le h x hx⟩)
  have h2 := valid_len h
  have h3 : (times l).length = l.length := by simp [times]
  omega
theorem plan_done (short : Bool) {l : List S48} (h : valid48 l = true) : total (runF short l 300 0 (times l, [])).1 ≤ 0 := by
  refine run_done (fun i hi => (valid_jb h hi).2.2.2.1) 300 0 (times l, []) (by simp [times]) (times_fine h) ?_
  have := times_total h
  simp
  omega
theorem short_first (l : List S48) (t : List Int) (hl : t.length = l.length) (i j : Nat) (hi : i < l.length) (hj : j < l.length) : dates_shortest_first.f (i : Int) (j : Int) t = some (ahead true l t i j) := by
  unfold dates_shortest_first.f
  rw [if_pos (by omega), if_pos (by omega), if_pos (by omega), if_pos (by omega), rd_nat t i (by omega), rd_nat t j (by omega)]
  simp [ahead, tm_get (show i < t.length by omega), tm_get (show j < t.length by omega)]
theorem short_inner (l : List S48) (t : List Int) (out : List Pc) (a : Int) (hl : l.length ≤ 8) (ht : t.length = l.length) (r : List Pc) : ∀ (d i : Nat), i + d = l.length →
    Ev (fun k => dates_jobs_plan_short.l2 k l out t a (curI (pick true l t a)) l (l.length : Int) (l.length : Int)) r → Ev (fun k => dates_jobs_plan_short.l2 k l out t a (curI (pickN true l t a i)) l (l.length : Int) (i : Int)) r := by
  intro d
  induction d with
  | zero =>
    intro i hi h
    rw [show i = l.length by omega]
    exact h
  | succ d ih =>
    intro i hi h
    have hlt : i < l.length := by omega
    refine Ev.step (fun k => ?_) (ih (i + 1) (by omega) h)
    simp only [dates_jobs_plan_short.l2]
    rw [if_pos (by omega), if_pos (by omega), if_pos (by omega), rd48 l i hlt, w64s i l.length hlt (by omega), if_pos (show (i : Int) < (t.length : Int) by omega)]
    have hjb : jb l i = l[i] := jb_get hlt
    have htm : rd t (i : Int) = tm t i := by rw [rd_nat t i (by omega), tm_get (by omega)]
    by_cases h1 : (l[i]).f1 ≤ a
    · rw [if_pos h1, htm]
      by_cases h2 : tm t i > 0
      · rw [if_pos h2]
        have hr : ready l t a i := ⟨by rw [hjb]; exact h1, h2⟩
        rw [pickN, if_pos hr]
        cases hp : pickN true l t a i with
        | none => rw [if_pos (show curI none < 0 by decide)]; rfl
        | some j =>
          have ⟨hji, _⟩ := pickN_lt hp
          have hc : curI (some j) = (j : Int) := rfl
          rw [hc, if_neg (by omega), short_first l t ht i j hlt (by omega)]
          by_cases ha : ahead true l t i j = true
          · simp only [ha, if_true, Option.bind_some]
            rfl
          · simp only [Bool.eq_false_iff.mpr ha, Option.bind_some, if_false, Bool.false_eq_true]
            rfl
      · rw [if_neg h2]
        have hr : ¬ ready l t a i := fun h => h2 h.2
        rw [pickN, if_neg hr]
    · rw [if_neg h1]
      have hr : ¬ ready l t a i := fun h => h1 (by have := h.1; rwa [hjb] at this)
      rw [pickN, if_neg hr]
theorem short_step (l : List S48) (t : List Int) (out : List Pc) (a : Int) (hl : l.length ≤ 8) (ht : t.length = l.length) (h20 : ∀ x ∈ t, x ≤ 20) (ha0 : 0 ≤ a) (ha : a ≤ 1000) (ho : out.length ≤ 1000) (r : List Pc)
    (h : Ev (fun k => dates_jobs_plan_short.l1 k l (stepF true l a (t, out)).2 (stepF true l a (t, out)).1 (a + 1)) r) : Ev (fun k => dates_jobs_plan_short.l2 k l out t a (-1) l (l.length : Int) 0) r := by
  refine short_inner l t out a hl ht r l.length 0 (by omega) ?_
  refine Ev.step (fun k => ?_) h
  simp only [dates_jobs_plan_short.l2]
  rw [if_neg (by omega)]
  unfold stepF
  cases hp : pick true l t a with
  | none =>
    rw [if_pos (show curI none < 0 by decide), w64 (by omega) (by omega)]
  | some j =>
    have ⟨hj, hr⟩ := pickN_lt hp
    have hc : curI (some j) = (j : Int) := rfl
    have htm : rd t (j : Int) = tm t j := by rw [rd_nat t j (by omega), tm_get (by omega)]
    have h1 := hr.2
    have h2 := h20 _ (tm_mem (show j < t.length by omega))
    rw [hc, if_neg (by omega), if_pos (by omega), if_pos (by omega), Option.bind_some, htm, w64 (x := tm t j - 1) (by omega) (by omega), w64 (x := a + 1) (by omega) (by omega), Int.toNat_natCast]
    show _ = dates_jobs_plan_short.l1 k l (addPc out (j : Int) a) (t.set j (tm t j - 1)) (a + 1)
    rcases List.eq_nil_or_concat out with rfl | ⟨o, p, rfl⟩
    · have hw : wrap64 ((([] : List S44).length : Int) - 1) = -1 := w64 (by simp) (by simp)
      rw [hw, if_neg (by omega), if_pos (by simp)]
      simp [addPc]
    · have hlen : (o.concat p).length = o.length + 1 := by simp
      have hw : wrap64 (((o.concat p).length : Int) - 1) = (o.length : Int) := by rw [hlen, w64 (by omega) (by omega)]; omega
      have hrd : rd_T44 (o.concat p) (o.length : Int) = p := by rw [rd44 _ _ (by omega)]; simp
      rw [hw, if_pos (by omega), if_pos (by omega), if_pos (by omega), hrd]
      have hadd : addPc (o.concat p) (j : Int) a = if p.f0 = (j : Int) ∧ p.f2 = a then (o.concat p).set o.length ⟨p.f0, p.f1, p.f2 + 1⟩ else o.concat p ++ [⟨(j : Int), a, a + 1⟩] := by
        simp [addPc]
      rw [hadd, Int.toNat_natCast]
      by_cases h3 : p.f0 = (j : Int)
      · rw [if_pos h3]
        by_cases h4 : p.f2 = a
        · rw [if_pos h4, if_pos ⟨h3, h4⟩, w64 (x := p.f2 + 1) (by omega) (by omega)]
        · rw [if_neg h4, if_pos (by omega), if_neg (fun h => h4 h.2)]
      · rw [if_neg h3, if_pos (by omega), if_neg (fun h => h3 h.1)]
theorem short_main (l : List S48) (hl : l.length ≤ 8) (h1 : 1 ≤ l.length) : ∀ (n : Nat) (a : Int) (t : List Int) (out : List Pc), t.length = l.length → fine t → (∀ x ∈ t, x ≤ 20) → 0 ≤ a → a + n ≤ 1000 → (out.length : Int) ≤ a → total (runF true l n a (t, out)).1 ≤ 0 →
    Ev (fun k => dates_jobs_plan_short.l1 k l out t a) (runF true l n a (t, out)).2 := by
  intro n
  induction n with
  | zero =>
    intro a t out ht hf h20 ha0 ha ho hd
    obtain ⟨m, hm, hm2⟩ := max_f t (by omega) (by omega)
    have hz := total_zero hf hd
    have : ¬ m > 0 := fun h => by
      obtain ⟨x, hx, hx2⟩ := hm2.1 h
      obtain ⟨i, hi, rfl⟩ := List.mem_iff_getElem.1 hx
      have := hz i
      rw [tm_get hi] at this
      omega
    refine Ev.step (f := fun k => (dates_left_int.f k t).bind fun t128 => (if t128 > 0 then (dates_jobs_plan_short.l2 k l out t a (-1) l (l.length : Int) 0) else (some out))) (fun k => by simp only [dates_jobs_plan_short.l1]) ?_
    refine Ev.bind hm ?_
    simp only [if_neg this]
    exact Ev.now _
  | succ n ih =>
    intro a t out ht hf h20 ha0 ha ho hd
    obtain ⟨m, hm, hm2⟩ := max_f t (by omega) (by omega)
    refine Ev.step (f := fun k => (dates_left_int.f k t).bind fun t128 => (if t128 > 0 then (dates_jobs_plan_short.l2 k l out t a (-1) l (l.length : Int) 0) else (some out))) (fun k => by simp only [dates_jobs_plan_short.l1]) ?_
    refine Ev.bind hm ?_
    by_cases hmp : m > 0
    · simp only [if_pos hmp]
      rw [runF] at hd ⊢
      refine short_step l t out a hl ht h20 ha0 (by omega) (by omega) _ ?_
      have hs20 : ∀ x ∈ (stepF true l a (t, out)).1, x ≤ 20 := step_le h20
      exact ih (a + 1) _ _ (by rw [stepF_len, ht]) (step_fine ht hf) hs20 (by omega) (by omega) (by have := stepF_out true l a (t, out); simp at this; omega) hd
    · simp only [if_neg hmp]
      rw [runF_idle (fun i => by
        by_cases hi : i < t.length
        · have := fun hh => hmp (hm2.2 hh)
          have h0 := fine_tm hf i
          by_cases h5 : tm t i > 0
          · exact absurd ⟨_, tm_mem hi, h5⟩ this
          · show tm t i = 0
            omega
        · exact tm_out (by omega))]
      exact Ev.now _
theorem short_start (l : List S48) (hl : l.length ≤ 8) (r : List Pc) (h : Ev (fun k => dates_jobs_plan_short.l1 k l [] (times l) 0) r) : ∀ (d i : Nat) (t : List Int), i + d = l.length → t.length = l.length → t.take i = (times l).take i → Ev (fun k => dates_jobs_plan_short.l0 k l t l (l.length : Int) (i : Int)) r := by
  intro d
  induction d with
  | zero =>
    intro i t hi ht he
    have : t = times l := by
      have h1 : t.take i = t := List.take_of_length_le (by omega)
      have h2 : (times l).take i = times l := List.take_of_length_le (by simp [times]; omega)
      rw [← h1, ← h2, he]
    subst this
    refine Ev.step (fun k => ?_) h
    simp only [dates_jobs_plan_short.l0]
    rw [if_neg (by omega)]
  | succ d ih =>
    intro i t hi ht he
    have hlt : i < l.length := by omega
    refine Ev.step (fun k => ?_) (ih (i + 1) (t.set i (l[i]).f0) (by omega) (by simpa using ht) ?_)
    · simp only [dates_jobs_plan_short.l0]
      rw [if_pos (by omega), if_pos (by omega), if_pos (by omega), if_pos (show (i : Int) < (t.length : Int) by omega), rd48 l i hlt, w64s i l.length hlt (by omega), Int.toNat_natCast]
    · rw [List.take_succ_eq_append_getElem (by simpa using (show i < t.length by omega)), List.take_succ_eq_append_getElem (by simpa [times] using hlt), List.take_set_of_le (Nat.le_refl i), he]
      simp [times]
theorem short_f (l : List S48) (hv : valid48 l = true) : Ev (fun k => dates_jobs_plan_short.f k l) (planOf true l) := by
  have hl := valid_len hv
  have hm := short_main l hl.2 hl.1 300 0 (times l) [] (by simp [times]) (times_fine hv) (times_le hv) (by omega) (by omega) (by simp) (plan_done true hv)
  have := short_start l hl.2 _ hm l.length 0 (List.replicate l.length 0) (by omega) (by simp) rfl
  refine Ev.congr (fun k => ?_) this
  unfold dates_jobs_plan_short.f
  rw [if_pos (by omega), if_pos (by omega), Int.toNat_natCast]
  rfl
theorem due_first (l : List S48) (t : List Int) (hl : t.length = l.length) (i j : Nat) (hi : i < l.length) (hj : j < l.length) : dates_jobs_first.f l (i : Int) (j : Int) t = some (ahead false l t i j) := by
  unfold dates_jobs_first.f
  rw [if_pos (by omega), if_pos (by omega), if_pos (by omega), if_pos (by omega), rd48 l i (by omega), rd48 l j (by omega)]
  simp [ahead, jb_get hi, jb_get hj]
theorem due_inner (l : List S48) (t : List Int) (out : List Pc) (a : Int) (hl : l.length ≤ 8) (ht : t.length = l.length) (r : List Pc) : ∀ (d i : Nat), i + d = l.length →
    Ev (fun k => dates_jobs_plan_due.l2 k l out t a (curI (pick false l t a)) l (l.length : Int) (l.length : Int)) r → Ev (fun k => dates_jobs_plan_due.l2 k l out t a (curI (pickN false l t a i)) l (l.length : Int) (i : Int)) r := by
  intro d
  induction d with
  | zero =>
    intro i hi h
    rw [show i = l.length by omega]
    exact h
  | succ d ih =>
    intro i hi h
    have hlt : i < l.length := by omega
    refine Ev.step (fun k => ?_) (ih (i + 1) (by omega) h)
    simp only [dates_jobs_plan_due.l2]
    rw [if_pos (by omega), if_pos (by omega), if_pos (by omega), rd48 l i hlt, w64s i l.length hlt (by omega), if_pos (show (i : Int) < (t.length : Int) by omega)]
    have hjb : jb l i = l[i] := jb_get hlt
    have htm : rd t (i : Int) = tm t i := by rw [rd_nat t i (by omega), tm_get (by omega)]
    by_cases h1 : (l[i]).f1 ≤ a
    · rw [if_pos h1, htm]
      by_cases h2 : tm t i > 0
      · rw [if_pos h2]
        have hr : ready l t a i := ⟨by rw [hjb]; exact h1, h2⟩
        rw [pickN, if_pos hr]
        cases hp : pickN false l t a i with
        | none => rw [if_pos (show curI none < 0 by decide)]; rfl
        | some j =>
          have ⟨hji, _⟩ := pickN_lt hp
          have hc : curI (some j) = (j : Int) := rfl
          rw [hc, if_neg (by omega), due_first l t ht i j hlt (by omega)]
          by_cases ha : ahead false l t i j = true
          · simp only [ha, if_true, Option.bind_some]
            rfl
          · simp only [Bool.eq_false_iff.mpr ha, Option.bind_some, if_false, Bool.false_eq_true]
            rfl
      · rw [if_neg h2]
        have hr : ¬ ready l t a i := fun h => h2 h.2
        rw [pickN, if_neg hr]
    · rw [if_neg h1]
      have hr : ¬ ready l t a i := fun h => h1 (by have := h.1; rwa [hjb] at this)
      rw [pickN, if_neg hr]
theorem due_step (l : List S48) (t : List Int) (out : List Pc) (a : Int) (hl : l.length ≤ 8) (ht : t.length = l.length) (h20 : ∀ x ∈ t, x ≤ 20) (ha0 : 0 ≤ a) (ha : a ≤ 1000) (ho : out.length ≤ 1000) (r : List Pc)
    (h : Ev (fun k => dates_jobs_plan_due.l1 k l (stepF false l a (t, out)).2 (stepF false l a (t, out)).1 (a + 1)) r) : Ev (fun k => dates_jobs_plan_due.l2 k l out t a (-1) l (l.length : Int) 0) r := by
  refine due_inner l t out a hl ht r l.length 0 (by omega) ?_
  refine Ev.step (fun k => ?_) h
  simp only [dates_jobs_plan_due.l2]
  rw [if_neg (by omega)]
  unfold stepF
  cases hp : pick false l t a with
  | none =>
    rw [if_pos (show curI none < 0 by decide), w64 (by omega) (by omega)]
  | some j =>
    have ⟨hj, hr⟩ := pickN_lt hp
    have hc : curI (some j) = (j : Int) := rfl
    have htm : rd t (j : Int) = tm t j := by rw [rd_nat t j (by omega), tm_get (by omega)]
    have h1 := hr.2
    have h2 := h20 _ (tm_mem (show j < t.length by omega))
    rw [hc, if_neg (by omega), if_pos (by omega), if_pos (by omega), Option.bind_some, htm, w64 (x := tm t j - 1) (by omega) (by omega), w64 (x := a + 1) (by omega) (by omega), Int.toNat_natCast]
    show _ = dates_jobs_plan_due.l1 k l (addPc out (j : Int) a) (t.set j (tm t j - 1)) (a + 1)
    rcases List.eq_nil_or_concat out with rfl | ⟨o, p, rfl⟩
    · have hw : wrap64 ((([] : List S44).length : Int) - 1) = -1 := w64 (by simp) (by simp)
      rw [hw, if_neg (by omega), if_pos (by simp)]
      simp [addPc]
    · have hlen : (o.concat p).length = o.length + 1 := by simp
      have hw : wrap64 (((o.concat p).length : Int) - 1) = (o.length : Int) := by rw [hlen, w64 (by omega) (by omega)]; omega
      have hrd : rd_T44 (o.concat p) (o.length : Int) = p := by rw [rd44 _ _ (by omega)]; simp
      rw [hw, if_pos (by omega), if_pos (by omega), if_pos (by omega), hrd]
      have hadd : addPc (o.concat p) (j : Int) a = if p.f0 = (j : Int) ∧ p.f2 = a then (o.concat p).set o.length ⟨p.f0, p.f1, p.f2 + 1⟩ else o.concat p ++ [⟨(j : Int), a, a + 1⟩] := by
        simp [addPc]
      rw [hadd, Int.toNat_natCast]
      by_cases h3 : p.f0 = (j : Int)
      · rw [if_pos h3]
        by_cases h4 : p.f2 = a
        · rw [if_pos h4, if_pos ⟨h3, h4⟩, w64 (x := p.f2 + 1) (by omega) (by omega)]
        · rw [if_neg h4, if_pos (by omega), if_neg (fun h => h4 h.2)]
      · rw [if_neg h3, if_pos (by omega), if_neg (fun h => h3 h.1)]
theorem due_main (l : List S48) (hl : l.length ≤ 8) (h1 : 1 ≤ l.length) : ∀ (n : Nat) (a : Int) (t : List Int) (out : List Pc), t.length = l.length → fine t → (∀ x ∈ t, x ≤ 20) → 0 ≤ a → a + n ≤ 1000 → (out.length : Int) ≤ a → total (runF false l n a (t, out)).1 ≤ 0 →
    Ev (fun k => dates_jobs_plan_due.l1 k l out t a) (runF false l n a (t, out)).2 := by
  intro n
  induction n with
  | zero =>
    intro a t out ht hf h20 ha0 ha ho hd
    obtain ⟨m, hm, hm2⟩ := max_f t (by omega) (by omega)
    have hz := total_zero hf hd
    have : ¬ m > 0 := fun h => by
      obtain ⟨x, hx, hx2⟩ := hm2.1 h
      obtain ⟨i, hi, rfl⟩ := List.mem_iff_getElem.1 hx
      have := hz i
      rw [tm_get hi] at this
      omega
    refine Ev.step (f := fun k => (dates_left_int.f k t).bind fun t128 => (if t128 > 0 then (dates_jobs_plan_due.l2 k l out t a (-1) l (l.length : Int) 0) else (some out))) (fun k => by simp only [dates_jobs_plan_due.l1]) ?_
    refine Ev.bind hm ?_
    simp only [if_neg this]
    exact Ev.now _
  | succ n ih =>
    intro a t out ht hf h20 ha0 ha ho hd
    obtain ⟨m, hm, hm2⟩ := max_f t (by omega) (by omega)
    refine Ev.step (f := fun k => (dates_left_int.f k t).bind fun t128 => (if t128 > 0 then (dates_jobs_plan_due.l2 k l out t a (-1) l (l.length : Int) 0) else (some out))) (fun k => by simp only [dates_jobs_plan_due.l1]) ?_
    refine Ev.bind hm ?_
    by_cases hmp : m > 0
    · simp only [if_pos hmp]
      rw [runF] at hd ⊢
      refine due_step l t out a hl ht h20 ha0 (by omega) (by omega) _ ?_
      have hs20 : ∀ x ∈ (stepF false l a (t, out)).1, x ≤ 20 := step_le h20
      exact ih (a + 1) _ _ (by rw [stepF_len, ht]) (step_fine ht hf) hs20 (by omega) (by omega) (by have := stepF_out false l a (t, out); simp at this; omega) hd
    · simp only [if_neg hmp]
      rw [runF_idle (fun i => by
        by_cases hi : i < t.length
        · have := fun hh => hmp (hm2.2 hh)
          have h0 := fine_tm hf i
          by_cases h5 : tm t i > 0
          · exact absurd ⟨_, tm_mem hi, h5⟩ this
          · show tm t i = 0
            omega
        · exact tm_out (by omega))]
      exact Ev.now _
theorem due_start (l : List S48) (hl : l.length ≤ 8) (r : List Pc) (h : Ev (fun k => dates_jobs_plan_due.l1 k l [] (times l) 0) r) : ∀ (d i : Nat) (t : List Int), i + d = l.length → t.length = l.length → t.take i = (times l).take i → Ev (fun k => dates_jobs_plan_due.l0 k l t l (l.length : Int) (i : Int)) r := by
  intro d
  induction d with
  | zero =>
    intro i t hi ht he
    have : t = times l := by
      have h1 : t.take i = t := List.take_of_length_le (by omega)
      have h2 : (times l).take i = times l := List.take_of_length_le (by simp [times]; omega)
      rw [← h1, ← h2, he]
    subst this
    refine Ev.step (fun k => ?_) h
    simp only [dates_jobs_plan_due.l0]
    rw [if_neg (by omega)]
  | succ d ih =>
    intro i t hi ht he
    have hlt : i < l.length := by omega
    refine Ev.step (fun k => ?_) (ih (i + 1) (t.set i (l[i]).f0) (by omega) (by simpa using ht) ?_)
    · simp only [dates_jobs_plan_due.l0]
      rw [if_pos (by omega), if_pos (by omega), if_pos (by omega), if_pos (show (i : Int) < (t.length : Int) by omega), rd48 l i hlt, w64s i l.length hlt (by omega), Int.toNat_natCast]
    · rw [List.take_succ_eq_append_getElem (by simpa using (show i < t.length by omega)), List.take_succ_eq_append_getElem (by simpa [times] using hlt), List.take_set_of_le (Nat.le_refl i), he]
      simp [times]
theorem due_f (l : List S48) (hv : valid48 l = true) : Ev (fun k => dates_jobs_plan_due.f k l) (planOf false l) := by
  have hl := valid_len hv
  have hm := due_main l hl.2 hl.1 300 0 (times l) [] (by simp [times]) (times_fine hv) (times_le hv) (by omega) (by omega) (by simp) (plan_done false hv)
  have := due_start l hl.2 _ hm l.length 0 (List.replicate l.length 0) (by omega) (by simp) rfl
  refine Ev.congr (fun k => ?_) this
  unfold dates_jobs_plan_due.f
  rw [if_pos (by omega), if_pos (by omega), Int.toNat_natCast]
  rfl
end Go.Proofs.Ytaboleeclpllpaa.M


namespace Go.Proofs.Ytaboleeclpllpaa.M
open Go.RowKit Go.Proofs.YtaboleeclpllpaaW.PrintWords Go.Proofs.YtaboleeclpllpaaW.PrintLast Go.Proofs.YtaboleeclpllpaaW.PrintMore Go.Proofs.Ytaboleeclpllpaa.P
set_option linter.unusedVariables false
set_option linter.unusedSimpArgs false
end Go.Proofs.Ytaboleeclpllpaa.M


namespace Go.Proofs.Ytaboleeclpllpaa.M
open Go.RowKit Go.Proofs.YtaboleeclpllpaaW.PrintWords Go.Proofs.YtaboleeclpllpaaW.PrintLast Go.Proofs.YtaboleeclpllpaaW.PrintMore Go.Proofs.Ytaboleeclpllpaa.P
set_option linter.unusedVariables false
set_option linter.unusedSimpArgs false
def Pcs (n : Nat) (a : Int) (p : List Pc) : Prop := ∀ x ∈ p, 0 ≤ x.f0 ∧ x.f0 < (n : Int) ∧ 0 ≤ x.f1 ∧ x.f1 < x.f2 ∧ x.f2 ≤ a
theorem addPc_pcs {n : Nat} {a : Int} {out : List Pc} {j : Nat} (ha : 0 ≤ a) (hj : j < n) (h : Pcs n a out) : Pcs n (a + 1) (addPc out (j : Int) a) := by
  have hold : ∀ x ∈ out, 0 ≤ x.f0 ∧ x.f0 < (n : Int) ∧ 0 ≤ x.f1 ∧ x.f1 < x.f2 ∧ x.f2 ≤ a + 1 := fun x hx => by have := h x hx; omega
  unfold addPc
  split
  · rename_i p hp
    have hpm : p ∈ out := List.mem_of_getLast? hp
    have hpp := h p hpm
    split
    · intro x hx
      rcases List.mem_or_eq_of_mem_set hx with hx | rfl
      · exact hold x hx
      · show 0 ≤ p.f0 ∧ p.f0 < (n : Int) ∧ 0 ≤ p.f1 ∧ p.f1 < p.f2 + 1 ∧ p.f2 + 1 ≤ a + 1
        omega
    · intro x hx
      rcases List.mem_append.1 hx with hx | hx
      · exact hold x hx
      · simp at hx
        subst hx
        show 0 ≤ (j : Int) ∧ (j : Int) < (n : Int) ∧ 0 ≤ a ∧ a < a + 1 ∧ a + 1 ≤ a + 1
        omega
  · intro x hx
    simp at hx
    subst hx
    show 0 ≤ (j : Int) ∧ (j : Int) < (n : Int) ∧ 0 ≤ a ∧ a < a + 1 ∧ a + 1 ≤ a + 1
    omega
theorem stepF_pcs {short : Bool} {l : List S48} {a : Int} {s : St} (ha : 0 ≤ a) (h : Pcs l.length a s.2) : Pcs l.length (a + 1) (stepF short l a s).2 := by
  unfold stepF
  split
  · intro x hx
    have := h x hx
    omega
  · rename_i j hj
    exact addPc_pcs ha (pickN_lt hj).1 h
theorem runF_pcs {short : Bool} {l : List S48} : ∀ (n : Nat) (a : Int) (s : St), 0 ≤ a → Pcs l.length a s.2 → Pcs l.length (a + n) (runF short l n a s).2 := by
  intro n
  induction n with
  | zero => intro a s ha h; simpa [runF] using h
  | succ n ih =>
    intro a s ha h
    rw [runF]
    have := ih (a + 1) _ (by omega) (stepF_pcs (short := short) ha h)
    rwa [show a + ((n + 1 : Nat) : Int) = a + 1 + (n : Int) by omega]
theorem plan_pcs (short : Bool) (l : List S48) : Pcs l.length 300 (planOf short l) := by
  have := runF_pcs (short := short) (l := l) 300 0 (times l, []) (Int.le_refl _) (fun x hx => by cases hx)
  rw [show (0 : Int) + ((300 : Nat) : Int) = 300 from rfl] at this
  exact this
theorem plan_length (short : Bool) (l : List S48) : (planOf short l).length ≤ 300 := by
  have := runF_out short l 300 0 (times l, [])
  simpa [planOf] using this
theorem pcs_jobs {n : Nat} {a : Int} {p : List Pc} (h : Pcs n a p) : jobsIn n p := fun x hx => ⟨(h x hx).1, (h x hx).2.1⟩
theorem endsFrom_bound {b : Int} (p : List Pc) (hp : ∀ x ∈ p, 0 ≤ x.f2 ∧ x.f2 ≤ b) : ∀ acc : List Int, (∀ x ∈ acc, 0 ≤ x ∧ x ≤ b) → ∀ x ∈ endsFrom acc p, 0 ≤ x ∧ x ≤ b := by
  induction p with
  | nil => intro acc h; exact h
  | cons y p ih =>
    intro acc h
    show ∀ x ∈ endsFrom (acc.set y.f0.toNat y.f2) p, _
    refine ih (fun x hx => hp x (by simp [hx])) _ (fun x hx => ?_)
    rcases List.mem_or_eq_of_mem_set hx with hx | rfl
    · exact h x hx
    · exact hp y (by simp)
theorem endsOf_bound {n : Nat} {a : Int} {p : List Pc} (ha : 0 ≤ a) (h : Pcs n a p) : ∀ x ∈ endsOf n p, 0 ≤ x ∧ x ≤ a :=
  endsFrom_bound p (fun x hx => by have := h x hx; omega) _ (fun x hx => by
    have := (List.mem_replicate.1 hx).2
    omega)
theorem due_f' (l : List S48) (hv : valid48 l = true) : Ev (fun k => dates_jobs_due.f k l) (planOf false l) := by
  refine Ev.congr (fun k => ?_) (due_f l hv)
  unfold dates_jobs_due.f
  cases dates_jobs_plan_due.f k l <;> rfl
theorem Plan_f (l : List S48) (hl : l.length ≤ 9223372036854775807) : Ev (fun k => dates_Plan.f k l) (if valid48 l = true then (planOf false l, 0) else ([], 2)) := by
  unfold dates_Plan.f
  refine Ev.bind (valid_f l hl) ?_
  cases hv : valid48 l with
  | true =>
    simp only [if_true]
    exact Ev.bind (due_f' l hv) (Ev.now _)
  | false =>
    simp only [Bool.false_eq_true, if_false]
    exact Ev.now _
theorem Short_f (l : List S48) (hl : l.length ≤ 9223372036854775807) : Ev (fun k => dates_Short.f k l) (if valid48 l = true then (planOf true l, total (endsOf l.length (planOf true l)), 0) else ([], 0, 2)) := by
  unfold dates_Short.f
  refine Ev.bind (valid_f l hl) ?_
  cases hv : valid48 l with
  | true =>
    simp only [if_true]
    have hlen := valid_len hv
    have hpl := plan_length true l
    refine Ev.bind (short_f l hv) ?_
    refine Ev.bind (finished_f l _ hlen.2 (by omega) (pcs_jobs (plan_pcs true l))) ?_
    have hb := endsOf_bound (by omega) (plan_pcs true l)
    exact short_sum _ _ (by rw [endsOf_length]; exact hlen.2) (fun x hx => by have := hb x hx; omega) (endsOf l.length (planOf true l)).length 0 0 (by omega) rfl
  | false =>
    simp only [Bool.false_eq_true, if_false]
    exact Ev.now _
theorem awake_plan : planOf false [(⟨2, 1, 9, 0⟩ : S48)] = [(⟨0, 1, 3⟩ : S44)] := by kernel_rfl
theorem awake_valid : valid48 [(⟨2, 1, 9, 0⟩ : S48)] = true := by kernel_rfl
theorem awake_f : Ev (fun k => corrodylaw06_awake.f k) true := by
  unfold corrodylaw06_awake.f
  have h := Plan_f [(⟨2, 1, 9, 0⟩ : S48)] (by simp)
  rw [awake_valid, if_pos rfl, awake_plan] at h
  refine Ev.bind h ?_
  simp only [if_true]
  exact Ev.bind (eq44_f _ (by simp)) (Ev.now _)
end Go.Proofs.Ytaboleeclpllpaa.M


namespace Go.Proofs.Ytaboleeclpllpaa.M
open Go.RowKit Go.Proofs.YtaboleeclpllpaaW.PrintWords Go.Proofs.YtaboleeclpllpaaW.PrintLast Go.Proofs.YtaboleeclpllpaaW.PrintMore Go.Proofs.Ytaboleeclpllpaa.P
set_option linter.unusedVariables false
set_option linter.unusedSimpArgs false
theorem pcs_weaken {n : Nat} {a b : Int} {p : List Pc} (h : Pcs n a p) (hab : a ≤ b) : Pcs n b p := fun x hx => by have := h x hx; omega
end Go.Proofs.Ytaboleeclpllpaa.M


namespace Go.Proofs.Ytaboleeclpllpaa.T
set_option linter.unusedVariables false
set_option linter.unusedSimpArgs false
def sumN : Nat → (Nat → Int) → Int
  | 0, _ => 0
  | n + 1, f => sumN n f + f n
def one (b : Prop) [Decidable b] : Int := if b then 1 else 0
def cnt (u : Nat → Option Nat) (j : Nat) (a : Nat) : Int := sumN a (fun s => one (u s = some j))
theorem one_nn (b : Prop) [Decidable b] : 0 ≤ one b := by unfold one; split <;> omega
theorem one_pos {b : Prop} [Decidable b] (h : b) : one b = 1 := if_pos h
theorem one_neg {b : Prop} [Decidable b] (h : ¬ b) : one b = 0 := if_neg h
theorem cnt_succ (u : Nat → Option Nat) (j a : Nat) : cnt u j (a + 1) = cnt u j a + one (u a = some j) := rfl
theorem cnt_mono (u : Nat → Option Nat) (j : Nat) {a : Nat} : ∀ {b : Nat}, a ≤ b → cnt u j a ≤ cnt u j b := by
  intro b
  induction b with
  | zero => intro h; rw [show a = 0 by omega]; exact Int.le_refl _
  | succ b ih =>
    intro h
    by_cases hab : a = b + 1
    · subst hab; exact Int.le_refl _
    · have := ih (by omega)
      have := one_nn (u b = some j)
      rw [cnt_succ]
      omega
structure Sched (n : Nat) (tim rel : Nat → Int) (u : Nat → Option Nat) (C : Nat → Int) (H : Nat) : Prop where
  job : ∀ a j, a < H → u a = some j → j < n ∧ rel j ≤ a
  full : ∀ j, j < n → cnt u j H = tim j
  last : ∀ j, j < n → ∃ a : Nat, a < H ∧ C j = (a : Int) + 1 ∧ u a = some j ∧ ∀ s, a < s → s < H → u s ≠ some j
section
variable {n : Nat} {tim rel : Nat → Int} {u : Nat → Option Nat} {C : Nat → Int} {H : Nat}
theorem Sched.before (h : Sched n tim rel u C H) {j s : Nat} (hj : j < n) (hs : s < H) (hu : u s = some j) : (s : Int) < C j := by
  obtain ⟨a, ha, hC, hua, hl⟩ := h.last j hj
  by_cases hsa : s ≤ a
  · omega
  · exact absurd hu (hl s (by omega) hs)
theorem Sched.le (h : Sched n tim rel u C H) {j : Nat} (hj : j < n) (a : Nat) (ha : a ≤ H) : cnt u j a ≤ tim j := by
  rw [← h.full j hj]; exact cnt_mono u j ha
theorem Sched.open (h : Sched n tim rel u C H) {j : Nat} (hj : j < n) {a s : Nat} (has : a ≤ s) (hs : s < H) (hu : u s = some j) : cnt u j a < tim j := by
  have h1 := cnt_mono u j has
  have h2 := h.le hj (s + 1) (by omega)
  rw [cnt_succ, one_pos hu] at h2
  omega
end
def outside (n : Nat) (S : Nat → Prop) [DecidablePred S] (f : Nat → Int) : Int := sumN n (fun i => if S i then 0 else f i)
def size (n : Nat) (S : Nat → Prop) [DecidablePred S] : Int := sumN n (fun i => one (S i))
def Below' (n : Nat) (x y : Nat → Int) : Prop := ∀ S : Nat → Bool, ∃ S' : Nat → Bool, size n (fun i => S' i = true) ≤ size n (fun i => S i = true) ∧ outside n (fun i => S' i = true) x ≤ outside n (fun i => S i = true) y
theorem Below'.refl (n : Nat) (x : Nat → Int) : Below' n x x := fun S => ⟨S, Int.le_refl _, Int.le_refl _⟩
end Go.Proofs.Ytaboleeclpllpaa.T


namespace Go.Proofs.Ytaboleeclpllpaa.M
open Go.RowKit Go.Proofs.YtaboleeclpllpaaW.PrintWords Go.Proofs.YtaboleeclpllpaaW.PrintLast Go.Proofs.YtaboleeclpllpaaW.PrintMore Go.Proofs.Ytaboleeclpllpaa.P Go.Proofs.Ytaboleeclpllpaa.T
set_option linter.unusedVariables false
set_option linter.unusedSimpArgs false
def stt (short : Bool) (l : List S48) (a : Nat) : St := runF short l a 0 (times l, [])
def unitOf (short : Bool) (l : List S48) (a : Nat) : Option Nat := pick short l (stt short l a).1 a
theorem stt_succ (short : Bool) (l : List S48) (a : Nat) : stt short l (a + 1) = stepF short l a (stt short l a) := by
  rw [stt, runF_succ, Int.zero_add]
  rfl
theorem stt_len (short : Bool) (l : List S48) (a : Nat) : (stt short l a).1.length = l.length := by
  rw [stt, runF_len]
  simp [times]
def timf (l : List S48) (j : Nat) : Int := (jb l j).f0
def relf (l : List S48) (j : Nat) : Int := (jb l j).f1
theorem stt_tm (short : Bool) (l : List S48) (j : Nat) : ∀ a : Nat, tm (stt short l a).1 j = timf l j - cnt (unitOf short l) j a := by
  intro a
  induction a with
  | zero =>
    show tm (times l) j = timf l j - 0
    unfold timf tm times jb
    rw [List.getD_eq_getElem?_getD, List.getD_eq_getElem?_getD, List.getElem?_map]
    cases l[j]? with
    | none => rfl
    | some x => simp
  | succ a ih =>
    rw [stt_succ, cnt_succ]
    have hu : unitOf short l a = pick short l (stt short l a).1 a := rfl
    unfold stepF
    split
    · rename_i hp
      rw [ih, hu, hp, one_neg (by simp)]
      omega
    · rename_i i hp
      have hi := (pickN_lt hp).1
      show tm ((stt short l a).1.set i (tm (stt short l a).1 i - 1)) j = _
      rw [tm_set _ _ _ _ (by rw [stt_len]; exact hi), hu, hp]
      by_cases hji : j = i
      · subst hji
        rw [if_pos rfl, one_pos rfl, ih]
        omega
      · rw [if_neg hji, one_neg (fun he => hji (Option.some.inj he).symm), ih]
        omega
theorem getLast_split {α : Type} {p : List α} {x : α} (h : p.getLast? = some x) : ∃ q, p = q ++ [x] := by
  have hne : p ≠ [] := by intro he; rw [he] at h; cases h
  refine ⟨p.dropLast, ?_⟩
  have := List.dropLast_concat_getLast hne
  rw [List.getLast?_eq_some_getLast hne] at h
  rw [Option.some.inj h] at this
  exact this.symm
theorem addPc_cases (out : List Pc) (j a : Int) : (∃ q x, out = q ++ [x] ∧ x.f0 = j ∧ x.f2 = a ∧ addPc out j a = q ++ [⟨j, x.f1, a + 1⟩]) ∨ addPc out j a = out ++ [⟨j, a, a + 1⟩] := by
  unfold addPc
  cases h : out.getLast? with
  | none =>
    right
    rw [List.getLast?_eq_none_iff.1 h]
    rfl
  | some p =>
    by_cases hc : p.f0 = j ∧ p.f2 = a
    · obtain ⟨q, hq⟩ := getLast_split h
      left
      refine ⟨q, p, hq, hc.1, hc.2, ?_⟩
      simp only [if_pos hc]
      subst hq
      rw [hc.1, hc.2]
      simp
    · right
      simp only [if_neg hc]
theorem stt_fine {l : List S48} (hv : valid48 l = true) (short : Bool) (a : Nat) : fine (stt short l a).1 :=
  run_fine a 0 _ (by simp [times]) (times_fine hv)
theorem stt_idle {l : List S48} (hv : valid48 l = true) (short : Bool) {a : Nat} (ha : 300 ≤ a) : stt short l a = stt short l 300 ∧ ∀ i, tm (stt short l a).1 i = 0 := by
  have hz := total_zero (stt_fine hv short 300) (plan_done short hv)
  have : stt short l a = stt short l 300 := by
    have h := runF_add short l 300 (a - 300) 0 (times l, [])
    rw [show 300 + (a - 300) = a by omega] at h
    have hz' : ∀ i, tm (runF short l 300 0 (times l, [])).1 i = 0 := hz
    unfold stt
    rw [h]
    generalize runF short l 300 0 (times l, []) = s at hz' ⊢
    obtain ⟨t, out⟩ := s
    exact runF_idle hz'
  exact ⟨this, by rw [this]; exact hz⟩
theorem unit_ready {short : Bool} {l : List S48} {a j : Nat} (h : unitOf short l a = some j) : j < l.length ∧ relf l j ≤ a ∧ 0 < tm (stt short l a).1 j := by
  have := pickN_lt h
  exact ⟨this.1, this.2.1, this.2.2⟩
theorem plan_full {l : List S48} (hv : valid48 l = true) (short : Bool) (j : Nat) {H : Nat} (hH : 300 ≤ H) : cnt (unitOf short l) j H = timf l j := by
  have h1 := stt_tm short l j H
  have h2 := (stt_idle hv short hH).2 j
  omega
end Go.Proofs.Ytaboleeclpllpaa.M


namespace Go.Proofs.Ytaboleeclpllpaa.M
open Go.RowKit Go.Proofs.YtaboleeclpllpaaW.PrintWords Go.Proofs.YtaboleeclpllpaaW.PrintLast Go.Proofs.YtaboleeclpllpaaW.PrintMore Go.Proofs.Ytaboleeclpllpaa.P Go.Proofs.Ytaboleeclpllpaa.T
set_option linter.unusedVariables false
set_option linter.unusedSimpArgs false
def after (q : Option Pc) (x : Pc) : Prop := match q with
  | none => True
  | some y => y.f2 ≤ x.f1 ∧ ¬ (y.f2 = x.f1 ∧ y.f0 = x.f0)
instance (q : Option Pc) (x : Pc) : Decidable (after q x) := by unfold after; split <;> infer_instance
def okPc (l : List S48) (q : Option Pc) (x : Pc) : Bool := decide ((0 ≤ x.f0 ∧ x.f0 < (l.length : Int) ∧ (jb l x.f0.toNat).f1 ≤ x.f1 ∧ x.f1 < x.f2 ∧ x.f2 ≤ 1000) ∧ after q x)
def chain (l : List S48) : Option Pc → List Pc → Bool
  | _, [] => true
  | q, x :: xs => okPc l q x && chain l (some x) xs
def workFrom (acc : List Int) (p : List Pc) : List Int := p.foldl (fun a x => a.set x.f0.toNat (tm a x.f0.toNat + (x.f2 - x.f1))) acc
def workOf (n : Nat) (p : List Pc) : List Int := workFrom (List.replicate n 0) p
def wholeB (l : List S48) (p : List Pc) : Bool := chain l none p && decide (workOf l.length p = times l)
theorem times_len (l : List S48) : (times l).length = l.length := by simp [times]
theorem workFrom_length (p : List Pc) : ∀ acc : List Int, (workFrom acc p).length = acc.length := by
  induction p with
  | nil => intro acc; rfl
  | cons x xs ih =>
    intro acc
    show (workFrom (acc.set x.f0.toNat (tm acc x.f0.toNat + (x.f2 - x.f1))) xs).length = _
    rw [ih, List.length_set]
def reach (q : Option Pc) : Int := match q with
  | none => 0
  | some y => y.f2
theorem okPc_iff {l : List S48} {q : Option Pc} {x : Pc} : okPc l q x = true ↔ (0 ≤ x.f0 ∧ x.f0 < (l.length : Int) ∧ (jb l x.f0.toNat).f1 ≤ x.f1 ∧ x.f1 < x.f2 ∧ x.f2 ≤ 1000) ∧ after q x := by simp [okPc]
theorem chain_jobs {l : List S48} : ∀ {p : List Pc} {q : Option Pc}, chain l q p = true → ∀ x ∈ p, 0 ≤ x.f0 ∧ x.f0 < (l.length : Int) ∧ (jb l x.f0.toNat).f1 ≤ x.f1 ∧ x.f1 < x.f2 ∧ x.f2 ≤ 1000
  | [], _, _, x, hx => by cases hx
  | y :: ys, q, h, x, hx => by
    rw [chain, Bool.and_eq_true] at h
    rcases List.mem_cons.1 hx with rfl | hx
    · exact (okPc_iff.1 h.1).1
    · exact chain_jobs h.2 x hx
def wk (j : Nat) : List Pc → Int
  | [] => 0
  | x :: xs => (if x.f0.toNat = j then x.f2 - x.f1 else 0) + wk j xs
theorem workFrom_tm (j : Nat) : ∀ (p : List Pc) (acc : List Int), (∀ x ∈ p, x.f0.toNat < acc.length) → tm (workFrom acc p) j = tm acc j + wk j p
  | [], acc, _ => by simp [workFrom, wk]
  | x :: xs, acc, h => by
    have hx := h x (by simp)
    show tm (workFrom (acc.set x.f0.toNat (tm acc x.f0.toNat + (x.f2 - x.f1))) xs) j = _
    rw [workFrom_tm j xs _ (fun y hy => by rw [List.length_set]; exact h y (by simp [hy])), tm_set _ _ _ _ hx, wk]
    by_cases hj : j = x.f0.toNat
    · rw [if_pos hj, if_pos hj.symm, hj]
      omega
    · rw [if_neg hj, if_neg (fun e => hj e.symm)]
      omega
theorem whole_parts {l : List S48} {p : List Pc} (h : wholeB l p = true) : chain l none p = true ∧ workOf l.length p = times l := by
  unfold wholeB at h
  rw [Bool.and_eq_true, decide_eq_true_eq] at h
  exact h
theorem times_tm (l : List S48) (j : Nat) : tm (times l) j = timf l j := by
  unfold timf tm times jb
  rw [List.getD_eq_getElem?_getD, List.getD_eq_getElem?_getD, List.getElem?_map]
  cases l[j]? with
  | none => rfl
  | some x => simp
theorem whole_wk {l : List S48} (hv : valid48 l = true) {p : List Pc} (h : wholeB l p = true) {j : Nat} (hj : j < l.length) : wk j p = timf l j := by
  obtain ⟨hc, hw⟩ := whole_parts h
  have h1 := workFrom_tm j p (List.replicate l.length 0) (fun x hx => by
    have := chain_jobs hc x hx
    rw [List.length_replicate]
    omega)
  have h2 : tm (List.replicate l.length 0) j = 0 := by simp [tm, List.getD_eq_getElem?_getD, List.getElem?_replicate, hj]
  rw [h2, Int.zero_add] at h1
  rw [← h1, ← times_tm, ← hw]
  rfl
theorem chain_snoc {l : List S48} {x : Pc} : ∀ {p : List Pc} {q : Option Pc}, chain l q (p ++ [x]) = (chain l q p && okPc l (p.getLast?.or q) x)
  | [], q => by simp [chain]
  | y :: ys, q => by
    rw [List.cons_append, chain, chain, chain_snoc, Bool.and_assoc]
    congr 2
    cases ys with
    | nil => rfl
    | cons z zs =>
      rw [List.getLast?_cons_cons]
      cases hw : (z :: zs).getLast? with
      | none => rw [List.getLast?_eq_none_iff] at hw; cases hw
      | some w => rfl
theorem wk_append (j : Nat) : ∀ p q : List Pc, wk j (p ++ q) = wk j p + wk j q
  | [], q => by simp [wk]
  | x :: xs, q => by rw [List.cons_append, wk, wk, wk_append j xs q]; omega
theorem wk_addPc (j i : Nat) (out : List Pc) (a : Int) : wk j (addPc out (i : Int) a) = wk j out + one (j = i) := by
  have h1 : wk j [(⟨(i : Int), a, a + 1⟩ : Pc)] = one (j = i) := by
    show (if ((i : Int)).toNat = j then (a + 1) - a else 0) + 0 = _
    by_cases h : j = i
    · rw [one_pos h, if_pos (by omega)]; omega
    · rw [one_neg h, if_neg (by omega)]; rfl
  rcases addPc_cases out i a with ⟨q, x, ho, h0, h2, hr⟩ | hr
  · rw [hr, ho, wk_append, wk_append]
    have e1 : wk j [x] = (if x.f0.toNat = j then x.f2 - x.f1 else 0) + 0 := rfl
    have e2 : wk j [(⟨(i : Int), x.f1, a + 1⟩ : Pc)] = (if ((i : Int)).toNat = j then (a + 1) - x.f1 else 0) + 0 := rfl
    rw [e1, e2, h0, h2]
    by_cases h : j = i
    · rw [one_pos h, if_pos (by omega), if_pos (by omega)]; omega
    · rw [one_neg h, if_neg (by omega), if_neg (by omega)]; omega
  · rw [hr, wk_append, h1]
theorem stt_wk (short : Bool) (l : List S48) (j : Nat) : ∀ a : Nat, wk j (stt short l a).2 = cnt (unitOf short l) j a := by
  intro a
  induction a with
  | zero => rfl
  | succ a ih =>
    rw [stt_succ, cnt_succ, ← ih]
    have hu : unitOf short l a = pick short l (stt short l a).1 a := rfl
    unfold stepF
    split
    · rename_i hp
      rw [hu, hp, one_neg (by simp)]
      omega
    · rename_i i hp
      show wk j (addPc (stt short l a).2 (i : Int) a) = _
      rw [wk_addPc, hu, hp]
      congr 1
      by_cases h : j = i
      · rw [one_pos h, one_pos (by rw [h])]
      · rw [one_neg h, one_neg (fun e => h (Option.some.inj e).symm)]
theorem stt_chain {l : List S48} (hv : valid48 l = true) (short : Bool) : ∀ a : Nat, a ≤ 300 → chain l none (stt short l a).2 = true ∧ ∀ x ∈ (stt short l a).2, x.f2 ≤ (a : Int) := by
  intro a
  induction a with
  | zero => exact fun _ => ⟨rfl, fun x hx => by cases hx⟩
  | succ a ih =>
    intro ha
    obtain ⟨h1, h2⟩ := ih (by omega)
    rw [stt_succ]
    have hu : unitOf short l a = pick short l (stt short l a).1 a := rfl
    unfold stepF
    split
    · exact ⟨h1, fun x hx => by have := h2 x hx; omega⟩
    · rename_i i hp
      rw [hp] at hu
      have hr := unit_ready hu
      have hrj : relf l i = (jb l i).f1 := rfl
      show chain l none (addPc (stt short l a).2 (i : Int) a) = true ∧ ∀ x ∈ addPc (stt short l a).2 (i : Int) a, x.f2 ≤ _
      generalize ho : (stt short l a).2 = out at h1 h2
      rcases addPc_cases out i a with ⟨q, x, hq, h0, hx2, hres⟩ | hres
      · rw [hres]
        subst hq
        rw [chain_snoc, Bool.and_eq_true] at h1
        have hok := okPc_iff.1 h1.2
        refine ⟨?_, fun y hy => ?_⟩
        · rw [chain_snoc, Bool.and_eq_true]
          refine ⟨h1.1, okPc_iff.2 ⟨⟨by show (0 : Int) ≤ i; omega, by show (i : Int) < _; omega, ?_, by show x.f1 < (a : Int) + 1; omega, by show (a : Int) + 1 ≤ 1000; omega⟩, ?_⟩⟩
          · have := hok.1.2.2.1
            rw [h0] at this
            exact this
          · have h5 := hok.2
            rw [h0.symm]
            generalize (q.getLast?.or none) = z at h5 ⊢
            cases z with
            | none => trivial
            | some z => exact h5
        · rcases List.mem_append.1 hy with hy | hy
          · have := h2 y (by simp [hy])
            omega
          · simp at hy
            subst hy
            show (a : Int) + 1 ≤ _
            omega
      · rcases hcase : out.getLast? with _ | z
        · have hnil := List.getLast?_eq_none_iff.1 hcase
          subst hnil
          rw [hres]
          refine ⟨?_, fun y hy => ?_⟩
          · show chain l none ([] ++ [_]) = true
            rw [chain_snoc, Bool.and_eq_true]
            refine ⟨rfl, okPc_iff.2 ⟨⟨by show (0 : Int) ≤ i; omega, by show (i : Int) < _; omega, ?_, by show (a : Int) < (a : Int) + 1; omega, by show (a : Int) + 1 ≤ 1000; omega⟩, trivial⟩⟩
            show (jb l ((i : Int)).toNat).f1 ≤ (a : Int)
            rw [show ((i : Int)).toNat = i by omega]
            omega
          · simp at hy
            subst hy
            show (a : Int) + 1 ≤ _
            omega
        · have hz : z.f2 ≤ (a : Int) := h2 z (List.mem_of_getLast? hcase)
          have hne : ¬ (z.f2 = (a : Int) ∧ z.f0 = (i : Int)) := by
            rintro ⟨e1, e2⟩
            have hlen := congrArg List.length hres
            unfold addPc at hlen
            rw [hcase] at hlen
            simp only [e1, e2, and_self, if_true] at hlen
            simp at hlen
          rw [hres]
          refine ⟨?_, fun y hy => ?_⟩
          · rw [chain_snoc, Bool.and_eq_true, hcase]
            refine ⟨h1, okPc_iff.2 ⟨⟨by show (0 : Int) ≤ i; omega, by show (i : Int) < _; omega, ?_, by show (a : Int) < (a : Int) + 1; omega, by show (a : Int) + 1 ≤ 1000; omega⟩, ?_⟩⟩
            · show (jb l ((i : Int)).toNat).f1 ≤ (a : Int)
              rw [show ((i : Int)).toNat = i by omega]
              omega
            · exact ⟨hz, hne⟩
          · rcases List.mem_append.1 hy with hy | hy
            · have := h2 y hy
              omega
            · simp at hy
              subst hy
              show (a : Int) + 1 ≤ _
              omega
theorem list_tm_ext {s t : List Int} (hl : s.length = t.length) (h : ∀ i, i < s.length → tm s i = tm t i) : s = t := by
  refine List.ext_getElem hl (fun i h1 h2 => ?_)
  rw [← tm_get h1, ← tm_get h2]
  exact h i h1
theorem plan_whole {l : List S48} (hv : valid48 l = true) (short : Bool) : wholeB l (planOf short l) = true := by
  have hc : chain l none (planOf short l) = true := (stt_chain hv short 300 (Nat.le_refl _)).1
  unfold wholeB
  rw [Bool.and_eq_true, decide_eq_true_eq]
  refine ⟨hc, list_tm_ext ?_ (fun i hi => ?_)⟩
  · rw [workOf, workFrom_length, List.length_replicate, times_len]
  · rw [workOf, workFrom_length, List.length_replicate] at hi
    rw [workOf, workFrom_tm i _ _ (fun x hx => by
      have := chain_jobs hc x hx
      rw [List.length_replicate]
      omega), times_tm]
    have h2 : tm (List.replicate l.length 0) i = 0 := by simp [tm, List.getD_eq_getElem?_getD, List.getElem?_replicate, hi]
    have h3 : wk i (planOf short l) = cnt (unitOf short l) i 300 := stt_wk short l i 300
    rw [h2, h3, plan_full hv short i (Nat.le_refl _)]
    omega
end Go.Proofs.Ytaboleeclpllpaa.M


namespace Go.Proofs.Ytaboleeclpllpaa.Open
open Go.RowKit Go.ChangeShapes Go.WideShapes Go.Deep Go.Proofs.YtaboleeclpllpaaW.PrintWords Go.Proofs.Ytaboleeclpllpaa.P
set_option linter.unusedVariables false
set_option linter.unusedSimpArgs false
def wfi (x : Int) : Prop := -9223372036854775808 ≤ x ∧ x ≤ 9223372036854775807
theorem wfi_of {x : Int} (h : (Lit.int .i64 x).wf = true) : wfi x := by
  simp only [Lit.wf, Bool.and_eq_true, decide_eq_true_eq] at h
  exact ⟨h.1, h.2⟩
section
variable {H : Type} {enc : TypeId × Value → H} {W : World} {base : Nat} {spare : Nat → Bool} {held : Bool} {fuel : Nat} {y : DataW H × List MemPlace}
theorem open_i64 {t : TypeId} {P : Program} (hu : P.underlying t = some (.int .i64)) {cs : List Value} (h : DataW.trod enc P W base spare held fuel t cs = some y) : ∃ x : Int, cs = [.int .i64 x] ∧ wfi x := by
  obtain ⟨x, hx, _, hw⟩ := DataW.trod_int hu h
  exact ⟨x, hx, wfi_of hw⟩
theorem open_struct4 {P : Program} {e ti : TypeId} {f0 f1 f2 f3 : Field} (he : P.underlying e = some (.struct #[f0, f1, f2, f3])) (hC : P.cellsOf e = 4) (hu : P.underlying ti = some (.int .i64)) (hk : P.cellsOf ti = 1)
    (h0 : f0.type = ti ∧ f0.offset = 0) (h1 : f1.type = ti ∧ f1.offset = 1) (h2 : f2.type = ti ∧ f2.offset = 2) (h3 : f3.type = ti ∧ f3.offset = 3)
    {cs : List Value} (h : DataW.trod enc P W base spare held fuel e cs = some y) :
    ∃ x0 x1 x2 x3 : Int, cs = [.int .i64 x0, .int .i64 x1, .int .i64 x2, .int .i64 x3] ∧ wfi x0 ∧ wfi x1 ∧ wfi x2 ∧ wfi x3 := by
  obtain ⟨ys, n, _, _, hlen, hyl, hf⟩ := DataW.trod_struct he h
  rw [hC] at hlen
  match cs, hlen with
  | [c0, c1, c2, c3], _ =>
    match ys, hyl with
    | [y0, y1, y2, y3], _ =>
      have g0 := hf 0 f0 rfl
      have g1 := hf 1 f1 rfl
      have g2 := hf 2 f2 rfl
      have g3 := hf 3 f3 rfl
      rw [h0.1, h0.2, hk] at g0
      rw [h1.1, h1.2, hk] at g1
      rw [h2.1, h2.2, hk] at g2
      rw [h3.1, h3.2, hk] at g3
      obtain ⟨x0, e0, w0⟩ := open_i64 hu g0
      obtain ⟨x1, e1, w1⟩ := open_i64 hu g1
      obtain ⟨x2, e2, w2⟩ := open_i64 hu g2
      obtain ⟨x3, e3, w3⟩ := open_i64 hu g3
      simp at e0 e1 e2 e3
      exact ⟨x0, x1, x2, x3, by rw [e0, e1, e2, e3], w0, w1, w2, w3⟩
theorem open_rows {α : Type} {P : Program} (d : Kd α) (good : α → Prop) {t e : TypeId} (ht : P.underlying t = some (.slice e)) (hsz : P.cellsOf e = d.sz)
    (hel : ∀ (n : Nat) (cs : List Value) (y : DataW H × List MemPlace), DataW.trod enc P W base spare held n e cs = some y → ∃ x : α, d.K W x cs ∧ good x)
    {a : Option Addr} {len cap : Nat} {dd : DataW H} {ps : List MemPlace} (h : DataW.Trod enc P W base spare held t (.slice a len cap) dd ps) :
    ∃ l : List α, l.length = len ∧ Kd.C d W a len l ∧ len ≤ cap ∧ ∀ x ∈ l, good x := by
  obtain ⟨fuel, hf⟩ := h
  rcases open_slice ht hf with ⟨hcs, _⟩ | ⟨a', len', cap', m, n, D, Pl, hcs, _, hl, hm, hmm, _, hi⟩
  · simp [Value.cells] at hcs
    obtain ⟨rfl, rfl, rfl⟩ := hcs
    exact ⟨[], rfl, ⟨rfl, by omega, fun h => by omega⟩, Nat.le_refl _, fun x hx => by cases hx⟩
  · simp [Value.cells] at hcs
    obtain ⟨rfl, rfl, rfl⟩ := hcs
    have hlm : len ≤ m := by rw [hmm]; split <;> omega
    have hM : len ≤ 9223372036854775807 := by unfold maxLen at hm; omega
    have hx : ∀ k : Nat, k ≤ len → ∃ l : List α, l.length = k ∧ (∀ j p, l[j]? = some p → ∃ cs, W.cells? base (a'.add (j * P.cellsOf e)) (P.cellsOf e) = some cs ∧ d.K W p cs) ∧ ∀ x ∈ l, good x := by
      intro k
      induction k with
      | zero => exact fun _ => ⟨[], rfl, fun j p hj => by simp at hj, fun x hx => by cases hx⟩
      | succ k ih =>
        intro hk
        obtain ⟨l, hll, h1, h2⟩ := ih (by omega)
        obtain ⟨cs, hc, htr⟩ := hi k (by omega)
        obtain ⟨x, hK, hg⟩ := hel _ _ _ htr
        refine ⟨l ++ [x], by simp [hll], fun j p hj => ?_, fun z hz => ?_⟩
        · by_cases hjk : j < l.length
          · rw [List.getElem?_append_left hjk] at hj
            exact h1 j p hj
          · have hjl : j = l.length := by
              have := (List.getElem?_eq_some_iff.1 hj).1
              simp at this
              omega
            subst hjl
            simp at hj
            subst hj
            rw [hll]
            exact ⟨cs, hc, hK⟩
        · rcases List.mem_append.1 hz with hz | hz
          · exact h2 z hz
          · simp at hz
            subst hz
            exact hg
    obtain ⟨l, hll, h1, h2⟩ := hx len (Nat.le_refl _)
    refine ⟨l, hll, ⟨hll, hM, fun _ => ⟨a', rfl, fun j p hj => ?_⟩⟩, hl, h2⟩
    obtain ⟨cs, hc, hk⟩ := h1 j p hj
    obtain ⟨_, hcl, hat⟩ := World.cells?_some hc
    refine ⟨cs, by rw [hcl, hsz], hk, fun i u hu => ?_⟩
    have hil : i < P.cellsOf e := by have := (List.getElem?_eq_some_iff.1 hu).1; omega
    have := hat i hil
    rw [Go.Deep.add_add, hsz] at this
    rw [this, hu]
end
def W43 (x : S43) : Prop := wfi x.f0 ∧ wfi x.f1 ∧ wfi x.f2 ∧ wfi x.f3
section
variable {H : Type} {enc : TypeId × Value → H} {W : World} {base : Nat} {spare : Nat → Bool} {held : Bool} {a : Option Addr} {len cap : Nat} {dd : DataW H} {ps : List MemPlace}
theorem rows_43 (h : DataW.Trod enc Try.prog W base spare held 22 (.slice a len cap) dd ps) : ∃ l : List S43, l.length = len ∧ Kd.C k43 W a len l ∧ len ≤ cap ∧ ∀ x ∈ l, W43 x :=
  open_rows k43 W43 Try.underlying22 (by kernel_rfl) (fun n cs y hy => by
    obtain ⟨x0, x1, x2, x3, rfl, hw⟩ := open_struct4 Try.underlying43 (by kernel_rfl) Try.underlying3 (by kernel_rfl) ⟨rfl, rfl⟩ ⟨rfl, rfl⟩ ⟨rfl, rfl⟩ ⟨rfl, rfl⟩ hy
    exact ⟨⟨x0, x1, x2, x3⟩, k43_mk _ _, hw⟩) h
end
end Go.Proofs.Ytaboleeclpllpaa.Open


namespace Go.Proofs.Ytaboleeclpllpaa.M
open Go.RowKit Go.Proofs.YtaboleeclpllpaaW.PrintWords Go.Proofs.YtaboleeclpllpaaW.PrintLast Go.Proofs.YtaboleeclpllpaaW.PrintMore Go.Proofs.Ytaboleeclpllpaa.P Go.Proofs.Ytaboleeclpllpaa.T
set_option linter.unusedVariables false
set_option linter.unusedSimpArgs false
def reachL (q : List Pc) : Int := reach q.getLast?
theorem reachL_snoc (q : List Pc) (x : Pc) : reachL (q ++ [x]) = x.f2 := by
  unfold reachL
  rw [List.getLast?_append]
  rfl
def busy (l : List S48) (q : List Pc) (x : Pc) : Prop :=
  0 ≤ x.f0 ∧ x.f0 < (l.length : Int) ∧ reachL q ≤ x.f1 ∧ x.f1 < x.f2 ∧ (reachL q < x.f1 → ∀ j, j < l.length → 0 < timf l j - wk j q → x.f1 ≤ relf l j)
def busyAll (l : List S48) (p : List Pc) : Prop := ∀ q x r, p = q ++ x :: r → busy l q x
theorem busyAll_nil (l : List S48) : busyAll l [] := fun q x r h => by
  have := congrArg List.length h
  simp at this
theorem busyAll_snoc {l : List S48} {p : List Pc} {x : Pc} : busyAll l (p ++ [x]) ↔ busyAll l p ∧ busy l p x := by
  constructor
  · intro h
    refine ⟨fun q y r he => h q y (r ++ [x]) (by rw [he]; simp), h p x [] rfl⟩
  · rintro ⟨h1, h2⟩ q y r he
    rcases List.eq_nil_or_concat r with rfl | ⟨r', z, rfl⟩
    · have := List.append_inj' (show p ++ [x] = q ++ [y] from he) rfl
      rw [← this.1, ← (List.cons.inj this.2).1]
      exact h2
    · have h3 : p ++ [x] = (q ++ y :: r') ++ [z] := by rw [he]; simp
      have := List.append_inj' h3 rfl
      exact h1 q y r' this.1
theorem plan_busy_at {l : List S48} (hv : valid48 l = true) (short : Bool) : ∀ a : Nat, busyAll l (stt short l a).2 ∧ 0 ≤ reachL (stt short l a).2 ∧ reachL (stt short l a).2 ≤ (a : Int) ∧ (reachL (stt short l a).2 < (a : Int) → unitOf short l (a - 1) = none) := by
  intro a
  induction a with
  | zero => exact ⟨busyAll_nil l, by show (0 : Int) ≤ 0; omega, by show (0 : Int) ≤ 0; omega, fun h => by
      have : (0 : Int) < 0 := h
      omega⟩
  | succ a ih =>
    obtain ⟨h1, h0, h2, h3⟩ := ih
    have hu : unitOf short l a = pick short l (stt short l a).1 a := rfl
    have hwk := fun j => stt_wk short l j a
    have htm := fun j => stt_tm short l j a
    have hprev : reachL (stt short l a).2 < (a : Int) → ∀ j, j < l.length → 0 < timf l j - wk j (stt short l a).2 → (a : Int) ≤ relf l j := by
      intro hlt j hj hpos
      have hn := h3 hlt
      have ha : 0 < a := by omega
      have hs := stt_succ short l (a - 1)
      rw [show a - 1 + 1 = a by omega] at hs
      have hu1 : unitOf short l (a - 1) = pick short l (stt short l (a - 1)).1 ((a - 1 : Nat) : Int) := rfl
      rw [hn] at hu1
      have hidle := pickN_none.1 hu1.symm j hj
      have hst : stt short l a = stt short l (a - 1) := by
        rw [hs]
        unfold stepF
        rw [← hu1]
      have h4 : tm (stt short l (a - 1)).1 j > 0 := by
        rw [← hst, htm j, ← hwk j]
        omega
      unfold ready at hidle
      have e1 : (jb l j).f1 = relf l j := rfl
      by_cases hc : (jb l j).f1 ≤ ((a - 1 : Nat) : Int)
      · exact absurd ⟨hc, h4⟩ hidle
      · omega
    rw [stt_succ]
    unfold stepF
    split
    · rename_i hp
      rw [hp] at hu
      refine ⟨h1, h0, by omega, fun _ => ?_⟩
      rw [show a + 1 - 1 = a by omega]
      exact hu
    · rename_i i hp
      have hi := (pickN_lt hp).1
      show busyAll l (addPc (stt short l a).2 (i : Int) a) ∧ 0 ≤ reachL (addPc (stt short l a).2 (i : Int) a) ∧ reachL (addPc (stt short l a).2 (i : Int) a) ≤ _ ∧ (reachL (addPc (stt short l a).2 (i : Int) a) < _ → _)
      rcases addPc_cases (stt short l a).2 i a with ⟨q, x, ho, hx0, hx2, hr⟩ | hr
      · rw [hr, reachL_snoc]
        refine ⟨?_, by show (0 : Int) ≤ (a : Int) + 1; omega, by show (a : Int) + 1 ≤ _; omega, fun h => by
          have : (a : Int) + 1 < ((a + 1 : Nat) : Int) := h
          omega⟩
        rw [ho, busyAll_snoc] at h1
        rw [busyAll_snoc]
        refine ⟨h1.1, ?_⟩
        obtain ⟨b0, b1, b2, b3, b4⟩ := h1.2
        refine ⟨by show (0 : Int) ≤ i; omega, by show (i : Int) < _; omega, b2, ?_, b4⟩
        show x.f1 < (a : Int) + 1
        omega
      · rw [hr, reachL_snoc]
        refine ⟨?_, by show (0 : Int) ≤ (a : Int) + 1; omega, by show (a : Int) + 1 ≤ _; omega, fun h => by
          have : (a : Int) + 1 < ((a + 1 : Nat) : Int) := h
          omega⟩
        rw [busyAll_snoc]
        refine ⟨h1, by show (0 : Int) ≤ i; omega, by show (i : Int) < _; omega, h2, by show (a : Int) < (a : Int) + 1; omega, ?_⟩
        intro hlt j hj hpos
        exact hprev hlt j hj hpos
theorem plan_busy {l : List S48} (hv : valid48 l = true) (short : Bool) : busyAll l (planOf short l) := (plan_busy_at hv short 300).1
theorem wk_nn (j : Nat) : ∀ {p : List Pc}, (∀ x ∈ p, x.f1 < x.f2) → 0 ≤ wk j p
  | [], _ => Int.le_refl _
  | x :: xs, h => by
    have h1 := h x (by simp)
    have h2 := wk_nn j (p := xs) (fun y hy => h y (by simp [hy]))
    show 0 ≤ (if x.f0.toNat = j then x.f2 - x.f1 else 0) + wk j xs
    split <;> omega
theorem wk_take_le (j i : Nat) {p : List Pc} (h : ∀ x ∈ p, x.f1 < x.f2) : 0 ≤ wk j (p.take i) ∧ wk j (p.take i) ≤ wk j p := by
  have h1 := wk_nn j (p := p.take i) (fun x hx => h x (List.mem_of_mem_take hx))
  have h2 := wk_nn j (p := p.drop i) (fun x hx => h x (List.mem_of_mem_drop hx))
  have h3 := wk_append j (p.take i) (p.drop i)
  rw [List.take_append_drop] at h3
  omega
section
variable (l : List S43) (hv : valid48 (l.map to48) = true) (rows : List (List S44)) (z : Int)
theorem idle_zero (hv : valid48 (l.map to48) = true) (cur : List Int) (hc : cur.length = l.length) (h0 : ∀ j, j < l.length → tm cur j = 0) (h : Ev (fun k => corrodylaw06_DatesIdle.l0 k l rows (rows.length : Int) (wrap64 (z + 1))) true) : ∀ (d i : Nat), i + d = l.length →
    Ev (fun k => corrodylaw06_DatesIdle.l4 k l rows (rows.length : Int) z cur (cur.length : Int) (i : Int)) true := by
  have hlen := valid_len hv
  rw [List.length_map] at hlen
  intro d
  induction d with
  | zero =>
    intro i hi
    refine Ev.step (fun k => ?_) h
    simp only [corrodylaw06_DatesIdle.l4]
    rw [if_neg (by omega)]
  | succ d ih =>
    intro i hi
    refine Ev.step (fun k => ?_) (ih (i + 1) (by omega))
    simp only [corrodylaw06_DatesIdle.l4]
    rw [if_pos (by omega), if_pos (by omega), if_pos (by omega), rd_nat cur i (by omega), ← tm_get (by omega), h0 i (by omega), if_pos rfl, w64s i cur.length (by omega) (by omega)]
theorem idle_gap (hv : valid48 (l.map to48) = true) (p : List Pc) (hp : p.length ≤ 300) (cur : List Int) (hc : cur.length = l.length) (hcb : ∀ j, j < l.length → 0 ≤ tm cur j ∧ tm cur j ≤ 20) (now : Int) (x : Pc) (hx : 0 ≤ x.f0 ∧ x.f0 < (l.length : Int) ∧ 0 ≤ x.f1 ∧ x.f1 ≤ 1000 ∧ 0 ≤ x.f2 ∧ x.f2 ≤ 1000) (n : Nat) (hn : n < p.length)
    (hg : now < x.f1 → ∀ j, j < l.length → 0 < tm cur j → x.f1 ≤ relf (l.map to48) j)
    (h : Ev (fun k => corrodylaw06_DatesIdle.l2 k l (cur.set x.f0.toNat (tm cur x.f0.toNat - (x.f2 - x.f1))) x.f2 rows (rows.length : Int) z p (p.length : Int) ((n + 1 : Nat) : Int)) true) : ∀ (d i : Nat), i + d = l.length →
    Ev (fun k => corrodylaw06_DatesIdle.l3 k l cur now rows (rows.length : Int) z p (p.length : Int) (n : Int) (l.length : Int) (i : Int) x.f0 x.f1 x.f2) true := by
  have hlen := valid_len hv
  rw [List.length_map] at hlen
  intro d
  induction d with
  | zero =>
    intro i hi
    have ht := hcb x.f0.toNat (by omega)
    have hrd : rd cur x.f0 = tm cur x.f0.toNat := rfl
    refine Ev.step (fun k => ?_) h
    simp only [corrodylaw06_DatesIdle.l3]
    rw [if_neg (by omega), if_pos (by omega), if_pos (by omega), hrd, w64 (x := x.f2 - x.f1) (by omega) (by omega), w64 (x := tm cur x.f0.toNat - (x.f2 - x.f1)) (by omega) (by omega), w64s n p.length hn (by omega)]
  | succ d ih =>
    intro i hi
    have hlt : i < l.length := by omega
    refine Ev.step (fun k => ?_) (ih (i + 1) (by omega))
    have hrel : (l[i]).f1 = relf (l.map to48) i := by
      unfold relf
      rw [jb_get (by rw [List.length_map]; exact hlt), List.getElem_map]
      rfl
    simp only [corrodylaw06_DatesIdle.l3]
    rw [if_pos (by omega), w64s i l.length hlt (by omega)]
    by_cases c1 : x.f1 > now
    · rw [if_pos c1, if_pos (by omega), if_pos (by omega), rd_nat cur i (by omega), ← tm_get (by omega)]
      by_cases c2 : tm cur i > 0
      · have := hg c1 i hlt c2
        rw [if_pos c2, if_pos (by omega), rd43 l i hlt, hrel, if_neg (by omega)]
      · rw [if_neg c2]
    · rw [if_neg c1]
theorem idle_pieces (hv : valid48 (l.map to48) = true) (p : List Pc) (hp : p.length ≤ 300) (hpc : Pcs l.length 1000 p) (hb : busyAll (l.map to48) p) (hf : ∀ j, j < l.length → wk j p = timf (l.map to48) j)
    (h : Ev (fun k => corrodylaw06_DatesIdle.l0 k l rows (rows.length : Int) (wrap64 (z + 1))) true) : ∀ (d i : Nat) (cur : List Int), i + d = p.length → cur.length = l.length → (∀ j, j < l.length → tm cur j = timf (l.map to48) j - wk j (p.take i)) →
    Ev (fun k => corrodylaw06_DatesIdle.l2 k l cur (reachL (p.take i)) rows (rows.length : Int) z p (p.length : Int) (i : Int)) true := by
  have hlen := valid_len hv
  rw [List.length_map] at hlen
  intro d
  induction d with
  | zero =>
    intro i cur hi hc hcur
    rw [show i = p.length by omega, List.take_length] at hcur ⊢
    have h4 := idle_zero l rows z hv cur hc (fun j hj => by rw [hcur j hj, hf j hj]; omega) h l.length 0 (by omega)
    refine Ev.step (fun k => ?_) h4
    simp only [corrodylaw06_DatesIdle.l2]
    rw [if_neg (by omega)]
    rfl
  | succ d ih =>
    intro i cur hi hc hcur
    have hlt : i < p.length := by omega
    have hsplit : p = p.take i ++ p[i] :: p.drop (i + 1) := by rw [← List.drop_eq_getElem_cons hlt, List.take_append_drop]
    obtain ⟨b0, b1, b2, b3, b4⟩ := hb _ _ _ hsplit
    have hx := hpc _ (List.getElem_mem hlt)
    have hpos : ∀ y ∈ p, y.f1 < y.f2 := fun y hy => (hpc y hy).2.2.2.1
    have hcb : ∀ j, j < l.length → 0 ≤ tm cur j ∧ tm cur j ≤ 20 := by
      intro j hj
      have h1 := wk_take_le j i hpos
      have h2 := valid_jb hv (i := j) (by rw [List.length_map]; exact hj)
      have h3 : (jb (l.map to48) j).f0 = timf (l.map to48) j := rfl
      rw [hcur j hj]
      have := hf j hj
      omega
    have htake : p.take (i + 1) = p.take i ++ [p[i]] := by rw [List.take_succ_eq_append_getElem hlt]
    have hih := ih (i + 1) (cur.set (p[i]).f0.toNat (tm cur (p[i]).f0.toNat - ((p[i]).f2 - (p[i]).f1))) (by omega) (by rw [List.length_set, hc]) (fun j hj => by
      rw [tm_set _ _ _ _ (by omega), htake, wk_append]
      have e2 : wk j [p[i]] = (if (p[i]).f0.toNat = j then (p[i]).f2 - (p[i]).f1 else 0) + 0 := rfl
      rw [e2]
      by_cases hji : j = (p[i]).f0.toNat
      · rw [if_pos hji, if_pos hji.symm, ← hji, hcur j hj]
        omega
      · rw [if_neg hji, if_neg (fun e => hji e.symm), hcur j hj]
        omega)
    rw [htake, reachL_snoc] at hih
    have hgap := idle_gap l rows z hv p hp cur hc hcb (reachL (p.take i)) p[i] (by omega) i hlt (fun hnow j hj hl => by
      rw [hcur j hj] at hl
      exact b4 hnow j (by rw [List.length_map]; exact hj) hl) hih l.length 0 (by omega)
    refine Ev.step (f := fun k => corrodylaw06_DatesIdle.j4 k l cur (reachL (p.take i)) rows (rows.length : Int) z p (p.length : Int) (i : Int) false (p[i]).f0 (p[i]).f1 (p[i]).f2) (fun k => ?_) (Ev.step (fun k => ?_) hgap)
    · simp only [corrodylaw06_DatesIdle.l2]
      rw [if_pos (by omega), if_pos (by omega), if_pos (by omega), rd44 p i hlt, if_neg (by omega), if_neg (by omega), if_neg (by omega), decide_eq_false (by omega)]
    · simp only [corrodylaw06_DatesIdle.j4, Bool.false_eq_true, if_false]
      rfl
theorem idle_fill (hv : valid48 (l.map to48) = true) (p : List Pc) (h : ∀ cur : List Int, cur.length = l.length → (∀ j, j < l.length → tm cur j = timf (l.map to48) j) → Ev (fun k => corrodylaw06_DatesIdle.l2 k l cur 0 rows (rows.length : Int) z p (p.length : Int) 0) true) : ∀ (d i : Nat) (cur : List Int), i + d = l.length → cur.length = l.length → (∀ j, j < i → tm cur j = timf (l.map to48) j) →
    Ev (fun k => corrodylaw06_DatesIdle.l1 k l p cur rows (rows.length : Int) z (l.length : Int) (i : Int)) true := by
  have hlen := valid_len hv
  rw [List.length_map] at hlen
  intro d
  induction d with
  | zero =>
    intro i cur hi hc hcur
    refine Ev.step (fun k => ?_) (h cur hc (fun j hj => hcur j (by omega)))
    simp only [corrodylaw06_DatesIdle.l1]
    rw [if_neg (by omega)]
  | succ d ih =>
    intro i cur hi hc hcur
    have hlt : i < l.length := by omega
    have ht : (l[i]).f0 = timf (l.map to48) i := by
      unfold timf
      rw [jb_get (by rw [List.length_map]; exact hlt), List.getElem_map]
      rfl
    refine Ev.step (fun k => ?_) (ih (i + 1) (cur.set i (timf (l.map to48) i)) (by omega) (by rw [List.length_set, hc]) (fun j hj => ?_))
    · simp only [corrodylaw06_DatesIdle.l1]
      rw [if_pos (by omega), if_pos (by omega), if_pos (by omega), if_pos (by omega), rd43 l i hlt, ht, w64s i l.length hlt (by omega), show ((i : Int)).toNat = i by omega]
    · rw [tm_set _ _ _ _ (by omega)]
      by_cases hji : j = i
      · rw [if_pos hji, hji]
      · rw [if_neg hji]
        exact hcur j (by omega)
end
theorem idle_row (l : List S43) (hv : valid48 (l.map to48) = true) (rows : List (List S44)) (hr : rows.length = 2) (i : Nat) (hi : i < 2) (short : Bool) (hrow : rd_L5 rows (i : Int) = planOf short (l.map to48)) (h : Ev (fun k => corrodylaw06_DatesIdle.l0 k l rows (rows.length : Int) ((i + 1 : Nat) : Int)) true) :
    Ev (fun k => corrodylaw06_DatesIdle.l0 k l rows (rows.length : Int) (i : Int)) true := by
  have hlen := valid_len hv
  have hlen' := hlen
  rw [List.length_map] at hlen'
  have hw := w64s i rows.length (by omega) (by omega)
  have hpl := plan_length short (l.map to48)
  have hpc := pcs_weaken (plan_pcs short (l.map to48)) (b := 1000) (by omega)
  rw [List.length_map] at hpc
  have hfill := idle_fill l rows (i : Int) hv (planOf short (l.map to48)) (fun cur hc hcur => by
    have := idle_pieces l rows (i : Int) hv (planOf short (l.map to48)) hpl hpc (plan_busy hv short) (fun j hj => whole_wk hv (plan_whole hv short) (by rw [List.length_map]; exact hj)) (by rw [hw]; exact h) (planOf short (l.map to48)).length 0 cur (by omega) hc (fun j hj => by
      rw [hcur j hj]
      show _ = _ - 0
      omega)
    exact this) l.length 0 (List.replicate l.length 0) (by omega) (by simp) (fun j hj => by omega)
  refine Ev.step (fun k => ?_) hfill
  simp only [corrodylaw06_DatesIdle.l0]
  rw [if_pos (by omega), if_pos (by omega), if_pos (by omega), if_pos (by omega), if_pos (by omega), hrow, show ((l.length : Int)).toNat = l.length by omega]
  rfl
end Go.Proofs.Ytaboleeclpllpaa.M
namespace Go.Proofs.Ytaboleeclpllpaa.Pure
open Go.RowKit Go.Proofs.YtaboleeclpllpaaW.PrintWords Go.Proofs.YtaboleeclpllpaaW.PrintLast Go.Proofs.YtaboleeclpllpaaW.PrintMore Go.Proofs.Ytaboleeclpllpaa.P Go.Proofs.Ytaboleeclpllpaa.M Go.Proofs.Ytaboleeclpllpaa.T
set_option linter.unusedVariables false
set_option linter.unusedSimpArgs false
theorem DatesIdle (l : List S43) (hl : l.length ≤ 9223372036854775807) (hg : ∀ x ∈ l, Open.W43 x) : ∃ k, corrodylaw06_DatesIdle.f k l = some true := by
  refine Ev.rounds (g := fun k => corrodylaw06_DatesIdle.f k l) ?_
  unfold corrodylaw06_DatesIdle.f
  have hl10 : ((l.take 10).map to48).length ≤ 9223372036854775807 := by simp; omega
  have hOf := Of_f l hl
  refine Ev.bind hOf ?_
  refine Ev.bind (Plan_f _ hl10) ?_
  refine Ev.bind hOf ?_
  refine Ev.bind (Short_f _ hl10) ?_
  cases hv : valid48 (l.map to48) with
  | false =>
    have hv' : valid48 ((l.take 10).map to48) = false := by rw [valid_of]; exact hv
    simp only [hv', Bool.false_eq_true, if_false]
    simp only [show ¬ ((2 : Int) = 0) by decide, if_false]
    refine Ev.step (f := fun k => (corrodylaw06_awake.f k).bind fun t => some t) (fun k => ?_) (Ev.bind awake_f (Ev.now _))
    simp only [corrodylaw06_DatesIdle.j0, if_true]
  | true =>
    rw [of_valid hv]
    simp only [hv, if_true]
    refine Ev.bind (refvalid_f l hl) ?_
    simp only [hv, Bool.not_true]
    refine Ev.step (f := fun k => corrodylaw06_DatesIdle.l0 k l [planOf false (l.map to48), planOf true (l.map to48)] (([planOf false (l.map to48), planOf true (l.map to48)].length : Nat) : Int) ((0 : Nat) : Int)) (fun k => ?_) ?_
    · simp only [corrodylaw06_DatesIdle.j0, Bool.false_eq_true, if_false, Option.bind_some]
      rfl
    · refine idle_row l hv _ rfl 0 (by omega) false rfl ?_
      refine idle_row l hv _ rfl 1 (by omega) true rfl ?_
      refine Ev.step (f := fun k => (corrodylaw06_awake.f k).bind fun t => some t) (fun k => ?_) (Ev.bind awake_f (Ev.now _))
      simp only [corrodylaw06_DatesIdle.l0]
      rw [if_neg (by simp)]
end Go.Proofs.Ytaboleeclpllpaa.Pure
