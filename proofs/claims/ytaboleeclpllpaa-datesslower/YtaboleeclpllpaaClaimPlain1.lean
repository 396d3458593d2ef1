/-
Plain lemmas on what the functions compute, put together into one text.
Conditions: each lemma's own.
-/
import Derived.RowKit
import Derived.Deep.Slices
import Derived.OpenShut
import Derived.ChangeSlices
import Derived.Test.YtaboleeclpllpaaClaimProg1
import Derived.Test.YtaboleeclpllpaaClaimProg2
import Derived.Test.YtaboleeclpllpaaClaimProg3

namespace Go.Proofs.Ytaboleeclpllpaa.M
open Go.RowKit Go.Proofs.YtaboleeclpllpaaW.PrintWords Go.Proofs.YtaboleeclpllpaaW.PrintLast Go.Proofs.YtaboleeclpllpaaW.PrintMore Go.Proofs.Ytaboleeclpllpaa.P
set_option linter.unusedVariables false
set_option linter.unusedSimpArgs false
theorem w64 {x : Int} (h0 : -9223372036854775808 ≤ x) (h1 : x ≤ 9223372036854775807) : wrap64 x = x := by
  unfold wrap64
  omega
theorem w64s (i n : Nat) (h : i < n) (hn : n ≤ 9223372036854775807) : wrap64 ((i : Int) + 1) = ((i + 1 : Nat) : Int) := by
  rw [w64 (by omega) (by omega)]
  omega
def to48 (x : S43) : S48 := ⟨x.f0, x.f1, x.f2, x.f3⟩
theorem rd_nat (l : List Int) (i : Nat) (h : i < l.length) : rd l (i : Int) = l[i] := by simp [rd, List.getD_eq_getElem?_getD, List.getElem?_eq_getElem h]
theorem rd43 (l : List S43) (i : Nat) (h : i < l.length) : rd_T43 l (i : Int) = l[i] := by simp [rd_T43, List.getD_eq_getElem?_getD, List.getElem?_eq_getElem h]
theorem rd48 (l : List S48) (i : Nat) (h : i < l.length) : rd_T48 l (i : Int) = l[i] := by simp [rd_T48, List.getD_eq_getElem?_getD, List.getElem?_eq_getElem h]
theorem rd44 (l : List S44) (i : Nat) (h : i < l.length) : rd_T44 l (i : Int) = l[i] := by simp [rd_T44, List.getD_eq_getElem?_getD, List.getElem?_eq_getElem h]
def ok48 (x : S48) : Bool := decide (1 ≤ x.f0 ∧ x.f0 ≤ 20 ∧ 0 ≤ x.f1 ∧ x.f1 ≤ 100 ∧ 0 ≤ x.f2 ∧ x.f2 ≤ 200 ∧ 0 ≤ x.f3 ∧ x.f3 ≤ 20)
def valid48 (l : List S48) : Bool := decide (1 ≤ l.length ∧ l.length ≤ 8) && l.all ok48
theorem between_f (a b c : Int) : dates_between.f a b c = some (decide (b ≤ a ∧ a ≤ c)) := by
  unfold dates_between.f
  by_cases h : a ≥ b
  · rw [if_pos h]
    have : b ≤ a := h
    simp [this]
  · rw [if_neg h]
    have : ¬ b ≤ a := h
    simp [this]
theorem valid1_f (x : S48) : dates_jobs_valid_1.f x.f0 x.f1 x.f2 x.f3 = some (!ok48 x) := by
  unfold dates_jobs_valid_1.f
  simp only [between_f, Option.bind_some]
  by_cases h0 : 1 ≤ x.f0 ∧ x.f0 ≤ 20
  · by_cases h1 : 0 ≤ x.f1 ∧ x.f1 ≤ 100
    · by_cases h2 : 0 ≤ x.f2 ∧ x.f2 ≤ 200
      · by_cases h3 : 0 ≤ x.f3 ∧ x.f3 ≤ 20
        · have : ok48 x = true := by simp only [ok48, decide_eq_true_eq]; omega
          simp [h0, h1, h2, h3, this]
        · have : ok48 x = false := by simp only [ok48, decide_eq_false_iff_not]; omega
          rw [decide_eq_false h3]
          simp [h0, h1, h2, this]
      · have : ok48 x = false := by simp only [ok48, decide_eq_false_iff_not]; omega
        rw [decide_eq_false h2]
        simp [h0, h1, this]
    · have : ok48 x = false := by simp only [ok48, decide_eq_false_iff_not]; omega
      rw [decide_eq_false h1]
      simp [h0, this]
  · have : ok48 x = false := by simp only [ok48, decide_eq_false_iff_not]; omega
    rw [decide_eq_false h0]
    simp [this]
theorem index_loop (l : List S48) (hl : l.length ≤ 9223372036854775807) : ∀ (d i : Nat), i + d = l.length → ∃ r : Int, Ev (fun k => dates_Job_87.l0 k l (l.length : Int) (i : Int)) r ∧ (decide (r ≥ 0) = !(l.drop i).all ok48) := by
  intro d
  induction d with
  | zero =>
    intro i hi
    refine ⟨-1, Ev.step (f := fun _ => some (-1)) (fun k => ?_) (Ev.now _), ?_⟩
    · simp only [dates_Job_87.l0]
      rw [if_neg (by omega)]
    · rw [show i = l.length by omega, List.drop_length]
      rfl
  | succ d ih =>
    intro i hi
    have hlt : i < l.length := by omega
    rw [List.drop_eq_getElem_cons hlt, List.all_cons]
    cases hok : ok48 l[i] with
    | false =>
      refine ⟨i, Ev.step (f := fun _ => some (i : Int)) (fun k => ?_) (Ev.now _), ?_⟩
      · simp only [dates_Job_87.l0]
        rw [if_pos (by omega), if_pos (by omega), if_pos (by omega), rd48 l i hlt, valid1_f, hok]
        rfl
      · simp
    | true =>
      obtain ⟨r, hr, hr2⟩ := ih (i + 1) (by omega)
      refine ⟨r, Ev.step (fun k => ?_) hr, by simpa using hr2⟩
      simp only [dates_Job_87.l0]
      rw [if_pos (by omega), if_pos (by omega), if_pos (by omega), rd48 l i hlt, valid1_f, hok, w64s i l.length hlt hl]
      rfl
theorem valid_f (l : List S48) (hl : l.length ≤ 9223372036854775807) : Ev (fun k => dates_jobs_valid.f k l) (valid48 l) := by
  unfold dates_jobs_valid.f
  simp only [between_f, Option.bind_some]
  by_cases h : 1 ≤ l.length ∧ l.length ≤ 8
  · obtain ⟨r, hr, hr2⟩ := index_loop l hl l.length 0 (by omega)
    have hd : decide ((1 : Int) ≤ (l.length : Int) ∧ (l.length : Int) ≤ 8) = true := decide_eq_true (by omega)
    simp only [hd, if_true]
    have h1 : Ev (fun k => dates_Job_77.f k l) (!l.all ok48) := by
      unfold dates_Job_77.f dates_Job_87.f
      refine Ev.bind (a := r) hr ?_
      rw [hr2]
      exact Ev.now _
    refine Ev.bind h1 ?_
    have : valid48 l = l.all ok48 := by simp [valid48, h]
    rw [this, Bool.not_not]
    exact Ev.now _
  · have hd : decide ((1 : Int) ≤ (l.length : Int) ∧ (l.length : Int) ≤ 8) = false := decide_eq_false (by omega)
    simp only [hd]
    have : valid48 l = false := by simp [valid48, h]
    rw [this]
    exact Ev.now _
theorem refvalid_loop (l0 l : List S43) (hl : l.length ≤ 9223372036854775807) : ∀ (d i : Nat), i + d = l.length → Ev (fun k => corrodyref06_Valid.l0 k l0 l (l.length : Int) (i : Int)) ((((l.drop i).map to48).all ok48) && decide (1 ≤ l0.length ∧ l0.length ≤ 8)) := by
  intro d
  induction d with
  | zero =>
    intro i hi
    rw [show i = l.length by omega, List.drop_length]
    by_cases h1 : 1 ≤ l0.length
    · refine Ev.step (f := fun _ => some (decide ((l0.length : Int) ≤ 8))) (fun k => ?_) ?_
      · simp only [corrodyref06_Valid.l0]
        rw [if_neg (by omega), if_pos (by omega)]
      · have : decide ((l0.length : Int) ≤ 8) = (([].map to48).all ok48 && decide (1 ≤ l0.length ∧ l0.length ≤ 8)) := by
          simp [h1]
          omega
        rw [this]
        exact Ev.now _
    · refine Ev.step (f := fun _ => some false) (fun k => ?_) ?_
      · simp only [corrodyref06_Valid.l0]
        rw [if_neg (by omega), if_neg (by omega)]
      · simp [h1]
        exact Ev.now _
  | succ d ih =>
    intro i hi
    have hlt : i < l.length := by omega
    rw [List.drop_eq_getElem_cons hlt, List.map_cons, List.all_cons]
    have hb : ∀ k, corrodyref06_Valid.l0 (k + 1) l0 l (l.length : Int) (i : Int) = if ok48 (to48 l[i]) = true then corrodyref06_Valid.l0 k l0 l (l.length : Int) ((i + 1 : Nat) : Int) else some false := by
      intro k
      simp only [corrodyref06_Valid.l0]
      rw [if_pos (by omega), if_pos (by omega), if_pos (by omega), rd43 l i hlt, w64s i l.length hlt hl]
      have he : ∀ x : S43, ok48 (to48 x) = decide (1 ≤ x.f0 ∧ x.f0 ≤ 20 ∧ 0 ≤ x.f1 ∧ x.f1 ≤ 100 ∧ 0 ≤ x.f2 ∧ x.f2 ≤ 200 ∧ 0 ≤ x.f3 ∧ x.f3 ≤ 20) := fun _ => rfl
      rw [he]
      generalize l[i] = x
      by_cases h0 : x.f0 < 1
      · rw [if_pos h0, decide_eq_false (by omega)]; rfl
      by_cases h1 : x.f0 > 20
      · rw [if_neg h0, if_pos h1, decide_eq_false (by omega)]; rfl
      by_cases h2 : x.f1 < 0
      · rw [if_neg h0, if_neg h1, if_pos h2, decide_eq_false (by omega)]; rfl
      by_cases h3 : x.f1 > 100
      · rw [if_neg h0, if_neg h1, if_neg h2, if_pos h3, decide_eq_false (by omega)]; rfl
      by_cases h4 : x.f2 < 0
      · rw [if_neg h0, if_neg h1, if_neg h2, if_neg h3, if_pos h4, decide_eq_false (by omega)]; rfl
      by_cases h5 : x.f2 > 200
      · rw [if_neg h0, if_neg h1, if_neg h2, if_neg h3, if_neg h4, if_pos h5, decide_eq_false (by omega)]; rfl
      by_cases h6 : x.f3 < 0
      · rw [if_neg h0, if_neg h1, if_neg h2, if_neg h3, if_neg h4, if_neg h5, if_pos h6, decide_eq_false (by omega)]; rfl
      by_cases h7 : x.f3 > 20
      · rw [if_neg h0, if_neg h1, if_neg h2, if_neg h3, if_neg h4, if_neg h5, if_neg h6, if_pos h7, decide_eq_false (by omega)]; rfl
      rw [if_neg h0, if_neg h1, if_neg h2, if_neg h3, if_neg h4, if_neg h5, if_neg h6, if_neg h7, decide_eq_true (by omega)]; rfl
    cases hok : ok48 (to48 l[i]) with
    | false =>
      refine Ev.step (f := fun _ => some false) (fun k => ?_) (Ev.now _)
      rw [hb, hok]
      rfl
    | true =>
      refine Ev.step (fun k => ?_) (ih (i + 1) (by omega))
      rw [hb, hok]
      rfl
theorem refvalid_f (l : List S43) (hl : l.length ≤ 9223372036854775807) : Ev (fun k => corrodyref06_Valid.f k l) (valid48 (l.map to48)) := by
  have h := refvalid_loop l l hl l.length 0 (by omega)
  unfold corrodyref06_Valid.f
  have e : valid48 (l.map to48) = ((((l.drop 0).map to48).all ok48) && decide (1 ≤ l.length ∧ l.length ≤ 8)) := by
    simp only [valid48, List.length_map, List.drop_zero]
    rw [Bool.and_comm]
  rw [e]
  exact h
theorem Of_loop (l : List S43) (hl : l.length ≤ 9223372036854775807) : ∀ (d i : Nat) (acc : List S48), i + d = l.length → acc.length = min i 10 → Ev (fun k => corrodylaw06_Of.l0 k acc l (l.length : Int) (i : Int)) (acc ++ ((l.take 10).drop i).map to48) := by
  intro d
  induction d with
  | zero =>
    intro i acc hi ha
    rw [List.drop_eq_nil_of_le (by rw [List.length_take]; omega), List.map_nil, List.append_nil]
    refine Ev.step (f := fun _ => some acc) (fun k => ?_) (Ev.now _)
    simp only [corrodylaw06_Of.l0]
    rw [if_neg (by omega)]
  | succ d ih =>
    intro i acc hi ha
    have hlt : i < l.length := by omega
    by_cases h10 : i < 10
    · have hd : (l.take 10).drop i = l[i] :: (l.take 10).drop (i + 1) := by
        rw [List.drop_eq_getElem_cons (by rw [List.length_take]; omega)]
        simp
      have := ih (i + 1) (acc ++ [to48 l[i]]) (by omega) (by simp; omega)
      rw [hd, List.map_cons, show acc ++ to48 l[i] :: ((l.take 10).drop (i + 1)).map to48 = (acc ++ [to48 l[i]]) ++ ((l.take 10).drop (i + 1)).map to48 by simp]
      refine Ev.step (fun k => ?_) this
      simp only [corrodylaw06_Of.l0]
      rw [if_pos (by omega), if_pos (by omega), if_pos (by omega), if_pos (by omega), if_pos (by omega), rd43 l i hlt, w64s i l.length hlt hl]
      rfl
    · have := ih (i + 1) acc (by omega) (by omega)
      rw [List.drop_eq_nil_of_le (by rw [List.length_take]; omega)] at this ⊢
      refine Ev.step (fun k => ?_) this
      simp only [corrodylaw06_Of.l0]
      rw [if_pos (by omega), if_pos (by omega), if_pos (by omega), if_neg (by omega), w64s i l.length hlt hl]
theorem Of_f (l : List S43) (hl : l.length ≤ 9223372036854775807) : Ev (fun k => corrodylaw06_Of.f k l) ((l.take 10).map to48) := by
  have := Of_loop l hl l.length 0 [] (by omega) rfl
  rw [List.drop_zero, List.nil_append] at this
  exact this
theorem of_valid {l : List S43} (h : valid48 (l.map to48) = true) : (l.take 10).map to48 = l.map to48 := by
  have : l.length ≤ 8 := by
    simp only [valid48, Bool.and_eq_true, decide_eq_true_eq, List.length_map] at h
    exact h.1.2
  rw [List.take_of_length_le (by omega)]
end Go.Proofs.Ytaboleeclpllpaa.M


namespace Go.Proofs.Ytaboleeclpllpaa.M
open Go.RowKit Go.Proofs.YtaboleeclpllpaaW.PrintWords Go.Proofs.YtaboleeclpllpaaW.PrintLast Go.Proofs.YtaboleeclpllpaaW.PrintMore Go.Proofs.Ytaboleeclpllpaa.P
set_option linter.unusedVariables false
set_option linter.unusedSimpArgs false
abbrev Pc := S44
def jobsIn (n : Nat) (p : List Pc) : Prop := ∀ x ∈ p, 0 ≤ x.f0 ∧ x.f0 < (n : Int)
def endsFrom (acc : List Int) (p : List Pc) : List Int := p.foldl (fun a x => a.set x.f0.toNat x.f2) acc
def endsOf (n : Nat) (p : List Pc) : List Int := endsFrom (List.replicate n 0) p
theorem endsFrom_length (p : List Pc) : ∀ acc : List Int, (endsFrom acc p).length = acc.length := by
  induction p with
  | nil => intro acc; rfl
  | cons x p ih =>
    intro acc
    show (endsFrom (acc.set x.f0.toNat x.f2) p).length = _
    rw [ih, List.length_set]
theorem endsOf_length (n : Nat) (p : List Pc) : (endsOf n p).length = n := by rw [endsOf, endsFrom_length, List.length_replicate]
theorem finished_loop (n : Nat) (p : List Pc) (hp : p.length ≤ 9223372036854775807) (hj : jobsIn n p) : ∀ (d i : Nat) (acc : List Int), i + d = p.length → acc.length = n → Ev (fun k => dates_jobs_finished.l0 k acc p (p.length : Int) (i : Int)) (endsFrom acc (p.drop i)) := by
  intro d
  induction d with
  | zero =>
    intro i acc hi ha
    rw [show i = p.length by omega, List.drop_length]
    refine Ev.step (f := fun _ => some acc) (fun k => ?_) (Ev.now _)
    simp only [dates_jobs_finished.l0]
    rw [if_neg (by omega)]
  | succ d ih =>
    intro i acc hi ha
    have hlt : i < p.length := by omega
    have hx := hj p[i] (List.getElem_mem hlt)
    have := ih (i + 1) (acc.set (p[i]).f0.toNat (p[i]).f2) (by omega) (by rw [List.length_set, ha])
    rw [List.drop_eq_getElem_cons hlt]
    refine Ev.step (fun k => ?_) this
    simp only [dates_jobs_finished.l0]
    rw [if_pos (by omega), if_pos (by omega), if_pos (by omega), rd44 p i hlt, if_pos (by omega), if_pos (by omega), w64s i p.length hlt hp]
theorem finished_f (l : List S48) (p : List Pc) (hl : l.length ≤ 8) (hp : p.length ≤ 9223372036854775807) (hj : jobsIn l.length p) : Ev (fun k => dates_jobs_finished.f k l p) (endsOf l.length p) := by
  have := finished_loop l.length p hp hj p.length 0 (List.replicate l.length 0) (by omega) (by simp)
  rw [List.drop_zero] at this
  refine Ev.congr (fun k => ?_) this
  unfold dates_jobs_finished.f
  rw [if_pos (by omega), if_pos (by omega), Int.toNat_natCast]
  rfl
def total (l : List Int) : Int := l.foldr (· + ·) 0
theorem total_cons (x : Int) (l : List Int) : total (x :: l) = x + total l := rfl
theorem total_append (a b : List Int) : total (a ++ b) = total a + total b := by
  induction a with
  | nil => simp [total]
  | cons x a ih => rw [List.cons_append, total_cons, total_cons, ih]; omega
theorem total_bound (l : List Int) (b : Int) (hb : 0 ≤ b) (h : ∀ x ∈ l, -b ≤ x ∧ x ≤ b) : -(b * (l.length : Int)) ≤ total l ∧ total l ≤ b * (l.length : Int) := by
  induction l with
  | nil => simp [total]
  | cons x l ih =>
    have hx := h x (by simp)
    have := ih (fun y hy => h y (by simp [hy]))
    rw [total_cons, List.length_cons]
    have e : b * ((l.length + 1 : Nat) : Int) = b * (l.length : Int) + b := by rw [Int.natCast_add]; simp [Int.mul_add]
    omega
theorem total_small {l : List Int} (hl : l.length ≤ 8) (h : ∀ x ∈ l, -1000000 ≤ x ∧ x ≤ 1000000) : -8000000 ≤ total l ∧ total l ≤ 8000000 := by
  have := total_bound l 1000000 (by omega) h
  omega
theorem short_sum (t : List Pc) (e : List Int) (hl : e.length ≤ 8) (he : ∀ x ∈ e, -1000000 ≤ x ∧ x ≤ 1000000) : ∀ (d i : Nat) (acc : Int), i + d = e.length → acc = total (e.take i) → Ev (fun k => dates_Short.l0 k t acc e (e.length : Int) (i : Int)) (t, total e, 0) := by
  intro d
  induction d with
  | zero =>
    intro i acc hi ha
    rw [show i = e.length by omega] at ha ⊢
    rw [List.take_length] at ha
    subst ha
    refine Ev.step (f := fun _ => some (t, total e, 0)) (fun k => ?_) (Ev.now _)
    simp only [dates_Short.l0]
    rw [if_neg (by omega)]
  | succ d ih =>
    intro i acc hi ha
    have hlt : i < e.length := by omega
    have ht : total (e.take (i + 1)) = acc + e[i] := by
      rw [List.take_succ_eq_append_getElem hlt, total_append, ← ha, total_cons]
      simp [total]
    have hb := total_small (l := e.take (i + 1)) (by rw [List.length_take]; omega) (fun x hx => he x (List.mem_of_mem_take hx))
    refine Ev.step (fun k => ?_) (ih (i + 1) (acc + e[i]) (by omega) ht.symm)
    simp only [dates_Short.l0]
    rw [if_pos (by omega), if_pos (by omega), if_pos (by omega), rd_nat e i hlt, w64 (by omega) (by omega), w64s i e.length hlt (by omega)]
theorem eq44_loop (l : List S44) (hl : l.length ≤ 9223372036854775807) : ∀ (d i : Nat), i + d = l.length → Ev (fun k => dates_Piece.l0 k l l (l.length : Int) (i : Int)) true := by
  intro d
  induction d with
  | zero =>
    intro i hi
    refine Ev.step (f := fun _ => some true) (fun k => ?_) (Ev.now _)
    simp only [dates_Piece.l0]
    rw [if_neg (by omega)]
  | succ d ih =>
    intro i hi
    have hlt : i < l.length := by omega
    refine Ev.step (fun k => ?_) (ih (i + 1) (by omega))
    simp only [dates_Piece.l0]
    rw [if_pos (by omega), if_pos (by omega), if_pos (by omega), if_pos (by omega), w64s i l.length hlt hl, if_neg (by simp)]
theorem eq44_f (l : List S44) (hl : l.length ≤ 9223372036854775807) : Ev (fun k => dates_Piece.f k l l) true := by
  have := eq44_loop l hl l.length 0 (by omega)
  refine Ev.congr (fun k => ?_) this
  unfold dates_Piece.f
  rw [if_pos rfl]
  rfl
theorem mx_max (a b : Int) : mx a b = max a b := by unfold mx; omega
theorem max_loop (l : List Int) (hl : l.length ≤ 9223372036854775807) : ∀ (d i : Nat) (m : Int), i + d = l.length → 1 ≤ i → (m > 0 ↔ ∃ x ∈ l.take i, x > 0) → ∃ r, Ev (fun k => dates_left_int.l0 k l m (i : Int)) r ∧ (r > 0 ↔ ∃ x ∈ l, x > 0) := by
  intro d
  induction d with
  | zero =>
    intro i m hi h1 hm
    rw [show i = l.length by omega, List.take_length] at hm
    refine ⟨m, Ev.step (f := fun _ => some m) (fun k => ?_) (Ev.now _), hm⟩
    simp only [dates_left_int.l0]
    rw [if_neg (by omega)]
  | succ d ih =>
    intro i m hi h1 hm
    have hlt : i < l.length := by omega
    obtain ⟨r, hr, hr2⟩ := ih (i + 1) (mx m l[i]) (by omega) (by omega) (by
      rw [mx_max, List.take_succ_eq_append_getElem hlt]
      constructor
      · intro h
        by_cases hx : l[i] > 0
        · exact ⟨l[i], List.mem_append.2 (.inr (List.mem_singleton.2 rfl)), hx⟩
        · obtain ⟨y, hy, hy2⟩ := hm.1 (by omega)
          exact ⟨y, List.mem_append.2 (.inl hy), hy2⟩
      · rintro ⟨y, hy, hy2⟩
        rcases List.mem_append.1 hy with hy | hy
        · have := hm.2 ⟨y, hy, hy2⟩
          omega
        · simp at hy
          omega)
    refine ⟨r, Ev.step (fun k => ?_) hr, hr2⟩
    simp only [dates_left_int.l0]
    rw [if_pos (by omega), if_pos (by omega), rd_nat l i hlt, w64s i l.length hlt hl]
theorem max_f (l : List Int) (h1 : 1 ≤ l.length) (hl : l.length ≤ 9223372036854775807) : ∃ r, Ev (fun k => dates_left_int.f k l) r ∧ (r > 0 ↔ ∃ x ∈ l, x > 0) := by
  have h0 : rd l 0 = l[0] := rd_nat l 0 h1
  obtain ⟨r, hr, hr2⟩ := max_loop l hl (l.length - 1) 1 (l[0]) (by omega) (by omega) (by
    rw [List.take_succ_eq_append_getElem h1]
    simp)
  refine ⟨r, Ev.congr (fun k => ?_) hr, hr2⟩
  unfold dates_left_int.f
  rw [if_neg (by omega), if_pos (by omega), h0]
  rfl
end Go.Proofs.Ytaboleeclpllpaa.M


namespace Go.Proofs.Ytaboleeclpllpaa.M
open Go.RowKit Go.Proofs.YtaboleeclpllpaaW.PrintWords Go.Proofs.YtaboleeclpllpaaW.PrintLast Go.Proofs.YtaboleeclpllpaaW.PrintMore Go.Proofs.Ytaboleeclpllpaa.P
set_option linter.unusedVariables false
set_option linter.unusedSimpArgs false
def tm (t : List Int) (i : Nat) : Int := t.getD i 0
def jb (l : List S48) (i : Nat) : S48 := l.getD i z48
def ahead (short : Bool) (l : List S48) (t : List Int) (i j : Nat) : Bool := if short then decide (tm t i < tm t j) else decide ((jb l i).f2 < (jb l j).f2)
def ready (l : List S48) (t : List Int) (a : Int) (i : Nat) : Prop := (jb l i).f1 ≤ a ∧ tm t i > 0
instance (l : List S48) (t : List Int) (a : Int) (i : Nat) : Decidable (ready l t a i) := by unfold ready; infer_instance
def pickN (short : Bool) (l : List S48) (t : List Int) (a : Int) : Nat → Option Nat
  | 0 => none
  | i + 1 => if ready l t a i then (match pickN short l t a i with
      | none => some i
      | some j => if ahead short l t i j = true then some i else some j) else pickN short l t a i
def pick (short : Bool) (l : List S48) (t : List Int) (a : Int) : Option Nat := pickN short l t a l.length
def addPc (out : List Pc) (j : Int) (a : Int) : List Pc := match out.getLast? with
  | some p => if p.f0 = j ∧ p.f2 = a then out.set (out.length - 1) ⟨p.f0, p.f1, p.f2 + 1⟩ else out ++ [⟨j, a, a + 1⟩]
  | none => [⟨j, a, a + 1⟩]
abbrev St := List Int × List Pc
def stepF (short : Bool) (l : List S48) (a : Int) (s : St) : St := match pick short l s.1 a with
  | none => s
  | some j => (s.1.set j (tm s.1 j - 1), addPc s.2 (j : Int) a)
def runF (short : Bool) (l : List S48) : Nat → Int → St → St
  | 0, _, s => s
  | n + 1, a, s => runF short l n (a + 1) (stepF short l a s)
def times (l : List S48) : List Int := l.map (·.f0)
def planOf (short : Bool) (l : List S48) : List Pc := (runF short l 300 0 (times l, [])).2
theorem pickN_lt {short : Bool} {l : List S48} {t : List Int} {a : Int} : ∀ {n j : Nat}, pickN short l t a n = some j → j < n ∧ ready l t a j := by
  intro n
  induction n with
  | zero => intro j h; cases h
  | succ n ih =>
    intro j h
    rw [pickN] at h
    by_cases hr : ready l t a n
    · rw [if_pos hr] at h
      cases hp : pickN short l t a n with
      | none =>
        rw [hp] at h
        simp at h
        subst h
        exact ⟨by omega, hr⟩
      | some j' =>
        rw [hp] at h
        have := ih hp
        by_cases ha : ahead short l t n j' = true
        · simp [ha] at h
          subst h
          exact ⟨by omega, hr⟩
        · simp [ha] at h
          subst h
          exact ⟨by omega, this.2⟩
    · rw [if_neg hr] at h
      have := ih h
      exact ⟨by omega, this.2⟩
theorem pickN_none {short : Bool} {l : List S48} {t : List Int} {a : Int} : ∀ {n : Nat}, pickN short l t a n = none ↔ ∀ i, i < n → ¬ ready l t a i := by
  intro n
  induction n with
  | zero => exact ⟨fun _ i hi => by omega, fun _ => rfl⟩
  | succ n ih =>
    rw [pickN]
    by_cases hr : ready l t a n
    · rw [if_pos hr]
      constructor
      · intro h
        exfalso
        cases hp : pickN short l t a n with
        | none => rw [hp] at h; cases h
        | some j =>
          rw [hp] at h
          by_cases ha : ahead short l t n j = true
          · simp [ha] at h
          · simp [ha] at h
      · intro h
        exact absurd hr (h n (by omega))
    · rw [if_neg hr, ih]
      constructor
      · intro h i hi
        by_cases e : i = n
        · subst e; exact hr
        · exact h i (by omega)
      · intro h i hi
        exact h i (by omega)
theorem addPc_length (out : List Pc) (j a : Int) : (addPc out j a).length ≤ out.length + 1 := by
  unfold addPc
  split
  · split
    · rw [List.length_set]; omega
    · simp
  · simp
theorem stepF_len (short : Bool) (l : List S48) (a : Int) (s : St) : (stepF short l a s).1.length = s.1.length := by
  unfold stepF
  split
  · rfl
  · simp
theorem stepF_out (short : Bool) (l : List S48) (a : Int) (s : St) : (stepF short l a s).2.length ≤ s.2.length + 1 := by
  unfold stepF
  split
  · omega
  · exact addPc_length _ _ _
theorem runF_add (short : Bool) (l : List S48) : ∀ (m n : Nat) (a : Int) (s : St), runF short l (m + n) a s = runF short l n (a + m) (runF short l m a s) := by
  intro m
  induction m with
  | zero => intro n a s; simp [runF]
  | succ m ih =>
    intro n a s
    rw [show m + 1 + n = (m + n) + 1 by omega, runF, runF, ih]
    congr 1
    omega
theorem runF_succ (short : Bool) (l : List S48) (n : Nat) (a : Int) (s : St) : runF short l (n + 1) a s = stepF short l (a + n) (runF short l n a s) := by
  rw [runF_add]
  rfl
theorem runF_len (short : Bool) (l : List S48) : ∀ (n : Nat) (a : Int) (s : St), (runF short l n a s).1.length = s.1.length := by
  intro n
  induction n with
  | zero => intro a s; rfl
  | succ n ih => intro a s; rw [runF, ih, stepF_len]
theorem runF_out (short : Bool) (l : List S48) : ∀ (n : Nat) (a : Int) (s : St), (runF short l n a s).2.length ≤ s.2.length + n := by
  intro n
  induction n with
  | zero => intro a s; exact Nat.le_refl _
  | succ n ih =>
    intro a s
    rw [runF]
    have := ih (a + 1) (stepF short l a s)
    have := stepF_out short l a s
    omega
theorem tm_mem {t : List Int} {i : Nat} (h : i < t.length) : tm t i ∈ t := by
  unfold tm
  rw [List.getD_eq_getElem?_getD, List.getElem?_eq_getElem h]
  exact List.getElem_mem h
theorem tm_get {t : List Int} {i : Nat} (h : i < t.length) : tm t i = t[i] := by
  unfold tm
  rw [List.getD_eq_getElem?_getD, List.getElem?_eq_getElem h]
  rfl
theorem tm_out {t : List Int} {i : Nat} (h : t.length ≤ i) : tm t i = 0 := by
  unfold tm
  rw [List.getD_eq_getElem?_getD, List.getElem?_eq_none h]
  rfl
theorem jb_get {l : List S48} {i : Nat} (h : i < l.length) : jb l i = l[i] := by
  unfold jb
  rw [List.getD_eq_getElem?_getD, List.getElem?_eq_getElem h]
  rfl
theorem tm_set (t : List Int) (j i : Nat) (x : Int) (h : j < t.length) : tm (t.set j x) i = if i = j then x else tm t i := by
  unfold tm
  rw [List.getD_eq_getElem?_getD, List.getElem?_set]
  by_cases e : i = j
  · subst e
    rw [if_pos rfl, if_pos rfl, if_pos h]
    rfl
  · rw [if_neg (Ne.symm e), if_neg e, List.getD_eq_getElem?_getD]
theorem total_set : ∀ (t : List Int) (j : Nat) (x : Int), j < t.length → total (t.set j x) = total t - tm t j + x := by
  intro t
  induction t with
  | nil => intro j x h; simp at h
  | cons y t ih =>
    intro j x h
    cases j with
    | zero => simp [total, tm]; omega
    | succ j =>
      have := ih j x (by simpa using h)
      rw [List.set_cons_succ, total_cons, total_cons, this]
      have : tm (y :: t) (j + 1) = tm t j := rfl
      omega
def fine (t : List Int) : Prop := ∀ x ∈ t, 0 ≤ x
theorem fine_tm {t : List Int} (h : fine t) (i : Nat) : 0 ≤ tm t i := by
  by_cases hi : i < t.length
  · exact h _ (tm_mem hi)
  · rw [tm_out (by omega)]
    exact Int.le_refl _
theorem fine_of_tm {t : List Int} (h : ∀ i, i < t.length → 0 ≤ tm t i) : fine t := by
  intro x hx
  obtain ⟨i, hi, rfl⟩ := List.mem_iff_getElem.1 hx
  have := h i hi
  rwa [tm_get hi] at this
theorem total_fine {t : List Int} (h : fine t) : 0 ≤ total t := by
  induction t with
  | nil => exact Int.le_refl _
  | cons x t ih =>
    rw [total_cons]
    have := h x (by simp)
    have := ih (fun y hy => h y (by simp [hy]))
    omega
theorem total_zero {t : List Int} (h : fine t) (h0 : total t ≤ 0) : ∀ i, tm t i = 0 := by
  induction t with
  | nil => intro i; rfl
  | cons x t ih =>
    rw [total_cons] at h0
    have hx := h x (by simp)
    have ht : fine t := fun y hy => h y (by simp [hy])
    have := total_fine ht
    intro i
    cases i with
    | zero => show x = 0; omega
    | succ i => exact ih ht (by omega) i
theorem step_fine {short : Bool} {l : List S48} {a : Int} {s : St} (hl : s.1.length = l.length) (h : fine s.1) : fine (stepF short l a s).1 := by
  unfold stepF
  split
  · exact h
  · rename_i j hj
    have ⟨hlt, hr⟩ := pickN_lt hj
    refine fine_of_tm fun i hi => ?_
    rw [tm_set _ _ _ _ (by omega)]
    by_cases e : i = j
    · rw [if_pos e]
      have := hr.2
      omega
    · rw [if_neg e]
      exact fine_tm h i
theorem run_fine {short : Bool} {l : List S48} : ∀ (n : Nat) (a : Int) (s : St), s.1.length = l.length → fine s.1 → fine (runF short l n a s).1 := by
  intro n
  induction n with
  | zero => intro a s hl h; exact h
  | succ n ih =>
    intro a s hl h
    rw [runF]
    exact ih _ _ (by rw [stepF_len, hl]) (step_fine hl h)
theorem step_total {short : Bool} {l : List S48} {a : Int} {s : St} (hl : s.1.length = l.length) : total (stepF short l a s).1 = total s.1 - (if (pick short l s.1 a).isSome = true then 1 else 0) := by
  unfold stepF
  split
  · rename_i hp
    rw [hp]
    simp
  · rename_i j hj
    rw [hj]
    have ⟨hlt, hr⟩ := pickN_lt hj
    show total (s.1.set j (tm s.1 j - 1)) = _
    rw [total_set _ _ _ (by omega)]
    simp
    omega
theorem run_done {short : Bool} {l : List S48} (hrel : ∀ i, i < l.length → (jb l i).f1 ≤ 100) : ∀ (n : Nat) (a : Int) (s : St), s.1.length = l.length → fine s.1 → total s.1 + (if a < 100 then 100 - a else 0) ≤ (n : Int) → total (runF short l n a s).1 ≤ 0 := by
  intro n
  induction n with
  | zero =>
    intro a s hl hf h
    show total s.1 ≤ 0
    split at h <;> omega
  | succ n ih =>
    intro a s hl hf h
    rw [runF]
    have h2 := step_total (short := short) (a := a) hl
    refine ih _ _ (by rw [stepF_len, hl]) (step_fine hl hf) ?_
    cases hp : pick short l s.1 a with
    | some j =>
      rw [hp] at h2
      simp at h2
      split at h <;> split <;> omega
    | none =>
      rw [hp] at h2
      simp at h2
      by_cases ha : a < 100
      · rw [if_pos ha] at h
        split <;> omega
      ·
        have hz : total s.1 ≤ 0 := by
          have hn := pickN_none.1 hp
          have : ∀ i, tm s.1 i = 0 := by
            intro i
            by_cases hi : i < l.length
            · have h1 := hn i hi
              have h3 := fine_tm hf i
              have h4 := hrel i hi
              unfold ready at h1
              omega
            · exact tm_out (by omega)
          have h5 : ∀ t : List Int, (∀ i, tm t i = 0) → total t = 0 := by
            intro t
            induction t with
            | nil => intro _; rfl
            | cons x t iht =>
              intro h
              rw [total_cons, iht (fun i => h (i + 1))]
              have := h 0
              have e : tm (x :: t) 0 = x := rfl
              omega
          rw [h5 _ this]
          exact Int.le_refl _
        have := total_fine hf
        split <;> omega
end Go.Proofs.Ytaboleeclpllpaa.M


namespace Go.Proofs.Ytaboleeclpllpaa.M
open Go.RowKit Go.Proofs.YtaboleeclpllpaaW.PrintWords Go.Proofs.YtaboleeclpllpaaW.PrintLast Go.Proofs.YtaboleeclpllpaaW.PrintMore Go.Proofs.Ytaboleeclpllpaa.P
set_option linter.unusedVariables false
set_option linter.unusedSimpArgs false
def curI : Option Nat → Int
  | none => -1
  | some j => (j : Int)
theorem step_le {short : Bool} {l : List S48} {a : Int} {t : List Int} {out : List Pc} (h : ∀ x ∈ t, x ≤ 20) : ∀ x ∈ (stepF short l a (t, out)).1, x ≤ 20 := by
  intro x hx
  unfold stepF at hx
  split at hx
  · exact h x hx
  · rename_i j hj
    obtain ⟨i, hi, rfl⟩ := List.mem_iff_getElem.1 hx
    simp only [List.length_set] at hi
    rw [List.getElem_set]
    split
    · by_cases hjl : j < t.length
      · have := h _ (tm_mem hjl)
        show tm t j - 1 ≤ 20
        omega
      · show tm t j - 1 ≤ 20
        rw [tm_out (by omega)]
        omega
    · exact h _ (List.getElem_mem hi)
theorem stepF_idle {short : Bool} {l : List S48} {a : Int} {s : St} (h : ∀ i, tm s.1 i = 0) : stepF short l a s = s := by
  have : pick short l s.1 a = none := pickN_none.2 fun i _ hr => by have := hr.2; rw [h i] at this; omega
  unfold stepF
  rw [this]
theorem runF_idle {short : Bool} {l : List S48} {t : List Int} {out : List Pc} (h : ∀ i, tm t i = 0) : ∀ {n : Nat} {a : Int}, runF short l n a (t, out) = (t, out) := by
  intro n
  induction n with
  | zero => intro a; rfl
  | succ n ih =>
    intro a
    rw [runF, stepF_idle (s := (t, out)) h, ih]
theorem valid_len {l : List S48} (h : valid48 l = true) : 1 ≤ l.length ∧ l.length ≤ 8 := by
  simp only [valid48, Bool.and_eq_true, decide_eq_true_eq] at h
  exact h.1
theorem valid_ok {l : List S48} (h : valid48 l = true) {x : S48} (hx : x ∈ l) : 1 ≤ x.f0 ∧ x.f0 ≤ 20 ∧ 0 ≤ x.f1 ∧ x.f1 ≤ 100 ∧ 0 ≤ x.f2 ∧ x.f2 ≤ 200 ∧ 0 ≤ x.f3 ∧ x.f3 ≤ 20 := by
  simp only [valid48, Bool.and_eq_true, List.all_eq_true] at h
  have := h.2 x hx
  simpa [ok48] using this
theorem valid_jb {l : List S48} (h : valid48 l = true) {i : Nat} (hi : i < l.length) : 1 ≤ (jb l i).f0 ∧ (jb l i).f0 ≤ 20 ∧ 0 ≤ (jb l i).f1 ∧ (jb l i).f1 ≤ 100 ∧ 0 ≤ (jb l i).f2 ∧ (jb l i).f2 ≤ 200 ∧ 0 ≤ (jb l i).f3 ∧ (jb l i).f3 ≤ 20 := by
  rw [jb_get hi]
  exact valid_ok h (List.getElem_mem hi)
theorem times_fine {l : List S48} (h : valid48 l = true) : fine (times l) := by
  intro x hx
  obtain ⟨y, hy, rfl⟩ := List.mem_map.1 hx
  have := valid_ok h hy
  omega
theorem times_le {l : List S48} (h : valid48 l = true) : ∀ x ∈ times l, x ≤ 20 := by
  intro x hx
  obtain ⟨y, hy, rfl⟩ := List.mem_map.1 hx
  have := valid_ok h hy
  omega
theorem times_total {l : List S48} (h : valid48 l = true) : total (times l) ≤ 160 := by
  have h1 := total_bound (times l) 20 (by omega) (fun x hx => ⟨by have := times_fine h x hx; omega, times_le h x hx⟩)
  have h2 := valid_len h
  have h3 : (times l).length = l.length := by simp [times]
  omega
theorem plan_done (short : Bool) {l : List S48} (h : valid48 l = true) : total (runF short l 300 0 (times l, [])).1 ≤ 0 := by
  refine run_done (fun i hi => (valid_jb h hi).2.2.2.1) 300 0 (times l, []) (by simp [times]) (times_fine h) ?_
  have := times_total h
  simp
  omega
theorem short_first (l : List S48) (t : List Int) (hl : t.length = l.length) (i j : Nat) (hi : i < l.length) (hj : j < l.length) : dates_shortest_first.f (i : Int) (j : Int) t = some (ahead true l t i j) := by
  unfold dates_shortest_first.f
  rw [if_pos (by omega), if_pos (by omega), if_pos (by omega), if_pos (by omega), rd_nat t i (by omega), rd_nat t j (by omega)]
  simp [ahead, tm_get (show i < t.length by omega), tm_get (show j < t.length by omega)]
theorem short_inner (l : List S48) (t : List Int) (out : List Pc) (a : Int) (hl : l.length ≤ 8) (ht : t.length = l.length) (r : List Pc) : ∀ (d i : Nat), i + d = l.length →
    Ev (fun k => dates_jobs_plan_short.l2 k l out t a (curI (pick true l t a)) l (l.length : Int) (l.length : Int)) r → Ev (fun k => dates_jobs_plan_short.l2 k l out t a (curI (pickN true l t a i)) l (l.length : Int) (i : Int)) r := by
  intro d
  induction d with
  | zero =>
    intro i hi h
    rw [show i = l.length by omega]
    exact h
  | succ d ih =>
    intro i hi h
    have hlt : i < l.length := by omega
    refine Ev.step (fun k => ?_) (ih (i + 1) (by omega) h)
    simp only [dates_jobs_plan_short.l2]
    rw [if_pos (by omega), if_pos (by omega), if_pos (by omega), rd48 l i hlt, w64s i l.length hlt (by omega), if_pos (show (i : Int) < (t.length : Int) by omega)]
    have hjb : jb l i = l[i] := jb_get hlt
    have htm : rd t (i : Int) = tm t i := by rw [rd_nat t i (by omega), tm_get (by omega)]
    by_cases h1 : (l[i]).f1 ≤ a
    · rw [if_pos h1, htm]
      by_cases h2 : tm t i > 0
      · rw [if_pos h2]
        have hr : ready l t a i := ⟨by rw [hjb]; exact h1, h2⟩
        rw [pickN, if_pos hr]
        cases hp : pickN true l t a i with
        | none => rw [if_pos (show curI none < 0 by decide)]; rfl
        | some j =>
          have ⟨hji, _⟩ := pickN_lt hp
          have hc : curI (some j) = (j : Int) := rfl
          rw [hc, if_neg (by omega), short_first l t ht i j hlt (by omega)]
          by_cases ha : ahead true l t i j = true
          · simp only [ha, if_true, Option.bind_some]
            rfl
          · simp only [Bool.eq_false_iff.mpr ha, Option.bind_some, if_false, Bool.false_eq_true]
            rfl
      · rw [if_neg h2]
        have hr : ¬ ready l t a i := fun h => h2 h.2
        rw [pickN, if_neg hr]
    · rw [if_neg h1]
      have hr : ¬ ready l t a i := fun h => h1 (by have := h.1; rwa [hjb] at this)
      rw [pickN, if_neg hr]
theorem short_step (l : List S48) (t : List Int) (out : List Pc) (a : Int) (hl : l.length ≤ 8) (ht : t.length = l.length) (h20 : ∀ x ∈ t, x ≤ 20) (ha0 : 0 ≤ a) (ha : a ≤ 1000) (ho : out.length ≤ 1000) (r : List Pc)
    (h : Ev (fun k => dates_jobs_plan_short.l1 k l (stepF true l a (t, out)).2 (stepF true l a (t, out)).1 (a + 1)) r) : Ev (fun k => dates_jobs_plan_short.l2 k l out t a (-1) l (l.length : Int) 0) r := by
  refine short_inner l t out a hl ht r l.length 0 (by omega) ?_
  refine Ev.step (fun k => ?_) h
  simp only [dates_jobs_plan_short.l2]
  rw [if_neg (by omega)]
  unfold stepF
  cases hp : pick true l t a with
  | none =>
    rw [if_pos (show curI none < 0 by decide), w64 (by omega) (by omega)]
  | some j =>
    have ⟨hj, hr⟩ := pickN_lt hp
    have hc : curI (some j) = (j : Int) := rfl
    have htm : rd t (j : Int) = tm t j := by rw [rd_nat t j (by omega), tm_get (by omega)]
    have h1 := hr.2
    have h2 := h20 _ (tm_mem (show j < t.length by omega))
    rw [hc, if_neg (by omega), if_pos (by omega), if_pos (by omega), Option.bind_some, htm, w64 (x := tm t j - 1) (by omega) (by omega), w64 (x := a + 1) (by omega) (by omega), Int.toNat_natCast]
    show _ = dates_jobs_plan_short.l1 k l (addPc out (j : Int) a) (t.set j (tm t j - 1)) (a + 1)
    rcases List.eq_nil_or_concat out with rfl | ⟨o, p, rfl⟩
    · have hw : wrap64 ((([] : List S44).length : Int) - 1) = -1 := w64 (by simp) (by simp)
      rw [hw, if_neg (by omega), if_pos (by simp)]
      simp [addPc]
    · have hlen : (o.concat p).length = o.length + 1 := by simp
      have hw : wrap64 (((o.concat p).length : Int) - 1) = (o.length : Int) := by rw [hlen, w64 (by omega) (by omega)]; omega
      have hrd : rd_T44 (o.concat p) (o.length : Int) = p := by rw [rd44 _ _ (by omega)]; simp
      rw [hw, if_pos (by omega), if_pos (by omega), if_pos (by omega), hrd]
      have hadd : addPc (o.concat p) (j : Int) a = if p.f0 = (j : Int) ∧ p.f2 = a then (o.concat p).set o.length ⟨p.f0, p.f1, p.f2 + 1⟩ else o.concat p ++ [⟨(j : Int), a, a + 1⟩] := by
        simp [addPc]
      rw [hadd, Int.toNat_natCast]
      by_cases h3 : p.f0 = (j : Int)
      · rw [if_pos h3]
        by_cases h4 : p.f2 = a
        · rw [if_pos h4, if_pos ⟨h3, h4⟩, w64 (x := p.f2 + 1) (by omega) (by omega)]
        · rw [if_neg h4, if_pos (by omega), if_neg (fun h => h4 h.2)]
      · rw [if_neg h3, if_pos (by omega), if_neg (fun h => h3 h.1)]
theorem short_main (l : List S48) (hl : l.length ≤ 8) (h1 : 1 ≤ l.length) : ∀ (n : Nat) (a : Int) (t : List Int) (out : List Pc), t.length = l.length → fine t → (∀ x ∈ t, x ≤ 20) → 0 ≤ a → a + n ≤ 1000 → (out.length : Int) ≤ a → total (runF true l n a (t, out)).1 ≤ 0 →
    Ev (fun k => dates_jobs_plan_short.l1 k l out t a) (runF true l n a (t, out)).2 := by
  intro n
  induction n with
  | zero =>
    intro a t out ht hf h20 ha0 ha ho hd
    obtain ⟨m, hm, hm2⟩ := max_f t (by omega) (by omega)
    have hz := total_zero hf hd
    have : ¬ m > 0 := fun h => by
      obtain ⟨x, hx, hx2⟩ := hm2.1 h
      obtain ⟨i, hi, rfl⟩ := List.mem_iff_getElem.1 hx
      have := hz i
      rw [tm_get hi] at this
      omega
    refine Ev.step (f := fun k => (dates_left_int.f k t).bind fun t128 => (if t128 > 0 then (dates_jobs_plan_short.l2 k l out t a (-1) l (l.length : Int) 0) else (some out))) (fun k => by simp only [dates_jobs_plan_short.l1]) ?_
    refine Ev.bind hm ?_
    simp only [if_neg this]
    exact Ev.now _
  | succ n ih =>
    intro a t out ht hf h20 ha0 ha ho hd
    obtain ⟨m, hm, hm2⟩ := max_f t (by omega) (by omega)
    refine Ev.step (f := fun k => (dates_left_int.f k t).bind fun t128 => (if t128 > 0 then (dates_jobs_plan_short.l2 k l out t a (-1) l (l.length : Int) 0) else (some out))) (fun k => by simp only [dates_jobs_plan_short.l1]) ?_
    refine Ev.bind hm ?_
    by_cases hmp : m > 0
    · simp only [if_pos hmp]
      rw [runF] at hd ⊢
      refine short_step l t out a hl ht h20 ha0 (by omega) (by omega) _ ?_
      have hs20 : ∀ x ∈ (stepF true l a (t, out)).1, x ≤ 20 := step_le h20
      exact ih (a + 1) _ _ (by rw [stepF_len, ht]) (step_fine ht hf) hs20 (by omega) (by omega) (by have := stepF_out true l a (t, out); simp at this; omega) hd
    · simp only [if_neg hmp]
      rw [runF_idle (fun i => by
        by_cases hi : i < t.length
        · have := fun hh => hmp (hm2.2 hh)
          have h0 := fine_tm hf i
          by_cases h5 : tm t i > 0
          · exact absurd ⟨_, tm_mem hi, h5⟩ this
          · show tm t i = 0
            omega
        · exact tm_out (by omega))]
      exact Ev.now _
theorem short_start (l : List S48) (hl : l.length ≤ 8) (r : List Pc) (h : Ev (fun k => dates_jobs_plan_short.l1 k l [] (times l) 0) r) : ∀ (d i : Nat) (t : List Int), i + d = l.length → t.length = l.length → t.take i = (times l).take i → Ev (fun k => dates_jobs_plan_short.l0 k l t l (l.length : Int) (i : Int)) r := by
  intro d
  induction d with
  | zero =>
    intro i t hi ht he
    have : t = times l := by
      have h1 : t.take i = t := List.take_of_length_le (by omega)
      have h2 : (times l).take i = times l := List.take_of_length_le (by simp [times]; omega)
      rw [← h1, ← h2, he]
    subst this
    refine Ev.step (fun k => ?_) h
    simp only [dates_jobs_plan_short.l0]
    rw [if_neg (by omega)]
  | succ d ih =>
    intro i t hi ht he
    have hlt : i < l.length := by omega
    refine Ev.step (fun k => ?_) (ih (i + 1) (t.set i (l[i]).f0) (by omega) (by simpa using ht) ?_)
    · simp only [dates_jobs_plan_short.l0]
      rw [if_pos (by omega), if_pos (by omega), if_pos (by omega), if_pos (show (i : Int) < (t.length : Int) by omega), rd48 l i hlt, w64s i l.length hlt (by omega), Int.toNat_natCast]
    · rw [List.take_succ_eq_append_getElem (by simpa using (show i < t.length by omega)), List.take_succ_eq_append_getElem (by simpa [times] using hlt), List.take_set_of_le (Nat.le_refl i), he]
      simp [times]
theorem short_f (l : List S48) (hv : valid48 l = true) : Ev (fun k => dates_jobs_plan_short.f k l) (planOf true l) := by
  have hl := valid_len hv
  have hm := short_main l hl.2 hl.1 300 0 (times l) [] (by simp [times]) (times_fine hv) (times_le hv) (by omega) (by omega) (by simp) (plan_done true hv)
  have := short_start l hl.2 _ hm l.length 0 (List.replicate l.length 0) (by omega) (by simp) rfl
  refine Ev.congr (fun k => ?_) this
  unfold dates_jobs_plan_short.f
  rw [if_pos (by omega), if_pos (by omega), Int.toNat_natCast]
  rfl
theorem due_first (l : List S48) (t : List Int) (hl : t.length = l.length) (i j : Nat) (hi : i < l.length) (hj : j < l.length) : dates_jobs_first.f l (i : Int) (j : Int) t = some (ahead false l t i j) := by
  unfold dates_jobs_first.f
  rw [if_pos (by omega), if_pos (by omega), if_pos (by omega), if_pos (by omega), rd48 l i (by omega), rd48 l j (by omega)]
  simp [ahead, jb_get hi, jb_get hj]
theorem due_inner (l : List S48) (t : List Int) (out : List Pc) (a : Int) (hl : l.length ≤ 8) (ht : t.length = l.length) (r : List Pc) : ∀ (d i : Nat), i + d = l.length →
    Ev (fun k => dates_jobs_plan_due.l2 k l out t a (curI (pick false l t a)) l (l.length : Int) (l.length : Int)) r → Ev (fun k => dates_jobs_plan_due.l2 k l out t a (curI (pickN false l t a i)) l (l.length : Int) (i : Int)) r := by
  intro d
  induction d with
  | zero =>
    intro i hi h
    rw [show i = l.length by omega]
    exact h
  | succ d ih =>
    intro i hi h
    have hlt : i < l.length := by omega
    refine Ev.step (fun k => ?_) (ih (i + 1) (by omega) h)
    simp only [dates_jobs_plan_due.l2]
    rw [if_pos (by omega), if_pos (by omega), if_pos (by omega), rd48 l i hlt, w64s i l.length hlt (by omega), if_pos (show (i : Int) < (t.length : Int) by omega)]
    have hjb : jb l i = l[i] := jb_get hlt
    have htm : rd t (i : Int) = tm t i := by rw [rd_nat t i (by omega), tm_get (by omega)]
    by_cases h1 : (l[i]).f1 ≤ a
    · rw [if_pos h1, htm]
      by_cases h2 : tm t i > 0
      · rw [if_pos h2]
        have hr : ready l t a i := ⟨by rw [hjb]; exact h1, h2⟩
        rw [pickN, if_pos hr]
        cases hp : pickN false l t a i with
        | none => rw [if_pos (show curI none < 0 by decide)]; rfl
        | some j =>
          have ⟨hji, _⟩ := pickN_lt hp
          have hc : curI (some j) = (j : Int) := rfl
          rw [hc, if_neg (by omega), due_first l t ht i j hlt (by omega)]
          by_cases ha : ahead false l t i j = true
          · simp only [ha, if_true, Option.bind_some]
            rfl
          · simp only [Bool.eq_false_iff.mpr ha, Option.bind_some, if_false, Bool.false_eq_true]
            rfl
      · rw [if_neg h2]
        have hr : ¬ ready l t a i := fun h => h2 h.2
        rw [pickN, if_neg hr]
    · rw [if_neg h1]
      have hr : ¬ ready l t a i := fun h => h1 (by have := h.1; rwa [hjb] at this)
      rw [pickN, if_neg hr]
theorem due_step (l : List S48) (t : List Int) (out : List Pc) (a : Int) (hl : l.length ≤ 8) (ht : t.length = l.length) (h20 : ∀ x ∈ t, x ≤ 20) (ha0 : 0 ≤ a) (ha : a ≤ 1000) (ho : out.length ≤ 1000) (r : List Pc)
    (h : Ev (fun k => dates_jobs_plan_due.l1 k l (stepF false l a (t, out)).2 (stepF false l a (t, out)).1 (a + 1)) r) : Ev (fun k => dates_jobs_plan_due.l2 k l out t a (-1) l (l.length : Int) 0) r := by
  refine due_inner l t out a hl ht r l.length 0 (by omega) ?_
  refine Ev.step (fun k => ?_) h
  simp only [dates_jobs_plan_due.l2]
  rw [if_neg (by omega)]
  unfold stepF
  cases hp : pick false l t a with
  | none =>
    rw [if_pos (show curI none < 0 by decide), w64 (by omega) (by omega)]
  | some j =>
    have ⟨hj, hr⟩ := pickN_lt hp
    have hc : curI (some j) = (j : Int) := rfl
    have htm : rd t (j : Int) = tm t j := by rw [rd_nat t j (by omega), tm_get (by omega)]
    have h1 := hr.2
    have h2 := h20 _ (tm_mem (show j < t.length by omega))
    rw [hc, if_neg (by omega), if_pos (by omega), if_pos (by omega), Option.bind_some, htm, w64 (x := tm t j - 1) (by omega) (by omega), w64 (x := a + 1) (by omega) (by omega), Int.toNat_natCast]
    show _ = dates_jobs_plan_due.l1 k l (addPc out (j : Int) a) (t.set j (tm t j - 1)) (a + 1)
    rcases List.eq_nil_or_concat out with rfl | ⟨o, p, rfl⟩
    · have hw : wrap64 ((([] : List S44).length : Int) - 1) = -1 := w64 (by simp) (by simp)
      rw [hw, if_neg (by omega), if_pos (by simp)]
      simp [addPc]
    · have hlen : (o.concat p).length = o.length + 1 := by simp
      have hw : wrap64 (((o.concat p).length : Int) - 1) = (o.length : Int) := by rw [hlen, w64 (by omega) (by omega)]; omega
      have hrd : rd_T44 (o.concat p) (o.length : Int) = p := by rw [rd44 _ _ (by omega)]; simp
      rw [hw, if_pos (by omega), if_pos (by omega), if_pos (by omega), hrd]
      have hadd : addPc (o.concat p) (j : Int) a = if p.f0 = (j : Int) ∧ p.f2 = a then (o.concat p).set o.length ⟨p.f0, p.f1, p.f2 + 1⟩ else o.concat p ++ [⟨(j : Int), a, a + 1⟩] := by
        simp [addPc]
      rw [hadd, Int.toNat_natCast]
      by_cases h3 : p.f0 = (j : Int)
      · rw [if_pos h3]
        by_cases h4 : p.f2 = a
        · rw [if_pos h4, if_pos ⟨h3, h4⟩, w64 (x := p.f2 + 1) (by omega) (by omega)]
        · rw [if_neg h4, if_pos (by omega), if_neg (fun h => h4 h.2)]
      · rw [if_neg h3, if_pos (by omega), if_neg (fun h => h3 h.1)]
theorem due_main (l : List S48) (hl : l.length ≤ 8) (h1 : 1 ≤ l.length) : ∀ (n : Nat) (a : Int) (t : List Int) (out : List Pc), t.length = l.length → fine t → (∀ x ∈ t, x ≤ 20) → 0 ≤ a → a + n ≤ 1000 → (out.length : Int) ≤ a → total (runF false l n a (t, out)).1 ≤ 0 →
    Ev (fun k => dates_jobs_plan_due.l1 k l out t a) (runF false l n a (t, out)).2 := by
  intro n
  induction n with
  | zero =>
    intro a t out ht hf h20 ha0 ha ho hd
    obtain ⟨m, hm, hm2⟩ := max_f t (by omega) (by omega)
    have hz := total_zero hf hd
    have : ¬ m > 0 := fun h => by
      obtain ⟨x, hx, hx2⟩ := hm2.1 h
      obtain ⟨i, hi, rfl⟩ := List.mem_iff_getElem.1 hx
      have := hz i
      rw [tm_get hi] at this
      omega
    refine Ev.step (f := fun k => (dates_left_int.f k t).bind fun t128 => (if t128 > 0 then (dates_jobs_plan_due.l2 k l out t a (-1) l (l.length : Int) 0) else (some out))) (fun k => by simp only [dates_jobs_plan_due.l1]) ?_
    refine Ev.bind hm ?_
    simp only [if_neg this]
    exact Ev.now _
  | succ n ih =>
    intro a t out ht hf h20 ha0 ha ho hd
    obtain ⟨m, hm, hm2⟩ := max_f t (by omega) (by omega)
    refine Ev.step (f := fun k => (dates_left_int.f k t).bind fun t128 => (if t128 > 0 then (dates_jobs_plan_due.l2 k l out t a (-1) l (l.length : Int) 0) else (some out))) (fun k => by simp only [dates_jobs_plan_due.l1]) ?_
    refine Ev.bind hm ?_
    by_cases hmp : m > 0
    · simp only [if_pos hmp]
      rw [runF] at hd ⊢
      refine due_step l t out a hl ht h20 ha0 (by omega) (by omega) _ ?_
      have hs20 : ∀ x ∈ (stepF false l a (t, out)).1, x ≤ 20 := step_le h20
      exact ih (a + 1) _ _ (by rw [stepF_len, ht]) (step_fine ht hf) hs20 (by omega) (by omega) (by have := stepF_out false l a (t, out); simp at this; omega) hd
    · simp only [if_neg hmp]
      rw [runF_idle (fun i => by
        by_cases hi : i < t.length
        · have := fun hh => hmp (hm2.2 hh)
          have h0 := fine_tm hf i
          by_cases h5 : tm t i > 0
          · exact absurd ⟨_, tm_mem hi, h5⟩ this
          · show tm t i = 0
            omega
        · exact tm_out (by omega))]
      exact Ev.now _
theorem due_start (l : List S48) (hl : l.length ≤ 8) (r : List Pc) (h : Ev (fun k => dates_jobs_plan_due.l1 k l [] (times l) 0) r) : ∀ (d i : Nat) (t : List Int), i + d = l.length → t.length = l.length → t.take i = (times l).take i → Ev (fun k => dates_jobs_plan_due.l0 k l t l (l.length : Int) (i : Int)) r := by
  intro d
  induction d with
  | zero =>
    intro i t hi ht he
    have : t = times l := by
      have h1 : t.take i = t := List.take_of_length_le (by omega)
      have h2 : (times l).take i = times l := List.take_of_length_le (by simp [times]; omega)
      rw [← h1, ← h2, he]
    subst this
    refine Ev.step (fun k => ?_) h
    simp only [dates_jobs_plan_due.l0]
    rw [if_neg (by omega)]
  | succ d ih =>
    intro i t hi ht he
    have hlt : i < l.length := by omega
    refine Ev.step (fun k => ?_) (ih (i + 1) (t.set i (l[i]).f0) (by omega) (by simpa using ht) ?_)
    · simp only [dates_jobs_plan_due.l0]
      rw [if_pos (by omega), if_pos (by omega), if_pos (by omega), if_pos (show (i : Int) < (t.length : Int) by omega), rd48 l i hlt, w64s i l.length hlt (by omega), Int.toNat_natCast]
    · rw [List.take_succ_eq_append_getElem (by simpa using (show i < t.length by omega)), List.take_succ_eq_append_getElem (by simpa [times] using hlt), List.take_set_of_le (Nat.le_refl i), he]
      simp [times]
theorem due_f (l : List S48) (hv : valid48 l = true) : Ev (fun k => dates_jobs_plan_due.f k l) (planOf false l) := by
  have hl := valid_len hv
  have hm := due_main l hl.2 hl.1 300 0 (times l) [] (by simp [times]) (times_fine hv) (times_le hv) (by omega) (by omega) (by simp) (plan_done false hv)
  have := due_start l hl.2 _ hm l.length 0 (List.replicate l.length 0) (by omega) (by simp) rfl
  refine Ev.congr (fun k => ?_) this
  unfold dates_jobs_plan_due.f
  rw [if_pos (by omega), if_pos (by omega), Int.toNat_natCast]
  rfl
end Go.Proofs.Ytaboleeclpllpaa.M


namespace Go.Proofs.Ytaboleeclpllpaa.M
open Go.RowKit Go.Proofs.YtaboleeclpllpaaW.PrintWords Go.Proofs.YtaboleeclpllpaaW.PrintLast Go.Proofs.YtaboleeclpllpaaW.PrintMore Go.Proofs.Ytaboleeclpllpaa.P
set_option linter.unusedVariables false
set_option linter.unusedSimpArgs false
end Go.Proofs.Ytaboleeclpllpaa.M


namespace Go.Proofs.Ytaboleeclpllpaa.M
open Go.RowKit Go.Proofs.YtaboleeclpllpaaW.PrintWords Go.Proofs.YtaboleeclpllpaaW.PrintLast Go.Proofs.YtaboleeclpllpaaW.PrintMore Go.Proofs.Ytaboleeclpllpaa.P
set_option linter.unusedVariables false
set_option linter.unusedSimpArgs false
def Pcs (n : Nat) (a : Int) (p : List Pc) : Prop := ∀ x ∈ p, 0 ≤ x.f0 ∧ x.f0 < (n : Int) ∧ 0 ≤ x.f1 ∧ x.f1 < x.f2 ∧ x.f2 ≤ a
theorem addPc_pcs {n : Nat} {a : Int} {out : List Pc} {j : Nat} (ha : 0 ≤ a) (hj : j < n) (h : Pcs n a out) : Pcs n (a + 1) (addPc out (j : Int) a) := by
  have hold : ∀ x ∈ out, 0 ≤ x.f0 ∧ x.f0 < (n : Int) ∧ 0 ≤ x.f1 ∧ x.f1 < x.f2 ∧ x.f2 ≤ a + 1 := fun x hx => by have := h x hx; omega
  unfold addPc
  split
  · rename_i p hp
    have hpm : p ∈ out := List.mem_of_getLast? hp
    have hpp := h p hpm
    split
    · intro x hx
      rcases List.mem_or_eq_of_mem_set hx with hx | rfl
      · exact hold x hx
      · show 0 ≤ p.f0 ∧ p.f0 < (n : Int) ∧ 0 ≤ p.f1 ∧ p.f1 < p.f2 + 1 ∧ p.f2 + 1 ≤ a + 1
        omega
    · intro x hx
      rcases List.mem_append.1 hx with hx | hx
      · exact hold x hx
      · simp at hx
        subst hx
        show 0 ≤ (j : Int) ∧ (j : Int) < (n : Int) ∧ 0 ≤ a ∧ a < a + 1 ∧ a + 1 ≤ a + 1
        omega
  · intro x hx
    simp at hx
    subst hx
    show 0 ≤ (j : Int) ∧ (j : Int) < (n : Int) ∧ 0 ≤ a ∧ a < a + 1 ∧ a + 1 ≤ a + 1
    omega
theorem stepF_pcs {short : Bool} {l : List S48} {a : Int} {s : St} (ha : 0 ≤ a) (h : Pcs l.length a s.2) : Pcs l.length (a + 1) (stepF short l a s).2 := by
  unfold stepF
  split
  · intro x hx
    have := h x hx
    omega
  · rename_i j hj
    exact addPc_pcs ha (pickN_lt hj).1 h
theorem runF_pcs {short : Bool} {l : List S48} : ∀ (n : Nat) (a : Int) (s : St), 0 ≤ a → Pcs l.length a s.2 → Pcs l.length (a + n) (runF short l n a s).2 := by
  intro n
  induction n with
  | zero => intro a s ha h; simpa [runF] using h
  | succ n ih =>
    intro a s ha h
    rw [runF]
    have := ih (a + 1) _ (by omega) (stepF_pcs (short := short) ha h)
    rwa [show a + ((n + 1 : Nat) : Int) = a + 1 + (n : Int) by omega]
theorem plan_pcs (short : Bool) (l : List S48) : Pcs l.length 300 (planOf short l) := by
  have := runF_pcs (short := short) (l := l) 300 0 (times l, []) (Int.le_refl _) (fun x hx => by cases hx)
  rw [show (0 : Int) + ((300 : Nat) : Int) = 300 from rfl] at this
  exact this
theorem plan_length (short : Bool) (l : List S48) : (planOf short l).length ≤ 300 := by
  have := runF_out short l 300 0 (times l, [])
  simpa [planOf] using this
theorem pcs_jobs {n : Nat} {a : Int} {p : List Pc} (h : Pcs n a p) : jobsIn n p := fun x hx => ⟨(h x hx).1, (h x hx).2.1⟩
theorem endsFrom_bound {b : Int} (p : List Pc) (hp : ∀ x ∈ p, 0 ≤ x.f2 ∧ x.f2 ≤ b) : ∀ acc : List Int, (∀ x ∈ acc, 0 ≤ x ∧ x ≤ b) → ∀ x ∈ endsFrom acc p, 0 ≤ x ∧ x ≤ b := by
  induction p with
  | nil => intro acc h; exact h
  | cons y p ih =>
    intro acc h
    show ∀ x ∈ endsFrom (acc.set y.f0.toNat y.f2) p, _
    refine ih (fun x hx => hp x (by simp [hx])) _ (fun x hx => ?_)
    rcases List.mem_or_eq_of_mem_set hx with hx | rfl
    · exact h x hx
    · exact hp y (by simp)
theorem endsOf_bound {n : Nat} {a : Int} {p : List Pc} (ha : 0 ≤ a) (h : Pcs n a p) : ∀ x ∈ endsOf n p, 0 ≤ x ∧ x ≤ a :=
  endsFrom_bound p (fun x hx => by have := h x hx; omega) _ (fun x hx => by
    have := (List.mem_replicate.1 hx).2
    omega)
theorem due_f' (l : List S48) (hv : valid48 l = true) : Ev (fun k => dates_jobs_due.f k l) (planOf false l) := by
  refine Ev.congr (fun k => ?_) (due_f l hv)
  unfold dates_jobs_due.f
  cases dates_jobs_plan_due.f k l <;> rfl
theorem Plan_f (l : List S48) (hl : l.length ≤ 9223372036854775807) : Ev (fun k => dates_Plan.f k l) (if valid48 l = true then (planOf false l, 0) else ([], 2)) := by
  unfold dates_Plan.f
  refine Ev.bind (valid_f l hl) ?_
  cases hv : valid48 l with
  | true =>
    simp only [if_true]
    exact Ev.bind (due_f' l hv) (Ev.now _)
  | false =>
    simp only [Bool.false_eq_true, if_false]
    exact Ev.now _
theorem Short_f (l : List S48) (hl : l.length ≤ 9223372036854775807) : Ev (fun k => dates_Short.f k l) (if valid48 l = true then (planOf true l, total (endsOf l.length (planOf true l)), 0) else ([], 0, 2)) := by
  unfold dates_Short.f
  refine Ev.bind (valid_f l hl) ?_
  cases hv : valid48 l with
  | true =>
    simp only [if_true]
    have hlen := valid_len hv
    have hpl := plan_length true l
    refine Ev.bind (short_f l hv) ?_
    refine Ev.bind (finished_f l _ hlen.2 (by omega) (pcs_jobs (plan_pcs true l))) ?_
    have hb := endsOf_bound (by omega) (plan_pcs true l)
    exact short_sum _ _ (by rw [endsOf_length]; exact hlen.2) (fun x hx => by have := hb x hx; omega) (endsOf l.length (planOf true l)).length 0 0 (by omega) rfl
  | false =>
    simp only [Bool.false_eq_true, if_false]
    exact Ev.now _
theorem awake_plan : planOf false [(⟨2, 1, 9, 0⟩ : S48)] = [(⟨0, 1, 3⟩ : S44)] := by kernel_rfl
theorem awake_valid : valid48 [(⟨2, 1, 9, 0⟩ : S48)] = true := by kernel_rfl
theorem awake_f : Ev (fun k => corrodylaw06_awake.f k) true := by
  unfold corrodylaw06_awake.f
  have h := Plan_f [(⟨2, 1, 9, 0⟩ : S48)] (by simp)
  rw [awake_valid, if_pos rfl, awake_plan] at h
  refine Ev.bind h ?_
  simp only [if_true]
  exact Ev.bind (eq44_f _ (by simp)) (Ev.now _)
end Go.Proofs.Ytaboleeclpllpaa.M


namespace Go.Proofs.Ytaboleeclpllpaa.M
open Go.RowKit Go.Proofs.YtaboleeclpllpaaW.PrintWords Go.Proofs.YtaboleeclpllpaaW.PrintLast Go.Proofs.YtaboleeclpllpaaW.PrintMore Go.Proofs.Ytaboleeclpllpaa.P
set_option linter.unusedVariables false
set_option linter.unusedSimpArgs false
def lateN (l : List S48) (e : List Int) (w : Int) : Nat → Int
  | 0 => w
  | n + 1 => max (lateN l e w n) (tm e n - (jb l n).f2)
theorem lateN_le (l : List S48) (e : List Int) (w d : Int) : ∀ n : Nat, lateN l e w n ≤ d ↔ w ≤ d ∧ ∀ i, i < n → tm e i - (jb l i).f2 ≤ d
  | 0 => by simp [lateN]
  | n + 1 => by
    rw [lateN, Int.max_le, lateN_le l e w d n]
    constructor
    · rintro ⟨⟨h1, h2⟩, h3⟩
      refine ⟨h1, fun i hi => ?_⟩
      by_cases h : i = n
      · subst h; exact h3
      · exact h2 i (by omega)
    · rintro ⟨h1, h2⟩
      exact ⟨⟨h1, fun i hi => h2 i (by omega)⟩, h2 n (by omega)⟩
theorem lateN_at (l : List S48) (e : List Int) (w : Int) : ∀ n : Nat, lateN l e w n = w ∨ ∃ i, i < n ∧ lateN l e w n = tm e i - (jb l i).f2
  | 0 => Or.inl rfl
  | n + 1 => by
    rw [lateN]
    rcases Int.le_total (lateN l e w n) (tm e n - (jb l n).f2) with h | h
    · rw [Int.max_eq_right h]
      exact Or.inr ⟨n, by omega, rfl⟩
    · rw [Int.max_eq_left h]
      rcases lateN_at l e w n with h1 | ⟨i, hi, h1⟩
      · exact Or.inl h1
      · exact Or.inr ⟨i, by omega, h1⟩
def worstOf (l : List S48) (e : List Int) : Int := lateN l e (-1073741824) l.length
def delayOf (l : List S48) : Int := worstOf l (endsOf l.length (planOf false l))
theorem worstOf_le {l : List S48} {e : List Int} {d : Int} (hd : -1073741824 ≤ d) : worstOf l e ≤ d ↔ ∀ i, i < l.length → tm e i - (jb l i).f2 ≤ d := by
  rw [worstOf, lateN_le]
  exact ⟨fun h => h.2, fun h => ⟨hd, h⟩⟩
theorem endsB_tm {e : List Int} (he : ∀ x ∈ e, 0 ≤ x ∧ x ≤ 1000000) (i : Nat) : 0 ≤ tm e i ∧ tm e i ≤ 1000000 := by
  by_cases h : i < e.length
  · exact he _ (tm_mem h)
  · rw [tm_out (by omega)]; omega
theorem worstOf_at {l : List S48} (hv : valid48 l = true) {e : List Int} (he : ∀ x ∈ e, 0 ≤ x ∧ x ≤ 1000000) : ∃ i, i < l.length ∧ worstOf l e = tm e i - (jb l i).f2 := by
  rcases lateN_at l e (-1073741824) l.length with h | h
  · exfalso
    have h1 := (worstOf_le (l := l) (e := e) (d := -1073741824) (Int.le_refl _)).1 (by rw [worstOf, h]; exact Int.le_refl _) 0 (valid_len hv).1
    have h2 := valid_jb hv (i := 0) (valid_len hv).1
    have h3 := endsB_tm he 0
    omega
  · exact h
theorem lateN_bound {l : List S48} (hv : valid48 l = true) {e : List Int} (he : ∀ x ∈ e, 0 ≤ x ∧ x ≤ 1000000) {w : Int} (hw : -1073741824 ≤ w ∧ w ≤ 1000000) : ∀ n : Nat, n ≤ l.length → -1073741824 ≤ lateN l e w n ∧ lateN l e w n ≤ 1000000
  | 0, _ => hw
  | n + 1, h => by
    have h1 := lateN_bound hv he hw n (by omega)
    have h2 := valid_jb hv (i := n) (by omega)
    have h3 := endsB_tm he n
    rw [lateN]
    omega
theorem delay_loop (l : List S48) (hv : valid48 l = true) (e : List Int) (hel : e.length = l.length) (he : ∀ x ∈ e, 0 ≤ x ∧ x ≤ 1000000) (w : Int) : ∀ (d i : Nat), i + d = l.length → Ev (fun k => dates_jobs_delay.l0 k e (lateN l e w i) l (l.length : Int) (i : Int)) (lateN l e w l.length) := by
  have hlen := valid_len hv
  intro d
  induction d with
  | zero =>
    intro i hi
    refine Ev.step (f := fun _ => some (lateN l e w i)) (fun k => ?_) (by rw [show i = l.length by omega]; exact Ev.now _)
    simp only [dates_jobs_delay.l0]
    rw [if_neg (by omega)]
  | succ d ih =>
    intro i hi
    have hlt : i < l.length := by omega
    refine Ev.step (fun k => ?_) (ih (i + 1) (by omega))
    have h2 := valid_jb hv hlt
    have h3 := endsB_tm he i
    simp only [dates_jobs_delay.l0]
    rw [if_pos (by omega), if_pos (by omega), if_pos (by omega), if_pos (by omega), rd48 l i hlt, rd_nat e i (by omega), ← tm_get (by omega), ← jb_get hlt, mx_max, w64 (by omega) (by omega), w64s i l.length hlt (by omega), lateN]
theorem worst_start {l : List S48} (hv : valid48 l = true) {e : List Int} (he : ∀ x ∈ e, 0 ≤ x ∧ x ≤ 1000000) : lateN l e (tm e 0 - (jb l 0).f2) l.length = worstOf l e := by
  have hlen := valid_len hv
  have h2 := valid_jb hv (i := 0) (by omega)
  have h3 := endsB_tm he 0
  have hb := lateN_bound hv he (w := tm e 0 - (jb l 0).f2) (by omega) l.length (Nat.le_refl _)
  have hc := lateN_bound hv he (w := -1073741824) (by omega) l.length (Nat.le_refl _)
  refine Int.le_antisymm ?_ ?_
  · rw [lateN_le]
    have h := (worstOf_le (l := l) (e := e) (d := worstOf l e) hc.1).1 (Int.le_refl _)
    exact ⟨h 0 (by omega), h⟩
  · rw [worstOf_le hb.1]
    exact ((lateN_le l e _ _ l.length).1 (Int.le_refl _)).2
theorem delay_f (l : List S48) (hv : valid48 l = true) (p : List Pc) (hp : p.length ≤ 9223372036854775807) (hpc : Pcs l.length 1000000 p) : Ev (fun k => dates_jobs_delay.f k l p) (worstOf l (endsOf l.length p)) := by
  have hlen := valid_len hv
  unfold dates_jobs_delay.f
  refine Ev.bind (finished_f l p hlen.2 hp (pcs_jobs hpc)) ?_
  have he := endsOf_bound (by omega) hpc
  have hel := endsOf_length l.length p
  simp only [if_pos (show (0 : Int) < ((endsOf l.length p).length : Int) by omega), if_pos (show (0 : Int) < (l.length : Int) by omega)]
  have h2 := valid_jb hv (i := 0) (by omega)
  have h3 := endsB_tm he 0
  have h0 : wrap64 (rd (endsOf l.length p) 0 - (rd_T48 l 0).f2) = tm (endsOf l.length p) 0 - (jb l 0).f2 := by
    have e1 := rd_nat (endsOf l.length p) 0 (by omega)
    have e2 := rd48 l 0 (by omega)
    rw [show ((0 : Nat) : Int) = 0 from rfl] at e1 e2
    rw [e1, e2, ← tm_get (by omega), ← jb_get (by omega), w64 (by omega) (by omega)]
  rw [h0, ← worst_start hv he]
  exact delay_loop l hv _ hel he _ l.length 0 (by omega)
theorem pcs_weaken {n : Nat} {a b : Int} {p : List Pc} (h : Pcs n a p) (hab : a ≤ b) : Pcs n b p := fun x hx => by have := h x hx; omega
theorem Delay_f (l : List S48) (hl : l.length ≤ 9223372036854775807) : Ev (fun k => dates_Delay.f k l) (if valid48 l = true then (delayOf l, 0) else (0, 2)) := by
  unfold dates_Delay.f
  refine Ev.bind (valid_f l hl) ?_
  cases hv : valid48 l with
  | true =>
    simp only [if_true]
    refine Ev.bind (due_f' l hv) ?_
    have := plan_length false l
    refine Ev.bind (delay_f l hv _ (by omega) (pcs_weaken (plan_pcs false l) (by omega))) ?_
    exact Ev.now _
  | false =>
    simp only [Bool.false_eq_true, if_false]
    exact Ev.now _
end Go.Proofs.Ytaboleeclpllpaa.M


namespace Go.Proofs.Ytaboleeclpllpaa.T
set_option linter.unusedVariables false
set_option linter.unusedSimpArgs false
def sumN : Nat → (Nat → Int) → Int
  | 0, _ => 0
  | n + 1, f => sumN n f + f n
theorem sumN_congr {f g : Nat → Int} : ∀ {n : Nat}, (∀ i, i < n → f i = g i) → sumN n f = sumN n g
  | 0, _ => rfl
  | n + 1, h => by rw [sumN, sumN, sumN_congr (fun i hi => h i (by omega)), h n (by omega)]
theorem sumN_le {f g : Nat → Int} : ∀ {n : Nat}, (∀ i, i < n → f i ≤ g i) → sumN n f ≤ sumN n g
  | 0, _ => Int.le_refl _
  | n + 1, h => by
    have h1 := sumN_le (n := n) (fun i hi => h i (by omega))
    have h2 := h n (by omega)
    simp only [sumN]
    omega
theorem sumN_add (f g : Nat → Int) : ∀ n : Nat, sumN n (fun i => f i + g i) = sumN n f + sumN n g
  | 0 => rfl
  | n + 1 => by
    have := sumN_add f g n
    simp only [sumN]
    omega
theorem sumN_zero : ∀ n : Nat, sumN n (fun _ => 0) = 0
  | 0 => rfl
  | n + 1 => by rw [sumN, sumN_zero n]; rfl
theorem sumN_nonneg {f : Nat → Int} {n : Nat} (h : ∀ i, i < n → 0 ≤ f i) : 0 ≤ sumN n f := by
  have := sumN_le (f := fun _ => 0) (g := f) (n := n) h
  rwa [sumN_zero] at this
theorem sumN_at {f g : Nat → Int} {n : Nat} (j : Nat) (hj : j < n) (h : ∀ i, i < n → i ≠ j → f i = g i) : sumN n f = sumN n g + (f j - g j) := by
  induction n with
  | zero => omega
  | succ n ih =>
    by_cases hjn : j = n
    · subst hjn
      have : sumN j f = sumN j g := sumN_congr (fun i hi => h i (by omega) (by omega))
      simp only [sumN]
      omega
    · have := ih (by omega) (fun i hi hne => h i (by omega) hne)
      have h2 := h n (by omega) (fun he => hjn he.symm)
      simp only [sumN]
      omega
theorem sumN_pos {f : Nat → Int} {n : Nat} (hf : ∀ i, i < n → 0 ≤ f i) (j : Nat) (hj : j < n) : f j ≤ sumN n f := by
  have := sumN_at (f := f) (g := fun i => if i = j then 0 else f i) j hj (fun i _ hne => by rw [if_neg hne])
  have h2 : 0 ≤ sumN n (fun i => if i = j then 0 else f i) := sumN_nonneg (fun i hi => by
    by_cases h : i = j
    · rw [if_pos h]; exact Int.le_refl _
    · rw [if_neg h]; exact hf i hi)
  rw [if_pos rfl] at this
  omega
theorem sumN_eq_zero {f : Nat → Int} {n : Nat} (hf : ∀ i, i < n → 0 ≤ f i) (h : sumN n f ≤ 0) (i : Nat) (hi : i < n) : f i = 0 := by
  have := sumN_pos hf i hi
  have := hf i hi
  omega
theorem sumN_swap (f : Nat → Nat → Int) : ∀ m n : Nat, sumN m (fun i => sumN n (f i)) = sumN n (fun j => sumN m (fun i => f i j))
  | 0, n => by simp only [sumN]; rw [sumN_zero]
  | m + 1, n => by
    simp only [sumN]
    rw [sumN_swap f m n, ← sumN_add]
def one (b : Prop) [Decidable b] : Int := if b then 1 else 0
def cnt (u : Nat → Option Nat) (j : Nat) (a : Nat) : Int := sumN a (fun s => one (u s = some j))
theorem one_nn (b : Prop) [Decidable b] : 0 ≤ one b := by unfold one; split <;> omega
theorem one_le (b : Prop) [Decidable b] : one b ≤ 1 := by unfold one; split <;> omega
theorem one_pos {b : Prop} [Decidable b] (h : b) : one b = 1 := if_pos h
theorem one_neg {b : Prop} [Decidable b] (h : ¬ b) : one b = 0 := if_neg h
theorem cnt_succ (u : Nat → Option Nat) (j a : Nat) : cnt u j (a + 1) = cnt u j a + one (u a = some j) := rfl
theorem cnt_mono (u : Nat → Option Nat) (j : Nat) {a : Nat} : ∀ {b : Nat}, a ≤ b → cnt u j a ≤ cnt u j b := by
  intro b
  induction b with
  | zero => intro h; rw [show a = 0 by omega]; exact Int.le_refl _
  | succ b ih =>
    intro h
    by_cases hab : a = b + 1
    · subst hab; exact Int.le_refl _
    · have := ih (by omega)
      have := one_nn (u b = some j)
      rw [cnt_succ]
      omega
theorem cnt_nn (u : Nat → Option Nat) (j a : Nat) : 0 ≤ cnt u j a := sumN_nonneg (fun i _ => one_nn _)
theorem cnt_still {u : Nat → Option Nat} {j a : Nat} : ∀ {b : Nat}, a ≤ b → (∀ s, a ≤ s → s < b → u s ≠ some j) → cnt u j b = cnt u j a := by
  intro b
  induction b with
  | zero => intro h _; rw [show a = 0 by omega]
  | succ b ih =>
    intro h hs
    by_cases hab : a = b + 1
    · subst hab; rfl
    · rw [cnt_succ, ih (by omega) (fun s h1 h2 => hs s h1 (by omega)), one_neg (hs b (by omega) (by omega))]
      omega
structure Sched (n : Nat) (tim rel : Nat → Int) (u : Nat → Option Nat) (C : Nat → Int) (H : Nat) : Prop where
  job : ∀ a j, a < H → u a = some j → j < n ∧ rel j ≤ a
  full : ∀ j, j < n → cnt u j H = tim j
  last : ∀ j, j < n → ∃ a : Nat, a < H ∧ C j = (a : Int) + 1 ∧ u a = some j ∧ ∀ s, a < s → s < H → u s ≠ some j
def got (n : Nat) (S : Nat → Prop) [DecidablePred S] (u : Nat → Option Nat) (a : Nat) : Int := sumN n (fun i => if S i then cnt u i a else 0)
theorem got_succ {n : Nat} {S : Nat → Prop} [DecidablePred S] {u : Nat → Option Nat} {a : Nat} : got n S u (a + 1) = got n S u a + sumN n (fun i => if S i then one (u a = some i) else 0) := by
  unfold got
  rw [← sumN_add]
  refine sumN_congr (fun i _ => ?_)
  by_cases h : S i
  · rw [if_pos h, if_pos h, if_pos h, cnt_succ]
  · rw [if_neg h, if_neg h, if_neg h]; rfl
theorem got_in {n : Nat} {S : Nat → Prop} [DecidablePred S] {u : Nat → Option Nat} {a i : Nat} (hi : i < n) (hu : u a = some i) (hS : S i) : got n S u (a + 1) = got n S u a + 1 := by
  rw [got_succ]
  have := sumN_at (f := fun k => if S k then one (u a = some k) else 0) (g := fun _ => 0) i hi (fun k _ hne => by
    by_cases h : S k
    · simp only [if_pos h]
      exact one_neg (by rw [hu]; intro he; exact hne (Option.some.inj he).symm)
    · simp only [if_neg h])
  rw [this, sumN_zero]
  simp only [if_pos hS]
  rw [one_pos hu]
  omega
theorem got_out {n : Nat} {S : Nat → Prop} [DecidablePred S] {u : Nat → Option Nat} {a : Nat} (h : ∀ i, i < n → u a = some i → ¬ S i) : got n S u (a + 1) = got n S u a := by
  rw [got_succ, sumN_congr (g := fun _ => 0) (fun k hk => ?_), sumN_zero]
  · omega
  · by_cases hS : S k
    · simp only [if_pos hS]
      exact one_neg (fun he => h k hk he hS)
    · simp only [if_neg hS]
theorem got_nn (n : Nat) (S : Nat → Prop) [DecidablePred S] (u : Nat → Option Nat) (a : Nat) : 0 ≤ got n S u a := sumN_nonneg (fun i _ => by
  by_cases h : S i
  · rw [if_pos h]; exact cnt_nn _ _ _
  · rw [if_neg h]; exact Int.le_refl _)
section
variable {n : Nat} {tim rel : Nat → Int} {u : Nat → Option Nat} {C : Nat → Int} {H : Nat}
theorem Sched.before (h : Sched n tim rel u C H) {j s : Nat} (hj : j < n) (hs : s < H) (hu : u s = some j) : (s : Int) < C j := by
  obtain ⟨a, ha, hC, hua, hl⟩ := h.last j hj
  by_cases hsa : s ≤ a
  · omega
  · exact absurd hu (hl s (by omega) hs)
theorem Sched.le (h : Sched n tim rel u C H) {j : Nat} (hj : j < n) (a : Nat) (ha : a ≤ H) : cnt u j a ≤ tim j := by
  rw [← h.full j hj]; exact cnt_mono u j ha
theorem Sched.open (h : Sched n tim rel u C H) {j : Nat} (hj : j < n) {a s : Nat} (has : a ≤ s) (hs : s < H) (hu : u s = some j) : cnt u j a < tim j := by
  have h1 := cnt_mono u j has
  have h2 := h.le hj (s + 1) (by omega)
  rw [cnt_succ, one_pos hu] at h2
  omega
theorem Sched.unfinished (h : Sched n tim rel u C H) {j : Nat} (hj : j < n) {a : Nat} (ha : a ≤ H) : cnt u j a < tim j ↔ (a : Int) < C j := by
  obtain ⟨e, he, hC, hue, hl⟩ := h.last j hj
  constructor
  · intro hc
    by_cases hae : a ≤ e
    · omega
    · exfalso
      have h1 : cnt u j H = cnt u j a := cnt_still ha (fun s h1 h2 => hl s (by omega) h2)
      rw [h.full j hj] at h1
      omega
  · intro hlt
    exact h.open hj (show a ≤ e by omega) he hue
theorem Sched.end_le (h : Sched n tim rel u C H) {j : Nat} (hj : j < n) : 0 < C j ∧ C j ≤ H := by
  obtain ⟨e, he, hC, hue, hl⟩ := h.last j hj
  omega
theorem Sched.urgent (h : Sched n tim rel u C H) {due : Nat → Int} (hr : ∀ j, j < n → 0 ≤ rel j)
    (edf : ∀ a i, a < H → i < n → rel i ≤ a → cnt u i a < tim i → ∃ j, u a = some j ∧ due j ≤ due i) {j : Nat} (hj : j < n) :
    ∃ a : Nat, (a : Int) < C j ∧ a < H ∧ C j - a ≤ sumN n (fun i => if (a : Int) ≤ rel i ∧ due i ≤ due j then tim i else 0) := by
  obtain ⟨e, he, hC, hue, hl⟩ := h.last j hj
  have hex : ∀ d : Nat, d ≤ e → ∃ a : Nat, a ≤ e ∧ (∀ s, a ≤ s → s ≤ e → ∃ i, u s = some i ∧ due i ≤ due j) ∧ (a ≤ e - d ∨ (0 < a ∧ ¬ ∃ i, u (a - 1) = some i ∧ due i ≤ due j)) := by
    intro d
    induction d with
    | zero => exact fun _ => ⟨e, Nat.le_refl _, fun s h1 h2 => ⟨j, by rw [show s = e by omega]; exact hue, Int.le_refl _⟩, Or.inl (by omega)⟩
    | succ d ih =>
      intro hd
      obtain ⟨a, ha, hrun, hor⟩ := ih (by omega)
      rcases hor with hor | hor
      · by_cases ha0 : a ≤ e - (d + 1)
        · exact ⟨a, ha, hrun, Or.inl ha0⟩
        · by_cases hp : ∃ i, u (a - 1) = some i ∧ due i ≤ due j
          · refine ⟨a - 1, by omega, fun s h1 h2 => ?_, Or.inl (by omega)⟩
            by_cases hs : s = a - 1
            · rw [hs]; exact hp
            · exact hrun s (by omega) h2
          · exact ⟨a, ha, hrun, Or.inr ⟨by omega, hp⟩⟩
      · exact ⟨a, ha, hrun, Or.inr hor⟩
  obtain ⟨a, ha, hrun, hor⟩ := hex e (Nat.le_refl _)
  refine ⟨a, by omega, by omega, ?_⟩
  have hrel : ∀ s i, a ≤ s → s ≤ e → u s = some i → due i ≤ due j → (a : Int) ≤ rel i := by
    intro s i h1 h2 hu hd
    have hi := h.job s i (by omega) hu
    rcases hor with hor | ⟨hpos, hno⟩
    · have := hr i hi.1
      omega
    · by_cases hri : (a : Int) ≤ rel i
      · exact hri
      · exfalso
        obtain ⟨k, hk, hkd⟩ := edf (a - 1) i (by omega) hi.1 (by omega) (h.open hi.1 (show a - 1 ≤ s by omega) (by omega) hu)
        exact hno ⟨k, hk, Int.le_trans hkd hd⟩
  have hstep : ∀ m : Nat, a + m ≤ e + 1 → (m : Int) ≤ got n (fun i => (a : Int) ≤ rel i ∧ due i ≤ due j) u (a + m) := by
    intro m
    induction m with
    | zero => exact fun _ => got_nn _ _ _ _
    | succ m ih =>
      intro hm
      have h1 := ih (by omega)
      obtain ⟨i, hu, hd⟩ := hrun (a + m) (by omega) (by omega)
      have h2 := got_in (S := fun i => (a : Int) ≤ rel i ∧ due i ≤ due j) (h.job _ i (by omega) hu).1 hu ⟨hrel (a + m) i (by omega) (by omega) hu hd, hd⟩
      rw [show a + (m + 1) = a + m + 1 by omega, h2]
      omega
  have h1 := hstep (e + 1 - a) (by omega)
  have h2 : got n (fun i => (a : Int) ≤ rel i ∧ due i ≤ due j) u (a + (e + 1 - a)) ≤ sumN n (fun i => if (a : Int) ≤ rel i ∧ due i ≤ due j then tim i else 0) := by
    refine sumN_le (fun i hi => ?_)
    by_cases hS : (a : Int) ≤ rel i ∧ due i ≤ due j
    · simp only [if_pos hS]
      exact h.le hi _ (by omega)
    · simp only [if_neg hS]; exact Int.le_refl _
  omega
theorem Sched.within (h : Sched n tim rel u C H) {S : Nat → Prop} [DecidablePred S] {a b : Int} (ha : ∀ i, i < n → S i → a ≤ rel i) (hb : ∀ i, i < n → S i → C i ≤ b) (hab : a ≤ b) :
    sumN n (fun i => if S i then tim i else 0) ≤ b - a := by
  have hstep : ∀ m : Nat, m ≤ H → got n S u m ≤ max 0 (min (m : Int) b - a) := by
    intro m
    induction m with
    | zero =>
      intro _
      have : got n S u 0 = 0 := by
        unfold got
        rw [sumN_congr (g := fun _ => 0) (fun i _ => ?_), sumN_zero]
        by_cases hS : S i
        · rw [if_pos hS]; rfl
        · rw [if_neg hS]
      omega
    | succ m ih =>
      intro hm
      have h1 := ih (by omega)
      by_cases hin : ∃ i, i < n ∧ u m = some i ∧ S i
      · obtain ⟨i, hi, hu, hS⟩ := hin
        have h2 := got_in hi hu hS
        have h3 := ha i hi hS
        have h4 := hb i hi hS
        have h5 := (h.job m i (by omega) hu).2
        have h6 := h.before hi (by omega) hu
        rw [h2]
        omega
      · rw [got_out (fun i hi hu hS => hin ⟨i, hi, hu, hS⟩)]
        omega
  have h1 := hstep H (Nat.le_refl _)
  have h2 : got n S u H = sumN n (fun i => if S i then tim i else 0) := sumN_congr (fun i hi => by rw [h.full i hi])
  rw [h2] at h1
  omega
end
def outside (n : Nat) (S : Nat → Prop) [DecidablePred S] (f : Nat → Int) : Int := sumN n (fun i => if S i then 0 else f i)
def size (n : Nat) (S : Nat → Prop) [DecidablePred S] : Int := sumN n (fun i => one (S i))
def Below' (n : Nat) (x y : Nat → Int) : Prop := ∀ S : Nat → Bool, ∃ S' : Nat → Bool, size n (fun i => S' i = true) ≤ size n (fun i => S i = true) ∧ outside n (fun i => S' i = true) x ≤ outside n (fun i => S i = true) y
theorem Below'.refl (n : Nat) (x : Nat → Int) : Below' n x x := fun S => ⟨S, Int.le_refl _, Int.le_refl _⟩
theorem below_arrive {n : Nat} {x y : Nat → Int} (h : Below' n x y) {z : Nat} (hz : z < n) {p : Int} (hp : 0 ≤ p) (hx : x z = 0) (hy : y z = 0) : Below' n (fun i => if i = z then p else x i) (fun i => if i = z then p else y i) := by
  intro S
  cases hS : S z with
  | true =>
    obtain ⟨S', h1, h2⟩ := h (fun i => if i = z then false else S i)
    refine ⟨fun i => if i = z then true else S' i, ?_, ?_⟩
    · have e1 : size n (fun i => S i = true) = size n (fun i => (if i = z then false else S i) = true) + (one (S z = true) - one ((if z = z then false else S z) = true)) := sumN_at z hz (fun i _ hne => by simp only [if_neg hne])
      have e2 : size n (fun i => (if i = z then true else S' i) = true) = size n (fun i => S' i = true) + (one ((if z = z then true else S' z) = true) - one (S' z = true)) := sumN_at z hz (fun i _ hne => by simp only [if_neg hne])
      rw [one_pos hS, one_neg (by simp)] at e1
      have := one_nn (S' z = true)
      have := one_le ((if z = z then true else S' z) = true)
      dsimp only
      omega
    · have e1 : outside n (fun i => S i = true) (fun i => if i = z then p else y i) = outside n (fun i => (if i = z then false else S i) = true) y := by
        refine sumN_congr (fun i _ => ?_)
        by_cases hi : i = z
        · subst hi; simp [hS, hy]
        · simp [hi]
      have e2 : outside n (fun i => (if i = z then true else S' i) = true) (fun i => if i = z then p else x i) ≤ outside n (fun i => S' i = true) x := by
        refine sumN_le (fun i _ => ?_)
        by_cases hi : i = z
        · subst hi; simp [hx]
        · simp [hi]
      dsimp only
      omega
  | false =>
    obtain ⟨S', h1, h2⟩ := h S
    refine ⟨S', h1, ?_⟩
    have e1 : outside n (fun i => S i = true) (fun i => if i = z then p else y i) = outside n (fun i => S i = true) y + ((if S z = true then 0 else if z = z then p else y z) - (if S z = true then 0 else y z)) := sumN_at z hz (fun i _ hne => by simp only [if_neg hne])
    have e2 : outside n (fun i => S' i = true) (fun i => if i = z then p else x i) = outside n (fun i => S' i = true) x + ((if S' z = true then 0 else if z = z then p else x z) - (if S' z = true then 0 else x z)) := sumN_at z hz (fun i _ hne => by simp only [if_neg hne])
    rw [hS, hy] at e1
    rw [hx] at e2
    simp only [Bool.false_eq_true, if_false, if_true] at e1 e2
    have : (if S' z = true then 0 else p) ≤ p := by split <;> omega
    have : (if S' z = true then (0 : Int) else 0) = 0 := by split <;> rfl
    omega
theorem below_work {n : Nat} {x y x' y' : Nat → Int} (h : Below' n x y) (hx0 : ∀ i, i < n → 0 ≤ x i) (hy0 : ∀ i, i < n → 0 ≤ y i)
    (hx : (∀ i, i < n → x i = 0) ∧ (∀ i, i < n → x' i = x i) ∨ ∃ w, w < n ∧ 0 < x w ∧ (∀ i, i < n → 0 < x i → x w ≤ x i) ∧ ∀ i, i < n → x' i = if i = w then x i - 1 else x i)
    (hy : (∀ i, i < n → y' i = y i) ∨ ∃ v, v < n ∧ 0 < y v ∧ ∀ i, i < n → y' i = if i = v then y i - 1 else y i) : Below' n x' y' := by
  have hmono : ∀ S : Nat → Bool, outside n (fun i => S i = true) x' ≤ outside n (fun i => S i = true) x := by
    intro S
    refine sumN_le (fun i hi => ?_)
    rcases hx with ⟨_, hx⟩ | ⟨w, _, _, _, hx⟩
    · rw [hx i hi]; exact Int.le_refl _
    · rw [hx i hi]
      by_cases hS : S i = true
      · simp only [if_pos hS]; exact Int.le_refl _
      · simp only [if_neg hS]; split <;> omega
  intro S
  obtain ⟨S', h1, h2⟩ := h S
  have hkeep : outside n (fun i => S i = true) y' = outside n (fun i => S i = true) y → ∃ S' : Nat → Bool, size n (fun i => S' i = true) ≤ size n (fun i => S i = true) ∧ outside n (fun i => S' i = true) x' ≤ outside n (fun i => S i = true) y' := by
    intro he
    exact ⟨S', h1, by rw [he]; exact Int.le_trans (hmono S') h2⟩
  rcases hy with hy | ⟨v, hv, hyv, hy⟩
  · exact hkeep (sumN_congr (fun i hi => by rw [hy i hi]))
  · cases hSv : S v with
    | true =>
      refine hkeep (sumN_congr (fun i hi => ?_))
      rw [hy i hi]
      by_cases hiv : i = v
      · subst hiv; simp [hSv]
      · simp [hiv]
    | false =>
      have e1 : outside n (fun i => S i = true) y' = outside n (fun i => S i = true) y + ((if S v = true then 0 else y' v) - (if S v = true then 0 else y v)) := sumN_at v hv (fun i hi hne => by rw [hy i hi, if_neg hne])
      rw [hSv, hy v hv] at e1
      simp only [Bool.false_eq_true, if_false, if_true] at e1
      have hposy : 1 ≤ outside n (fun i => S i = true) y := by
        have := sumN_pos (f := fun i => if S i = true then 0 else y i) (n := n) (fun i hi => by
          by_cases hS : S i = true
          · simp only [if_pos hS]; exact Int.le_refl _
          · simp only [if_neg hS]; exact hy0 i hi) v hv
        simp only [hSv, Bool.false_eq_true, if_false] at this
        unfold outside
        dsimp only
        omega
      rcases hx with ⟨hz, hx⟩ | ⟨w, hw, hxw, hmin, hx⟩
      · refine ⟨S', h1, ?_⟩
        have : outside n (fun i => S' i = true) x' = 0 := by
          unfold outside
          rw [sumN_congr (g := fun _ => 0) (fun i hi => by rw [hx i hi, hz i hi]; split <;> rfl), sumN_zero]
        omega
      · cases hSw : S' w with
        | false =>
          refine ⟨S', h1, ?_⟩
          have e2 : outside n (fun i => S' i = true) x' = outside n (fun i => S' i = true) x + ((if S' w = true then 0 else x' w) - (if S' w = true then 0 else x w)) := sumN_at w hw (fun i hi hne => by rw [hx i hi, if_neg hne])
          rw [hSw, hx w hw] at e2
          simp only [Bool.false_eq_true, if_false, if_true] at e2
          omega
        | true =>
          by_cases hq : ∃ q, q < n ∧ S' q = false ∧ 0 < x q
          · obtain ⟨q, hqn, hSq, hxq⟩ := hq
            have hqw : q ≠ w := fun he => by rw [he, hSw] at hSq; cases hSq
            refine ⟨fun i => if i = w then false else if i = q then true else S' i, ?_, ?_⟩
            · have a1 : size n (fun i => (if i = w then false else if i = q then true else S' i) = true) = size n (fun i => (if i = q then true else S' i) = true) + (one ((if w = w then false else if w = q then true else S' w) = true) - one ((if w = q then true else S' w) = true)) := sumN_at w hw (fun i _ hne => by simp only [if_neg hne])
              have a2 : size n (fun i => (if i = q then true else S' i) = true) = size n (fun i => S' i = true) + (one ((if q = q then true else S' q) = true) - one (S' q = true)) := sumN_at q hqn (fun i _ hne => by simp only [if_neg hne])
              rw [one_neg (by simp), one_pos (by simp [hSw])] at a1
              rw [one_pos (by simp), one_neg (by simp [hSq])] at a2
              dsimp only
              omega
            · have a1 : outside n (fun i => (if i = w then false else if i = q then true else S' i) = true) x' = outside n (fun i => (if i = q then true else S' i) = true) x' + ((if (if w = w then false else if w = q then true else S' w) = true then 0 else x' w) - (if (if w = q then true else S' w) = true then 0 else x' w)) := sumN_at w hw (fun i _ hne => by simp only [if_neg hne])
              have a2 : outside n (fun i => (if i = q then true else S' i) = true) x' = outside n (fun i => S' i = true) x' + ((if (if q = q then true else S' q) = true then 0 else x' q) - (if S' q = true then 0 else x' q)) := sumN_at q hqn (fun i _ hne => by simp only [if_neg hne])
              have a3 : outside n (fun i => S' i = true) x' = outside n (fun i => S' i = true) x := sumN_congr (fun i hi => by
                rw [hx i hi]
                by_cases hiw : i = w
                · subst hiw; simp [hSw]
                · simp [hiw])
              have hwq : w ≠ q := fun he => hqw he.symm
              simp only [if_true, Bool.false_eq_true, if_false, if_neg hwq, hSw, hSq] at a1 a2
              have b1 := hx w hw
              have b2 := hx q hqn
              rw [if_pos rfl] at b1
              rw [if_neg hqw] at b2
              have b3 := hmin q hqn hxq
              dsimp only
              omega
          · refine ⟨S', h1, ?_⟩
            have : outside n (fun i => S' i = true) x' ≤ outside n (fun i => S' i = true) x := hmono S'
            have h0 : outside n (fun i => S' i = true) x ≤ 0 := by
              unfold outside
              rw [sumN_congr (g := fun _ => 0) (fun i hi => ?_), sumN_zero]
              · exact Int.le_refl _
              · show (if S' i = true then (0 : Int) else x i) = 0
                cases hSi : S' i with
                | true => simp
                | false =>
                  simp only [Bool.false_eq_true, if_false]
                  have := hx0 i hi
                  by_cases hp : 0 < x i
                  · exact absurd ⟨i, hi, hSi, hp⟩ hq
                  · omega
            omega
theorem below_count {n : Nat} {x y : Nat → Int} (h : Below' n x y) (hx0 : ∀ i, i < n → 0 ≤ x i) (hy0 : ∀ i, i < n → 0 ≤ y i) : size n (fun i => 0 < x i) ≤ size n (fun i => 0 < y i) := by
  obtain ⟨S', h1, h2⟩ := h (fun i => decide (0 < y i))
  have e1 : size n (fun i => decide (0 < y i) = true) = size n (fun i => 0 < y i) := sumN_congr (fun i _ => by
    by_cases hp : 0 < y i
    · rw [one_pos hp, one_pos (by simp [hp])]
    · rw [one_neg hp, one_neg (by simp [hp])])
  have e2 : outside n (fun i => decide (0 < y i) = true) y = 0 := by
    unfold outside
    rw [sumN_congr (g := fun _ => 0) (fun i hi => ?_), sumN_zero]
    by_cases hp : 0 < y i
    · rw [if_pos (by simp [hp])]
    · have := hy0 i hi
      rw [if_neg (by simp [hp])]
      omega
  have h3 : ∀ i, i < n → (if S' i = true then 0 else x i) = 0 := sumN_eq_zero (fun i hi => by
    by_cases hS : S' i = true
    · rw [if_pos hS]; exact Int.le_refl _
    · rw [if_neg hS]; exact hx0 i hi) (by unfold outside at h2 e2; dsimp only at h2 e2; omega)
  have h4 : size n (fun i => 0 < x i) ≤ size n (fun i => S' i = true) := sumN_le (fun i hi => by
    by_cases hS : S' i = true
    · rw [one_pos hS]; exact one_le _
    · have := h3 i hi
      rw [if_neg hS] at this
      rw [one_neg (show ¬ 0 < x i by omega), one_neg hS]
      exact Int.le_refl _)
  omega
end Go.Proofs.Ytaboleeclpllpaa.T


namespace Go.Proofs.Ytaboleeclpllpaa.M
open Go.RowKit Go.Proofs.YtaboleeclpllpaaW.PrintWords Go.Proofs.YtaboleeclpllpaaW.PrintLast Go.Proofs.YtaboleeclpllpaaW.PrintMore Go.Proofs.Ytaboleeclpllpaa.P Go.Proofs.Ytaboleeclpllpaa.T
set_option linter.unusedVariables false
set_option linter.unusedSimpArgs false
def stt (short : Bool) (l : List S48) (a : Nat) : St := runF short l a 0 (times l, [])
def unitOf (short : Bool) (l : List S48) (a : Nat) : Option Nat := pick short l (stt short l a).1 a
theorem stt_succ (short : Bool) (l : List S48) (a : Nat) : stt short l (a + 1) = stepF short l a (stt short l a) := by
  rw [stt, runF_succ, Int.zero_add]
  rfl
theorem stt_len (short : Bool) (l : List S48) (a : Nat) : (stt short l a).1.length = l.length := by
  rw [stt, runF_len]
  simp [times]
def timf (l : List S48) (j : Nat) : Int := (jb l j).f0
def relf (l : List S48) (j : Nat) : Int := (jb l j).f1
def duef (l : List S48) (j : Nat) : Int := (jb l j).f2
theorem stt_tm (short : Bool) (l : List S48) (j : Nat) : ∀ a : Nat, tm (stt short l a).1 j = timf l j - cnt (unitOf short l) j a := by
  intro a
  induction a with
  | zero =>
    show tm (times l) j = timf l j - 0
    unfold timf tm times jb
    rw [List.getD_eq_getElem?_getD, List.getD_eq_getElem?_getD, List.getElem?_map]
    cases l[j]? with
    | none => rfl
    | some x => simp
  | succ a ih =>
    rw [stt_succ, cnt_succ]
    have hu : unitOf short l a = pick short l (stt short l a).1 a := rfl
    unfold stepF
    split
    · rename_i hp
      rw [ih, hu, hp, one_neg (by simp)]
      omega
    · rename_i i hp
      have hi := (pickN_lt hp).1
      show tm ((stt short l a).1.set i (tm (stt short l a).1 i - 1)) j = _
      rw [tm_set _ _ _ _ (by rw [stt_len]; exact hi), hu, hp]
      by_cases hji : j = i
      · subst hji
        rw [if_pos rfl, one_pos rfl, ih]
        omega
      · rw [if_neg hji, one_neg (fun he => hji (Option.some.inj he).symm), ih]
        omega
theorem endsFrom_append (acc : List Int) (p q : List Pc) : endsFrom acc (p ++ q) = endsFrom (endsFrom acc p) q := by
  unfold endsFrom
  rw [List.foldl_append]
theorem getLast_split {α : Type} {p : List α} {x : α} (h : p.getLast? = some x) : ∃ q, p = q ++ [x] := by
  have hne : p ≠ [] := by intro he; rw [he] at h; cases h
  refine ⟨p.dropLast, ?_⟩
  have := List.dropLast_concat_getLast hne
  rw [List.getLast?_eq_some_getLast hne] at h
  rw [Option.some.inj h] at this
  exact this.symm
theorem addPc_cases (out : List Pc) (j a : Int) : (∃ q x, out = q ++ [x] ∧ x.f0 = j ∧ x.f2 = a ∧ addPc out j a = q ++ [⟨j, x.f1, a + 1⟩]) ∨ addPc out j a = out ++ [⟨j, a, a + 1⟩] := by
  unfold addPc
  cases h : out.getLast? with
  | none =>
    right
    rw [List.getLast?_eq_none_iff.1 h]
    rfl
  | some p =>
    by_cases hc : p.f0 = j ∧ p.f2 = a
    · obtain ⟨q, hq⟩ := getLast_split h
      left
      refine ⟨q, p, hq, hc.1, hc.2, ?_⟩
      simp only [if_pos hc]
      subst hq
      rw [hc.1, hc.2]
      simp
    · right
      simp only [if_neg hc]
theorem endsFrom_addPc (acc : List Int) (out : List Pc) (j : Nat) (a : Int) : endsFrom acc (addPc out (j : Int) a) = (endsFrom acc out).set j (a + 1) := by
  rcases addPc_cases out j a with ⟨q, x, ho, h0, h2, hr⟩ | hr
  · rw [hr, ho, endsFrom_append, endsFrom_append]
    show (endsFrom acc q).set ((j : Int)).toNat (a + 1) = ((endsFrom acc q).set x.f0.toNat x.f2).set j (a + 1)
    rw [h0]
    simp
  · rw [hr, endsFrom_append]
    show (endsFrom acc out).set ((j : Int)).toNat (a + 1) = _
    simp
theorem ends_last (short : Bool) (l : List S48) (j : Nat) (hj : j < l.length) : ∀ a : Nat, (tm (endsOf l.length (stt short l a).2) j = 0 ∧ ∀ s, s < a → unitOf short l s ≠ some j) ∨
    ∃ e : Nat, e < a ∧ tm (endsOf l.length (stt short l a).2) j = (e : Int) + 1 ∧ unitOf short l e = some j ∧ ∀ s, e < s → s < a → unitOf short l s ≠ some j := by
  intro a
  induction a with
  | zero =>
    left
    refine ⟨?_, fun s hs => by omega⟩
    show tm (List.replicate l.length 0) j = 0
    simp [tm, List.getD_eq_getElem?_getD, List.getElem?_replicate, hj]
  | succ a ih =>
    rw [stt_succ]
    have hu : unitOf short l a = pick short l (stt short l a).1 a := rfl
    unfold stepF
    split
    · rename_i hp
      rw [hp] at hu
      rcases ih with ⟨h0, hn⟩ | ⟨e, he, hE, hue, hl⟩
      · exact Or.inl ⟨h0, fun s hs => by
          by_cases hsa : s = a
          · rw [hsa, hu]; simp
          · exact hn s (by omega)⟩
      · exact Or.inr ⟨e, by omega, hE, hue, fun s h1 h2 => by
          by_cases hsa : s = a
          · rw [hsa, hu]; simp
          · exact hl s h1 (by omega)⟩
    · rename_i i hp
      rw [hp] at hu
      have hi := (pickN_lt hp).1
      have hset : tm (endsOf l.length (addPc (stt short l a).2 (i : Int) (a : Int))) j = if j = i then (a : Int) + 1 else tm (endsOf l.length (stt short l a).2) j := by
        unfold endsOf
        rw [endsFrom_addPc, tm_set _ _ _ _ (by rw [endsFrom_length, List.length_replicate]; exact hi)]
      by_cases hji : j = i
      · right
        refine ⟨a, by omega, ?_, by rw [hu, hji], fun s h1 h2 => by omega⟩
        show tm (endsOf l.length (addPc (stt short l a).2 (i : Int) (a : Int))) j = _
        rw [hset, if_pos hji]
      · have hne : unitOf short l a ≠ some j := by rw [hu]; intro he; exact hji (Option.some.inj he).symm
        have hset2 : tm (endsOf l.length (addPc (stt short l a).2 (i : Int) (a : Int))) j = tm (endsOf l.length (stt short l a).2) j := by rw [hset, if_neg hji]
        rcases ih with ⟨h0, hn⟩ | ⟨e, he, hE, hue, hl⟩
        · refine Or.inl ⟨by rw [← h0]; exact hset2, fun s hs => ?_⟩
          by_cases hsa : s = a
          · rw [hsa]; exact hne
          · exact hn s (by omega)
        · refine Or.inr ⟨e, by omega, by rw [← hE]; exact hset2, hue, fun s h1 h2 => ?_⟩
          by_cases hsa : s = a
          · rw [hsa]; exact hne
          · exact hl s h1 (by omega)
theorem stt_fine {l : List S48} (hv : valid48 l = true) (short : Bool) (a : Nat) : fine (stt short l a).1 :=
  run_fine a 0 _ (by simp [times]) (times_fine hv)
theorem stt_idle {l : List S48} (hv : valid48 l = true) (short : Bool) {a : Nat} (ha : 300 ≤ a) : stt short l a = stt short l 300 ∧ ∀ i, tm (stt short l a).1 i = 0 := by
  have hz := total_zero (stt_fine hv short 300) (plan_done short hv)
  have : stt short l a = stt short l 300 := by
    have h := runF_add short l 300 (a - 300) 0 (times l, [])
    rw [show 300 + (a - 300) = a by omega] at h
    have hz' : ∀ i, tm (runF short l 300 0 (times l, [])).1 i = 0 := hz
    unfold stt
    rw [h]
    generalize runF short l 300 0 (times l, []) = s at hz' ⊢
    obtain ⟨t, out⟩ := s
    exact runF_idle hz'
  exact ⟨this, by rw [this]; exact hz⟩
theorem unit_ready {short : Bool} {l : List S48} {a j : Nat} (h : unitOf short l a = some j) : j < l.length ∧ relf l j ≤ a ∧ 0 < tm (stt short l a).1 j := by
  have := pickN_lt h
  exact ⟨this.1, this.2.1, this.2.2⟩
def endf (l : List S48) (p : List Pc) (j : Nat) : Int := tm (endsOf l.length p) j
theorem plan_full {l : List S48} (hv : valid48 l = true) (short : Bool) (j : Nat) {H : Nat} (hH : 300 ≤ H) : cnt (unitOf short l) j H = timf l j := by
  have h1 := stt_tm short l j H
  have h2 := (stt_idle hv short hH).2 j
  omega
theorem plan_sched {l : List S48} (hv : valid48 l = true) (short : Bool) {H : Nat} (hH : 300 ≤ H) : Sched l.length (timf l) (relf l) (unitOf short l) (endf l (planOf short l)) H where
  job := fun a j _ h => ⟨(unit_ready h).1, (unit_ready h).2.1⟩
  full := fun j _ => plan_full hv short j hH
  last := fun j hj => by
    have hC : (stt short l H).2 = planOf short l := by rw [(stt_idle hv short hH).1]; rfl
    rcases ends_last short l j hj H with ⟨_, hn⟩ | ⟨e, he, hE, hue, hl⟩
    · exfalso
      have h1 := plan_full hv short j hH
      have h2 := (valid_jb hv hj).1
      have h3 : cnt (unitOf short l) j H = cnt (unitOf short l) j 0 := cnt_still (by omega) (fun s _ hs => hn s hs)
      rw [h1] at h3
      have : cnt (unitOf short l) j 0 = 0 := rfl
      unfold timf at h3
      omega
    · rw [hC] at hE
      exact ⟨e, he, hE, hue, hl⟩
theorem pickN_least {l : List S48} {t : List Int} {a : Int} {short : Bool} : ∀ {n i : Nat}, i < n → ready l t a i → ∃ j, pickN short l t a n = some j ∧ (if short = true then tm t j ≤ tm t i else (jb l j).f2 ≤ (jb l i).f2) := by
  intro n
  induction n with
  | zero => intro i hi; omega
  | succ n ih =>
    intro i hi hr
    rw [pickN]
    by_cases hrn : ready l t a n
    · rw [if_pos hrn]
      cases hp : pickN short l t a n with
      | none =>
        by_cases hin : i = n
        · subst hin
          exact ⟨i, rfl, by cases short <;> simp⟩
        · exact absurd hr (pickN_none.1 hp i (by omega))
      | some j =>
        by_cases ha : ahead short l t n j = true
        · refine ⟨n, by simp [ha], ?_⟩
          by_cases hin : i = n
          · subst hin
            cases short <;> simp
          · obtain ⟨j', hj', hle⟩ := ih (by omega) hr
            rw [hp] at hj'
            cases hj'
            cases short with
            | true =>
              simp only [ahead, if_true, decide_eq_true_eq] at ha hle ⊢
              omega
            | false =>
              simp only [ahead, Bool.false_eq_true, if_false, decide_eq_true_eq] at ha hle ⊢
              omega
        · refine ⟨j, by simp [ha], ?_⟩
          by_cases hin : i = n
          · subst hin
            cases short with
            | true =>
              simp only [ahead, if_true, decide_eq_true_eq] at ha ⊢
              omega
            | false =>
              simp only [ahead, Bool.false_eq_true, if_false, decide_eq_true_eq] at ha ⊢
              omega
          · obtain ⟨j', hj', hle⟩ := ih (by omega) hr
            rw [hp] at hj'
            cases hj'
            exact hle
    · rw [if_neg hrn]
      by_cases hin : i = n
      · subst hin; exact absurd hr hrn
      · exact ih (by omega) hr
theorem plan_edf (l : List S48) : ∀ a i : Nat, i < l.length → relf l i ≤ a → cnt (unitOf false l) i a < timf l i → ∃ j, unitOf false l a = some j ∧ duef l j ≤ duef l i := by
  intro a i hi hr hc
  have h := stt_tm false l i a
  obtain ⟨j, hj, hle⟩ := pickN_least (short := false) (l := l) (t := (stt false l a).1) (a := a) hi ⟨hr, by omega⟩
  exact ⟨j, hj, by simp only [Bool.false_eq_true, if_false] at hle; exact hle⟩
theorem plan_urgent {l : List S48} (hv : valid48 l = true) {j : Nat} (hj : j < l.length) :
    ∃ a : Nat, (a : Int) < endf l (planOf false l) j ∧ a < 300 ∧ endf l (planOf false l) j - a ≤ sumN l.length (fun i => if (a : Int) ≤ relf l i ∧ duef l i ≤ duef l j then timf l i else 0) :=
  (plan_sched hv false (Nat.le_refl 300)).urgent (fun i hi => (valid_jb hv hi).2.2.1) (fun a i _ hi hr hc => plan_edf l a i hi hr hc) hj
theorem delay_le {l : List S48} {d : Int} (hd : -1073741824 ≤ d) : delayOf l ≤ d ↔ ∀ i, i < l.length → endf l (planOf false l) i - duef l i ≤ d := worstOf_le hd
theorem plan_ends_bound {l : List S48} (short : Bool) : ∀ x ∈ endsOf l.length (planOf short l), 0 ≤ x ∧ x ≤ 1000000 := fun x hx => by
  have := endsOf_bound (by omega) (plan_pcs short l) x hx
  omega
theorem delay_at {l : List S48} (hv : valid48 l = true) : ∃ j, j < l.length ∧ delayOf l = endf l (planOf false l) j - duef l j := worstOf_at hv (plan_ends_bound false)
theorem plan_best {l : List S48} (hv : valid48 l = true) {u : Nat → Option Nat} {C : Nat → Int} {H : Nat} (h : Sched l.length (timf l) (relf l) u C H) {d : Int} (hC : ∀ i, i < l.length → C i - duef l i ≤ d) : delayOf l ≤ d := by
  obtain ⟨j, hj, hd⟩ := delay_at hv
  obtain ⟨a, ha, _, hsum⟩ := plan_urgent hv hj
  rw [hd]
  by_cases hle : endf l (planOf false l) j - duef l j ≤ d
  · exact hle
  · exfalso
    have hb := h.within (S := fun i => (a : Int) ≤ relf l i ∧ duef l i ≤ duef l j) (a := a) (b := max (a : Int) (duef l j + d)) (fun i _ hS => hS.1) (fun i hi hS => by
      have := hC i hi
      have := hS.2
      omega) (by omega)
    omega
end Go.Proofs.Ytaboleeclpllpaa.M


namespace Go.Proofs.Ytaboleeclpllpaa.M
open Go.RowKit Go.Proofs.YtaboleeclpllpaaW.PrintWords Go.Proofs.YtaboleeclpllpaaW.PrintLast Go.Proofs.YtaboleeclpllpaaW.PrintMore Go.Proofs.Ytaboleeclpllpaa.P Go.Proofs.Ytaboleeclpllpaa.T
set_option linter.unusedVariables false
set_option linter.unusedSimpArgs false
def insRev (lt : Int → Int → Bool) : List Int → Int → List Int
  | [], v => [v]
  | y :: l, v => if lt v y = true then y :: insRev lt l v else v :: y :: l
theorem rd_append (p q : List Int) (v : Int) : rd (p ++ v :: q) (p.length : Int) = v := by
  rw [rd_nat _ _ (by rw [List.length_append, List.length_cons]; omega)]
  simp
theorem rd_mid (p q : List Int) (y v : Int) : rd (p ++ y :: v :: q) ((p.length + 1 : Nat) : Int) = v := by
  have := rd_append (p ++ [y]) q v
  simpa using this
theorem set_mid (p q : List Int) (y v : Int) : ((p ++ y :: v :: q).set (p.length + 1) y).set p.length v = p ++ v :: y :: q := by
  simp [List.set_append]
theorem ins_rev (lt : Int → Int → Bool) : ∀ (l : List Int) (v : Int) (post : List Int), dates_jobs_byDue.srt.ins lt l.length (l.reverse ++ v :: post) = (insRev lt l v).reverse ++ post
  | [], v, post => rfl
  | y :: l, v, post => by
    have e : (y :: l).reverse ++ v :: post = l.reverse ++ y :: v :: post := by simp
    have h1 : rd (l.reverse ++ y :: v :: post) ((l.length + 1 : Nat) : Int) = v := by
      have := rd_mid l.reverse post y v
      rwa [List.length_reverse] at this
    have h0 : rd (l.reverse ++ y :: v :: post) (l.length : Int) = y := by
      have := rd_append l.reverse (v :: post) y
      rwa [List.length_reverse] at this
    have hs : ((l.reverse ++ y :: v :: post).set (l.length + 1) y).set l.length v = l.reverse ++ v :: y :: post := by
      have := set_mid l.reverse post y v
      rwa [List.length_reverse] at this
    rw [e, List.length_cons, dates_jobs_byDue.srt.ins, h1, h0, hs, insRev]
    by_cases c : lt v y = true
    · rw [if_pos c, if_pos c, ins_rev lt l v (y :: post)]
      simp
    · rw [if_neg c, if_neg c]
      simp
theorem from_rev (lt : Int → Int → Bool) : ∀ (rest l : List Int), dates_jobs_byDue.srt.from lt rest.length l.length (l.reverse ++ rest) = (rest.foldl (insRev lt) l).reverse
  | [], l => by simp [dates_jobs_byDue.srt.from]
  | v :: rest, l => by
    have hlen : ∀ (l : List Int) (v : Int), (insRev lt l v).length = l.length + 1 := by
      intro l
      induction l with
      | nil => intro v; rfl
      | cons y l ih =>
        intro v
        rw [insRev]
        split
        · rw [List.length_cons, ih, List.length_cons]
        · rfl
    rw [List.length_cons, dates_jobs_byDue.srt.from, ins_rev lt l v rest, List.foldl_cons, ← from_rev lt rest (insRev lt l v), hlen]
theorem sort_rev (lt : Int → Int → Bool) (xs : List Int) : dates_jobs_byDue.srt.sort lt xs = (xs.foldl (insRev lt) []).reverse := by
  unfold dates_jobs_byDue.srt.sort
  cases xs with
  | nil => rfl
  | cons x xs =>
    have := from_rev lt xs [x]
    rw [List.foldl_cons]
    show _ = (xs.foldl (insRev lt) [x]).reverse
    rw [← this]
    simp
def lsum (g : Int → Int) : List Int → Int
  | [] => 0
  | x :: xs => g x + lsum g xs
theorem lsum_append (g : Int → Int) : ∀ p q : List Int, lsum g (p ++ q) = lsum g p + lsum g q
  | [], q => by simp [lsum]
  | x :: p, q => by rw [List.cons_append, lsum, lsum, lsum_append g p q]; omega
theorem lsum_reverse (g : Int → Int) : ∀ p : List Int, lsum g p.reverse = lsum g p
  | [] => rfl
  | x :: p => by rw [List.reverse_cons, lsum_append, lsum_reverse g p, lsum, lsum, lsum]; omega
theorem lsum_insRev (g : Int → Int) (lt : Int → Int → Bool) : ∀ (l : List Int) (v : Int), lsum g (insRev lt l v) = lsum g l + g v
  | [], v => by simp [insRev, lsum]
  | y :: l, v => by
    rw [insRev]
    split
    · rw [lsum, lsum_insRev g lt l v, lsum]; omega
    · rw [lsum, lsum]; omega
theorem lsum_fold (g : Int → Int) (lt : Int → Int → Bool) : ∀ (xs l : List Int), lsum g (xs.foldl (insRev lt) l) = lsum g l + lsum g xs
  | [], l => by simp [lsum]
  | x :: xs, l => by rw [List.foldl_cons, lsum_fold g lt xs, lsum_insRev, lsum]; omega
theorem lsum_range (g : Int → Int) : ∀ n : Nat, lsum g ((List.range n).map fun i : Nat => (i : Int)) = sumN n (fun i => g (i : Int))
  | 0 => rfl
  | n + 1 => by
    rw [List.range_succ, List.map_append, lsum_append, lsum_range g n]
    simp only [sumN]
    show _ + (g n + 0) = _
    omega
def lex (l : List S48) (i j : Int) : Prop := duef l i.toNat < duef l j.toNat ∨ duef l i.toNat = duef l j.toNat ∧ i < j
instance (l : List S48) (i j : Int) : Decidable (lex l i j) := by unfold lex; infer_instance
theorem lex_trans {l : List S48} {a b c : Int} (h1 : lex l a b) (h2 : lex l b c) : lex l a c := by unfold lex at *; omega
theorem lex_irrefl {l : List S48} (a : Int) : ¬ lex l a a := by unfold lex; omega
theorem mem_insRev {lt : Int → Int → Bool} {x : Int} : ∀ {l : List Int} {v : Int}, x ∈ insRev lt l v ↔ x = v ∨ x ∈ l
  | [], v => by simp [insRev]
  | y :: l, v => by
    rw [insRev]
    split
    · rw [List.mem_cons, mem_insRev, List.mem_cons]
      constructor
      · rintro (h | h | h)
        · exact Or.inr (Or.inl h)
        · exact Or.inl h
        · exact Or.inr (Or.inr h)
      · rintro (h | h | h)
        · exact Or.inr (Or.inl h)
        · exact Or.inl h
        · exact Or.inr (Or.inr h)
    · rw [List.mem_cons]
def ltD (l : List S48) (x y : Int) : Bool := decide (duef l x.toNat < duef l y.toNat)
theorem srt_lt (l : List S48) : dates_jobs_byDue.srt.lt l = ltD l := by
  funext x y
  rfl
theorem desc_insRev {l : List S48} : ∀ {r : List Int} {v : Int}, r.Pairwise (fun a b => lex l b a) → (∀ x ∈ r, x < v) → (insRev (ltD l) r v).Pairwise (fun a b => lex l b a)
  | [], v, _, _ => by simp [insRev]
  | y :: r, v, hp, hlt => by
    rw [List.pairwise_cons] at hp
    have hy := hlt y (by simp)
    rw [insRev]
    by_cases c : ltD l v y = true
    · rw [if_pos c, List.pairwise_cons]
      have c' : duef l v.toNat < duef l y.toNat := by simpa [ltD] using c
      refine ⟨fun z hz => ?_, desc_insRev hp.2 (fun x hx => hlt x (by simp [hx]))⟩
      rcases mem_insRev.1 hz with rfl | hz
      · exact Or.inl c'
      · exact hp.1 z hz
    · rw [if_neg c, List.pairwise_cons, List.pairwise_cons]
      have c' : ¬ duef l v.toNat < duef l y.toNat := by simpa [ltD] using c
      have hyv : lex l y v := by unfold lex; omega
      refine ⟨fun z hz => ?_, hp.1, hp.2⟩
      rcases List.mem_cons.1 hz with rfl | hz
      · exact hyv
      · exact lex_trans (hp.1 z hz) hyv
theorem desc_fold {l : List S48} : ∀ (n : Nat), (((List.range n).map fun i : Nat => (i : Int)).foldl (insRev (ltD l)) []).Pairwise (fun a b => lex l b a) ∧ ∀ x ∈ ((List.range n).map fun i : Nat => (i : Int)).foldl (insRev (ltD l)) [], 0 ≤ x ∧ x < (n : Int)
  | 0 => by simp
  | n + 1 => by
    obtain ⟨h1, h2⟩ := desc_fold (l := l) n
    rw [List.range_succ, List.map_append, List.foldl_append]
    refine ⟨desc_insRev h1 (fun x hx => (h2 x hx).2), fun x hx => ?_⟩
    rcases mem_insRev.1 hx with rfl | hx
    · show 0 ≤ (n : Int) ∧ (n : Int) < ((n + 1 : Nat) : Int)
      omega
    · have := h2 x hx
      omega
def dueOrder (l : List S48) : List Int := (((List.range l.length).map fun i : Nat => (i : Int)).foldl (insRev (ltD l)) []).reverse
theorem byDue_f (l : List S48) (h1 : 1 ≤ l.length) (h8 : l.length < 20) : dates_jobs_byDue.f l = some (dueOrder l) := by
  unfold dates_jobs_byDue.f
  rw [if_pos ⟨h1, h8⟩, srt_lt, sort_rev]
  rfl
theorem dueOrder_asc (l : List S48) : (dueOrder l).Pairwise (lex l) := by
  unfold dueOrder
  rw [List.pairwise_reverse]
  exact (desc_fold l.length).1
theorem dueOrder_in (l : List S48) : ∀ x ∈ dueOrder l, 0 ≤ x ∧ x < (l.length : Int) := fun x hx => (desc_fold (l := l) l.length).2 x (by unfold dueOrder at hx; simpa using hx)
theorem dueOrder_sum (l : List S48) (g : Int → Int) : lsum g (dueOrder l) = sumN l.length (fun i => g (i : Int)) := by
  unfold dueOrder
  rw [lsum_reverse, lsum_fold, lsum_range]
  simp [lsum]
theorem lsum_zero {g : Int → Int} : ∀ {xs : List Int}, (∀ x ∈ xs, g x = 0) → lsum g xs = 0
  | [], _ => rfl
  | x :: xs, h => by rw [lsum, h x (by simp), lsum_zero (fun y hy => h y (by simp [hy]))]; rfl
theorem lsum_congr {f g : Int → Int} : ∀ {xs : List Int}, (∀ x ∈ xs, f x = g x) → lsum f xs = lsum g xs
  | [], _ => rfl
  | x :: xs, h => by rw [lsum, lsum, h x (by simp), lsum_congr (fun y hy => h y (by simp [hy]))]
theorem dueOrder_mem (l : List S48) {j : Nat} (hj : j < l.length) : (j : Int) ∈ dueOrder l := by
  by_cases h : (j : Int) ∈ dueOrder l
  · exact h
  · exfalso
    have h1 := dueOrder_sum l (fun i => if i = (j : Int) then 1 else 0)
    rw [lsum_zero (fun x hx => if_neg (fun e => h (by rw [← e]; exact hx)))] at h1
    have h2 := sumN_at (f := fun i : Nat => if (i : Int) = (j : Int) then (1 : Int) else 0) (g := fun _ => 0) j hj (fun i _ hne => if_neg (by omega))
    rw [sumN_zero] at h2
    simp at h2
    omega
end Go.Proofs.Ytaboleeclpllpaa.M


namespace Go.Proofs.Ytaboleeclpllpaa.M
open Go.RowKit Go.Proofs.YtaboleeclpllpaaW.PrintWords Go.Proofs.YtaboleeclpllpaaW.PrintLast Go.Proofs.YtaboleeclpllpaaW.PrintMore Go.Proofs.Ytaboleeclpllpaa.P Go.Proofs.Ytaboleeclpllpaa.T
set_option linter.unusedVariables false
set_option linter.unusedSimpArgs false
theorem bit0 : ∀ s : Fin 256, ∀ i : Fin 8, Go.bits .and .i64 (shr .i64 ((s : Nat) : Int) ((i : Nat) : Int)) 1 = if (s : Nat).testBit i = true then 1 else 0 := by decide +kernel
theorem bit_test {s i : Nat} (hs : s < 256) (hi : i < 8) : Go.bits .and .i64 (shr .i64 (s : Int) (i : Int)) 1 = if s.testBit i = true then 1 else 0 := bit0 ⟨s, hs⟩ ⟨i, hi⟩
def upTo (l : List S48) (s : Nat) (j : Int) : Int := sumN l.length (fun i => if s.testBit i = true ∧ (lex l (i : Int) j ∨ (i : Int) = j) then timf l i else 0)
def onTime (l : List S48) (s : Nat) : Prop := ∀ j : Nat, j < l.length → s.testBit j = true → upTo l s (j : Int) ≤ duef l j
instance (l : List S48) (s : Nat) : Decidable (onTime l s) := by unfold onTime; exact Nat.decidableBallLT _ _
def inSet (l : List S48) (s : Nat) (i : Int) : Int := if s.testBit i.toNat = true then timf l i.toNat else 0
def fitL (l : List S48) (s : Nat) : Int → List Int → Bool
  | _, [] => true
  | a, x :: xs => if s.testBit x.toNat = true then (if a + timf l x.toNat > duef l x.toNat then false else fitL l s (a + timf l x.toNat) xs) else fitL l s a xs
theorem fitL_iff (l : List S48) (s : Nat) : ∀ (xs : List Int) (a : Int), fitL l s a xs = true ↔ ∀ p x q, xs = p ++ x :: q → s.testBit x.toNat = true → a + lsum (inSet l s) p + timf l x.toNat ≤ duef l x.toNat
  | [], a => by
    simp only [fitL, true_iff]
    intro p x q h
    have := congrArg List.length h
    simp at this
  | y :: ys, a => by
    rw [fitL]
    by_cases hb : s.testBit y.toNat = true
    · rw [if_pos hb]
      by_cases hc : a + timf l y.toNat > duef l y.toNat
      · rw [if_pos hc]
        constructor
        · intro h; cases h
        · intro h
          have := h [] y ys rfl hb
          simp only [lsum] at this
          omega
      · rw [if_neg hc, fitL_iff l s ys]
        constructor
        · intro h p x q he hx
          cases p with
          | nil =>
            simp only [List.nil_append, List.cons.injEq] at he
            rw [← he.1]
            simp only [lsum]
            omega
          | cons z p =>
            simp only [List.cons_append, List.cons.injEq] at he
            have := h p x q he.2 hx
            rw [lsum, ← he.1]
            have e : inSet l s y = timf l y.toNat := if_pos hb
            omega
        · intro h p x q he hx
          have := h (y :: p) x q (by rw [he]; rfl) hx
          rw [lsum] at this
          have e : inSet l s y = timf l y.toNat := if_pos hb
          omega
    · rw [if_neg hb, fitL_iff l s ys]
      have e : inSet l s y = 0 := if_neg hb
      constructor
      · intro h p x q he hx
        cases p with
        | nil =>
          simp only [List.nil_append, List.cons.injEq] at he
          rw [← he.1] at hx
          exact absurd hx hb
        | cons z p =>
          simp only [List.cons_append, List.cons.injEq] at he
          have := h p x q he.2 hx
          rw [lsum, ← he.1]
          omega
      · intro h p x q he hx
        have := h (y :: p) x q (by rw [he]; rfl) hx
        rw [lsum] at this
        omega
theorem upTo_split (l : List S48) (s : Nat) {p q : List Int} {x : Int} (h : dueOrder l = p ++ x :: q) (hx : s.testBit x.toNat = true) : upTo l s x = lsum (inSet l s) p + timf l x.toNat := by
  have hasc := dueOrder_asc l
  rw [h, List.pairwise_append] at hasc
  obtain ⟨_, h2, h3⟩ := hasc
  rw [List.pairwise_cons] at h2
  have hsum := dueOrder_sum l (fun i => if s.testBit i.toNat = true ∧ (lex l i x ∨ i = x) then timf l i.toNat else 0)
  have hU : upTo l s x = sumN l.length (fun i => if s.testBit ((i : Int)).toNat = true ∧ (lex l (i : Int) x ∨ (i : Int) = x) then timf l ((i : Int)).toNat else 0) := rfl
  rw [hU, ← hsum, h, lsum_append, lsum, if_pos ⟨hx, Or.inr rfl⟩, lsum_zero (xs := q) (fun y hy => if_neg (fun hc => by
    rcases hc.2 with hc | hc
    · exact lex_irrefl _ (lex_trans hc (h2.1 y hy))
    · rw [hc] at hy
      exact lex_irrefl _ (h2.1 x hy))), lsum_congr (g := inSet l s) (xs := p) (fun y hy => by
    show (if _ then _ else _) = inSet l s y
    unfold inSet
    have hl := h3 y hy x (by simp)
    by_cases hb : s.testBit y.toNat = true
    · rw [if_pos hb, if_pos ⟨hb, Or.inl hl⟩]
    · rw [if_neg hb, if_neg (fun hc => hb hc.1)])]
  omega
theorem fitL_onTime (l : List S48) (s : Nat) : fitL l s 0 (dueOrder l) = decide (onTime l s) := by
  have hiff : fitL l s 0 (dueOrder l) = true ↔ onTime l s := by
    rw [fitL_iff]
    constructor
    · intro h j hj hb
      obtain ⟨p, q, he⟩ := List.append_of_mem (dueOrder_mem l hj)
      have := h p j q he (by simpa using hb)
      have e := upTo_split l s he (by simpa using hb)
      rw [e]
      simpa using this
    · intro h p x q he hx
      have hin := dueOrder_in l x (by rw [he]; simp)
      have := h x.toNat (by omega) hx
      have e := upTo_split l s he hx
      rw [show ((x.toNat : Nat) : Int) = x by omega, e] at this
      omega
  cases hb : fitL l s 0 (dueOrder l) with
  | true => exact (decide_eq_true (hiff.1 hb)).symm
  | false => exact (decide_eq_false (fun h => by rw [hiff.2 h] at hb; cases hb)).symm
theorem dueOrder_length (l : List S48) : (dueOrder l).length = l.length := by
  have h := dueOrder_sum l (fun _ => 1)
  have h1 : ∀ xs : List Int, lsum (fun _ => 1) xs = (xs.length : Int) := by
    intro xs
    induction xs with
    | nil => rfl
    | cons x xs ih => rw [lsum, ih, List.length_cons]; omega
  have h2 : ∀ n : Nat, sumN n (fun _ => 1) = (n : Int) := by
    intro n
    induction n with
    | zero => rfl
    | succ n ih => simp only [sumN]; omega
  rw [h1, h2] at h
  omega
theorem fits_loop (l : List S48) (hv : valid48 l = true) (s : Nat) (hs : s < 256) (o : List Int) (ho : ∀ x ∈ o, 0 ≤ x ∧ x < (l.length : Int)) (hlen8 : o.length ≤ 8) : ∀ (d i : Nat) (a : Int), i + d = o.length → 0 ≤ a → a ≤ 20 * i →
    Ev (fun k => dates_jobs_fits.l0 k l (s : Int) a o (o.length : Int) (i : Int)) (fitL l s a (o.drop i)) := by
  have hlen := valid_len hv
  intro d
  induction d with
  | zero =>
    intro i a hi h0 h1
    rw [show i = o.length by omega, List.drop_length]
    refine Ev.step (f := fun _ => some true) (fun k => ?_) (Ev.now _)
    simp only [dates_jobs_fits.l0]
    rw [if_neg (by omega)]
  | succ d ih =>
    intro i a hi h0 h1
    have hlt : i < o.length := by omega
    have hx := ho _ (List.getElem_mem hlt)
    rw [List.drop_eq_getElem_cons hlt, fitL]
    have hbit := bit_test (s := s) (i := (o[i]).toNat) hs (by omega)
    rw [show (((o[i]).toNat : Nat) : Int) = o[i] by omega] at hbit
    have hrd : rd_T48 l o[i] = jb l (o[i]).toNat := by
      have := rd48 l (o[i]).toNat (by omega)
      rw [show (((o[i]).toNat : Nat) : Int) = o[i] by omega] at this
      rw [this, jb_get (by omega)]
    have hjv := valid_jb hv (i := (o[i]).toNat) (by omega)
    have e0 : (jb l (o[i]).toNat).f0 = timf l (o[i]).toNat := rfl
    have e2 : (jb l (o[i]).toNat).f2 = duef l (o[i]).toNat := rfl
    rw [e0, e2] at hjv
    by_cases hb : s.testBit (o[i]).toNat = true
    · rw [if_pos hb]
      rw [if_pos hb] at hbit
      by_cases hc : a + timf l (o[i]).toNat > duef l (o[i]).toNat
      · rw [if_pos hc]
        refine Ev.step (f := fun _ => some false) (fun k => ?_) (Ev.now _)
        simp only [dates_jobs_fits.l0]
        rw [if_pos (by omega), if_pos (by omega), if_pos (by omega), rd_nat o i hlt, if_pos hx.1, hbit, if_neg (by decide), if_pos hx.2, hrd, e0, e2, w64 (by omega) (by omega), if_pos hc]
      · rw [if_neg hc]
        refine Ev.step (fun k => ?_) (ih (i + 1) (a + timf l (o[i]).toNat) (by omega) (by omega) (by omega))
        simp only [dates_jobs_fits.l0]
        rw [if_pos (by omega), if_pos (by omega), if_pos (by omega), rd_nat o i hlt, if_pos hx.1, hbit, if_neg (by decide), if_pos hx.2, hrd, e0, e2, w64 (by omega) (by omega), if_neg hc, w64s i o.length hlt (by omega)]
    · rw [if_neg hb]
      rw [if_neg hb] at hbit
      refine Ev.step (fun k => ?_) (ih (i + 1) a (by omega) h0 (by omega))
      simp only [dates_jobs_fits.l0]
      rw [if_pos (by omega), if_pos (by omega), if_pos (by omega), rd_nat o i hlt, if_pos hx.1, hbit, if_pos rfl, w64s i o.length hlt (by omega)]
theorem fits_f (l : List S48) (hv : valid48 l = true) (s : Nat) (hs : s < 256) : Ev (fun k => dates_jobs_fits.f k l (s : Int)) (decide (onTime l s)) := by
  have hlen := valid_len hv
  have hol := dueOrder_length l
  unfold dates_jobs_fits.f
  simp only [byDue_f l hlen.1 (by omega), Option.bind_some]
  rw [← fitL_onTime]
  exact fits_loop l hv s hs (dueOrder l) (dueOrder_in l) (by omega) (dueOrder l).length 0 0 (by omega) (by omega) (by omega)
end Go.Proofs.Ytaboleeclpllpaa.M


namespace Go.Proofs.Ytaboleeclpllpaa.M
open Go.RowKit Go.Proofs.YtaboleeclpllpaaW.PrintWords Go.Proofs.YtaboleeclpllpaaW.PrintLast Go.Proofs.YtaboleeclpllpaaW.PrintMore Go.Proofs.Ytaboleeclpllpaa.P Go.Proofs.Ytaboleeclpllpaa.T
set_option linter.unusedVariables false
set_option linter.unusedSimpArgs false
end Go.Proofs.Ytaboleeclpllpaa.M


namespace Go.Proofs.Ytaboleeclpllpaa.M
open Go.RowKit Go.Proofs.YtaboleeclpllpaaW.PrintWords Go.Proofs.YtaboleeclpllpaaW.PrintLast Go.Proofs.YtaboleeclpllpaaW.PrintMore Go.Proofs.Ytaboleeclpllpaa.P
set_option linter.unusedVariables false
set_option linter.unusedSimpArgs false
def put (s i : Nat) : Nat := s ||| (1 <<< i)
def pc (s : Nat) : Nat := ((List.range 8).filter fun i => s.testBit i).length
theorem or_put0 : ∀ s : Fin 256, ∀ i : Fin 8, Go.bits .or .i64 ((s : Nat) : Int) (shl .i64 1 ((i : Nat) : Int)) = ((put s i : Nat) : Int) := by decide +kernel
theorem put_pc0 : ∀ s : Fin 256, ∀ i : Fin 8, pc (put s i) = pc s + (if (s : Nat).testBit i = true then 0 else 1) := by decide +kernel
theorem full0 : ∀ n : Fin 9, ∀ s : Fin 256, (s : Nat) < 2 ^ (n : Nat) → (pc s = n ↔ (s : Nat) = 2 ^ (n : Nat) - 1) := by decide +kernel
theorem full_shl0 : ∀ n : Fin 9, wrap64 ((shl .i64 1 ((n : Nat) : Int)) - 1) = ((2 ^ (n : Nat) - 1 : Nat) : Int) := by decide +kernel
theorem put_pow0 : ∀ n : Fin 9, ∀ s : Fin 256, ∀ i : Fin 8, (i : Nat) < n → (s : Nat) < 2 ^ (n : Nat) → put s i < 2 ^ (n : Nat) := by decide +kernel
theorem or_put {s i : Nat} (hs : s < 256) (hi : i < 8) : Go.bits .or .i64 (s : Int) (shl .i64 1 (i : Int)) = ((put s i : Nat) : Int) := or_put0 ⟨s, hs⟩ ⟨i, hi⟩
theorem put_pc {s i : Nat} (hs : s < 256) (hi : i < 8) : pc (put s i) = pc s + (if s.testBit i = true then 0 else 1) := put_pc0 ⟨s, hs⟩ ⟨i, hi⟩
theorem full_pc {n s : Nat} (hn : n ≤ 8) (hs : s < 2 ^ n) : pc s = n ↔ s = 2 ^ n - 1 := by
  have h8 : 2 ^ n ≤ 2 ^ 8 := Nat.pow_le_pow_right (by omega) hn
  exact full0 ⟨n, by omega⟩ ⟨s, by omega⟩ hs
theorem full_shl {n : Nat} (hn : n ≤ 8) : wrap64 ((shl .i64 1 (n : Int)) - 1) = ((2 ^ n - 1 : Nat) : Int) := full_shl0 ⟨n, by omega⟩
theorem put_pow {n s i : Nat} (hn : n ≤ 8) (hi : i < n) (hs : s < 2 ^ n) : put s i < 2 ^ n := by
  have h8 : 2 ^ n ≤ 2 ^ 8 := Nat.pow_le_pow_right (by omega) hn
  exact put_pow0 ⟨n, by omega⟩ ⟨s, by omega⟩ ⟨i, by omega⟩ hi hs
def inN (n : Nat) (x : Int) : Bool := decide (0 ≤ x ∧ x < (n : Int))
def fresh : Nat → List Int → Bool
  | _, [] => true
  | s, x :: xs => !s.testBit x.toNat && fresh (put s x.toNat) xs
def setAll : Nat → List Int → Nat
  | s, [] => s
  | s, x :: xs => setAll (put s x.toNat) xs
theorem inN_iff {n : Nat} {x : Int} : inN n x = true ↔ 0 ≤ x ∧ x < (n : Int) := by simp [inN]
theorem pow8 {n : Nat} (hn : n ≤ 8) : 2 ^ n ≤ 256 := Nat.pow_le_pow_right (n := 2) (by omega) hn
theorem setAll_pc {n : Nat} (hn : n ≤ 8) : ∀ (o : List Int) (s : Nat), o.all (inN n) = true → s < 2 ^ n → pc (setAll s o) ≤ pc s + o.length ∧ (pc (setAll s o) = pc s + o.length ↔ fresh s o = true)
  | [], s, _, hs => by simp [setAll, fresh]
  | x :: xs, s, h, hs => by
    rw [List.all_cons, Bool.and_eq_true, inN_iff] at h
    have h8 := pow8 hn
    obtain ⟨ih1, ih2⟩ := setAll_pc hn xs (put s x.toNat) h.2 (put_pow hn (by omega) hs)
    rw [put_pc (by omega) (by omega)] at ih1 ih2
    simp only [setAll, fresh, List.length_cons]
    cases hb : s.testBit x.toNat with
    | true =>
      simp only [hb, if_true] at ih1 ih2
      simp
      omega
    | false =>
      simp only [hb, Bool.false_eq_true, if_false] at ih1 ih2
      simp
      rw [← ih2]
      omega
theorem mn_min (a b : Int) : mn a b = min a b := by unfold mn; omega
end Go.Proofs.Ytaboleeclpllpaa.M


namespace Go.Proofs.Ytaboleeclpllpaa.M
open Go.RowKit Go.Proofs.YtaboleeclpllpaaW.PrintWords Go.Proofs.YtaboleeclpllpaaW.PrintLast Go.Proofs.YtaboleeclpllpaaW.PrintMore Go.Proofs.Ytaboleeclpllpaa.P Go.Proofs.Ytaboleeclpllpaa.T
set_option linter.unusedVariables false
set_option linter.unusedSimpArgs false
theorem ones0 : ∀ s : Fin 256, dates_Most_1.f ((s : Nat) : Int) = some ((pc s : Nat) : Int) := by decide +kernel
theorem ones_f {s : Nat} (hs : s < 256) : dates_Most_1.f (s : Int) = some ((pc s : Nat) : Int) := ones0 ⟨s, hs⟩
def bestN (val : Nat → Int) (P : Nat → Prop) [DecidablePred P] : Nat → Nat → Nat → Nat
  | 0, _, best => best
  | m + 1, set, best => if val set > val best then (if P set then bestN val P m (set + 1) set else bestN val P m (set + 1) best) else bestN val P m (set + 1) best
theorem most_best (l : List S48) (hv : valid48 l = true) : ∀ (m set best : Nat), set + m ≤ 256 → best < 256 → Ev (fun k => dates_Most.bestL k l m set (best : Int)) ((bestN (fun s => ((pc s : Nat) : Int)) (onTime l) m set best : Nat) : Int)
  | 0, set, best, _, _ => Ev.now _
  | m + 1, set, best, h1, h2 => by
    simp only [dates_Most.bestL, ones_f (show set < 256 by omega), ones_f h2, Option.bind_some, bestN]
    by_cases c : ((pc set : Nat) : Int) > ((pc best : Nat) : Int)
    · simp only [if_pos c]
      refine Ev.bind (fits_f l hv set (by omega)) ?_
      by_cases p : onTime l set
      · simp only [decide_eq_true p, if_pos p, if_true]
        exact most_best l hv m (set + 1) set (by omega) (by omega)
      · simp only [decide_eq_false p, if_neg p, Bool.false_eq_true, if_false]
        exact most_best l hv m (set + 1) best (by omega) h2
    · simp only [if_neg c]
      exact most_best l hv m (set + 1) best (by omega) h2
theorem bestN_lt (val : Nat → Int) (P : Nat → Prop) [DecidablePred P] : ∀ (m set best b : Nat), set + m ≤ b → best < b → bestN val P m set best < b
  | 0, _, _, _, _, h => h
  | m + 1, set, best, b, h1, h2 => by
    rw [bestN]
    split
    · split
      · exact bestN_lt val P m (set + 1) set b (by omega) (by omega)
      · exact bestN_lt val P m (set + 1) best b (by omega) h2
    · exact bestN_lt val P m (set + 1) best b (by omega) h2
def mostOf (l : List S48) : Nat := bestN (fun s => ((pc s : Nat) : Int)) (onTime l) (2 ^ l.length) 0 0
theorem Most_f (l : List S48) (hl : l.length ≤ 9223372036854775807) : Ev (fun k => dates_Most.f k l) (if valid48 l = true then (((mostOf l : Nat) : Int), 0) else (0, 2)) := by
  unfold dates_Most.f
  refine Ev.bind (valid_f l hl) ?_
  cases hv : valid48 l with
  | false =>
    simp only [Bool.false_eq_true, if_false]
    exact Ev.now _
  | true =>
    have hlen := valid_len hv
    simp only [if_true, if_pos hlen.2]
    refine Ev.bind (most_best l hv (2 ^ l.length) 0 0 (by have := pow8 hlen.2; omega) (by omega)) ?_
    exact Ev.now _
end Go.Proofs.Ytaboleeclpllpaa.M


namespace Go.Proofs.Ytaboleeclpllpaa.M
open Go.RowKit Go.Proofs.YtaboleeclpllpaaW.PrintWords Go.Proofs.YtaboleeclpllpaaW.PrintLast Go.Proofs.YtaboleeclpllpaaW.PrintMore Go.Proofs.Ytaboleeclpllpaa.P Go.Proofs.Ytaboleeclpllpaa.T
set_option linter.unusedVariables false
set_option linter.unusedSimpArgs false
def free (bs : List Int) (s i : Nat) : Bool := !s.testBit i && decide (Go.bits .andNot .i64 (rd bs (i : Int)) (s : Int) = 0)
def cost (l : List S48) : Int → List Nat → Int
  | _, [] => -1000
  | a, i :: r => mx (cost l (a + timf l i) r) (a + timf l i - duef l i)
def conts (bs : List Int) (n : Nat) : Nat → Nat → List (List Nat)
  | 0, s => if s = 2 ^ n - 1 then [[]] else []
  | m + 1, s => if s = 2 ^ n - 1 then [[]] else (List.range n).flatMap (fun i => if free bs s i = true then (conts bs n m (put s i)).map (i :: ·) else [])
def atS (l : List S48) (s : Nat) : Int := sumN l.length (fun i => if s.testBit i = true then timf l i else 0)
theorem put_bit0 : ∀ s : Fin 256, ∀ i j : Fin 8, (put s i).testBit j = ((s : Nat).testBit j || decide ((j : Nat) = (i : Nat))) := by decide +kernel
theorem put_bit {s i j : Nat} (hs : s < 256) (hi : i < 8) (hj : j < 8) : (put s i).testBit j = (s.testBit j || decide (j = i)) := put_bit0 ⟨s, hs⟩ ⟨i, hi⟩ ⟨j, hj⟩
theorem atS_put (l : List S48) (h8 : l.length ≤ 8) {s i : Nat} (hs : s < 256) (hi : i < l.length) (hb : s.testBit i = false) : atS l (put s i) = atS l s + timf l i := by
  unfold atS
  rw [sumN_at (f := fun j => if (put s i).testBit j = true then timf l j else 0) (g := fun j => if s.testBit j = true then timf l j else 0) i hi (fun j hj hne => by
    show (if (put s i).testBit j = true then timf l j else 0) = (if s.testBit j = true then timf l j else 0)
    rw [put_bit hs (by omega) (by omega)]
    simp [hne])]
  simp only [put_bit hs (show i < 8 by omega) (show i < 8 by omega), hb]
  simp
theorem atS_bound (l : List S48) (hv : valid48 l = true) (s : Nat) : 0 ≤ atS l s ∧ atS l s ≤ 160 := by
  have hlen := valid_len hv
  have h : ∀ n : Nat, n ≤ l.length → 0 ≤ sumN n (fun i => if s.testBit i = true then timf l i else 0) ∧ sumN n (fun i => if s.testBit i = true then timf l i else 0) ≤ 20 * n := by
    intro n
    induction n with
    | zero => intro _; simp [sumN]
    | succ n ih =>
      intro h
      have h1 := ih (by omega)
      have h2 := valid_jb hv (i := n) (by omega)
      simp only [sumN]
      unfold timf at h1 ⊢
      split <;> omega
  have := h l.length (Nat.le_refl _)
  unfold atS
  omega
theorem at_run (l : List S48) (hv : valid48 l = true) (s : Nat) (hs : s < 256) : dates_jobs_worst.at l (s : Int) l.length 0 0 = atS l s := by
  have hlen := valid_len hv
  have h : ∀ m i : Nat, i + m = l.length → ∀ a : Int, a = sumN i (fun i => if s.testBit i = true then timf l i else 0) → 0 ≤ a → a ≤ 20 * i → dates_jobs_worst.at l (s : Int) m i a = atS l s := by
    intro m
    induction m with
    | zero =>
      intro i hi a ha _ _
      rw [dates_jobs_worst.at, ha, show i = l.length by omega]
      rfl
    | succ m ih =>
      intro i hi a ha h0 h1
      have h2 := valid_jb hv (i := i) (by omega)
      rw [dates_jobs_worst.at, bit_test hs (by omega), rd48 l i (by omega), ← jb_get (by omega)]
      have e : sumN (i + 1) (fun i => if s.testBit i = true then timf l i else 0) = sumN i (fun i => if s.testBit i = true then timf l i else 0) + (if s.testBit i = true then timf l i else 0) := rfl
      by_cases c : s.testBit i = true
      · rw [if_pos c] at e ⊢
        rw [Int.mul_one, w64 (x := (jb l i).f0) (by omega) (by omega), w64 (by omega) (by omega)]
        refine ih (i + 1) (by omega) _ (by rw [e, ha]; rfl) (by omega) (by omega)
      · rw [if_neg c] at e ⊢
        rw [Int.mul_zero, w64 (x := 0) (by omega) (by omega), w64 (by omega) (by omega)]
        refine ih (i + 1) (by omega) _ (by rw [e, ha]) (by omega) (by omega)
  exact h l.length 0 (by omega) 0 rfl (by omega) (by omega)
def Tells (l : List S48) (a : Int) (L : List (List Nat)) (r : Int × Bool) : Prop := (r.2 = false → L = []) ∧ (r.2 = true → (∃ o, o ∈ L ∧ cost l a o = r.1) ∧ ∀ o, o ∈ L → r.1 ≤ cost l a o)
theorem mx_le_mx {a b c : Int} (h : a ≤ b) : mx a c ≤ mx b c := by unfold mx; split <;> split <;> omega
theorem tells_cons {l : List S48} {a : Int} {i : Nat} {L : List (List Nat)} {r : Int × Bool} (h : Tells l (a + timf l i) L r) : Tells l a (L.map (i :: ·)) (mx r.1 (a + timf l i - duef l i), r.2) := by
  refine ⟨fun e => by rw [h.1 e]; rfl, fun e => ?_⟩
  obtain ⟨⟨o, ho, hc⟩, hm⟩ := h.2 e
  refine ⟨⟨i :: o, List.mem_map.2 ⟨o, ho, rfl⟩, by rw [cost, hc]⟩, fun o' ho' => ?_⟩
  obtain ⟨q, hq, rfl⟩ := List.mem_map.1 ho'
  rw [cost]
  exact mx_le_mx (hm q hq)
theorem tells_app {l : List S48} {a : Int} {L M : List (List Nat)} {b x : Int} {f g : Bool} (h : Tells l a L (b, f)) (k : Tells l a M (x, g)) :
    Tells l a (L ++ M) (if g = true then (if f = true then (if x < b then (x, true) else (b, f)) else (x, true)) else (b, f)) := by
  cases g with
  | false =>
    rw [if_neg (by simp), k.1 rfl, List.append_nil]
    exact h
  | true =>
    obtain ⟨⟨o, ho, hc⟩, hm⟩ := k.2 rfl
    simp only at hc hm
    rw [if_pos rfl]
    cases f with
    | false =>
      rw [if_neg (by simp), h.1 rfl, List.nil_append]
      exact k
    | true =>
      obtain ⟨⟨p, hp, hd⟩, hn⟩ := h.2 rfl
      simp only at hd hn
      rw [if_pos rfl]
      by_cases c : x < b
      · rw [if_pos c]
        refine ⟨fun e => absurd e (by simp), fun _ => ⟨⟨o, List.mem_append.2 (Or.inr ho), hc⟩, fun q hq => ?_⟩⟩
        rcases List.mem_append.1 hq with hq | hq
        · have := hn q hq
          simp only
          omega
        · exact hm q hq
      · rw [if_neg c]
        refine ⟨fun e => absurd e (by simp), fun _ => ⟨⟨p, List.mem_append.2 (Or.inl hp), hd⟩, fun q hq => ?_⟩⟩
        rcases List.mem_append.1 hq with hq | hq
        · exact hn q hq
        · have := hm q hq
          simp only
          omega
theorem free_iff {bs : List Int} {s i : Nat} (hs : s < 256) (hi : i < 8) : free bs s i = true ↔ ¬ Go.bits .and .i64 (shr .i64 (s : Int) (i : Int)) 1 = 1 ∧ ¬ Go.bits .andNot .i64 (rd bs (i : Int)) (s : Int) ≠ 0 := by
  rw [bit_test hs hi]
  unfold free
  cases s.testBit i <;> simp
theorem full_shl' {n : Nat} (hn : n ≤ 8) : wrap64 (shl .i64 1 (n : Int) - 1) = ((2 ^ n - 1 : Nat) : Int) := full_shl hn
theorem worst_tells (l : List S48) (hv : valid48 l = true) (bs : List Int) (hb : bs.length = l.length) : ∀ (k s : Nat), s < 2 ^ l.length → l.length ≤ pc s + k → ∃ r, dates_jobs_worst.f (k + 1) l bs (s : Int) = some r ∧ Tells l (atS l s) (conts bs l.length k s) r := by
  have hlen := valid_len hv
  have h8 := pow8 hlen.2
  intro k
  induction k with
  | zero =>
    intro s hs hk
    have hpc : pc s ≤ l.length := by
      have := setAll_pc hlen.2 [] s rfl hs
      by_cases c : pc s ≤ l.length
      · exact c
      · exfalso
        have h0 : ∀ n : Fin 9, ∀ s : Fin 256, (s : Nat) < 2 ^ (n : Nat) → pc s ≤ n := by decide +kernel
        exact c (h0 ⟨l.length, by omega⟩ ⟨s, by omega⟩ hs)
    have hf : s = 2 ^ l.length - 1 := (full_pc hlen.2 hs).1 (by omega)
    refine ⟨(-1000, true), by rw [dates_jobs_worst.f, full_shl' hlen.2, if_pos (by rw [hf])], ?_⟩
    rw [conts, if_pos hf]
    exact ⟨fun e => absurd e (by simp), fun _ => ⟨⟨[], by simp, rfl⟩, fun o ho => by rw [List.mem_singleton.1 ho]; exact Int.le_refl _⟩⟩
  | succ k ih =>
    intro s hs hk
    rw [dates_jobs_worst.f, full_shl' hlen.2]
    by_cases hf : s = 2 ^ l.length - 1
    · refine ⟨(-1000, true), by rw [if_pos (by rw [hf])], ?_⟩
      rw [conts, if_pos hf]
      exact ⟨fun e => absurd e (by simp), fun _ => ⟨⟨[], by simp, rfl⟩, fun o ho => by rw [List.mem_singleton.1 ho]; exact Int.le_refl _⟩⟩
    · rw [if_neg (by omega), conts, if_neg hf, at_run l hv s (by omega)]
      have hat := atS_bound l hv s
      have hscan : ∀ (m i : Nat), i + m = l.length → ∀ (b : Int) (f : Bool), Tells l (atS l s) ((List.range i).flatMap (fun i => if free bs s i = true then (conts bs l.length k (put s i)).map (i :: ·) else [])) (b, f) →
          ∃ r, dates_jobs_worst.scan (dates_jobs_worst.f (k + 1) l bs) l bs (s : Int) (atS l s) m i b f = some r ∧ Tells l (atS l s) ((List.range l.length).flatMap (fun i => if free bs s i = true then (conts bs l.length k (put s i)).map (i :: ·) else [])) r := by
        intro m
        induction m with
        | zero =>
          intro i hi b f ht
          refine ⟨(b, f), rfl, ?_⟩
          rw [show i = l.length by omega] at ht
          exact ht
        | succ m ihm =>
          intro i hi b f ht
          have hil : i < l.length := by omega
          rw [dates_jobs_worst.scan]
          have hnext : ∀ (x : Int) (g : Bool), Tells l (atS l s) (if free bs s i = true then (conts bs l.length k (put s i)).map (i :: ·) else []) (x, g) → Tells l (atS l s) ((List.range (i + 1)).flatMap (fun i => if free bs s i = true then (conts bs l.length k (put s i)).map (i :: ·) else [])) (if g = true then (if f = true then (if x < b then (x, true) else (b, f)) else (x, true)) else (b, f)) := by
            intro x g hg
            rw [List.range_succ, List.flatMap_append]
            have e : [i].flatMap (fun i => if free bs s i = true then (conts bs l.length k (put s i)).map (i :: ·) else []) = if free bs s i = true then (conts bs l.length k (put s i)).map (i :: ·) else [] := by simp
            rw [e]
            exact tells_app ht hg
          by_cases c1 : Go.bits .and .i64 (shr .i64 (s : Int) (i : Int)) 1 = 1
          · rw [if_pos c1]
            have hnf : ¬ free bs s i = true := fun h => (((free_iff (by omega) (by omega)).1 h).1) c1
            have h1 := hnext 0 false (by rw [if_neg hnf]; exact ⟨fun _ => rfl, fun e => absurd e (by simp)⟩)
            rw [if_neg (by simp)] at h1
            exact ihm (i + 1) (by omega) b f h1
          · rw [if_neg c1, if_pos (by omega)]
            by_cases c2 : Go.bits .andNot .i64 (rd bs (i : Int)) (s : Int) ≠ 0
            · rw [if_pos c2]
              have hnf : ¬ free bs s i = true := fun h => (((free_iff (by omega) (by omega)).1 h).2) c2
              have h1 := hnext 0 false (by rw [if_neg hnf]; exact ⟨fun _ => rfl, fun e => absurd e (by simp)⟩)
              rw [if_neg (by simp)] at h1
              exact ihm (i + 1) (by omega) b f h1
            · rw [if_neg c2]
              have hfr : free bs s i = true := (free_iff (by omega) (by omega)).2 ⟨c1, c2⟩
              have hbit : s.testBit i = false := by
                unfold free at hfr
                cases h : s.testBit i
                · rfl
                · rw [h] at hfr; simp at hfr
              rw [or_put (by omega) (by omega)]
              obtain ⟨rr, hrr, ht2⟩ := ih (put s i) (put_pow hlen.2 hil hs) (by rw [put_pc (by omega) (by omega), hbit]; simp; omega)
              rw [hrr, Option.bind_some]
              rw [atS_put l hlen.2 (by omega) hil hbit] at ht2
              have hj := valid_jb hv hil
              have hw : wrap64 (wrap64 (atS l s + (rd_T48 l (i : Int)).f0) - (rd_T48 l (i : Int)).f2) = atS l s + timf l i - duef l i := by
                rw [rd48 l i hil, ← jb_get hil, w64 (x := atS l s + (jb l i).f0) (by omega) (by omega), w64 (by omega) (by omega)]
                rfl
              rw [hw]
              have h1 := hnext _ _ (by rw [if_pos hfr]; exact tells_cons ht2)
              obtain ⟨x, g⟩ := rr
              simp only at h1 ⊢
              cases g with
              | false =>
                rw [if_neg (by simp)] at h1 ⊢
                exact ihm (i + 1) (by omega) _ _ h1
              | true =>
                rw [if_pos rfl] at h1 ⊢
                cases f with
                | false =>
                  rw [if_neg (by simp)] at h1 ⊢
                  exact ihm (i + 1) (by omega) _ _ h1
                | true =>
                  rw [if_pos rfl] at h1 ⊢
                  by_cases c3 : mx x (atS l s + timf l i - duef l i) < b
                  · rw [if_pos c3] at h1 ⊢
                    exact ihm (i + 1) (by omega) _ _ h1
                  · rw [if_neg c3] at h1 ⊢
                    exact ihm (i + 1) (by omega) _ _ h1
      exact hscan l.length 0 (by omega) 0 false ⟨fun _ => rfl, fun e => absurd e (by simp)⟩
end Go.Proofs.Ytaboleeclpllpaa.M


namespace Go.Proofs.Ytaboleeclpllpaa.M
open Go.RowKit Go.Proofs.YtaboleeclpllpaaW.PrintWords Go.Proofs.YtaboleeclpllpaaW.PrintLast Go.Proofs.YtaboleeclpllpaaW.PrintMore Go.Proofs.Ytaboleeclpllpaa.P Go.Proofs.Ytaboleeclpllpaa.T
set_option linter.unusedVariables false
set_option linter.unusedSimpArgs false
def step1 (c : List Nat → Int) (acc : Option (List Nat × Int)) (o : List Nat) : Option (List Nat × Int) := match acc with
  | none => some (o, c o)
  | some (p, x) => if c o < x then some (o, c o) else some (p, x)
def firstMin (c : List Nat → Int) (L : List (List Nat)) : Option (List Nat × Int) := L.foldl (step1 c) none
def Kept1 (c : List Nat → Int) (L : List (List Nat)) : Option (List Nat × Int) → Prop
  | none => L = []
  | some (o, x) => L.find? (fun q => decide (c q ≤ x)) = some o ∧ c o = x ∧ ∀ q, q ∈ L → x ≤ c q
theorem kept_step {c : List Nat → Int} {L : List (List Nat)} {acc : Option (List Nat × Int)} (h : Kept1 c L acc) (o : List Nat) : Kept1 c (L ++ [o]) (step1 c acc o) := by
  cases acc with
  | none =>
    have h : L = [] := h
    subst h
    refine ⟨?_, rfl, fun q hq => ?_⟩
    · rw [List.nil_append, List.find?_cons_of_pos (by simp)]
    · rw [List.nil_append, List.mem_singleton] at hq
      rw [hq]
      exact Int.le_refl _
  | some px =>
    obtain ⟨p, x⟩ := px
    obtain ⟨h1, h2, h3⟩ := h
    rw [step1]
    by_cases u : c o < x
    · rw [if_pos u]
      refine ⟨?_, rfl, fun q hq => ?_⟩
      · rw [List.find?_append]
        have : L.find? (fun q => decide (c q ≤ c o)) = none := by
          rw [List.find?_eq_none]
          intro q hq
          have := h3 q hq
          simp
          omega
        rw [this, Option.none_or, List.find?_cons_of_pos (by simp)]
      · rcases List.mem_append.1 hq with hq | hq
        · have := h3 q hq
          omega
        · rw [List.mem_singleton.1 hq]
          exact Int.le_refl _
    · rw [if_neg u]
      refine ⟨?_, h2, fun q hq => ?_⟩
      · rw [List.find?_append, h1]
        rfl
      · rcases List.mem_append.1 hq with hq | hq
        · exact h3 q hq
        · rw [List.mem_singleton.1 hq]
          omega
theorem kept_fold {c : List Nat → Int} : ∀ (L M : List (List Nat)) (acc : Option (List Nat × Int)), Kept1 c M acc → Kept1 c (M ++ L) (L.foldl (step1 c) acc)
  | [], M, acc, h => by rw [List.append_nil]; exact h
  | o :: L, M, acc, h => by
    have := kept_fold L (M ++ [o]) (step1 c acc o) (kept_step h o)
    rw [List.append_assoc] at this
    exact this
theorem firstMin_kept (c : List Nat → Int) (L : List (List Nat)) : Kept1 c L (firstMin c L) := kept_fold L [] none rfl
def leastOf (l : List S48) (bs : List Int) : List Int × Int × Int := match firstMin (cost l 0) (conts bs l.length 8 0) with
  | none => ([], 0, 6)
  | some (o, x) => (o.map (fun i : Nat => (i : Int)), x, 0)
theorem mx_le {a b c : Int} : mx a b ≤ c ↔ a ≤ c ∧ b ≤ c := by unfold mx; split <;> omega
def within1 (l : List S48) (bs : List Int) (k s : Nat) (a x : Int) (j : Nat) : Option (List Nat) :=
  if free bs s j = true ∧ a + timf l j - duef l j ≤ x then ((conts bs l.length k (put s j)).find? (fun q => decide (cost l (a + timf l j) q ≤ x))).map (j :: ·) else none
theorem within1_find (l : List S48) (bs : List Int) (k s : Nat) (a x : Int) (j : Nat) : (if free bs s j = true then (conts bs l.length k (put s j)).map (j :: ·) else []).find? (fun q => decide (cost l a q ≤ x)) = within1 l bs k s a x j := by
  unfold within1
  by_cases c : free bs s j = true
  · rw [if_pos c, List.find?_map]
    by_cases d : a + timf l j - duef l j ≤ x
    · rw [if_pos ⟨c, d⟩]
      congr 2
      funext q
      simp only [Function.comp, cost, mx_le, d, and_true]
    · rw [if_neg (fun h => d h.2)]
      have : (conts bs l.length k (put s j)).find? ((fun q => decide (cost l a q ≤ x)) ∘ (j :: ·)) = none := by
        rw [List.find?_eq_none]
        intro q hq
        simp only [Function.comp, cost, mx_le, d, and_false, decide_false]
        simp
      rw [this]
      rfl
  · rw [if_neg c, if_neg (fun h => c h.1)]
    rfl
theorem tells_find {l : List S48} {a : Int} {L : List (List Nat)} {r : Int × Bool} (h : Tells l a L r) (x : Int) : (∃ o, L.find? (fun q => decide (cost l a q ≤ x)) = some o) ↔ r.2 = true ∧ r.1 ≤ x := by
  constructor
  · rintro ⟨o, ho⟩
    have h1 := List.mem_of_find?_eq_some ho
    have h2 := List.find?_some ho
    simp only [decide_eq_true_eq] at h2
    cases hb : r.2 with
    | false =>
      rw [h.1 hb] at h1
      exact absurd h1 (by simp)
    | true => exact ⟨rfl, Int.le_trans ((h.2 hb).2 o h1) h2⟩
  · rintro ⟨hb, hx⟩
    obtain ⟨⟨o, ho, hc⟩, _⟩ := h.2 hb
    have : (L.find? (fun q => decide (cost l a q ≤ x))).isSome = true := by
      rw [List.find?_isSome]
      exact ⟨o, ho, by simp; omega⟩
    exact Option.isSome_iff_exists.1 this
theorem pick_first (l : List S48) (hv : valid48 l = true) (bs : List Int) (hb : bs.length = l.length) (k s : Nat) (hs : s < 2 ^ l.length) (hk : l.length ≤ pc s + (k + 1)) (x : Int) : ∀ (m i : Nat), i + m = l.length → ∀ o, (List.range' i m).findSome? (within1 l bs k s (atS l s) x) = some o →
    ∃ j o', o = j :: o' ∧ j < l.length ∧ free bs s j = true ∧ (conts bs l.length k (put s j)).find? (fun q => decide (cost l (atS l s + timf l j) q ≤ x)) = some o' ∧ dates_Least.pick l bs (s : Int) (atS l s) x m i = some j := by
  have hlen := valid_len hv
  have h8 := pow8 hlen.2
  have hat := atS_bound l hv s
  intro m
  induction m with
  | zero =>
    intro i hi o ho
    exact absurd ho (by simp)
  | succ m ih =>
    intro i hi o ho
    have hil : i < l.length := by omega
    rw [List.range'_succ, List.findSome?_cons] at ho
    have hj := valid_jb hv hil
    have hw : wrap64 (wrap64 (atS l s + (rd_T48 l (i : Int)).f0) - (rd_T48 l (i : Int)).f2) = atS l s + timf l i - duef l i := by
      rw [rd48 l i hil, ← jb_get hil, w64 (x := atS l s + (jb l i).f0) (by omega) (by omega), w64 (by omega) (by omega)]
      rfl
    have hnext : within1 l bs k s (atS l s) x i = none → ∃ j o', o = j :: o' ∧ j < l.length ∧ free bs s j = true ∧ (conts bs l.length k (put s j)).find? (fun q => decide (cost l (atS l s + timf l j) q ≤ x)) = some o' ∧ dates_Least.pick l bs (s : Int) (atS l s) x m (i + 1) = some j := by
      intro hn
      rw [hn] at ho
      exact ih (i + 1) (by omega) o ho
    rw [dates_Least.pick]
    by_cases c1 : Go.bits .and .i64 (shr .i64 (s : Int) (i : Int)) 1 = 1
    · rw [if_pos c1]
      exact hnext (by unfold within1; rw [if_neg (fun h => (((free_iff (by omega) (by omega)).1 h.1).1) c1)])
    · rw [if_neg c1, if_pos (by omega)]
      by_cases c2 : Go.bits .andNot .i64 (rd bs (i : Int)) (s : Int) ≠ 0
      · rw [if_pos c2]
        exact hnext (by unfold within1; rw [if_neg (fun h => (((free_iff (by omega) (by omega)).1 h.1).2) c2)])
      · rw [if_neg c2, hw]
        have hfr : free bs s i = true := (free_iff (by omega) (by omega)).2 ⟨c1, c2⟩
        have hbit : s.testBit i = false := by
          unfold free at hfr
          cases h : s.testBit i
          · rfl
          · rw [h] at hfr; simp at hfr
        by_cases c3 : atS l s + timf l i - duef l i > x
        · rw [if_pos c3]
          exact hnext (by unfold within1; rw [if_neg (fun h => absurd h.2 (by omega))])
        · rw [if_neg c3, or_put (by omega) (by omega)]
          obtain ⟨rr, hrr, ht⟩ := worst_tells l hv bs hb k (put s i) (put_pow hlen.2 hil hs) (by rw [put_pc (by omega) (by omega), hbit]; simp; omega)
          have hrr9 : dates_jobs_worst.f 9 l bs ((put s i : Nat) : Int) = some rr := by
            obtain ⟨r9, h9, ht9⟩ := worst_tells l hv bs hb 8 (put s i) (put_pow hlen.2 hil hs) (by omega)
            rw [h9]
            exact congrArg some (dates_jobs_worst.det l bs hrr h9)
          rw [hrr9, Option.bind_some]
          rw [atS_put l hlen.2 (by omega) hil hbit] at ht
          have hf := tells_find ht x
          have hw1 : within1 l bs k s (atS l s) x i = ((conts bs l.length k (put s i)).find? (fun q => decide (cost l (atS l s + timf l i) q ≤ x))).map (i :: ·) := by
            unfold within1
            rw [if_pos ⟨hfr, by omega⟩]
          by_cases c4 : rr.2 = true
          · rw [if_pos c4]
            by_cases c5 : rr.1 ≤ x
            · rw [if_pos c5]
              obtain ⟨o', ho'⟩ := hf.2 ⟨c4, c5⟩
              rw [hw1, ho'] at ho
              simp only [Option.map_some, Option.some.injEq] at ho
              exact ⟨i, o', ho.symm, hil, hfr, ho', rfl⟩
            · rw [if_neg c5]
              refine hnext ?_
              rw [hw1]
              cases h : (conts bs l.length k (put s i)).find? (fun q => decide (cost l (atS l s + timf l i) q ≤ x)) with
              | none => rfl
              | some o' => exact absurd (hf.1 ⟨o', h⟩).2 c5
          · rw [if_neg c4]
            refine hnext ?_
            rw [hw1]
            cases h : (conts bs l.length k (put s i)).find? (fun q => decide (cost l (atS l s + timf l i) q ≤ x)) with
            | none => rfl
            | some o' => exact absurd (hf.1 ⟨o', h⟩).1 c4
theorem go_first (l : List S48) (hv : valid48 l = true) (bs : List Int) (hb : bs.length = l.length) (x : Int) : ∀ (m k s : Nat), s < 2 ^ l.length → pc s + m = l.length → l.length ≤ pc s + k → ∀ (out : List Int) (o : List Nat), (conts bs l.length k s).find? (fun q => decide (cost l (atS l s) q ≤ x)) = some o →
    dates_Least.go l bs x m out (s : Int) (atS l s) = some (out ++ o.map (fun i : Nat => (i : Int))) := by
  have hlen := valid_len hv
  have h8 := pow8 hlen.2
  intro m
  induction m with
  | zero =>
    intro k s hs hm hk out o ho
    have hf : s = 2 ^ l.length - 1 := (full_pc hlen.2 hs).1 (by omega)
    have hc : conts bs l.length k s = [[]] := by cases k <;> rw [conts, if_pos hf]
    rw [hc] at ho
    have := List.mem_of_find?_eq_some ho
    rw [List.mem_singleton.1 this, dates_Least.go]
    simp
  | succ m ih =>
    intro k s hs hm hk out o ho
    have hf : ¬ s = 2 ^ l.length - 1 := fun h => by
      have := (full_pc hlen.2 hs).2 h
      omega
    obtain ⟨k, rfl⟩ : ∃ k', k = k' + 1 := ⟨k - 1, by omega⟩
    rw [conts, if_neg hf, List.find?_flatMap] at ho
    have ho2 : (List.range' 0 l.length).findSome? (within1 l bs k s (atS l s) x) = some o := by
      rw [← ho, List.range_eq_range']
      congr 1
      funext j
      exact (within1_find l bs k s (atS l s) x j).symm
    obtain ⟨j, o', rfl, hj, hfr, hfo, hp⟩ := pick_first l hv bs hb k s hs hk x l.length 0 (by omega) o ho2
    have hbit : s.testBit j = false := by
      unfold free at hfr
      cases h : s.testBit j
      · rfl
      · rw [h] at hfr; simp at hfr
    have hpc : pc (put s j) = pc s + 1 := by rw [put_pc (by omega) (by omega), hbit]; simp
    have hvj := valid_jb hv hj
    have hat := atS_bound l hv s
    rw [dates_Least.go, hp, Option.bind_some, or_put (by omega) (by omega), rd48 l j hj, ← jb_get hj, w64 (by omega) (by omega)]
    have ha := atS_put l hlen.2 (show s < 256 by omega) hj hbit
    have e : atS l s + (jb l j).f0 = atS l (put s j) := ha.symm
    rw [e]
    rw [← ha] at hfo
    rw [ih k (put s j) (put_pow hlen.2 hj hs) (by omega) (by omega) _ o' hfo]
    simp
theorem atS_zero (l : List S48) : atS l 0 = 0 := by
  unfold atS
  rw [sumN_congr (g := fun _ => 0) (fun i hi => by simp), sumN_zero]
theorem least_sem (l : List S48) (hv : valid48 l = true) (bs : List Int) (hb : bs.length = l.length) : ∃ r, dates_jobs_worst.f 9 l bs 0 = some r ∧ (if r.2 = true then (dates_Least.go l bs r.1 l.length [] 0 0).bind (fun o => some (o, r.1, (0 : Int))) else some ([], 0, 6)) = some (leastOf l bs) := by
  have hlen := valid_len hv
  have hpos : 0 < 2 ^ l.length := Nat.two_pow_pos _
  have hpc0 : pc 0 = 0 := by decide
  obtain ⟨r, hr, ht⟩ := worst_tells l hv bs hb 8 0 hpos (by omega)
  have hk := firstMin_kept (cost l 0) (conts bs l.length 8 0)
  rw [atS_zero] at ht
  refine ⟨r, hr, ?_⟩
  unfold leastOf
  cases h : firstMin (cost l 0) (conts bs l.length 8 0) with
  | none =>
    rw [h] at hk
    have hk : conts bs l.length 8 0 = [] := hk
    have : ¬ r.2 = true := fun e => by
      obtain ⟨⟨o, ho, _⟩, _⟩ := ht.2 e
      rw [hk] at ho
      exact absurd ho (by simp)
    rw [if_neg this]
  | some ox =>
    obtain ⟨o, x⟩ := ox
    rw [h] at hk
    obtain ⟨h1, h2, h3⟩ := hk
    have hom := List.mem_of_find?_eq_some h1
    have hr2 : r.2 = true := by
      cases e : r.2
      · rw [ht.1 e] at hom
        exact absurd hom (by simp)
      · rfl
    obtain ⟨⟨p, hp, hpx⟩, hmin⟩ := ht.2 hr2
    have hx : r.1 = x := by
      have a1 := hmin o hom
      have a2 := h3 p hp
      omega
    rw [if_pos hr2, hx]
    have := go_first l hv bs hb x l.length 8 0 hpos (by omega) (by omega) [] o (by rw [atS_zero]; exact h1)
    rw [atS_zero] at this
    have hz : ((0 : Nat) : Int) = 0 := rfl
    rw [hz] at this
    rw [this, Option.bind_some, List.nil_append]
end Go.Proofs.Ytaboleeclpllpaa.M


namespace Go.Proofs.Ytaboleeclpllpaa.M
open Go.RowKit Go.Proofs.YtaboleeclpllpaaW.PrintWords Go.Proofs.YtaboleeclpllpaaW.PrintLast Go.Proofs.YtaboleeclpllpaaW.PrintMore Go.Proofs.Ytaboleeclpllpaa.P Go.Proofs.Ytaboleeclpllpaa.T
set_option linter.unusedVariables false
set_option linter.unusedSimpArgs false
def prOk (n : Nat) (p : S64) : Bool := decide (0 ≤ p.f0 ∧ p.f0 < (n : Int) ∧ 0 ≤ p.f1 ∧ p.f1 < (n : Int))
def befOk (n : Nat) (ps : List S64) : Bool := decide (ps.length ≤ 16) && ps.all (prOk n)
def masksFrom (acc : List Nat) (ps : List S64) : List Nat := ps.foldl (fun a p => a.set p.f1.toNat (put (a.getD p.f1.toNat 0) p.f0.toNat)) acc
def masks (n : Nat) (ps : List S64) : List Nat := masksFrom (List.replicate n 0) ps
def castL (a : List Nat) : List Int := a.map (fun x : Nat => (x : Int))
theorem rd_cast (a : List Nat) (i : Nat) : rd (castL a) (i : Int) = ((a.getD i 0 : Nat) : Int) := by
  unfold rd castL
  rw [Int.toNat_natCast, List.getD_eq_getElem?_getD, List.getD_eq_getElem?_getD, List.getElem?_map]
  cases a[i]? <;> rfl
theorem masksFrom_length : ∀ (ps : List S64) (acc : List Nat), (masksFrom acc ps).length = acc.length
  | [], _ => rfl
  | p :: ps, acc => by
    show (masksFrom (acc.set _ _) ps).length = _
    rw [masksFrom_length ps, List.length_set]
theorem getD_set_eq (a : List Nat) (i j v : Nat) (hi : i < a.length) : (a.set i v).getD j 0 = if j = i then v else a.getD j 0 := by
  rw [List.getD_eq_getElem?_getD, List.getD_eq_getElem?_getD, List.getElem?_set]
  by_cases h : i = j
  · subst h
    simp [hi]
  · rw [if_neg h, if_neg (fun e => h e.symm)]
def small (n : Nat) (a : List Nat) : Prop := ∀ i, a.getD i 0 < 2 ^ n
theorem small_set {n : Nat} (hn : n ≤ 8) {a : List Nat} (ha : small n a) {p : S64} (hp : prOk n p = true) (hl : a.length = n) : small n (a.set p.f1.toNat (put (a.getD p.f1.toNat 0) p.f0.toNat)) := by
  intro i
  unfold prOk at hp
  simp only [decide_eq_true_eq] at hp
  rw [getD_set_eq _ _ _ _ (by omega)]
  split
  · exact put_pow hn (by omega) (ha _)
  · exact ha i
theorem rd64 (l : List S64) (i : Nat) (h : i < l.length) : rd_T64 l (i : Int) = l[i] := by simp [rd_T64, List.getD_eq_getElem?_getD, List.getElem?_eq_getElem h]
theorem castL_set (a : List Nat) (i v : Nat) : (castL a).set i (v : Int) = castL (a.set i v) := by
  unfold castL
  rw [List.map_set]
theorem befores_loop (l : List S48) (hn : l.length ≤ 8) (ps : List S64) (hps : ps.length ≤ 9223372036854775807) : ∀ (d i : Nat) (acc : List Nat), i + d = ps.length → acc.length = l.length → small l.length acc →
    Ev (fun k => dates_jobs_befores.l0 k l (castL acc) ps (ps.length : Int) (i : Int)) (if (ps.drop i).all (prOk l.length) = true then (castL (masksFrom acc (ps.drop i)), true) else ([], false)) := by
  intro d
  induction d with
  | zero =>
    intro i acc hi hl hs
    refine Ev.step (f := fun _ => some (castL acc, true)) (fun k => ?_) ?_
    · simp only [dates_jobs_befores.l0]
      rw [if_neg (by omega)]
    · rw [show i = ps.length by omega, List.drop_length]
      exact Ev.now _
  | succ d ih =>
    intro i acc hi hl hs
    have hlt : i < ps.length := by omega
    have h8 := pow8 hn
    rw [List.drop_eq_getElem_cons hlt, List.all_cons]
    obtain ⟨p, hp⟩ : ∃ p, p = ps[i] := ⟨_, rfl⟩
    rw [← hp]
    have hw : wrap64 ((l.length : Int) - 1) = (l.length : Int) - 1 := w64 (by omega) (by omega)
    have hb1 := between_f (mn p.f0 p.f1) 0 ((l.length : Int) - 1)
    have hb2 := between_f (mx p.f0 p.f1) 0 ((l.length : Int) - 1)
    have hiff : prOk l.length p = true ↔ decide (0 ≤ mn p.f0 p.f1 ∧ mn p.f0 p.f1 ≤ (l.length : Int) - 1) = true ∧ decide (0 ≤ mx p.f0 p.f1 ∧ mx p.f0 p.f1 ≤ (l.length : Int) - 1) = true := by
      unfold prOk
      rw [mn_min, mx_max]
      simp only [decide_eq_true_eq]
      omega
    by_cases c : prOk l.length p = true
    · obtain ⟨c1, c2⟩ := hiff.1 c
      have hpp := c
      unfold prOk at hpp
      simp only [decide_eq_true_eq] at hpp
      rw [c, Bool.true_and]
      refine Ev.step (fun k => ?_) (ih (i + 1) (acc.set p.f1.toNat (put (acc.getD p.f1.toNat 0) p.f0.toNat)) (by omega) (by rw [List.length_set]; exact hl) (small_set hn hs c hl))
      simp only [dates_jobs_befores.l0]
      have hcl : ((castL acc).length : Int) = (l.length : Int) := by unfold castL; rw [List.length_map, hl]
      have hor : Go.bits .or .i64 (rd (castL acc) p.f1) (shl .i64 1 p.f0) = ((put (acc.getD p.f1.toNat 0) p.f0.toNat : Nat) : Int) := by
        obtain ⟨u, hu⟩ := Int.eq_ofNat_of_zero_le hpp.2.2.1
        obtain ⟨v, hv⟩ := Int.eq_ofNat_of_zero_le hpp.1
        rw [hu, hv, rd_cast, or_put (by have := hs u; omega) (by omega), Int.toNat_natCast, Int.toNat_natCast]
      rw [if_pos (by omega), if_pos (by omega), if_pos (by omega), rd64 ps i hlt, ← hp, hw, hb1, Option.bind_some, if_pos c1, hb2, Option.bind_some, if_pos c2, if_pos (by omega), if_pos (by omega), if_pos (by omega), w64s i ps.length hlt hps, hor, castL_set]
    · rw [show prOk l.length p = false by simpa using c, Bool.false_and, if_neg (by simp)]
      refine Ev.step (f := fun _ => some ([], false)) (fun k => ?_) (Ev.now _)
      simp only [dates_jobs_befores.l0]
      rw [if_pos (by omega), if_pos (by omega), if_pos (by omega), rd64 ps i hlt, ← hp, hw, hb1, Option.bind_some, hb2]
      by_cases c1 : decide (0 ≤ mn p.f0 p.f1 ∧ mn p.f0 p.f1 ≤ (l.length : Int) - 1) = true
      · rw [if_pos c1, Option.bind_some, if_neg (fun c2 => c (hiff.2 ⟨c1, c2⟩))]
      · rw [if_neg c1]
theorem befores_f (l : List S48) (hn : l.length ≤ 8) (ps : List S64) (hps : ps.length ≤ 9223372036854775807) : Ev (fun k => dates_jobs_befores.f k l ps) (if befOk l.length ps = true then (castL (masks l.length ps), true) else ([], false)) := by
  unfold dates_jobs_befores.f
  simp only [if_pos (show (0 : Int) ≤ (l.length : Int) by omega), if_pos (show ((l.length : Int)).toNat ≤ 35184372088832 by omega)]
  by_cases c : (ps.length : Int) > 16
  · simp only [if_pos c]
    unfold befOk
    rw [show decide (ps.length ≤ 16) = false by simp; omega, Bool.false_and, if_neg (by simp)]
    exact Ev.now _
  · simp only [if_neg c]
    have h := befores_loop l hn ps hps ps.length 0 (List.replicate l.length 0) (by omega) (by simp) (fun i => by
      rw [List.getD_eq_getElem?_getD, List.getElem?_replicate]
      have := Nat.two_pow_pos l.length
      split <;> simpa using this)
    rw [List.drop_zero] at h
    have e : castL (List.replicate l.length 0) = List.replicate ((l.length : Int)).toNat 0 := by
      unfold castL
      rw [List.map_replicate, Int.toNat_natCast]
      rfl
    rw [e] at h
    unfold befOk masks
    rw [show decide (ps.length ≤ 16) = true by simp; omega, Bool.true_and]
    exact h
theorem masks_length (n : Nat) (ps : List S64) : (castL (masks n ps)).length = n := by
  unfold castL masks
  rw [List.length_map, masksFrom_length, List.length_replicate]
theorem Least_f (l : List S48) (hl : l.length ≤ 9223372036854775807) (ps : List S64) (hps : ps.length ≤ 9223372036854775807) : Ev (fun k => dates_Least.f k l ps) (if (valid48 l && befOk l.length ps) = true then leastOf l (castL (masks l.length ps)) else ([], 0, 2)) := by
  unfold dates_Least.f
  refine Ev.bind (valid_f l hl) ?_
  cases hv : valid48 l with
  | false =>
    simp only [Bool.false_eq_true, if_false, Bool.false_and]
    exact Ev.now _
  | true =>
    have hlen := valid_len hv
    simp only [if_true, Bool.true_and]
    refine Ev.bind (befores_f l hlen.2 ps hps) ?_
    by_cases c : befOk l.length ps = true
    · simp only [if_pos c, if_true, if_pos hlen.2]
      obtain ⟨r, hr, hs⟩ := least_sem l hv (castL (masks l.length ps)) (masks_length _ _)
      simp only [hr, Option.bind_some, hs]
      exact Ev.now _
    · simp only [if_neg c, Bool.false_eq_true, if_false]
      exact Ev.now _
end Go.Proofs.Ytaboleeclpllpaa.M


namespace Go.Proofs.Ytaboleeclpllpaa.M
open Go.RowKit Go.Proofs.YtaboleeclpllpaaW.PrintWords Go.Proofs.YtaboleeclpllpaaW.PrintLast Go.Proofs.YtaboleeclpllpaaW.PrintMore Go.Proofs.Ytaboleeclpllpaa.P Go.Proofs.Ytaboleeclpllpaa.T
set_option linter.unusedVariables false
set_option linter.unusedSimpArgs false
end Go.Proofs.Ytaboleeclpllpaa.M


namespace Go.Proofs.Ytaboleeclpllpaa.M
open Go.RowKit Go.Proofs.YtaboleeclpllpaaW.PrintWords Go.Proofs.YtaboleeclpllpaaW.PrintLast Go.Proofs.YtaboleeclpllpaaW.PrintMore Go.Proofs.Ytaboleeclpllpaa.P Go.Proofs.Ytaboleeclpllpaa.T
set_option linter.unusedVariables false
set_option linter.unusedSimpArgs false
end Go.Proofs.Ytaboleeclpllpaa.M


namespace Go.Proofs.Ytaboleeclpllpaa.M
open Go.RowKit Go.Proofs.YtaboleeclpllpaaW.PrintWords Go.Proofs.YtaboleeclpllpaaW.PrintLast Go.Proofs.YtaboleeclpllpaaW.PrintMore Go.Proofs.Ytaboleeclpllpaa.P Go.Proofs.Ytaboleeclpllpaa.T
set_option linter.unusedVariables false
set_option linter.unusedSimpArgs false
def after (q : Option Pc) (x : Pc) : Prop := match q with
  | none => True
  | some y => y.f2 ≤ x.f1 ∧ ¬ (y.f2 = x.f1 ∧ y.f0 = x.f0)
instance (q : Option Pc) (x : Pc) : Decidable (after q x) := by unfold after; split <;> infer_instance
theorem sum_stretch {a b : Int} (ha : 0 ≤ a) (hab : a ≤ b) : ∀ H : Nat, sumN H (fun s => one (a ≤ (s : Int) ∧ (s : Int) < b)) = max 0 (min (H : Int) b - a) := by
  intro H
  induction H with
  | zero => simp [sumN]; omega
  | succ H ih =>
    simp only [sumN]
    rw [ih]
    by_cases h : a ≤ (H : Int) ∧ (H : Int) < b
    · rw [one_pos h]; omega
    · rw [one_neg h]; omega
end Go.Proofs.Ytaboleeclpllpaa.M


namespace Go.Proofs.Ytaboleeclpllpaa.T
set_option linter.unusedVariables false
set_option linter.unusedSimpArgs false
section
variable {n : Nat} {tim rel : Nat → Int} {u : Nat → Option Nat} {C : Nat → Int} {H : Nat}
theorem Sched.unborn (h : Sched n tim rel u C H) {j a : Nat} (hj : j < n) (ha : a ≤ H) (hr : (a : Int) ≤ rel j) : cnt u j a = 0 := by
  have : cnt u j a = cnt u j 0 := cnt_still (by omega) (fun s _ hs he => by
    have := (h.job s j (by omega) he).2
    omega)
  rw [this]
  rfl
def leftAt (tim rel : Nat → Int) (u : Nat → Option Nat) (a b : Nat) (j : Nat) : Int := if rel j ≤ (a : Int) then tim j - cnt u j b else 0
theorem leftAt_nn (h : Sched n tim rel u C H) {a b j : Nat} (hj : j < n) (hb : b ≤ H) : 0 ≤ leftAt tim rel u a b j := by
  unfold leftAt
  split
  · have := h.le hj b hb
    omega
  · omega
theorem Sched.count (h : Sched n tim rel u C H) (ht : ∀ j, j < n → 0 < tim j) {a : Nat} (ha : a ≤ H) : sumN n (fun j => one ((a : Int) < C j)) = size n (fun j => 0 < leftAt tim rel u a a j) + sumN n (fun j => one (¬ rel j ≤ (a : Int))) := by
  unfold size
  rw [← sumN_add]
  refine sumN_congr (fun j hj => ?_)
  have hu := h.unfinished hj ha
  show one ((a : Int) < C j) = one (0 < leftAt tim rel u a a j) + one (¬ rel j ≤ (a : Int))
  unfold leftAt
  by_cases hr : rel j ≤ (a : Int)
  · rw [if_pos hr, one_neg (show ¬ ¬ rel j ≤ (a : Int) from fun h => h hr)]
    by_cases hc : cnt u j a < tim j
    · rw [one_pos (hu.1 hc), one_pos (by omega)]; rfl
    · rw [one_neg (fun h => hc (hu.2 h)), one_neg (by omega)]; rfl
  · have h0 := h.unborn hj ha (by omega)
    have := ht j hj
    rw [if_neg hr, one_pos hr, one_pos (hu.1 (by omega)), one_neg (show ¬ (0 : Int) < 0 by omega)]
    rfl
theorem Sched.total (h : Sched n tim rel u C H) : sumN n C = sumN H (fun a => sumN n (fun j => one ((a : Int) < C j))) := by
  rw [← sumN_swap]
  refine sumN_congr (fun j hj => ?_)
  have hb := h.end_le hj
  have := Go.Proofs.Ytaboleeclpllpaa.M.sum_stretch (a := 0) (b := C j) (by omega) (by omega) H
  have e : sumN H (fun s => one (0 ≤ (s : Int) ∧ (s : Int) < C j)) = sumN H (fun s => one ((s : Int) < C j)) := sumN_congr (fun s _ => by
    by_cases hc : (s : Int) < C j
    · rw [one_pos hc, one_pos ⟨by omega, hc⟩]
    · rw [one_neg hc, one_neg (fun h => hc h.2)])
  rw [e] at this
  omega
end
theorem below_congr {n : Nat} {x y x' y' : Nat → Int} (h : Below' n x y) (hx : ∀ i, i < n → x' i = x i) (hy : ∀ i, i < n → y' i = y i) : Below' n x' y' := by
  intro S
  obtain ⟨S', h1, h2⟩ := h S
  refine ⟨S', h1, ?_⟩
  have e1 : outside n (fun i => S' i = true) x' = outside n (fun i => S' i = true) x := sumN_congr (fun i hi => by rw [hx i hi])
  have e2 : outside n (fun i => S i = true) y' = outside n (fun i => S i = true) y := sumN_congr (fun i hi => by rw [hy i hi])
  omega
theorem below_arrivals {n : Nat} {x y : Nat → Int} (N : Nat → Prop) [DecidablePred N] (p : Nat → Int) (hp : ∀ i, i < n → 0 ≤ p i) (hx : ∀ i, i < n → N i → x i = 0) (hy : ∀ i, i < n → N i → y i = 0) (h : Below' n x y) :
    ∀ m : Nat, m ≤ n → Below' n (fun i => if i < m ∧ N i then p i else x i) (fun i => if i < m ∧ N i then p i else y i)
  | 0, _ => below_congr h (fun i _ => by rw [if_neg (by omega)]) (fun i _ => by rw [if_neg (by omega)])
  | m + 1, hm => by
    have ih := below_arrivals N p hp hx hy h m (by omega)
    by_cases hN : N m
    · have h1 := below_arrive ih (z := m) (by omega) (hp m (by omega)) (by
        show (if m < m ∧ N m then p m else x m) = 0
        rw [if_neg (by omega)]
        exact hx m (by omega) hN) (by
        show (if m < m ∧ N m then p m else y m) = 0
        rw [if_neg (by omega)]
        exact hy m (by omega) hN)
      refine below_congr h1 (fun i _ => ?_) (fun i _ => ?_)
      · by_cases him : i = m
        · subst him
          rw [if_pos ⟨by omega, hN⟩]
          simp
        · simp only [if_neg him]
          by_cases hc : i < m ∧ N i
          · rw [if_pos hc, if_pos ⟨by omega, hc.2⟩]
          · rw [if_neg hc, if_neg (fun h => hc ⟨by omega, h.2⟩)]
      · by_cases him : i = m
        · subst him
          rw [if_pos ⟨by omega, hN⟩]
          simp
        · simp only [if_neg him]
          by_cases hc : i < m ∧ N i
          · rw [if_pos hc, if_pos ⟨by omega, hc.2⟩]
          · rw [if_neg hc, if_neg (fun h => hc ⟨by omega, h.2⟩)]
    · refine below_congr ih (fun i _ => ?_) (fun i _ => ?_)
      · by_cases hc : i < m ∧ N i
        · rw [if_pos hc, if_pos ⟨by omega, hc.2⟩]
        · rw [if_neg hc, if_neg (fun h => hc ⟨by
            by_cases him : i = m
            · subst him; exact absurd h.2 hN
            · omega, h.2⟩)]
      · by_cases hc : i < m ∧ N i
        · rw [if_pos hc, if_pos ⟨by omega, hc.2⟩]
        · rw [if_neg hc, if_neg (fun h => hc ⟨by
            by_cases him : i = m
            · subst him; exact absurd h.2 hN
            · omega, h.2⟩)]
section
variable {n : Nat} {tim rel : Nat → Int} {u v : Nat → Option Nat} {C D : Nat → Int} {H : Nat}
theorem srpt_below (hu : Sched n tim rel u C H) (hv : Sched n tim rel v D H) (ht : ∀ j, j < n → 0 < tim j)
    (srpt : ∀ a i, a < H → i < n → rel i ≤ a → cnt u i a < tim i → ∃ j, u a = some j ∧ tim j - cnt u j a ≤ tim i - cnt u i a) : ∀ a : Nat, a ≤ H → Below' n (leftAt tim rel u a a) (leftAt tim rel v a a) := by
  intro a
  induction a with
  | zero =>
    intro _
    refine below_congr (Below'.refl n (leftAt tim rel u 0 0)) (fun i _ => rfl) (fun i _ => ?_)
    unfold leftAt
    have h1 : cnt u i 0 = 0 := rfl
    have h2 : cnt v i 0 = 0 := rfl
    rw [h1, h2]
  | succ a ih =>
    intro ha
    have h0 := ih (by omega)
    have hw : Below' n (leftAt tim rel u a (a + 1)) (leftAt tim rel v a (a + 1)) := by
      refine below_work h0 (fun i hi => leftAt_nn hu hi (by omega)) (fun i hi => leftAt_nn hv hi (by omega)) ?_ ?_
      · cases hua : u a with
        | none =>
          left
          refine ⟨fun i hi => ?_, fun i hi => ?_⟩
          · unfold leftAt
            by_cases hr : rel i ≤ (a : Int)
            · rw [if_pos hr]
              by_cases hc : cnt u i a < tim i
              · obtain ⟨j, hj, _⟩ := srpt a i (by omega) hi hr hc
                rw [hua] at hj
                cases hj
              · have := hu.le hi a (by omega)
                omega
            · rw [if_neg hr]
          · unfold leftAt
            rw [cnt_succ, hua, one_neg (by simp)]
            split <;> omega
        | some w =>
          right
          have hjob := hu.job a w (by omega) hua
          have hopen := hu.open hjob.1 (Nat.le_refl a) (by omega) hua
          refine ⟨w, hjob.1, ?_, fun i hi hpos => ?_, fun i hi => ?_⟩
          · unfold leftAt
            rw [if_pos hjob.2]
            omega
          · unfold leftAt at hpos ⊢
            rw [if_pos hjob.2]
            by_cases hr : rel i ≤ (a : Int)
            · rw [if_pos hr] at hpos ⊢
              obtain ⟨j, hj, hle⟩ := srpt a i (by omega) hi hr (by omega)
              rw [hua] at hj
              cases hj
              exact hle
            · rw [if_neg hr] at hpos
              omega
          · unfold leftAt
            rw [cnt_succ, hua]
            by_cases hiw : i = w
            · subst hiw
              rw [if_pos hjob.2, if_pos rfl, one_pos rfl]
              simp only [if_pos hjob.2]
              omega
            · rw [if_neg hiw, one_neg (fun e => hiw (Option.some.inj e).symm)]
              split <;> omega
      · cases hva : v a with
        | none =>
          left
          intro i hi
          unfold leftAt
          rw [cnt_succ, hva, one_neg (by simp)]
          split <;> omega
        | some w =>
          right
          have hjob := hv.job a w (by omega) hva
          have hopen := hv.open hjob.1 (Nat.le_refl a) (by omega) hva
          refine ⟨w, hjob.1, ?_, fun i hi => ?_⟩
          · unfold leftAt
            rw [if_pos hjob.2]
            omega
          · unfold leftAt
            rw [cnt_succ, hva]
            by_cases hiw : i = w
            · subst hiw
              rw [if_pos hjob.2, if_pos rfl, one_pos rfl]
              simp only [if_pos hjob.2]
              omega
            · rw [if_neg hiw, one_neg (fun e => hiw (Option.some.inj e).symm)]
              split <;> omega
    have harr := below_arrivals (fun i => rel i ≤ ((a + 1 : Nat) : Int) ∧ ¬ rel i ≤ (a : Int)) tim (fun i hi => by have := ht i hi; omega) (fun i _ hN => by unfold leftAt; rw [if_neg hN.2]) (fun i _ hN => by unfold leftAt; rw [if_neg hN.2]) hw n (Nat.le_refl n)
    refine below_congr harr (fun i hi => ?_) (fun i hi => ?_)
    · unfold leftAt
      by_cases h1 : rel i ≤ (a : Int)
      · have n1 : ¬ (i < n ∧ (rel i ≤ ((a + 1 : Nat) : Int) ∧ ¬ rel i ≤ (a : Int))) := fun h => h.2.2 h1
        have n2 : rel i ≤ ((a + 1 : Nat) : Int) := by omega
        rw [if_pos n2, if_neg n1, if_pos h1]
      · by_cases h2 : rel i ≤ ((a + 1 : Nat) : Int)
        · have n1 : i < n ∧ (rel i ≤ ((a + 1 : Nat) : Int) ∧ ¬ rel i ≤ (a : Int)) := ⟨hi, h2, h1⟩
          rw [if_pos h2, if_pos n1, hu.unborn hi ha (by omega)]
          omega
        · have n1 : ¬ (i < n ∧ (rel i ≤ ((a + 1 : Nat) : Int) ∧ ¬ rel i ≤ (a : Int))) := fun h => h2 h.2.1
          rw [if_neg h2, if_neg n1, if_neg h1]
    · unfold leftAt
      by_cases h1 : rel i ≤ (a : Int)
      · have n1 : ¬ (i < n ∧ (rel i ≤ ((a + 1 : Nat) : Int) ∧ ¬ rel i ≤ (a : Int))) := fun h => h.2.2 h1
        have n2 : rel i ≤ ((a + 1 : Nat) : Int) := by omega
        rw [if_pos n2, if_neg n1, if_pos h1]
      · by_cases h2 : rel i ≤ ((a + 1 : Nat) : Int)
        · have n1 : i < n ∧ (rel i ≤ ((a + 1 : Nat) : Int) ∧ ¬ rel i ≤ (a : Int)) := ⟨hi, h2, h1⟩
          rw [if_pos h2, if_pos n1, hv.unborn hi ha (by omega)]
          omega
        · have n1 : ¬ (i < n ∧ (rel i ≤ ((a + 1 : Nat) : Int) ∧ ¬ rel i ≤ (a : Int))) := fun h => h2 h.2.1
          rw [if_neg h2, if_neg n1, if_neg h1]
theorem srpt_least (hu : Sched n tim rel u C H) (hv : Sched n tim rel v D H) (ht : ∀ j, j < n → 0 < tim j)
    (srpt : ∀ a i, a < H → i < n → rel i ≤ a → cnt u i a < tim i → ∃ j, u a = some j ∧ tim j - cnt u j a ≤ tim i - cnt u i a) : sumN n C ≤ sumN n D := by
  rw [hu.total, hv.total]
  refine sumN_le (fun a ha => ?_)
  rw [hu.count ht (by omega), hv.count ht (by omega)]
  have := below_count (srpt_below hu hv ht srpt a (by omega)) (fun i hi => leftAt_nn hu hi (by omega)) (fun i hi => leftAt_nn hv hi (by omega))
  omega
end
end Go.Proofs.Ytaboleeclpllpaa.T
namespace Go.Proofs.Ytaboleeclpllpaa.M
open Go.RowKit Go.Proofs.YtaboleeclpllpaaW.PrintWords Go.Proofs.YtaboleeclpllpaaW.PrintLast Go.Proofs.YtaboleeclpllpaaW.PrintMore Go.Proofs.Ytaboleeclpllpaa.P Go.Proofs.Ytaboleeclpllpaa.T
set_option linter.unusedVariables false
set_option linter.unusedSimpArgs false
theorem plan_srpt (l : List S48) : ∀ a i : Nat, i < l.length → relf l i ≤ a → cnt (unitOf true l) i a < timf l i → ∃ j, unitOf true l a = some j ∧ timf l j - cnt (unitOf true l) j a ≤ timf l i - cnt (unitOf true l) i a := by
  intro a i hi hr hc
  have h := stt_tm true l i a
  obtain ⟨j, hj, hle⟩ := pickN_least (short := true) (l := l) (t := (stt true l a).1) (a := a) hi ⟨hr, by omega⟩
  rw [if_pos rfl, h, stt_tm true l j a] at hle
  exact ⟨j, hj, hle⟩
theorem short_best {l : List S48} (hv : valid48 l = true) {u : Nat → Option Nat} {D : Nat → Int} {H : Nat} (hH : 300 ≤ H) (h : Sched l.length (timf l) (relf l) u D H) : sumN l.length (endf l (planOf true l)) ≤ sumN l.length D :=
  srpt_least (plan_sched hv true hH) h (fun j hj => (valid_jb hv hj).1) (fun a i _ hi hr hc => plan_srpt l a i hi hr hc)
theorem sumN_shift (f : Nat → Int) : ∀ n : Nat, sumN (n + 1) f = f 0 + sumN n (fun i => f (i + 1))
  | 0 => by simp [sumN]
  | n + 1 => by
    have := sumN_shift f n
    simp only [sumN] at this ⊢
    omega
theorem total_sumN : ∀ e : List Int, total e = sumN e.length (tm e)
  | [] => rfl
  | x :: xs => by
    rw [total_cons, total_sumN xs, List.length_cons, sumN_shift]
    rfl
theorem ends_total (l : List S48) (p : List Pc) : total (endsOf l.length p) = sumN l.length (endf l p) := by
  rw [total_sumN, endsOf_length]
  rfl
end Go.Proofs.Ytaboleeclpllpaa.M


namespace Go.Proofs.Ytaboleeclpllpaa.M
open Go.RowKit Go.Proofs.YtaboleeclpllpaaW.PrintWords Go.Proofs.YtaboleeclpllpaaW.PrintLast Go.Proofs.YtaboleeclpllpaaW.PrintMore Go.Proofs.Ytaboleeclpllpaa.P Go.Proofs.Ytaboleeclpllpaa.T
set_option linter.unusedVariables false
set_option linter.unusedSimpArgs false
theorem cnt_last {u : Nat → Option Nat} {z : Nat} : ∀ a : Nat, 0 < cnt u z a → ∃ s, s < a ∧ u s = some z ∧ ∀ t, s < t → t < a → u t ≠ some z
  | 0, h => absurd h (by simp [cnt, sumN])
  | a + 1, h => by
    by_cases c : u a = some z
    · exact ⟨a, by omega, c, fun t h1 h2 => by omega⟩
    · rw [cnt_succ, one_neg c] at h
      obtain ⟨s, h1, h2, h3⟩ := cnt_last (u := u) (z := z) a (by omega)
      refine ⟨s, by omega, h2, fun t h4 h5 => ?_⟩
      by_cases e : t = a
      · rw [e]; exact c
      · exact h3 t h4 (by omega)
theorem sched_trim {n : Nat} {tim tim' rel : Nat → Int} {u : Nat → Option Nat} {C : Nat → Int} {H : Nat} (h : Sched n tim' rel u C H) {z : Nat} (hz : z < n) (h1 : tim' z = tim z + 1) (h2 : ∀ j, j < n → j ≠ z → tim' j = tim j) (h3 : 1 ≤ tim z) :
    ∃ u' C', Sched n tim rel u' C' H ∧ (∀ j, j < n → C' j ≤ C j) ∧ C' z + 1 ≤ C z := by
  obtain ⟨e, he, hC, hue, hl⟩ := h.last z hz
  let u' : Nat → Option Nat := fun s => if s = e then none else u s
  have hu' : ∀ s j, u' s = some j → s ≠ e ∧ u s = some j := by
    intro s j hs
    by_cases c : s = e
    · have : u' s = none := if_pos c
      rw [this] at hs
      exact absurd hs (by simp)
    · have : u' s = u s := if_neg c
      rw [this] at hs
      exact ⟨c, hs⟩
  have hu2 : ∀ s, s ≠ e → u' s = u s := fun s hs => if_neg hs
  have hcnt : ∀ j, j ≠ z → ∀ a, cnt u' j a = cnt u j a := by
    intro j hj a
    refine sumN_congr (fun s _ => ?_)
    by_cases c : s = e
    · have e1 : ¬ u' s = some j := fun q => (hu' s j q).1 c
      have e2 : ¬ u s = some j := by rw [c, hue]; intro q; exact hj (Option.some.inj q).symm
      rw [one_neg e1, one_neg e2]
    · rw [hu2 s c]
  have hcz : ∀ a, a ≤ e → cnt u' z a = cnt u z a := fun a ha => sumN_congr (fun s hs => by rw [hu2 s (by omega)])
  have hfz : cnt u z e = tim z := by
    have e1 := h.full z hz
    have e2 : cnt u z H = cnt u z (e + 1) := cnt_still (by omega) (fun s h4 h5 => hl s (by omega) h5)
    have e3 := cnt_succ u z e
    rw [one_pos hue] at e3
    omega
  obtain ⟨f, hf1, hf2, hf3⟩ := cnt_last (u := u) (z := z) e (by omega)
  have hCz : C z = (e : Int) + 1 := hC
  refine ⟨u', fun j => if j = z then (f : Int) + 1 else C j, ⟨?_, ?_, ?_⟩, ?_, ?_⟩
  · intro a j ha hua
    exact h.job a j ha (hu' a j hua).2
  · intro j hj
    by_cases c : j = z
    · rw [c]
      have e2 : cnt u' z H = cnt u' z e := cnt_still (by omega) (fun s h4 h5 q => by
        obtain ⟨q1, q2⟩ := hu' s z q
        exact hl s (by omega) h5 q2)
      rw [e2, hcz e (Nat.le_refl _), hfz]
    · rw [hcnt j c, h.full j hj, h2 j hj c]
  · intro j hj
    by_cases c : j = z
    · refine ⟨f, by omega, by rw [if_pos c], by rw [hu2 f (by omega), c]; exact hf2, fun s h4 h5 q => ?_⟩
      rw [c] at q
      obtain ⟨q1, q2⟩ := hu' s z q
      by_cases c2 : s < e
      · exact hf3 s h4 c2 q2
      · exact hl s (by omega) h5 q2
    · obtain ⟨a, ha, hCa, hua, hla⟩ := h.last j hj
      refine ⟨a, ha, by rw [if_neg c]; exact hCa, ?_, fun s h4 h5 q => hla s h4 h5 (hu' s j q).2⟩
      rw [hu2 a (fun q => by rw [q, hue] at hua; exact c (Option.some.inj hua).symm)]
      exact hua
  · intro j hj
    by_cases c : j = z
    · simp only [if_pos c]
      rw [c, hCz]
      omega
    · simp only [if_neg c]
      exact Int.le_refl _
  · simp only [if_true]
    rw [hCz]
    omega
structure Slow (l x : List S48) (z : Nat) : Prop where
  len : x.length = l.length
  at_ : z < l.length
  up : timf x z = timf l z + 1
  keep : ∀ j, j ≠ z → timf x j = timf l j
  rel : ∀ j, relf x j = relf l j
  due : ∀ j, duef x j = duef l j
theorem Slow.le {l x : List S48} {z : Nat} (h : Slow l x z) (j : Nat) : timf l j ≤ timf x j := by
  by_cases c : j = z
  · rw [c, h.up]; omega
  · rw [h.keep j c]; exact Int.le_refl _
theorem slow_plan {l x : List S48} {z : Nat} (h : Slow l x z) (hl : valid48 l = true) (hx : valid48 x = true) (short : Bool) : ∃ u' C', Sched l.length (timf l) (relf l) u' C' 300 ∧ (∀ j, j < l.length → C' j ≤ endf x (planOf short x) j) ∧ C' z + 1 ≤ endf x (planOf short x) z := by
  have hs := plan_sched hx short (Nat.le_refl 300)
  rw [h.len, show relf x = relf l from funext h.rel] at hs
  have hj := valid_jb hl h.at_
  exact sched_trim hs h.at_ h.up (fun j _ hne => h.keep j hne) hj.1
theorem slow_delay {l x : List S48} {z : Nat} (h : Slow l x z) (hl : valid48 l = true) (hx : valid48 x = true) : delayOf l ≤ delayOf x := by
  obtain ⟨u, C, hs, hC, _⟩ := slow_plan h hl hx false
  refine plan_best hl hs (fun i hi => ?_)
  have hlow : -1073741824 ≤ delayOf x := by
    obtain ⟨j, hj, he⟩ := delay_at hx
    have h1 := plan_ends_bound (l := x) false
    have h2 := endsB_tm h1 j
    have h3 := valid_jb hx hj
    have h4 : 0 ≤ endf x (planOf false x) j := h2.1
    rw [he]
    unfold duef
    omega
  have h1 := (delay_le (l := x) hlow).1 (Int.le_refl _) i (by rw [h.len]; exact hi)
  have h2 := hC i hi
  rw [h.due i] at h1
  omega
theorem slow_short {l x : List S48} {z : Nat} (h : Slow l x z) (hl : valid48 l = true) (hx : valid48 x = true) : total (endsOf l.length (planOf true l)) + 1 ≤ total (endsOf x.length (planOf true x)) := by
  obtain ⟨u, C, hs, hC, hz⟩ := slow_plan h hl hx true
  rw [ends_total, ends_total]
  have h1 := short_best hl (Nat.le_refl 300) hs
  have h2 : sumN l.length C + 1 ≤ sumN l.length (endf x (planOf true x)) := by
    have e1 := sumN_at (f := endf x (planOf true x)) (g := fun i => if i = z then C z else endf x (planOf true x) i) z h.at_ (fun i _ hne => by rw [if_neg hne])
    simp only [if_true] at e1
    have e2 : sumN l.length C ≤ sumN l.length (fun i => if i = z then C z else endf x (planOf true x) i) := sumN_le (fun i hi => by
      by_cases c : i = z
      · rw [if_pos c, c]; exact Int.le_refl _
      · rw [if_neg c]; exact hC i hi)
    omega
  rw [h.len]
  omega
theorem slow_cost {l x : List S48} {z : Nat} (h : Slow l x z) : ∀ (o : List Nat) (a b : Int), a ≤ b → cost l a o ≤ cost x b o
  | [], _, _, _ => Int.le_refl _
  | i :: o, a, b, hab => by
    have h1 := h.le i
    have h2 := h.due i
    have ih := slow_cost h o (a + timf l i) (b + timf x i) (by omega)
    rw [cost, cost]
    unfold mx
    split <;> split <;> omega
theorem not_full {n s : Nat} (hs : s < 2 ^ n) (h : s ≠ 2 ^ n - 1) : ∃ i, i < n ∧ s.testBit i = false := by
  by_cases c : ∃ i, i < n ∧ s.testBit i = false
  · exact c
  · exfalso
    apply h
    apply Nat.eq_of_testBit_eq
    intro i
    rw [Nat.testBit_two_pow_sub_one]
    by_cases hi : i < n
    · cases e : s.testBit i
      · exact absurd ⟨i, hi, e⟩ c
      · simp [hi]
    · rw [Nat.testBit_lt_two_pow (Nat.lt_of_lt_of_le hs (Nat.pow_le_pow_right (n := 2) (by omega) (by omega)))]
      simp [hi]
theorem masks_nil (n i : Nat) : rd (castL (masks n [])) (i : Int) = 0 := by
  rw [rd_cast]
  unfold masks masksFrom
  rw [List.foldl_nil, List.getD_eq_getElem?_getD, List.getElem?_replicate]
  split <;> rfl
theorem free_nil (n s i : Nat) (hs : s < 256) : free (castL (masks n [])) s i = !s.testBit i := by
  unfold free
  rw [masks_nil]
  have : Go.bits .andNot .i64 0 (s : Int) = 0 := by
    have h1 : ∀ s : Fin 256, Go.bits .andNot .i64 0 ((s : Nat) : Int) = 0 := by decide +kernel
    exact h1 ⟨s, hs⟩
  rw [this]
  simp
theorem conts_nil {n : Nat} (hn : n ≤ 8) : ∀ (m s : Nat), s < 2 ^ n → n ≤ pc s + m → conts (castL (masks n [])) n m s ≠ [] := by
  have h8 := pow8 hn
  intro m
  induction m with
  | zero =>
    intro s hs hm
    have h0 : ∀ n : Fin 9, ∀ s : Fin 256, (s : Nat) < 2 ^ (n : Nat) → pc s ≤ n := by decide +kernel
    have h1 := h0 ⟨n, by omega⟩ ⟨s, by omega⟩ hs
    simp only at h1
    rw [conts, if_pos ((full_pc hn hs).1 (by omega))]
    simp
  | succ m ih =>
    intro s hs hm
    rw [conts]
    split
    · simp
    · rename_i hf
      obtain ⟨i, hi, hb⟩ := not_full hs hf
      intro he
      rw [List.flatMap_eq_nil_iff] at he
      have h1 := he i (List.mem_range.2 hi)
      rw [if_pos (by rw [free_nil n s i (by omega), hb]; rfl)] at h1
      rw [List.map_eq_nil_iff] at h1
      exact ih (put s i) (put_pow hn hi hs) (by rw [put_pc (by omega) (by omega), hb]; simp; omega) h1
theorem least_nil (l : List S48) (hv : valid48 l = true) : ∃ (o : List Nat) (v : Int), leastOf l (castL (masks l.length [])) = (o.map (fun i : Nat => (i : Int)), v, 0) ∧ o ∈ conts (castL (masks l.length [])) l.length 8 0 ∧ cost l 0 o = v ∧ ∀ q, q ∈ conts (castL (masks l.length [])) l.length 8 0 → v ≤ cost l 0 q := by
  have hlen := valid_len hv
  have hk := firstMin_kept (cost l 0) (conts (castL (masks l.length [])) l.length 8 0)
  unfold leastOf
  cases h : firstMin (cost l 0) (conts (castL (masks l.length [])) l.length 8 0) with
  | none =>
    rw [h] at hk
    exact absurd hk (conts_nil hlen.2 8 0 (Nat.two_pow_pos _) (by omega))
  | some ox =>
    obtain ⟨o, x⟩ := ox
    rw [h] at hk
    exact ⟨o, x, rfl, List.mem_of_find?_eq_some hk.1, hk.2.1, hk.2.2⟩
theorem slow_least {l x : List S48} {z : Nat} (h : Slow l x z) (hl : valid48 l = true) (hx : valid48 x = true) : (leastOf l (castL (masks l.length []))).2.1 ≤ (leastOf x (castL (masks x.length []))).2.1 ∧ (leastOf l (castL (masks l.length []))).2.2 = 0 ∧ (leastOf x (castL (masks x.length []))).2.2 = 0 := by
  obtain ⟨o, v, h1, h2, h3, h4⟩ := least_nil l hl
  obtain ⟨p, w, k1, k2, k3, k4⟩ := least_nil x hx
  rw [h1, k1]
  refine ⟨?_, rfl, rfl⟩
  rw [h.len] at k2
  have e1 := h4 p k2
  have e2 := slow_cost h p 0 0 (Int.le_refl _)
  show v ≤ w
  omega
theorem bestN_max (val : Nat → Int) (P : Nat → Prop) [DecidablePred P] : ∀ (m set best : Nat), val best ≤ val (bestN val P m set best) ∧ (P best → P (bestN val P m set best)) ∧ ∀ s, set ≤ s → s < set + m → P s → val s ≤ val (bestN val P m set best)
  | 0, set, best => ⟨Int.le_refl _, id, fun s h1 h2 _ => by omega⟩
  | m + 1, set, best => by
    rw [bestN]
    by_cases c : val set > val best
    · rw [if_pos c]
      by_cases p : P set
      · rw [if_pos p]
        obtain ⟨a, b, d⟩ := bestN_max val P m (set + 1) set
        refine ⟨by omega, fun _ => b p, fun s h1 h2 h3 => ?_⟩
        by_cases e : s = set
        · rw [e]; exact a
        · exact d s (by omega) (by omega) h3
      · rw [if_neg p]
        obtain ⟨a, b, d⟩ := bestN_max val P m (set + 1) best
        refine ⟨a, b, fun s h1 h2 h3 => ?_⟩
        by_cases e : s = set
        · rw [e] at h3; exact absurd h3 p
        · exact d s (by omega) (by omega) h3
    · rw [if_neg c]
      obtain ⟨a, b, d⟩ := bestN_max val P m (set + 1) best
      refine ⟨a, b, fun s h1 h2 h3 => ?_⟩
      by_cases e : s = set
      · rw [e]; omega
      · exact d s (by omega) (by omega) h3
theorem onTime_zero (l : List S48) : onTime l 0 := fun j _ h => absurd h (by simp)
theorem most_on (l : List S48) : onTime l (mostOf l) := (bestN_max _ _ _ _ _).2.1 (onTime_zero l)
theorem most_max (l : List S48) {s : Nat} (hs : s < 2 ^ l.length) (h : onTime l s) : ((pc s : Nat) : Int) ≤ ((pc (mostOf l) : Nat) : Int) := (bestN_max (fun s => ((pc s : Nat) : Int)) (onTime l) (2 ^ l.length) 0 0).2.2 s (by omega) (by omega) h
theorem most_pow (l : List S48) : mostOf l < 2 ^ l.length := bestN_lt _ _ _ _ _ _ (by omega) (Nat.two_pow_pos _)
theorem slow_onTime {l x : List S48} {z : Nat} (h : Slow l x z) {s : Nat} (hs : onTime x s) : onTime l s := by
  intro j hj hb
  have h1 := hs j (by rw [h.len]; exact hj) hb
  rw [h.due j] at h1
  refine Int.le_trans ?_ h1
  unfold upTo
  rw [h.len]
  refine sumN_le (fun i hi => ?_)
  have hlex : lex x (i : Int) (j : Int) ↔ lex l (i : Int) (j : Int) := by
    unfold lex
    rw [h.due, h.due]
  by_cases c : s.testBit i = true ∧ (lex l (i : Int) (j : Int) ∨ (i : Int) = j)
  · rw [if_pos c, if_pos (by rw [hlex]; exact c)]
    exact h.le i
  · rw [if_neg c, if_neg (by rw [hlex]; exact c)]
    exact Int.le_refl _
theorem slow_most {l x : List S48} {z : Nat} (h : Slow l x z) : pc (mostOf x) ≤ pc (mostOf l) := by
  have h1 := most_max l (s := mostOf x) (by have := most_pow x; rw [h.len] at this; exact this) (slow_onTime h (most_on x))
  omega
end Go.Proofs.Ytaboleeclpllpaa.M


namespace Go.Proofs.Ytaboleeclpllpaa.Open
open Go.RowKit Go.ChangeShapes Go.WideShapes Go.Deep Go.Proofs.YtaboleeclpllpaaW.PrintWords Go.Proofs.Ytaboleeclpllpaa.P
set_option linter.unusedVariables false
set_option linter.unusedSimpArgs false
def wfi (x : Int) : Prop := -9223372036854775808 ≤ x ∧ x ≤ 9223372036854775807
theorem wfi_of {x : Int} (h : (Lit.int .i64 x).wf = true) : wfi x := by
  simp only [Lit.wf, Bool.and_eq_true, decide_eq_true_eq] at h
  exact ⟨h.1, h.2⟩
section
variable {H : Type} {enc : TypeId × Value → H} {W : World} {base : Nat} {spare : Nat → Bool} {held : Bool} {fuel : Nat} {y : DataW H × List MemPlace}
theorem open_i64 {t : TypeId} {P : Program} (hu : P.underlying t = some (.int .i64)) {cs : List Value} (h : DataW.trod enc P W base spare held fuel t cs = some y) : ∃ x : Int, cs = [.int .i64 x] ∧ wfi x := by
  obtain ⟨x, hx, _, hw⟩ := DataW.trod_int hu h
  exact ⟨x, hx, wfi_of hw⟩
theorem open_struct4 {P : Program} {e ti : TypeId} {f0 f1 f2 f3 : Field} (he : P.underlying e = some (.struct #[f0, f1, f2, f3])) (hC : P.cellsOf e = 4) (hu : P.underlying ti = some (.int .i64)) (hk : P.cellsOf ti = 1)
    (h0 : f0.type = ti ∧ f0.offset = 0) (h1 : f1.type = ti ∧ f1.offset = 1) (h2 : f2.type = ti ∧ f2.offset = 2) (h3 : f3.type = ti ∧ f3.offset = 3)
    {cs : List Value} (h : DataW.trod enc P W base spare held fuel e cs = some y) :
    ∃ x0 x1 x2 x3 : Int, cs = [.int .i64 x0, .int .i64 x1, .int .i64 x2, .int .i64 x3] ∧ wfi x0 ∧ wfi x1 ∧ wfi x2 ∧ wfi x3 := by
  obtain ⟨ys, n, _, _, hlen, hyl, hf⟩ := DataW.trod_struct he h
  rw [hC] at hlen
  match cs, hlen with
  | [c0, c1, c2, c3], _ =>
    match ys, hyl with
    | [y0, y1, y2, y3], _ =>
      have g0 := hf 0 f0 rfl
      have g1 := hf 1 f1 rfl
      have g2 := hf 2 f2 rfl
      have g3 := hf 3 f3 rfl
      rw [h0.1, h0.2, hk] at g0
      rw [h1.1, h1.2, hk] at g1
      rw [h2.1, h2.2, hk] at g2
      rw [h3.1, h3.2, hk] at g3
      obtain ⟨x0, e0, w0⟩ := open_i64 hu g0
      obtain ⟨x1, e1, w1⟩ := open_i64 hu g1
      obtain ⟨x2, e2, w2⟩ := open_i64 hu g2
      obtain ⟨x3, e3, w3⟩ := open_i64 hu g3
      simp at e0 e1 e2 e3
      exact ⟨x0, x1, x2, x3, by rw [e0, e1, e2, e3], w0, w1, w2, w3⟩
theorem open_rows {α : Type} {P : Program} (d : Kd α) (good : α → Prop) {t e : TypeId} (ht : P.underlying t = some (.slice e)) (hsz : P.cellsOf e = d.sz)
    (hel : ∀ (n : Nat) (cs : List Value) (y : DataW H × List MemPlace), DataW.trod enc P W base spare held n e cs = some y → ∃ x : α, d.K W x cs ∧ good x)
    {a : Option Addr} {len cap : Nat} {dd : DataW H} {ps : List MemPlace} (h : DataW.Trod enc P W base spare held t (.slice a len cap) dd ps) :
    ∃ l : List α, l.length = len ∧ Kd.C d W a len l ∧ len ≤ cap ∧ ∀ x ∈ l, good x := by
  obtain ⟨fuel, hf⟩ := h
  rcases open_slice ht hf with ⟨hcs, _⟩ | ⟨a', len', cap', m, n, D, Pl, hcs, _, hl, hm, hmm, _, hi⟩
  · simp [Value.cells] at hcs
    obtain ⟨rfl, rfl, rfl⟩ := hcs
    exact ⟨[], rfl, ⟨rfl, by omega, fun h => by omega⟩, Nat.le_refl _, fun x hx => by cases hx⟩
  · simp [Value.cells] at hcs
    obtain ⟨rfl, rfl, rfl⟩ := hcs
    have hlm : len ≤ m := by rw [hmm]; split <;> omega
    have hM : len ≤ 9223372036854775807 := by unfold maxLen at hm; omega
    have hx : ∀ k : Nat, k ≤ len → ∃ l : List α, l.length = k ∧ (∀ j p, l[j]? = some p → ∃ cs, W.cells? base (a'.add (j * P.cellsOf e)) (P.cellsOf e) = some cs ∧ d.K W p cs) ∧ ∀ x ∈ l, good x := by
      intro k
      induction k with
      | zero => exact fun _ => ⟨[], rfl, fun j p hj => by simp at hj, fun x hx => by cases hx⟩
      | succ k ih =>
        intro hk
        obtain ⟨l, hll, h1, h2⟩ := ih (by omega)
        obtain ⟨cs, hc, htr⟩ := hi k (by omega)
        obtain ⟨x, hK, hg⟩ := hel _ _ _ htr
        refine ⟨l ++ [x], by simp [hll], fun j p hj => ?_, fun z hz => ?_⟩
        · by_cases hjk : j < l.length
          · rw [List.getElem?_append_left hjk] at hj
            exact h1 j p hj
          · have hjl : j = l.length := by
              have := (List.getElem?_eq_some_iff.1 hj).1
              simp at this
              omega
            subst hjl
            simp at hj
            subst hj
            rw [hll]
            exact ⟨cs, hc, hK⟩
        · rcases List.mem_append.1 hz with hz | hz
          · exact h2 z hz
          · simp at hz
            subst hz
            exact hg
    obtain ⟨l, hll, h1, h2⟩ := hx len (Nat.le_refl _)
    refine ⟨l, hll, ⟨hll, hM, fun _ => ⟨a', rfl, fun j p hj => ?_⟩⟩, hl, h2⟩
    obtain ⟨cs, hc, hk⟩ := h1 j p hj
    obtain ⟨_, hcl, hat⟩ := World.cells?_some hc
    refine ⟨cs, by rw [hcl, hsz], hk, fun i u hu => ?_⟩
    have hil : i < P.cellsOf e := by have := (List.getElem?_eq_some_iff.1 hu).1; omega
    have := hat i hil
    rw [Go.Deep.add_add, hsz] at this
    rw [this, hu]
end
def W43 (x : S43) : Prop := wfi x.f0 ∧ wfi x.f1 ∧ wfi x.f2 ∧ wfi x.f3
section
variable {H : Type} {enc : TypeId × Value → H} {W : World} {base : Nat} {spare : Nat → Bool} {held : Bool} {a : Option Addr} {len cap : Nat} {dd : DataW H} {ps : List MemPlace}
theorem rows_43 (h : DataW.Trod enc Try.prog W base spare held 22 (.slice a len cap) dd ps) : ∃ l : List S43, l.length = len ∧ Kd.C k43 W a len l ∧ len ≤ cap ∧ ∀ x ∈ l, W43 x :=
  open_rows k43 W43 Try.underlying22 (by kernel_rfl) (fun n cs y hy => by
    obtain ⟨x0, x1, x2, x3, rfl, hw⟩ := open_struct4 Try.underlying43 (by kernel_rfl) Try.underlying3 (by kernel_rfl) ⟨rfl, rfl⟩ ⟨rfl, rfl⟩ ⟨rfl, rfl⟩ ⟨rfl, rfl⟩ hy
    exact ⟨⟨x0, x1, x2, x3⟩, k43_mk _ _, hw⟩) h
end
end Go.Proofs.Ytaboleeclpllpaa.Open


namespace Go.Proofs.Ytaboleeclpllpaa.M.Slower
open Go.RowKit Go.Proofs.YtaboleeclpllpaaW.PrintWords Go.Proofs.YtaboleeclpllpaaW.PrintLast Go.Proofs.YtaboleeclpllpaaW.PrintMore Go.Proofs.Ytaboleeclpllpaa.P Go.Proofs.Ytaboleeclpllpaa.T Go.Proofs.Ytaboleeclpllpaa.M
set_option linter.unusedVariables false
set_option linter.unusedSimpArgs false
theorem jb_set (l : List S48) (i j : Nat) (x : S48) (hi : i < l.length) : jb (l.set i x) j = if j = i then x else jb l j := by
  unfold jb
  rw [List.getD_eq_getElem?_getD, List.getD_eq_getElem?_getD, List.getElem?_set]
  by_cases h : i = j
  · subst h
    simp [hi]
  · rw [if_neg h, if_neg (fun e => h e.symm)]
theorem rd48' (l : List S48) (i : Nat) : rd_T48 l (i : Int) = jb l i := by simp [rd_T48, jb]
theorem pop0 : ∀ s : Fin 256, 0 < (s : Nat) → Go.bits .and .i64 ((s : Nat) : Int) (wrap64 (((s : Nat) : Int) - 1)) = (((s : Nat) &&& ((s : Nat) - 1) : Nat) : Int) ∧ (s : Nat) &&& ((s : Nat) - 1) < s ∧ pc s = pc ((s : Nat) &&& ((s : Nat) - 1)) + 1 := by decide +kernel
theorem pc_le0 : ∀ s : Fin 256, pc s ≤ 8 := by decide +kernel
theorem pc_zero : pc 0 = 0 := by decide
theorem down (a b s t n m p q : Int) (hb : b ≥ a) (ht : t > s) (hm : m ≥ n) : ∀ (d u : Nat), u ≤ d → u < 256 → ∀ c : Int, ((pc u : Nat) : Int) ≤ c → c ≤ 1000 →
    Ev (fun k => corrodylaw06_DatesSlower.l1 k a 0 b s 0 t 0 n 0 m 0 0 (u : Int) 0 c) true := by
  intro d
  induction d with
  | zero =>
    intro u h1 h2 c hc hc2
    have hu : u = 0 := by omega
    subst hu
    rw [pc_zero] at hc
    refine Ev.step (f := fun k => (corrodylaw06_awake.f k).bind fun t => some t) (fun k => ?_) (Ev.bind awake_f (Ev.now _))
    simp only [corrodylaw06_DatesSlower.l1]
    rw [if_neg (by omega), if_pos trivial, if_pos trivial, if_pos trivial, if_pos trivial, if_pos trivial, if_pos trivial, if_pos trivial, if_pos hb, if_pos ht, if_pos hm, if_pos (by omega)]
  | succ d ih =>
    intro u h1 h2 c hc hc2
    by_cases hz : u = 0
    · exact ih u (by omega) h2 c hc hc2
    · obtain ⟨p1, p2, p3⟩ := pop0 ⟨u, h2⟩ (by show 0 < u; omega)
      simp only at p1 p2 p3
      refine Ev.step (fun k => ?_) (ih (u &&& (u - 1)) (by omega) (by omega) (c - 1) (by omega) (by omega))
      simp only [corrodylaw06_DatesSlower.l1]
      rw [if_pos (by omega), p1, w64 (x := c - 1) (by omega) (by omega)]
theorem up_down (a b s t n m : Int) (v : Nat) (hv : v < 256) (hb : b ≥ a) (ht : t > s) (hm : m ≥ n) : ∀ (d u : Nat), u ≤ d → u < 256 → ∀ c : Int, 0 ≤ c → c + ((pc u : Nat) : Int) ≤ 1000 → ((pc v : Nat) : Int) ≤ c + ((pc u : Nat) : Int) →
    Ev (fun k => corrodylaw06_DatesSlower.l0 k a 0 b s 0 t 0 n 0 m 0 (u : Int) 0 (v : Int) 0 c) true := by
  intro d
  induction d with
  | zero =>
    intro u h1 h2 c h0 hc hp
    have hu : u = 0 := by omega
    subst hu
    rw [pc_zero] at hc hp
    refine Ev.step (fun k => ?_) (down a b s t n m 0 0 hb ht hm v v (Nat.le_refl _) hv c (by omega) (by omega))
    simp only [corrodylaw06_DatesSlower.l0]
    rw [if_neg (by omega)]
  | succ d ih =>
    intro u h1 h2 c h0 hc hp
    by_cases hz : u = 0
    · exact ih u (by omega) h2 c h0 hc hp
    · obtain ⟨p1, p2, p3⟩ := pop0 ⟨u, h2⟩ (by show 0 < u; omega)
      simp only at p1 p2 p3
      have h8 := pc_le0 ⟨u, h2⟩
      simp only at h8
      refine Ev.step (fun k => ?_) (ih (u &&& (u - 1)) (by omega) (by omega) (c + 1) (by omega) (by omega) (by omega))
      simp only [corrodylaw06_DatesSlower.l0]
      rw [if_pos (by omega), p1, w64 (x := c + 1) (by omega) (by omega)]
theorem index_f (a : Int) (ha : Open.wfi a) (n : Nat) (h1 : 1 ≤ n) (h8 : n ≤ 8) : IntKind.u64.wrap (n : Int) = (n : Int) ∧ ∃ z : Nat, z < n ∧ wrap64 (Int.tmod (IntKind.u64.wrap a) (n : Int)) = (z : Int) := by
  have e1 : IntKind.u64.wrap (n : Int) = (n : Int) := by
    unfold IntKind.wrap
    simp [IntKind.bits, IntKind.signed]
    omega
  refine ⟨e1, ?_⟩
  have h0 : 0 ≤ IntKind.u64.wrap a := by
    unfold IntKind.wrap
    simp [IntKind.bits, IntKind.signed]
    omega
  have e2 : Int.tmod (IntKind.u64.wrap a) (n : Int) = IntKind.u64.wrap a % (n : Int) := by
    rw [Int.tmod_eq_emod_of_nonneg h0]
  have h2 := Int.emod_nonneg (IntKind.u64.wrap a) (show (n : Int) ≠ 0 by omega)
  have h3 := Int.emod_lt_of_pos (IntKind.u64.wrap a) (show (0 : Int) < (n : Int) by omega)
  refine ⟨(IntKind.u64.wrap a % (n : Int)).toNat, by omega, ?_⟩
  rw [e2, w64 (by omega) (by omega)]
  omega
end Go.Proofs.Ytaboleeclpllpaa.M.Slower
namespace Go.Proofs.Ytaboleeclpllpaa.Pure
open Go.RowKit Go.Proofs.YtaboleeclpllpaaW.PrintWords Go.Proofs.YtaboleeclpllpaaW.PrintLast Go.Proofs.YtaboleeclpllpaaW.PrintMore Go.Proofs.Ytaboleeclpllpaa.P Go.Proofs.Ytaboleeclpllpaa.M Go.Proofs.Ytaboleeclpllpaa.T Go.Proofs.Ytaboleeclpllpaa.M.Slower
set_option linter.unusedVariables false
set_option linter.unusedSimpArgs false
theorem DatesSlower (l : List S43) (hl : l.length ≤ 9223372036854775807) (hg : ∀ x ∈ l, Open.W43 x) (a : Int) (ha : Open.wfi a) : ∃ k, corrodylaw06_DatesSlower.f k l a = some true := by
  refine Ev.rounds (g := fun k => corrodylaw06_DatesSlower.f k l a) ?_
  unfold corrodylaw06_DatesSlower.f
  refine Ev.bind (refvalid_f l hl) ?_
  cases hv : valid48 (l.map to48) with
  | false =>
    simp only [Bool.false_eq_true, if_false]
    exact Ev.bind awake_f (Ev.now _)
  | true =>
    have hlen := valid_len hv
    have hmap : (l.map to48).length = l.length := List.length_map _
    rw [hmap] at hlen
    simp only [if_true]
    have hOf := Of_f l hl
    rw [of_valid hv] at hOf
    obtain ⟨e1, z, hz, e2⟩ := index_f a ha l.length hlen.1 hlen.2
    refine Ev.bind hOf ?_
    simp only [e1, e2, if_neg (show ¬ ((l.length : Int) = 0) by omega), if_pos (show (0 : Int) ≤ (z : Int) by omega), hmap, if_pos (show (z : Int) < (l.length : Int) by omega), Option.bind_some, Int.toNat_natCast, rd48']
    have hjz := valid_jb hv (i := z) (by omega)
    rw [w64 (x := (jb (l.map to48) z).f0 + 1) (by omega) (by omega)]
    generalize hL : l.map to48 = L at *
    generalize hx : L.set z (⟨(jb L z).f0 + 1, (jb L z).f1, (jb L z).f2, (jb L z).f3⟩ : S48) = x
    have hzL : z < L.length := by omega
    have hxl : x.length = L.length := by rw [← hx, List.length_set]
    have hslow : Slow L x z := by
      refine ⟨hxl, hzL, ?_, ?_, ?_, ?_⟩
      · unfold timf
        rw [← hx, M.Slower.jb_set _ _ _ _ hzL, if_pos rfl]
      · intro j hj
        unfold timf
        rw [← hx, M.Slower.jb_set _ _ _ _ hzL, if_neg hj]
      · intro j
        unfold relf
        rw [← hx, M.Slower.jb_set _ _ _ _ hzL]
        split
        · rename_i h; rw [h]
        · rfl
      · intro j
        unfold duef
        rw [← hx, M.Slower.jb_set _ _ _ _ hzL]
        split
        · rename_i h; rw [h]
        · rfl
    refine Ev.bind hOf ?_
    refine Ev.bind (Delay_f L (by omega)) ?_
    refine Ev.bind (Delay_f x (by omega)) ?_
    simp only [hv, if_true]
    cases hvx : valid48 x with
    | false =>
      simp only [Bool.false_eq_true, if_false, show ¬ ((2 : Int) = 0) by decide, if_true]
      exact Ev.bind awake_f (Ev.now _)
    | true =>
      simp only [if_true]
      refine Ev.bind hOf ?_
      refine Ev.bind (Short_f L (by omega)) ?_
      refine Ev.bind (Short_f x (by omega)) ?_
      simp only [hv, hvx, if_true]
      refine Ev.bind hOf ?_
      refine Ev.bind (Least_f L (by omega) [] (by simp)) ?_
      refine Ev.bind (Least_f x (by omega) [] (by simp)) ?_
      have hb0 : ∀ n, befOk n [] = true := fun n => rfl
      simp only [hv, hvx, hb0, Bool.and_self, if_true]
      refine Ev.bind hOf ?_
      refine Ev.bind (Most_f L (by omega)) ?_
      refine Ev.bind (Most_f x (by omega)) ?_
      simp only [hv, hvx, if_true]
      obtain ⟨h1, h2, h3⟩ := slow_least hslow hv hvx
      rw [h2, h3]
      have h4 := slow_delay hslow hv hvx
      have h5 := slow_short hslow hv hvx
      have h6 := slow_most hslow
      have hp := pow8 (show L.length ≤ 8 by omega)
      have h7 := most_pow L
      have h8 := most_pow x
      rw [hxl] at h8
      have h9 := pc_le0 ⟨mostOf L, by omega⟩
      simp only at h9
      exact up_down _ _ _ _ _ _ (mostOf x) (by omega) h4 (by omega) h1 (mostOf L) (mostOf L) (Nat.le_refl _) (by omega) 0 (by omega) (by omega) (by omega)
end Go.Proofs.Ytaboleeclpllpaa.Pure
