/- Values: which may be, operators, as they are specified. -/
import Derived.Test.YtlbocjcponegcaaGreatAmGV
import Derived.Test.YtlbocjcponegcaaGreatAmGU
set_option linter.unusedVariables false
set_option linter.unusedSimpArgs false
set_option maxRecDepth 100000
namespace Go.AM
theorem Vl.eq {a b : Vl} (h1 : a.kind = b.kind) (h2 : a.num = b.num) (h3 : a.flag = b.flag) (h4 : a.text = b.text) (h5 : a.err = b.err) : a = b := by
  cases a; cases b; simp only at h1 h2 h3 h4 h5; subst h1; subst h2; subst h3; subst h4; subst h5; rfl
/-- cells compared, one by one -/
def eqCV (a b : Vl) : Bool := (a.kind == b.kind) && ((a.num.neg == b.num.neg) && ((l0 a.num.n == l0 b.num.n) && ((l1 a.num.n == l1 b.num.n) && ((l2 a.num.n == l2 b.num.n) && ((l3 a.num.n == l3 b.num.n) && ((a.num.scale == b.num.scale) &&
  ((a.flag == b.flag) && ((a.text.toList == b.text.toList) && ((a.err == b.err) && true)))))))))
theorem eqV (a b : Vl) : ((a.kind == b.kind) && ((a.num.neg == b.num.neg) && ((l0 a.num.n == l0 b.num.n) && ((l1 a.num.n == l1 b.num.n) && ((l2 a.num.n == l2 b.num.n) && ((l3 a.num.n == l3 b.num.n) && ((a.num.scale == b.num.scale) &&
  ((a.flag == b.flag) && ((a.text.toList == b.text.toList) && ((a.err == b.err) && true)))))))))) = decide (a = b) := by
  rw [eqD_and, toList_eq, Bool.eq_iff_iff]
  simp only [Bool.and_eq_true, beq_iff_eq, decide_eq_true_eq, and_true]
  constructor
  · rintro ⟨h1, h2, h3, h4, h5⟩; exact Vl.eq h1 h2 h3 h4 h5
  · rintro rfl; exact ⟨rfl, rfl, rfl, rfl, rfl⟩
theorem eqCV_eq (a b : Vl) : eqCV a b = decide (a = b) := eqV a b
theorem eqCV_t {a b : Vl} (h : eqCV a b = true) : a = b := by rw [eqCV_eq] at h; exact of_decide_eq_true h
theorem eqCV_f {a b : Vl} (h : eqCV a b = false) : a ≠ b := by rw [eqCV_eq] at h; exact of_decide_eq_false h
def flagV (b : Bool) : Vl := ⟨2, D0, b, ⟨#[]⟩, 0⟩
def textV (s : ByteArray) : Vl := ⟨3, D0, false, s, 0⟩
/-- may a value be? -/
def Vl.valid (v : Vl) : Prop := (v.kind = 0 ∧ v = Vl0) ∨ (v.kind = 1 ∧ v = numV v.num ∧ v.num.ok) ∨ (v.kind = 2 ∧ v = flagV v.flag) ∨ (v.kind = 3 ∧ v = textV v.text ∧ v.text.size ≤ 64) ∨ (v.kind = 4 ∧ v = errV v.err ∧ 1 ≤ v.err ∧ v.err ≤ 5)
instance (v : Vl) : Decidable v.valid := inferInstanceAs (Decidable (_ ∨ _))
def checkV (v : Vl) : Int := if v.valid then 0 else 1
theorem checkV_0 {v : Vl} (h : v.valid) : checkV v = 0 := if_pos h
theorem checkV_1 {v : Vl} (h : ¬ v.valid) : checkV v = 1 := if_neg h
theorem valid_num {d : D} (h : d.ok) : (numV d).valid := .inr (.inl ⟨rfl, rfl, h⟩)
theorem valid_flag (b : Bool) : (flagV b).valid := .inr (.inr (.inl ⟨rfl, rfl⟩))
theorem valid_err {e : Int} (h : 1 ≤ e ∧ e ≤ 5) : (errV e).valid := .inr (.inr (.inr (.inr ⟨rfl, rfl, h⟩)))
theorem Vl.valid.num {v : Vl} (h : v.valid) (k : v.kind = 1) : v = numV v.num ∧ v.num.ok := by
  rcases h with ⟨h, _⟩ | ⟨_, h⟩ | ⟨h, _⟩ | ⟨h, _⟩ | ⟨h, _⟩
  · omega
  · exact h
  all_goals omega
theorem Vl.valid.flag_ {v : Vl} (h : v.valid) (k : v.kind = 2) : v = flagV v.flag := by
  rcases h with ⟨h, _⟩ | ⟨h, _⟩ | ⟨_, h⟩ | ⟨h, _⟩ | ⟨h, _⟩
  · omega
  · omega
  · exact h
  all_goals omega
theorem Vl.valid.err_ {v : Vl} (h : v.valid) (k : v.kind = 4) : v = errV v.err ∧ 1 ≤ v.err ∧ v.err ≤ 5 := by
  rcases h with ⟨h, _⟩ | ⟨h, _⟩ | ⟨h, _⟩ | ⟨h, _⟩ | ⟨_, h⟩
  · omega
  · omega
  · omega
  · omega
  · exact h
theorem Vl.valid.blank {v : Vl} (h : v.valid) (k : v.kind = 0) : v = Vl0 := by
  rcases h with ⟨_, h⟩ | ⟨h, _⟩ | ⟨h, _⟩ | ⟨h, _⟩ | ⟨h, _⟩
  · exact h
  all_goals omega
theorem Vl.valid.kinds {v : Vl} (h : v.valid) : v.kind = 0 ∨ v.kind = 1 ∨ v.kind = 2 ∨ v.kind = 3 ∨ v.kind = 4 := by
  rcases h with ⟨h, _⟩ | ⟨h, _⟩ | ⟨h, _⟩ | ⟨h, _⟩ | ⟨h, _⟩ <;> simp [h]
def badV (e : Int) : Vl := errV (if e < 1 ∨ 5 < e then 2 else e)
def mayV (v : Vl) : Vl := if v.valid then v else errV 2
def askV (v : Vl) : Vl × Bool := if v.valid then if v.kind = 4 then (v, false) else if v.kind = 0 then (errV 3, false) else (v, true) else (errV 2, false)
def ofV' (v : Vl) (k : Int) : Vl × Bool := if (askV v).2 = true then if v.kind = k then (v, true) else (errV 2, false) else askV v
def numberV (r : D × Int) : Vl := if r.2 = 0 then numV r.1 else if r.2 = 7 then errV 1 else errV 2
def sameV (a b : Vl) : Bool := if a.kind = 1 then decide (cmpD a.num b.num = 0) else decide (a = b)
def orderB (op n : Int) : Bool := if op = 6 then decide (n < 0) else if op = 7 then decide (n ≤ 0) else if op = 8 then decide (n > 0) else decide (n ≥ 0)
def numbersV (op : Int) (a b : D) : Vl := if op = 1 then numberV (addD a b) else if op = 2 then numberV (subD a b) else if op = 3 then numberV (mulToD a b (min 18 (a.scale + b.scale)) 2) else flagV (orderB op (cmpD a b))
def opV (op : Int) (a b : Vl) : Vl :=
  if (askV a).2 = false then (askV a).1 else if (askV b).2 = false then (askV b).1 else
  if op = 4 ∨ op = 5 then (if a.kind = b.kind then flagV (sameV a b == decide (op = 4)) else errV 2)
  else if op = 10 ∨ op = 11 then (if a.kind = 2 ∧ b.kind = 2 then flagV (if op = 10 then a.flag && b.flag else a.flag || b.flag) else errV 2)
  else if (1 ≤ op ∧ op ≤ 3) ∨ (6 ≤ op ∧ op ≤ 9) then (if a.kind = 1 ∧ b.kind = 1 then numbersV op a.num b.num else errV 2)
  else errV 2
def negV (v : Vl) : Vl := if (ofV' v 1).2 = true then numV ⟨!v.num.neg && decide (v.num.n ≠ N0), v.num.n, v.num.scale⟩ else (ofV' v 1).1
def notV (v : Vl) : Vl := if (ofV' v 2).2 = true then flagV (!v.flag) else (ofV' v 2).1
def ifV (c a b : Vl) : Vl := if (ofV' c 2).2 = true then if c.flag = true then mayV a else mayV b else (ofV' c 2).1
def roundV (v : Vl) (s p : Int) : Vl := if (ofV' v 1).2 = true then numberV (rescaleD v.num s p) else (ofV' v 1).1
def blankV (v : Vl) : Vl := if v.valid then if v.kind = 4 then v else flagV (decide (v.kind = 0)) else errV 2
theorem askV_ok {v : Vl} (h : v.valid) (h4 : v.kind ≠ 4) (h0 : v.kind ≠ 0) : askV v = (v, true) := by unfold askV; rw [if_pos h, if_neg h4, if_neg h0]
theorem askV_t {v : Vl} (h : (askV v).2 = true) : v.valid ∧ v.kind ≠ 4 ∧ v.kind ≠ 0 := by
  unfold askV at h
  split at h
  · split at h
    · cases h
    split at h
    · cases h
    · exact ⟨‹_›, ‹_›, ‹_›⟩
  · cases h
theorem askV_f {v : Vl} (h : (askV v).2 = false) : (askV v).1.kind = 4 ∧ (askV v).1.valid := by
  unfold askV at *
  split
  · split
    · exact ⟨‹_›, ‹_›⟩
    split
    · exact ⟨rfl, valid_err (by omega)⟩
    · rename_i h1 h2 h3
      rw [if_pos h1, if_neg h2, if_neg h3] at h; cases h
  · exact ⟨rfl, valid_err (by omega)⟩
end Go.AM

set_option linter.unusedVariables false
set_option linter.unusedSimpArgs false
set_option maxRecDepth 100000
namespace Go.AM
theorem made_isOk {neg : Bool} {x s : Int} (hs : 0 ≤ s ∧ s ≤ 18) (hx : 0 ≤ x) (h : (made neg x s).2 = 0) : (made neg x s).1.ok := by
  rw [made_sg _ hx] at *
  rcases madeZ_ok (z := sgd neg x) hs with ⟨k, _⟩ | ⟨_, k, _⟩
  · rw [k] at h; cases h
  · exact k
theorem roundD_isOk {neg : Bool} {X f s p : Int} (hs : 0 ≤ s ∧ s ≤ 18) (hX : 0 ≤ X) (h : (roundD neg X f s p).2 = 0) : (roundD neg X f s p).1.ok := by
  unfold roundD at *
  split at h
  · rename_i h1
    rw [if_pos h1]
    split at h
    · cases h
    · rename_i h2
      rw [if_neg h2]
      exact made_isOk hs (Int.mul_nonneg hX (by have := tenP_pos (s - f); omega)) h
  · rename_i h1
    rw [if_neg h1]
    split at h
    · cases h
    · rename_i h2
      rw [if_neg h2]
      refine made_isOk hs ?_ h
      have hd := tenP_pos (f - s)
      have := Int.ediv_nonneg hX (show 0 ≤ tenP (f - s) by omega)
      unfold quoD; split <;> omega
theorem mayD_00 {s p : Int} (h : mayD s p = 0) : 0 ≤ s ∧ s ≤ 18 := by
  unfold mayD at h
  split at h
  · omega
  · split at h <;> omega
theorem mulToD_isOk {a b : D} {s p : Int} (h : (mulToD a b s p).2 = 0) : (mulToD a b s p).1.ok := by
  unfold mulToD at *
  split at h
  · rename_i h1
    rw [if_pos h1]
    split at h
    · rename_i h2
      rw [if_pos h2]
      exact roundD_isOk (mayD_00 h2) (Int.mul_nonneg a.n.h.1 b.n.h.1) h
    · exact absurd h ‹_›
  · cases h
theorem numberV_valid {r : D × Int} (h : r.2 = 0 → r.1.ok) : (numberV r).valid := by
  unfold numberV
  split
  · exact valid_num (h ‹_›)
  · split
    · exact valid_err (by omega)
    · exact valid_err (by omega)
theorem numbersV_valid (op : Int) (a b : D) : (numbersV op a b).valid := by
  unfold numbersV
  split
  · exact numberV_valid fun h => (addD_0 h).2.2.1
  split
  · exact numberV_valid fun h => (subD_0 h).2.2.1
  split
  · exact numberV_valid mulToD_isOk
  · exact valid_flag _
theorem askV_valid (v : Vl) : (askV v).1.valid := by
  unfold askV
  split
  · split
    · assumption
    split
    · exact valid_err (by omega)
    · assumption
  · exact valid_err (by omega)
theorem opV_valid (op : Int) (a b : Vl) : (opV op a b).valid := by
  unfold opV
  split
  · exact askV_valid a
  split
  · exact askV_valid b
  split
  · split
    · exact valid_flag _
    · exact valid_err (by omega)
  split
  · split
    · exact valid_flag _
    · exact valid_err (by omega)
  split
  · split
    · exact numbersV_valid _ _ _
    · exact valid_err (by omega)
  · exact valid_err (by omega)
theorem ofV'_f {v : Vl} {k : Int} : (ofV' v k).1.valid := by
  unfold ofV'
  split
  · rename_i h
    have := askV_t h
    split
    · exact this.1
    · exact valid_err (by omega)
  · exact askV_valid v
theorem ofV'_t {v : Vl} {k : Int} (h : (ofV' v k).2 = true) : v.valid ∧ v.kind = k ∧ ofV' v k = (v, true) := by
  unfold ofV' at *
  split at h
  · rename_i h1
    rw [if_pos h1]
    split at h
    · rename_i h2
      rw [if_pos h2]
      exact ⟨(askV_t h1).1, h2, rfl⟩
    · cases h
  · rename_i h1
    exact absurd h h1
theorem ofV'_k4 {v : Vl} {k : Int} (h : (ofV' v k).2 = false) : (ofV' v k).1.kind = 4 := by
  unfold ofV' at *
  split at h
  · rename_i h1
    rw [if_pos h1]
    split at h
    · cases h
    · rename_i h2; rw [if_neg h2]; rfl
  · rename_i h1
    rw [if_neg h1]
    exact (askV_f h).1
theorem negV_valid (v : Vl) : (negV v).valid := by
  unfold negV
  split
  · rename_i h
    obtain ⟨h1, h2, _⟩ := ofV'_t h
    obtain ⟨_, h3, h4, h5⟩ := h1.num h2
    refine valid_num ⟨h3, h4, ?_⟩
    rintro ⟨k1, k2⟩
    simp only at k1 k2
    simp [k2] at k1
  · exact ofV'_f
theorem notV_valid (v : Vl) : (notV v).valid := by
  unfold notV
  split
  · exact valid_flag _
  · exact ofV'_f
theorem mayV_valid (v : Vl) : (mayV v).valid := by
  unfold mayV
  split
  · assumption
  · exact valid_err (by omega)
theorem ifV_valid (c a b : Vl) : (ifV c a b).valid := by
  unfold ifV
  split
  · split
    · exact mayV_valid a
    · exact mayV_valid b
  · exact ofV'_f
theorem roundV_valid (v : Vl) (s p : Int) : (roundV v s p).valid := by
  unfold roundV
  split
  · exact numberV_valid fun h => (rescaleD_0 h).2.2.1
  · exact ofV'_f
theorem blankV_valid (v : Vl) : (blankV v).valid := by
  unfold blankV
  split
  · split
    · assumption
    · exact valid_flag _
  · exact valid_err (by omega)
/-! errors go on -/
/-! each other's -/
end Go.AM

