/- Values: which may be, operators, as they are specified. -/
import Derived.Test.YtafiechoplbieaaAmGV
import Derived.Test.YtafiechoplbieaaAmGU
set_option linter.unusedVariables false
set_option linter.unusedSimpArgs false
set_option maxRecDepth 100000
namespace Go.AM
theorem Vl.eq {a b : Vl} (h1 : a.kind = b.kind) (h2 : a.num = b.num) (h3 : a.flag = b.flag) (h4 : a.text = b.text) (h5 : a.err = b.err) : a = b := by
  cases a; cases b; simp only at h1 h2 h3 h4 h5; subst h1; subst h2; subst h3; subst h4; subst h5; rfl
def flagV (b : Bool) : Vl := ⟨2, D0, b, ⟨#[]⟩, 0⟩
def textV (s : ByteArray) : Vl := ⟨3, D0, false, s, 0⟩
/-- may a value be? -/
def Vl.valid (v : Vl) : Prop := (v.kind = 0 ∧ v = Vl0) ∨ (v.kind = 1 ∧ v = numV v.num ∧ v.num.ok) ∨ (v.kind = 2 ∧ v = flagV v.flag) ∨ (v.kind = 3 ∧ v = textV v.text ∧ v.text.size ≤ 64) ∨ (v.kind = 4 ∧ v = errV v.err ∧ 1 ≤ v.err ∧ v.err ≤ 5)
instance (v : Vl) : Decidable v.valid := inferInstanceAs (Decidable (_ ∨ _))
theorem Vl.valid.num {v : Vl} (h : v.valid) (k : v.kind = 1) : v = numV v.num ∧ v.num.ok := by
  rcases h with ⟨h, _⟩ | ⟨_, h⟩ | ⟨h, _⟩ | ⟨h, _⟩ | ⟨h, _⟩
  · omega
  · exact h
  all_goals omega
theorem Vl.valid.blank {v : Vl} (h : v.valid) (k : v.kind = 0) : v = Vl0 := by
  rcases h with ⟨_, h⟩ | ⟨h, _⟩ | ⟨h, _⟩ | ⟨h, _⟩ | ⟨h, _⟩
  · exact h
  all_goals omega
theorem Vl.valid.kinds {v : Vl} (h : v.valid) : v.kind = 0 ∨ v.kind = 1 ∨ v.kind = 2 ∨ v.kind = 3 ∨ v.kind = 4 := by
  rcases h with ⟨h, _⟩ | ⟨h, _⟩ | ⟨h, _⟩ | ⟨h, _⟩ | ⟨h, _⟩ <;> simp [h]
def mayV (v : Vl) : Vl := if v.valid then v else errV 2
def askV (v : Vl) : Vl × Bool := if v.valid then if v.kind = 4 then (v, false) else if v.kind = 0 then (errV 3, false) else (v, true) else (errV 2, false)
def ofV' (v : Vl) (k : Int) : Vl × Bool := if (askV v).2 = true then if v.kind = k then (v, true) else (errV 2, false) else askV v
def numberV (r : D × Int) : Vl := if r.2 = 0 then numV r.1 else if r.2 = 7 then errV 1 else errV 2
def sameV (a b : Vl) : Bool := if a.kind = 1 then decide (cmpD a.num b.num = 0) else decide (a = b)
def orderB (op n : Int) : Bool := if op = 6 then decide (n < 0) else if op = 7 then decide (n ≤ 0) else if op = 8 then decide (n > 0) else decide (n ≥ 0)
def numbersV (op : Int) (a b : D) : Vl := if op = 1 then numberV (addD a b) else if op = 2 then numberV (subD a b) else if op = 3 then numberV (mulToD a b (min 18 (a.scale + b.scale)) 2) else flagV (orderB op (cmpD a b))
def opV (op : Int) (a b : Vl) : Vl :=
  if (askV a).2 = false then (askV a).1 else if (askV b).2 = false then (askV b).1 else
  if op = 4 ∨ op = 5 then (if a.kind = b.kind then flagV (sameV a b == decide (op = 4)) else errV 2)
  else if op = 10 ∨ op = 11 then (if a.kind = 2 ∧ b.kind = 2 then flagV (if op = 10 then a.flag && b.flag else a.flag || b.flag) else errV 2)
  else if (1 ≤ op ∧ op ≤ 3) ∨ (6 ≤ op ∧ op ≤ 9) then (if a.kind = 1 ∧ b.kind = 1 then numbersV op a.num b.num else errV 2)
  else errV 2
def negV (v : Vl) : Vl := if (ofV' v 1).2 = true then numV ⟨!v.num.neg && decide (v.num.n ≠ N0), v.num.n, v.num.scale⟩ else (ofV' v 1).1
def notV (v : Vl) : Vl := if (ofV' v 2).2 = true then flagV (!v.flag) else (ofV' v 2).1
def ifV (c a b : Vl) : Vl := if (ofV' c 2).2 = true then if c.flag = true then mayV a else mayV b else (ofV' c 2).1
def roundV (v : Vl) (s p : Int) : Vl := if (ofV' v 1).2 = true then numberV (rescaleD v.num s p) else (ofV' v 1).1
def blankV (v : Vl) : Vl := if v.valid then if v.kind = 4 then v else flagV (decide (v.kind = 0)) else errV 2
end Go.AM

set_option linter.unusedVariables false
set_option linter.unusedSimpArgs false
set_option maxRecDepth 100000
namespace Go.AM
/-! errors go on -/
/-! each other's -/
end Go.AM

