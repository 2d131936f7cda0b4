/- Definitions, their sections by numbers, what names mean, kinds of expressions: as they are. -/
import Derived.Test.YtafiechoplbieaaAmHj
import Derived.Test.YtafiechoplbieaaAmTyp
import Derived.Test.YtafiechoplbieaaAmHr
import Derived.Test.YtafiechoplbieaaAmHi
set_option linter.unusedVariables false
set_option linter.unusedSimpArgs false
set_option maxRecDepth 100000
namespace Go.AM
inductive Sc where
  | mk (name : ByteArray) (max : Int) (items : List It) (kids : List Sc)
def Sc.name : Sc → ByteArray | .mk n _ _ _ => n
def Sc.max : Sc → Int | .mk _ m _ _ => m
def Sc.items : Sc → List It | .mk _ _ i _ => i
def Sc.kids : Sc → List Sc | .mk _ _ _ k => k
theorem Sc.kid_lt {x y : Sc} (h : y ∈ x.kids) : SizeOf.sizeOf y < SizeOf.sizeOf x := by
  cases x with
  | mk n m i ks =>
    have h : y ∈ ks := h
    have := List.sizeOf_lt_of_mem h
    simp only [Sc.mk.sizeOf_spec]
    omega
theorem Sc.ind {Q : Sc → Prop} (h : ∀ x, (∀ y ∈ x.kids, Q y) → Q x) (x : Sc) : Q x := h x fun y hy => Sc.ind h y
termination_by SizeOf.sizeOf x
decreasing_by exact Sc.kid_lt hy
mutual
def Sc.cells : Sc → List Val
  | .mk n m it ks => [.str n, .int .i64 m, eL 23 cIt it, .ext 4 ks.length (Sc.rows ks)]
def Sc.rows : List Sc → Nat → List Val
  | [], _ => []
  | x :: _, 0 => x.cells
  | _ :: r, i + 1 => Sc.rows r i
end
/-- a section by its number -/
structure Se where
  par : Int
  dep : Int
  name : ByteArray
  max : Int
  items : List It
def Se0 : Se := ⟨0, 0, ByteArray.empty, 0, []⟩
mutual
def flatS : Sc → List Se → Int → Int → List Se
  | .mk n m it ks, l, par, dep => if 64 ≤ l.length ∨ 16 < dep then l else flatL ks (l ++ [⟨par, dep, n, m, it⟩]) (l.length : Int) (dep + 1)
def flatL : List Sc → List Se → Int → Int → List Se
  | [], l, _, _ => l
  | k :: r, l, par, dep => flatL r (flatS k l par dep) par dep
end
theorem flatS_mk (n : ByteArray) (m : Int) (it : List It) (ks : List Sc) (l : List Se) (par dep : Int) : flatS (.mk n m it ks) l par dep = if 64 ≤ l.length ∨ 16 < dep then l else flatL ks (l ++ [⟨par, dep, n, m, it⟩]) (l.length : Int) (dep + 1) := by rw [flatS]
theorem flatS_no {x : Sc} {l : List Se} {par dep : Int} (h : 64 ≤ l.length ∨ 16 < dep) : flatS x l par dep = l := by
  cases x; rw [flatS_mk, if_pos h]
theorem flatS_yes {n : ByteArray} {m : Int} {it : List It} {ks : List Sc} {l : List Se} {par dep : Int} (h : ¬ (64 ≤ l.length ∨ 16 < dep)) : flatS (.mk n m it ks) l par dep = flatL ks (l ++ [⟨par, dep, n, m, it⟩]) (l.length : Int) (dep + 1) := by
  rw [flatS_mk, if_neg h]
theorem flatL_nil (l : List Se) (par dep : Int) : flatL [] l par dep = l := by rw [flatL]
theorem flatL_cons (k : Sc) (r : List Sc) (l : List Se) (par dep : Int) : flatL (k :: r) l par dep = flatL r (flatS k l par dep) par dep := by rw [flatL]
/-- a page: its items are read by nobody here -/
structure Pg where
  name : ByteArray
  whn : Xp
  n : Nat
  g : Nat → List Val
structure Df where
  name : ByteArray
  root : Sc
  tabs : List Tb
  pages : List Pg
def Df.flat (d : Df) : List Se := flatS d.root [] (-1) 1
/-! ### what names mean -/
def It.reads (i : It) (name : ByteArray) : Prop := i.name = name ∧ (i.kind = 1 ∨ i.kind = 2)
instance (i : It) (name : ByteArray) : Decidable (i.reads name) := inferInstanceAs (Decidable (_ ∧ _))
/-- where the first item that a name reads stands, from k on; -1: there is none -/
def idxR (name : ByteArray) : Nat → List It → Int
  | _, [] => -1
  | k, t :: r => if t.reads name then (k : Int) else idxR name (k + 1) r
/-- a section by its number, if there is one -/
def seAt (l : List Se) (s : Int) : Option Se := if 0 ≤ s then l[s.toNat]? else none
def findN (l : List Se) (name : ByteArray) : Nat → Int → Int × Int × Bool
  | 0, _ => (0, 0, false)
  | n + 1, s => match seAt l s with
    | none => (0, 0, false)
    | some x => if 0 ≤ idxR name 0 x.items then (s, idxR name 0 x.items, true) else findN l name n x.par
def findF (l : List Se) (s : Int) (name : ByteArray) : Int × Int × Bool := findN l name (l.length + 1) s
/-- a section's kids, from the k-th section on -/
def kidsN (s : Int) : Nat → List Se → List Int
  | _, [] => []
  | k, x :: r => if 0 ≤ s ∧ x.par = s then (k : Int) :: kidsN s (k + 1) r else kidsN s (k + 1) r
def kidsF (l : List Se) (s : Int) : List Int := kidsN s 0 l
def kidF (l : List Se) (s : Int) (name : ByteArray) : Int × Bool := match (kidsF l s).find? fun i => decide (((l[i.toNat]?).getD Se0).name = name) with
  | some i => (i, true)
  | none => (0, false)
/-! ### kinds -/
def nodesI (n : Int) : Int := IntKind.i64.wrap n
mutual
def nodesF : Xp → Int
  | .mk _ _ _ _ _ _ _ l => nodesL 1 l
def nodesL : Int → List Xp → Int
  | n, [] => n
  | n, x :: r => nodesL (nodesI (n + nodesF x)) r
end
/-- a kind and an error -/
abbrev Ki := Int × Int
def kNo : Ki := (0, 100)
def onlyF (out : Int) (got want : List Int) : Ki := if got = want then (out, 0) else kNo
def operF (op a b : Int) : Ki :=
  if 1 ≤ op ∧ op ≤ 3 then (if a = 1 ∧ b = 1 then (1, 0) else kNo) else
  if op = 4 ∨ op = 5 then (if a = b then (2, 0) else kNo) else
  if 6 ≤ op ∧ op ≤ 9 then (if a = 1 ∧ b = 1 then (2, 0) else kNo) else
  if op = 10 ∨ op = 11 then (if a = 2 ∧ b = 2 then (2, 0) else kNo) else kNo
end Go.AM

set_option linter.unusedVariables false
set_option linter.unusedSimpArgs false
set_option maxRecDepth 100000
namespace Go.AM
def cI (i : Int) : List Val := [.int .i64 i]
/-! ### names and aggregates -/
def xp00 : Xp := .mk 0 0 ByteArray.empty ByteArray.empty Vl0 0 0 []
def It0 : It := ⟨ByteArray.empty, 0, 0, 0, false, 0, xp00⟩
def itemAt (l : List Se) (s i : Int) : It := ((((seAt l s).getD Se0).items)[i.toNat]?).getD It0
def nameF (l : List Se) (s : Int) (name : ByteArray) (na : Nat) : Ki :=
  if (findF l s name).2.2 = true then (if na ≠ 0 ∨ typeE (itemAt l (findF l s name).1 (findF l s name).2.1).tk (itemAt l (findF l s name).1 (findF l s name).2.1).ts ≠ 0 then kNo else ((itemAt l (findF l s name).1 (findF l s name).2.1).tk, 0)) else (0, 91)
def rdAt (l : List Se) (s : Int) (name : ByteArray) : Option It := ((seAt l s).getD Se0).items.find? fun i => decide (i.reads name)
def unkF (l : List Se) (s op : Int) (name sect : ByteArray) : Ki :=
  if (kidF l s sect).2 = true then (if rdAt l (kidF l s sect).1 name = none ∧ op ≠ 16 then (0, 91) else kNo) else (0, 91)
def aggF (l : List Se) (s op : Int) (name sect : ByteArray) (na : Nat) : Ki :=
  if op < 12 ∨ 16 < op ∨ na ≠ 0 then unkF l s op name sect else
  if (kidF l s sect).2 = true then (if op = 16 then (if name ≠ ByteArray.empty then kNo else (1, 0)) else match rdAt l (kidF l s sect).1 name with
    | none => (0, 91)
    | some it => if op ≠ 13 ∧ it.tk ≠ 1 then kNo else (1, 0)) else (0, 91)
def roundF (sc p : Int) (l : List Int) : Ki := if l = [1] then (if sc < 0 ∨ 18 < sc then (0, 21) else if p < 1 ∨ 5 < p then (0, 22) else (1, 0)) else kNo
end Go.AM

set_option linter.unusedVariables false
set_option linter.unusedSimpArgs false
set_option maxRecDepth 100000
namespace Go.AM
def headF (tabs : List Tb) (l : List Se) (sec : Int) (k o : Int) (n s : ByteArray) (v : Vl) (sc p : Int) (na : Nat) (ks : List Int) : Ki :=
  if k = 1 then (if constE v ≠ 0 then (0, constE v) else onlyF v.kind ks []) else
  if k = 2 then nameF l sec n na else
  if k = 3 then onlyF 1 ks [1] else
  if k = 4 then onlyF 2 ks [2] else
  if k = 9 then (if ks.length = 1 then (2, 0) else kNo) else
  if k = 5 then (if ks.length = 2 then operF o (ks.getD 0 0) (ks.getD 1 0) else kNo) else
  if k = 6 then (if ks.length = 3 then onlyF (ks.getD 1 0) ks [2, ks.getD 1 0, ks.getD 1 0] else kNo) else
  if k = 7 then roundF sc p ks else
  if k = 8 then (if 0 ≤ idxT n 0 tabs then onlyF 1 ks [1] else (0, 91)) else
  if k = 10 then aggF l sec o n s na else kNo
mutual
def kindF (tabs : List Tb) (l : List Se) (sec : Int) : Xp → Ki
  | .mk k o n s v sc p as1 => if (kindsF tabs l sec as1).1 ≠ 0 then (0, (kindsF tabs l sec as1).1) else headF tabs l sec k o n s v sc p as1.length (kindsF tabs l sec as1).2
def kindsF (tabs : List Tb) (l : List Se) (sec : Int) : List Xp → Int × List Int
  | [] => (0, [])
  | x :: r => if (kindF tabs l sec x).2 ≠ 0 then ((kindF tabs l sec x).2, []) else if (kindsF tabs l sec r).1 ≠ 0 then ((kindsF tabs l sec r).1, []) else (0, (kindF tabs l sec x).1 :: (kindsF tabs l sec r).2)
end
section
variable {tabs : List Tb} {l : List Se} {sec : Int}
end
end Go.AM

set_option linter.unusedVariables false
set_option linter.unusedSimpArgs false
set_option maxRecDepth 100000
namespace Go.AM
structure It.Ok (i : It) : Prop where
  wf : i.expr.Wf
  lens : i.expr.Lens
inductive Sc.Ok : Sc → Prop
  | mk (x : Sc) (h1 : x.items.length ≤ maxLen) (h2 : x.items.length * 232 ≤ 140737488355328) (h3 : x.kids.length ≤ maxLen) (h4 : ∀ i ∈ x.items, i.Ok) (h5 : ∀ k ∈ x.kids, Sc.Ok k) : Sc.Ok x
theorem Sc.Ok.items1 {x : Sc} (h : x.Ok) : x.items.length ≤ maxLen := by cases h; assumption
theorem Sc.Ok.item {x : Sc} (h : x.Ok) {i : It} (hi : i ∈ x.items) : i.Ok := by cases h with | mk _ _ _ _ h4 _ => exact h4 i hi
theorem Sc.Ok.kid {x : Sc} (h : x.Ok) {k : Sc} (hk : k ∈ x.kids) : k.Ok := by cases h with | mk _ _ _ _ _ h5 => exact h5 k hk
def Se.Ok (s : Se) : Prop := s.items.length ≤ maxLen ∧ ∀ i ∈ s.items, i.Ok
theorem flatL_ok : ∀ (ks : List Sc), (∀ k ∈ ks, ∀ (l : List Se) (par dep : Int), (∀ s ∈ l, s.Ok) → ∀ s ∈ flatS k l par dep, s.Ok) → ∀ (l : List Se) (par dep : Int), (∀ s ∈ l, s.Ok) → ∀ s ∈ flatL ks l par dep, s.Ok
  | [], _, l, par, dep, hl => by rw [flatL_nil]; exact hl
  | k :: r, h, l, par, dep, hl => by
    rw [flatL_cons]
    exact flatL_ok r (fun k hk => h k (List.mem_cons_of_mem _ hk)) _ par dep (h k (List.mem_cons_self ..) l par dep hl)
theorem flatS_ok (x : Sc) : x.Ok → ∀ (l : List Se) (par dep : Int), (∀ s ∈ l, s.Ok) → ∀ s ∈ flatS x l par dep, s.Ok := by
  refine Sc.ind (Q := fun x => x.Ok → ∀ (l : List Se) (par dep : Int), (∀ s ∈ l, s.Ok) → ∀ s ∈ flatS x l par dep, s.Ok) ?_ x
  clear x
  intro x ih hx l par dep hl
  obtain ⟨n, m, it, ks⟩ := x
  by_cases h : 64 ≤ l.length ∨ 16 < dep
  · rw [flatS_no h]; exact hl
  · rw [flatS_yes h]
    refine flatL_ok ks (fun k hk => ih k hk (hx.kid hk)) _ _ _ fun s hs => ?_
    rcases List.mem_append.1 hs with h1 | h1
    · exact hl s h1
    · obtain rfl : s = ⟨par, dep, n, m, it⟩ := by simpa using h1
      exact ⟨hx.items1, fun i hi => hx.item hi⟩
structure Pg.Ok (p : Pg) : Prop where
  wf : p.whn.Wf
  lens : p.whn.Lens
structure Df.Ok (d : Df) : Prop where
  root : d.root.Ok
  tabs : d.tabs.length ≤ maxLen
  pages : d.pages.length ≤ maxLen
  pg : ∀ p ∈ d.pages, p.Ok
theorem Df.Ok.flat {d : Df} (h : d.Ok) : ∀ s ∈ d.flat, s.Ok := flatS_ok d.root h.root [] (-1) 1 fun s hs => absurd hs (by simp)
end Go.AM

