/- Operations of a script, read from a row's argument. -/
import Derived.Test.YtafiechoplbieaaAmHi
import Derived.Test.YtafiechoplbieaaAmJg
set_option linter.unusedVariables false
set_option linter.unusedSimpArgs false
set_option maxRecDepth 100000
namespace Go.AM
abbrev tdOp (e : TypeId) : TD := .struct [.int .i64, .int .i64, .int .i64, .slice e 10 88, .int .i64, .int .i64, .int .i64]
structure SopS where
  d : Int
  at_ : Int
  id : Int
  n : Nat
  g : Nat → List Val
  l : List Vl
  c : Int
  fr : Int
  to : Int
def cOpS (x : SopS) : List Val := [.int .i64 x.d, .int .i64 x.at_, .int .i64 x.id, .ext 10 x.n x.g, .int .i64 x.c, .int .i64 x.fr, .int .i64 x.to]
def SopS.op (x : SopS) : Sop := ⟨x.d, x.at_, x.id, x.l, x.c, x.fr, x.to⟩
structure SopS.ok (x : SopS) : Prop where
  ext : ExtL cV x.n x.g x.l
  len : x.n ≤ maxLen
theorem ty_op {T : TypeId → TD} {f : Nat} {e : TypeId} {vs : List Val} (hS : T e = tdVal) (h : Ty T f (tdOp e) vs) : ∃ x : SopS, x.ok ∧ vs = cOpS x := by
  cases f with
  | zero => exact h.elim
  | succ f =>
    rw [Ty, TyS] at h
    obtain ⟨a0, r0, e0, t0, h⟩ := tyF_cons h
    obtain ⟨a1, r1, e1, t1, h⟩ := tyF_cons h
    obtain ⟨a2, r2, e2, t2, h⟩ := tyF_cons h
    obtain ⟨a3, r3, e3, t3, h⟩ := tyF_cons h
    obtain ⟨a4, r4, e4, t4, h⟩ := tyF_cons h
    obtain ⟨a5, r5, e5, t5, h⟩ := tyF_cons h
    obtain ⟨a6, r6, e6, t6, h⟩ := tyF_cons h
    obtain ⟨d, rfl, _⟩ := tyS_i64 t0
    obtain ⟨at_, rfl, _⟩ := tyS_i64 t1
    obtain ⟨id, rfl, _⟩ := tyS_i64 t2
    obtain ⟨n, get, rfl, hn, hget⟩ := tyS_slice t3
    obtain ⟨c, rfl, _⟩ := tyS_i64 t4
    obtain ⟨fr, rfl, _⟩ := tyS_i64 t5
    obtain ⟨to, rfl, _⟩ := tyS_i64 t6
    have := tyF_nil h
    subst this e6 e5 e4 e3 e2 e1 e0
    obtain ⟨l, hl, hw⟩ := list_of (P := Vl.wf) (enc := cV) (g := get) (n := n) (fun i hi => by
      have h2 := (hget i hi).2
      rw [hS] at h2
      cases f with
      | zero => exact h2.elim
      | succ f => exact tyS_val (by rw [Ty] at h2; exact h2))
    exact ⟨⟨d, at_, id, n, get, l, c, fr, to⟩, ⟨hl, hn⟩, rfl⟩
theorem cells7 {φ : Prot} {a b c d e f g d' : Val} {cs : List Value} (h : CellsRel φ [a, b, c, d, e, f, g] cs) (hd : ∀ u, RelC φ d u → RelC φ d' u) : CellsRel φ [a, b, c, d', e, f, g] cs := by
  refine ⟨h.1, fun k hk => ?_⟩
  match k, hk with
  | 0, _ => exact h.2 0 (by simp)
  | 1, _ => exact h.2 1 (by simp)
  | 2, _ => exact h.2 2 (by simp)
  | 3, _ => exact ⟨(h.2 3 (by simp)).1, hd _ (h.2 3 (by simp)).2⟩
  | 4, _ => exact h.2 4 (by simp)
  | 5, _ => exact h.2 5 (by simp)
  | 6, _ => exact h.2 6 (by simp)
theorem ops_rel {φ : Prot} {n : Nat} {g : Nat → List Val} {l : List SopS} {u : Value} (hE : ExtL cOpS n g l) (hw : ∀ x, x ∈ l → x.ok) (h : RelC φ (.ext 7 n g) u) : RelC φ (eL 7 cOp (l.map SopS.op)) u := by
  obtain ⟨rfl, hE⟩ := hE
  have key : RelC φ (.ext 7 l.length (getL cOp (l.map SopS.op))) u := by
    refine h.ext_map (fun i hi => ?_) fun i cs hi hc => ?_
    · rw [getL_at (x := (l[i]).op) (by rw [List.getElem?_map, List.getElem?_eq_getElem hi]; rfl)]; rfl
    · rw [getL_at (x := (l[i]).op) (by rw [List.getElem?_map, List.getElem?_eq_getElem hi]; rfl)]
      rw [hE i hi] at hc
      have hx := (hw _ (List.getElem_mem hi)).ext
      generalize l[i] = x at *
      exact cells7 hc fun u hu => RelC.toL hx (fun _ => rfl) hu
  have e : (l.map SopS.op).length = l.length := by simp
  unfold eL
  rw [e]; exact key
end Go.AM

