/- The abstract machine's types held against the model's table. -/
import Derived.Test.YtkglccolonpnlaaAmSim
import Derived.Laws.Entries
import Derived.KernelRfl
set_option linter.unusedVariables false
set_option linter.unusedSimpArgs false
set_option maxRecDepth 100000
namespace Go.AM

theorem rep_length (n : Nat) (l : List Val) : (rep n l).length = n * l.length := by
  induction n with
  | zero => simp [rep]
  | succ n ih => simp [rep, ih, Nat.add_mul, Nat.add_comm]
mutual
theorem TD.zero_length : ∀ d : TD, d.zero.length = d.size
  | .bool => rfl
  | .int _ => rfl
  | .str => rfl
  | .struct fs => by simp [TD.zero, TD.size, TD.zeros_length fs]
  | .arr n e => by simp [TD.zero, TD.size, rep_length, TD.zero_length e]
  | .slice .. => rfl
  | .ptr _ => rfl
  | .map .. => rfl
  | .func => rfl
  | .iface => rfl
  | .bad => rfl
theorem TD.zeros_length : ∀ fs : List TD, (TD.zeros fs).length = TD.sizes fs
  | [] => rfl
  | f :: fs => by simp [TD.zeros, TD.sizes, TD.zero_length f, TD.zeros_length fs]
end

def CellsRel (φ : Prot) (vs : List Val) (us : List Value) : Prop :=
  us.length = vs.length ∧ ∀ k, k < vs.length → (us.getD k undef).oneCell' = true ∧ RelC φ (vs.getD k .und) (us.getD k undef)

/-- The model's record of a type: its size, its zero value. -/
def Zok (P : Program) (t : TypeId) (d : TD) : Prop :=
  ∃ i z, P.info? t = some i ∧ i.size = d.size ∧ i.zero = some z ∧ (∀ φ, CellsRel φ d.zero z.cells.toList) ∧ (d.isAgg = true → ∃ us, z = .agg us) ∧ (d.isAgg = false → z.oneCell' = true)

mutual
def Good (P : Program) : TD → TypeId → Prop
  | .bool, t => P.underlying t = some .bool ∧ Zok P t .bool
  | .int k, t => P.underlying t = some (.int k) ∧ Zok P t (.int k)
  | .str, t => P.underlying t = some .string ∧ Zok P t .str
  | .struct fs, t => (∃ fields, P.underlying t = some (.struct fields) ∧ GoodF P fs fields.toList 0) ∧ (TD.flats fs = true → P.stoodInHeld t = false ∧ P.eqGuardType P.depth t = false) ∧ Zok P t (.struct fs)
  | .arr n e, t => (∃ el, P.underlying t = some (.array n el) ∧ Good P e el) ∧ (e.flat = true → P.eqGuardType P.depth t = false) ∧ Zok P t (.arr n e)
  | .slice e sz by_, t => P.underlying t = some (.slice e) ∧ (∃ i, P.info? e = some i ∧ i.size = sz ∧ i.bytes = by_) ∧ Zok P t (.slice e sz by_)
  | .ptr e, t => P.underlying t = some (.pointer e) ∧ Zok P t (.ptr e)
  | .map k e, t => P.underlying t = some (.map k e) ∧ Zok P t (.map k e)
  | .func, t => (∃ ps rs v, P.underlying t = some (.func ps rs v)) ∧ Zok P t .func
  | .iface, t => (∃ ms, P.underlying t = some (.interface ms)) ∧ Zok P t .iface
  | .bad, _ => False
def GoodF (P : Program) : List TD → List Field → Nat → Prop
  | [], [], _ => True
  | d :: ds, f :: fs, o => f.offset = o ∧ (f.name == "_") = false ∧ Good P d f.type ∧ GoodF P ds fs (o + d.size)
  | _, _, _ => False
end

def TOk (P : Program) (T : TypeId → TD) : Prop := ∀ t d, T t = d → d = .bad ∨ Good P d t

/-! ### the same as a Bool, for the kernel -/
def cellB : Value → Val → Bool
  | .bool a, .bool b => a == b
  | .int k a, .int k' b => decide (k = k') && a == b
  | .string s, .str r => s.size == 0 && r.size == 0
  | .slice none 0 0, .nils => true
  | .pointer none, .nilp => true
  | .map none, .nilm => true
  | .nilFunc, .nilf => true
  | .nilIface, .nili => true
  | _, _ => false
def cellsB : List Value → List Val → Bool
  | [], [] => true
  | u :: us, v :: vs => cellB u v && cellsB us vs
  | _, _ => false
theorem cellB_ok {φ : Prot} {u : Value} {v : Val} (h : cellB u v = true) : u.oneCell' = true ∧ RelC φ v u := by
  unfold cellB at h
  split at h
  · rw [beq_iff_eq] at h; subst h; exact ⟨rfl, .bool _⟩
  · simp only [Bool.and_eq_true, decide_eq_true_eq, beq_iff_eq] at h; obtain ⟨rfl, rfl⟩ := h; exact ⟨rfl, .int _ _⟩
  · rename_i s r
    simp only [Bool.and_eq_true, beq_iff_eq] at h
    have e : s = r := by
      cases s with | mk a => cases r with | mk b =>
      have h1 : a.size = 0 := h.1
      have h2 : b.size = 0 := h.2
      rw [Array.eq_empty_of_size_eq_zero h1, Array.eq_empty_of_size_eq_zero h2]
    subst e; exact ⟨rfl, .str _⟩
  · exact ⟨rfl, .nils⟩
  · exact ⟨rfl, .nilp⟩
  · exact ⟨rfl, .nilm⟩
  · exact ⟨rfl, .nilf⟩
  · exact ⟨rfl, .nili⟩
  · cases h
theorem cellsB_ok {φ : Prot} : ∀ {us : List Value} {vs : List Val}, cellsB us vs = true → CellsRel φ vs us
  | [], [], _ => ⟨rfl, fun k hk => absurd hk (by simp)⟩
  | u :: us, v :: vs, h => by
    simp only [cellsB, Bool.and_eq_true] at h
    have ih := cellsB_ok (φ := φ) h.2
    refine ⟨by simp [ih.1], fun k hk => ?_⟩
    cases k with
    | zero => exact cellB_ok h.1
    | succ k => exact ih.2 k (by simpa using hk)
  | [], _ :: _, h => by cases h
  | _ :: _, [], h => by cases h
def zokB (P : Program) (t : TypeId) (d : TD) : Bool :=
  match P.info? t with
  | some i => i.size == d.size && match i.zero with
    | some z => cellsB z.cells.toList d.zero && (match z with | .agg _ => d.isAgg | z => !d.isAgg && z.oneCell')
    | none => false
  | none => false
theorem zokB_ok {P : Program} {t : TypeId} {d : TD} (h : zokB P t d = true) : Zok P t d := by
  unfold zokB at h
  split at h
  · rename_i i hi
    simp only [Bool.and_eq_true, beq_iff_eq] at h
    obtain ⟨h1, h2⟩ := h
    split at h2
    · rename_i z hz
      rw [Bool.and_eq_true] at h2
      obtain ⟨h3, h4⟩ := h2
      refine ⟨i, z, hi, h1, hz, fun φ => cellsB_ok h3, ?_, ?_⟩
      · intro hd; cases z <;> simp_all
      · intro hd; cases z <;> simp_all
    · cases h2
  · cases h
mutual
def goodB (P : Program) : TD → TypeId → Bool
  | .bool, t => (match P.underlying t with | some .bool => true | _ => false) && zokB P t .bool
  | .int k, t => (match P.underlying t with | some (.int k') => decide (k = k') | _ => false) && zokB P t (.int k)
  | .str, t => (match P.underlying t with | some .string => true | _ => false) && zokB P t .str
  | .struct fs, t => (match P.underlying t with | some (.struct fields) => goodFB P fs fields.toList 0 | _ => false) && (!TD.flats fs || (!P.stoodInHeld t && !P.eqGuardType P.depth t)) && zokB P t (.struct fs)
  | .arr n e, t => (match P.underlying t with | some (.array m el) => n == m && goodB P e el | _ => false) && (!e.flat || !P.eqGuardType P.depth t) && zokB P t (.arr n e)
  | .slice e sz by_, t => (match P.underlying t with | some (.slice e') => e == e' | _ => false) && (match P.info? e with | some i => i.size == sz && i.bytes == by_ | _ => false) && zokB P t (.slice e sz by_)
  | .ptr e, t => (match P.underlying t with | some (.pointer e') => e == e' | _ => false) && zokB P t (.ptr e)
  | .map k e, t => (match P.underlying t with | some (.map k' e') => k == k' && e == e' | _ => false) && zokB P t (.map k e)
  | .func, t => (match P.underlying t with | some (.func ..) => true | _ => false) && zokB P t .func
  | .iface, t => (match P.underlying t with | some (.interface _) => true | _ => false) && zokB P t .iface
  | .bad, _ => false
def goodFB (P : Program) : List TD → List Field → Nat → Bool
  | [], [], _ => true
  | d :: ds, f :: fs, o => f.offset == o && !(f.name == "_") && goodB P d f.type && goodFB P ds fs (o + d.size)
  | _, _, _ => false
end
mutual
theorem goodB_ok {P : Program} : ∀ {d : TD} {t : TypeId}, goodB P d t = true → Good P d t
  | .bool, t, h => by
    simp only [goodB, Bool.and_eq_true] at h
    refine ⟨?_, zokB_ok h.2⟩
    have := h.1; split at this <;> first | assumption | cases this
  | .int k, t, h => by
    simp only [goodB, Bool.and_eq_true] at h
    refine ⟨?_, zokB_ok h.2⟩
    have := h.1; split at this
    · rename_i k' hk; rw [decide_eq_true_eq] at this; subst this; exact hk
    · cases this
  | .str, t, h => by
    simp only [goodB, Bool.and_eq_true] at h
    refine ⟨?_, zokB_ok h.2⟩
    have := h.1; split at this <;> first | assumption | cases this
  | .struct fs, t, h => by
    simp only [goodB, Bool.and_eq_true] at h
    refine ⟨?_, ?_, zokB_ok h.2⟩
    · have := h.1.1; split at this
      · rename_i fields hf; exact ⟨fields, hf, goodFB_ok this⟩
      · cases this
    · intro hf
      have := h.1.2
      simp [hf] at this
      exact this
  | .arr n e, t, h => by
    simp only [goodB, Bool.and_eq_true] at h
    refine ⟨?_, ?_, zokB_ok h.2⟩
    · have := h.1.1; split at this
      · rename_i m el hf; rw [Bool.and_eq_true, beq_iff_eq] at this; obtain ⟨rfl, h2⟩ := this; exact ⟨el, hf, goodB_ok h2⟩
      · cases this
    · intro hf
      have := h.1.2
      simp [hf] at this
      exact this
  | .slice e sz by_, t, h => by
    simp only [goodB, Bool.and_eq_true] at h
    refine ⟨?_, ?_, zokB_ok h.2⟩
    · have := h.1.1; split at this
      · rename_i e' hf; rw [beq_iff_eq] at this; subst this; exact hf
      · cases this
    · have := h.1.2; split at this
      · rename_i i hi; rw [Bool.and_eq_true, beq_iff_eq, beq_iff_eq] at this; exact ⟨i, hi, this⟩
      · cases this
  | .ptr e, t, h => by
    simp only [goodB, Bool.and_eq_true] at h
    refine ⟨?_, zokB_ok h.2⟩
    have := h.1; split at this
    · rename_i e' hf; rw [beq_iff_eq] at this; subst this; exact hf
    · cases this
  | .map k e, t, h => by
    simp only [goodB, Bool.and_eq_true] at h
    refine ⟨?_, zokB_ok h.2⟩
    have := h.1; split at this
    · rename_i k' e' hf; rw [Bool.and_eq_true, beq_iff_eq, beq_iff_eq] at this; obtain ⟨rfl, rfl⟩ := this; exact hf
    · cases this
  | .func, t, h => by
    simp only [goodB, Bool.and_eq_true] at h
    refine ⟨?_, zokB_ok h.2⟩
    have := h.1; split at this
    · rename_i a b c hf; exact ⟨a, b, c, hf⟩
    · cases this
  | .iface, t, h => by
    simp only [goodB, Bool.and_eq_true] at h
    refine ⟨?_, zokB_ok h.2⟩
    have := h.1; split at this
    · rename_i ms hf; exact ⟨ms, hf⟩
    · cases this
  | .bad, _, h => by cases h
theorem goodFB_ok {P : Program} : ∀ {ds : List TD} {fs : List Field} {o : Nat}, goodFB P ds fs o = true → GoodF P ds fs o
  | [], [], _, _ => trivial
  | d :: ds, f :: fs, o, h => by
    simp only [goodFB, Bool.and_eq_true, beq_iff_eq, Bool.not_eq_true'] at h
    exact ⟨h.1.1.1, h.1.1.2, goodB_ok h.1.2, goodFB_ok h.2⟩
  | [], _ :: _, _, h => by cases h
  | _ :: _, [], _, h => by cases h
end
/-- A table as a list: what isn't in it is not known. -/
def tableOf (l : List (TypeId × TD)) (t : TypeId) : TD := match l with
  | [] => .bad
  | (u, d) :: l => match u == t with
    | true => d
    | false => tableOf l t
def tableB (P : Program) (l : List (TypeId × TD)) : Bool := l.all fun (t, d) => goodB P d t
theorem tableB_ok {P : Program} : ∀ {l : List (TypeId × TD)}, tableB P l = true → TOk P (tableOf l)
  | [], _ => fun t d e => .inl e.symm
  | (u, x) :: l, h => by
    intro t d e
    simp only [tableB, List.all_cons, Bool.and_eq_true] at h
    unfold tableOf at e
    split at e
    · rename_i hu; rw [beq_iff_eq] at hu; subst hu; subst e; exact .inr (goodB_ok h.1)
    · exact tableB_ok (l := l) h.2 t d e

theorem Good.zok {P : Program} {d : TD} {t : TypeId} (h : Good P d t) : Zok P t d := by
  cases d <;> simp only [Good] at h <;> first | exact h.2 | exact h.2.2 | exact h.elim
/-- What a type is at bottom. -/
theorem Good.isAgg_run {P : Program} {d : TD} {t : TypeId} (h : Good P d t) (w : World) : (isAgg t).run P w = .ok d.isAgg w := by
  cases d <;> simp only [Good] at h
  case struct fs => obtain ⟨⟨fields, hf, _⟩, _⟩ := h; simp [isAgg, run_underlying hf, TD.isAgg]
  case arr n e => obtain ⟨⟨el, hf, _⟩, _⟩ := h; simp [isAgg, run_underlying hf, TD.isAgg]
  case func => obtain ⟨⟨a, b, c, hf⟩, _⟩ := h; simp [isAgg, run_underlying hf, TD.isAgg]
  case iface => obtain ⟨⟨ms, hf⟩, _⟩ := h; simp [isAgg, run_underlying hf, TD.isAgg]
  all_goals (obtain ⟨hf, _⟩ := h; simp [isAgg, run_underlying hf, TD.isAgg])
theorem run_info {P : Program} {t : TypeId} {i : TypeInfo} (h : P.info? t = some i) (w : World) : (typeInfo t).run P w = .ok i w := by
  simp [typeInfo, program, Sem.run, h]
theorem Good.size_run {P : Program} {d : TD} {t : TypeId} (h : Good P d t) (w : World) : (sizeOf t).run P w = .ok d.size w := by
  obtain ⟨i, z, hi, hs, _⟩ := h.zok
  simp [sizeOf, run_info hi, hs]
end Go.AM
