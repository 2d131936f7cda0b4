/- The abstract machine's operations do what the model's do. -/
import Derived.Test.YtafiechoplbieaaAmHa
import Derived.Laws.CopyRow
import Derived.Laws.Cells
import Derived.Maps.AppendAt
import Derived.Laws.StructEq
import Derived.ChangeKeysEq
import Derived.LaidEql
set_option linter.unusedVariables false
set_option linter.unusedSimpArgs false
set_option maxRecDepth 100000
namespace Go.AM
noncomputable section
open Go.RowKit

/-! ### the continuation forms, as what they are -/
section
variable {α : Type}
theorem putK_eq : ∀ (l : List Val) (n : Nat) (v : Val) (K : List Val → α), putK l n v K = K (l.set n v)
  | [], _, _, _ => rfl
  | _ :: _, 0, _, _ => rfl
  | x :: l, n + 1, v, K => (putK_eq l n v fun l' => K (x :: l')).trans (by rw [List.set_cons_succ])
theorem getK_eq : ∀ (l : List Val) (n : Nat) (K : Val → α), getK l n K = K (l.getD n (.tup []))
  | [], _, _ => rfl
  | _ :: _, 0, _ => rfl
  | x :: l, n + 1, K => (getK_eq l n K).trans (by rw [List.getD_cons_succ])
theorem dropK_eq : ∀ (l : List Val) (n : Nat) (K : List Val → α), dropK l n K = K (l.drop n)
  | l, 0, _ => by simp [dropK]
  | [], n + 1, _ => by simp [dropK]
  | x :: l, n + 1, K => by simp only [dropK, dropK_eq l n, List.drop_succ_cons]
theorem takeK_eq : ∀ (l : List Val) (n : Nat) (K : List Val → α), takeK l n K = K (l.take n)
  | l, 0, _ => by simp [takeK]
  | [], n + 1, _ => by simp [takeK]
  | x :: l, n + 1, K => by simp only [takeK, takeK_eq l n, List.take_succ_cons]
theorem appK_eq : ∀ (l m : List Val) (K : List Val → α), appK l m K = K (l ++ m)
  | [], m, _ => rfl
  | x :: l, m, K => by simp only [appK, appK_eq l m, List.cons_append]
def ofV (v : Value) : Val := ofValueK v id
theorem ofValueK_eq (v : Value) (K : Val → α) : ofValueK v K = K (ofV v) := by
  unfold ofV ofValueK
  split <;> rfl
def evV (tm : List Val) (x : Operand) : Val := evK tm x id
theorem evK_eq (tm : List Val) (x : Operand) (K : Val → α) : evK tm x K = K (evV tm x) := by
  unfold evV evK
  cases x <;> simp only [getK_eq, ofValueK_eq, id]
theorem evsK_eq (tm : List Val) : ∀ (xs : List Operand) (K : List Val → α), evsK tm xs K = K (xs.map (evV tm))
  | [], _ => rfl
  | x :: xs, K => by simp only [evsK, evK_eq, evsK_eq tm xs, List.map_cons]
theorem optK_eq (tm : List Val) (x : Option Operand) (K : Option Val → α) : optK tm x K = K (x.map (evV tm)) := by
  cases x <;> simp [optK, evK_eq]
end
theorem splice_eq (cs : List Val) (off : Nat) (new : List Val) (K : List Val → Prog) : splice cs off new K = K (cs.take off ++ (new ++ cs.drop (off + new.length))) := by
  simp only [splice, takeK_eq, dropK_eq, appK_eq]

/-- What was read grows. -/
theorem Prog.run_reads : ∀ (p : Prog) (H : Nat → Blk) (r : List Nat) (v : Val) (u : Upd) (r' : List Nat), p.run H r (fun v' u' r'' => v' = v ∧ u' = u ∧ r'' = r') → ∀ b, b ∈ r → b ∈ r'
  | .ret _ _, _, _, _, _, _, ⟨_, _, h⟩, b, hb => by subst h; exact hb
  | .get x k, H, r, v, u, r', h, b, hb => Prog.run_reads (k (H x)) H (x :: r) v u r' h b (List.mem_cons_of_mem _ hb)
  | @Prog.need _ _ k, H, r, v, u, r', h, b, hb => Prog.run_reads k H r v u r' h.2 b hb
  | .fail, _, _, _, _, _, h, _, _ => h.elim
/-- It hangs on no block but those that it reads. -/
theorem Prog.run_local : ∀ (p : Prog) (H H' : Nat → Blk) (r : List Nat) (v : Val) (u : Upd) (r' : List Nat), (∀ b, b ∈ r' → H' b = H b) → p.run H r (fun v' u' r'' => v' = v ∧ u' = u ∧ r'' = r') →
    p.run H' r (fun v' u' r'' => v' = v ∧ u' = u ∧ r'' = r')
  | .ret _ _, _, _, _, _, _, _, _, h => h
  | .get x k, H, H', r, v, u, r', hb, h => by
    have hx : x ∈ r' := Prog.run_reads (k (H x)) H (x :: r) v u r' h x (by simp)
    show (k (H' x)).run H' (x :: r) _
    rw [hb x hx]
    exact Prog.run_local (k (H x)) H H' (x :: r) v u r' hb h
  | @Prog.need _ _ k, H, H', r, v, u, r', hb, h => ⟨h.1, Prog.run_local k H H' r v u r' hb h.2⟩
  | .fail, _, _, _, _, _, _, _, h => h.elim

def applyF (H : Nat → Blk) : Upd → Nat → Blk
  | [] => H
  | (i, x) :: u => applyF (setH H i x) u

/-! ### the frame's temporaries -/
structure TmOk (ι : Map) (φ : Prot) (tm : List Val) (us : Array Value) : Prop where
  len : us.size = tm.length
  rel : ∀ i, i < tm.length → Rel ι φ (tm.getD i .und) (us.getD i undef)
theorem rel_undef (ι : Map) (φ : Prot) : Rel ι φ (.tup []) undef := .tup [] #[] rfl (fun i hi => absurd hi (by simp))
theorem TmOk.get {ι : Map} {φ : Prot} {tm : List Val} {us : Array Value} (h : TmOk ι φ tm us) (i : Nat) : Rel ι φ (tm.getD i (.tup [])) (us.getD i undef) := by
  rcases Nat.lt_or_ge i tm.length with hi | hi
  · have := h.rel i hi
    rwa [List.getD_eq_getElem?_getD, List.getElem?_eq_getElem hi] at this ⊢
  · rw [List.getD_eq_getElem?_getD, List.getElem?_eq_none hi]
    have : us.size ≤ i := by rw [h.len]; exact hi
    simp only [Array.getD_eq_getD_getElem?, Array.getElem?_eq_none this]
    exact rel_undef ι φ
theorem ofV_rel (ι : Map) (φ : Prot) (v : Value) : Rel ι φ (ofV v) v := by
  unfold ofV ofValueK
  split
  · exact .c (.bool _)
  · exact .c (.int _ _)
  · exact .c (.str _)
  · exact .c .nilp
  · exact .c .nils
  · exact .c .nilm
  · exact .c .nilf
  · exact .c .nili
  · exact rel_undef ι φ
  · exact .und _
theorem TmOk.ev {ι : Map} {φ : Prot} {tm : List Val} {a : Act} (h : TmOk ι φ tm a.tmps) (x : Operand) : Rel ι φ (evV tm x) (a.eval x) := by
  unfold evV evK
  cases x with
  | tmp t => simp only [getK_eq, id]; exact h.get t
  | const v => simp only [ofValueK_eq, id]; exact ofV_rel ι φ v
  | global g => exact .und _
  | func f => exact .c (.fn f)
theorem TmOk.mono {ι ι' : Map} {φ φ' : Prot} {tm : List Val} {us : Array Value} (hm : MapLe ι ι') (hp : ProtLe φ φ') (h : TmOk ι φ tm us) : TmOk ι' φ' tm us :=
  ⟨h.len, fun i hi => (h.rel i hi).mono hm hp⟩

/-- One operation's step, in the model. -/
structure Step (P : Program) (o : Oper) (a : Act) (w : World) (w0 : World) (S : Nat → Prop) (φ0 : Prot) (ι : Map) (φ : Prot) (H : Nat → Blk) (nid : Nat) (v : Val) (u : Upd) : Prop where
  ex : ∃ nx cv w' ι' φ', (execOp a.eval o).run P w = .ok nx w' ∧ (nx = .value cv ∨ nx = .skip ∧ cv = undef) ∧ Rel ι' φ' v cv ∧ Inv w0 S φ0 ι' φ' (applyF H u) w' ∧
    MapLe ι ι' ∧ ProtLe φ φ' ∧ ∀ b, (b = nid → ∀ x, (nid, x) ∉ u) → ι' b = ι b

section
variable {P : Program} {o : Oper} {a : Act} {w w0 : World} {S : Nat → Prop} {φ0 : Prot} {ι : Map} {φ : Prot} {H : Nat → Blk} {nid : Nat} {v : Val} {u : Upd}
/-- An operation that leaves the world alone. -/
theorem Step.pure_ (hi : Inv w0 S φ0 ι φ H w) {cv : Value} (hr : (execOp a.eval o).run P w = .ok (.value cv) w) (hv : Rel ι φ v cv) : Step P o a w w0 S φ0 ι φ H nid v [] :=
  ⟨_, cv, w, ι, φ, hr, .inl rfl, hv, hi, .refl _, .refl _, fun _ _ => rfl⟩
/-- A new block. -/
theorem Step.alloc_ (hi : Inv w0 S φ0 ι φ H w) (hn : ι nid = none) {cv : Value} {ob : Obj} {x : Blk} {c : Nat} (hr : (execOp a.eval o).run P w = .ok (.value cv) (w.alloc ob))
    (hx : BlkOk (setM ι nid (w.heap.size, c)) φ (w.alloc ob) nid x) (hv : Rel (setM ι nid (w.heap.size, c)) φ v cv) : Step P o a w w0 S φ0 ι φ H nid v [(nid, x)] :=
  ⟨_, cv, w.alloc ob, setM ι nid (w.heap.size, c), φ, hr, .inl rfl, hv, hi.alloc hn hx, setM_le hn, .refl _, fun b hb => by
    have : b ≠ nid := fun e => hb e _ (List.mem_singleton.2 rfl)
    simp [setM, this]⟩
end
theorem heap_new (w : World) (o : Obj) : (w.alloc o).heap[w.heap.size]? = some o := heap_alloc_new w o

/-! inversion: what a value that is related is -/
section
variable {ι : Map} {φ : Prot} {u : Value}
theorem Rel.bool_ {b : Bool} (h : Rel ι φ (.bool b) u) : u = .bool b := by cases h with | c h => cases h; rfl
theorem Rel.int_ {k : IntKind} {n : Int} (h : Rel ι φ (.int k n) u) : u = .int k n := by cases h with | c h => cases h; rfl
theorem Rel.str_ {s : ByteArray} (h : Rel ι φ (.str s) u) : u = .string s := by cases h with | c h => cases h; rfl
theorem Rel.nilp_ (h : Rel ι φ .nilp u) : u = .pointer none := by cases h with | c h => cases h; rfl
theorem Rel.nils_ (h : Rel ι φ .nils u) : u = .slice none 0 0 := by cases h with | c h => cases h; rfl
theorem Rel.emp_ (h : Rel ι φ .emp u) : ∃ A : Option Addr, u = .slice A 0 0 := by cases h with | c h => cases h with | emp A => exact ⟨A, rfl⟩
theorem Rel.agg_ {cs : List Val} (h : Rel ι φ (.agg cs) u) : ∃ us : Array Value, u = .agg us ∧ us.size = cs.length ∧ (∀ i, i < cs.length → (us.getD i undef).oneCell' = true) ∧ ∀ i, i < cs.length → Rel ι φ (cs.getD i .und) (us.getD i undef) := by
  cases h with
  | c h => cases h
  | agg _ us h h1 hr => exact ⟨us, rfl, h, h1, hr⟩
theorem Rel.tup_ {cs : List Val} (h : Rel ι φ (.tup cs) u) : ∃ us : Array Value, u = .tuple us ∧ us.size = cs.length ∧ ∀ i, i < cs.length → Rel ι φ (cs.getD i .und) (us.getD i undef) := by
  cases h with
  | c h => cases h
  | tup _ us h hr => exact ⟨us, rfl, h, hr⟩
theorem Rel.ptr_ {b off : Nat} (h : Rel ι φ (.ptr b off) u) : ∃ g c, ι b = some (g, c) ∧ u = .pointer (some ⟨g, off, none⟩) := by
  cases h with
  | c h => cases h
  | ptr _ _ g c h => exact ⟨g, c, h, rfl⟩
theorem Rel.ep_ {b sz i j : Nat} (h : Rel ι φ (.ep b sz i j) u) : ∃ g c, ι b = some (g, c) ∧ u = .pointer (some ⟨g, i * sz + j, none⟩) := by
  cases h with
  | c h => cases h
  | ep _ _ _ _ g c h => exact ⟨g, c, h, rfl⟩
theorem Rel.row_ {b n : Nat} (h : Rel ι φ (.row b n) u) : ∃ g c, ι b = some (g, c) ∧ n ≤ c ∧ u = .slice (some ⟨g, 0, none⟩) n c := by
  cases h with
  | c h => cases h
  | row _ _ g c h hn => exact ⟨g, c, h, hn, rfl⟩
theorem Rel.rptr_ {cs : List Val} (h : Rel ι φ (.rptr cs) u) : ∃ (A : Addr) (vals : Nat → Value), u = .pointer (some A) ∧ (∀ j, j < cs.length → φ (A.add j) = some (vals j)) ∧ (∀ j, j < cs.length → (vals j).oneCell' = true) ∧ ∀ j, j < cs.length → RelC φ (cs.getD j .und) (vals j) := by
  cases h with
  | c h => cases h with | rptr _ A vals hφ h1 hr => exact ⟨A, vals, rfl, hφ, h1, hr⟩
theorem Rel.ext_ {sz n : Nat} {get : Nat → List Val} (h : Rel ι φ (.ext sz n get) u) : (n = 0 ∧ u = .slice none 0 0) ∨ ∃ (A : Addr) (c : Nat) (vals : Nat → Nat → Value), u = .slice (some A) n c ∧ n ≤ c ∧ (∀ i, i < n → (get i).length = sz) ∧
    (∀ i j, i < n → j < sz → φ (A.add (i * sz + j)) = some (vals i j)) ∧ (∀ i j, i < n → j < sz → (vals i j).oneCell' = true) ∧ ∀ i j, i < n → j < sz → RelC φ ((get i).getD j .und) (vals i j) := by
  cases h with
  | c h => cases h with
    | ext _ _ _ A c vals hc hl hφ h1 hr => exact .inr ⟨A, c, vals, rfl, hc, hl, hφ, h1, hr⟩
    | extNil => exact .inl ⟨rfl, rfl⟩
theorem Rel.fn_ {f : FuncId} {fs cs : List Val} (h : Rel ι φ (.fn f fs cs) u) : ∃ us ws : Array Value, u = .func (.func f) us ws ∧ us.size = fs.length ∧ ws.size = cs.length ∧
    (∀ i, i < fs.length → Rel ι φ (fs.getD i .und) (us.getD i undef)) ∧ ∀ i, i < cs.length → Rel ι φ (cs.getD i .und) (ws.getD i undef) := by
  cases h with
  | c h => cases h with | fn => exact ⟨#[], #[], rfl, rfl, rfl, fun i hi => absurd hi (by simp), fun i hi => absurd hi (by simp)⟩
  | fn _ _ _ us ws h1 h2 r1 r2 => exact ⟨us, ws, rfl, h1, h2, r1, r2⟩
/-- What is neither an aggregate, nor a tuple, nor unknown, is one cell. -/
theorem Rel.one_cell {v : Val} (h : Rel ι φ v u) (h1 : ∀ cs, v ≠ .agg cs) (h2 : ∀ cs, v ≠ .tup cs) (h3 : v ≠ .und) : u.oneCell' = true := by
  cases h with
  | c h => cases h <;> rfl
  | agg cs => exact absurd rfl (h1 cs)
  | tup cs => exact absurd rfl (h2 cs)
  | und => exact absurd rfl h3
  | raw _ h => exact h
  | _ => rfl
end
/-- A closed value hangs on no block. -/
theorem Rel.closed_ {ι : Map} {φ : Prot} {v : Val} {u : Value} (h : Rel ι φ v u) : closed v = true → RelC φ v u := by
  induction h with
  | c h => exact fun _ => h
  | fn f fs cs us ws h1 h2 r1 r2 =>
    intro h
    cases fs with
    | cons => simp [closed] at h
    | nil => cases cs with
      | cons => simp [closed] at h
      | nil =>
        have e1 : us = #[] := Array.eq_empty_of_size_eq_zero (by simpa using h1)
        have e2 : ws = #[] := Array.eq_empty_of_size_eq_zero (by simpa using h2)
        subst e1; subst e2
        exact .fn f
  | ifc t v u h ih => intro hc; exact .ifc t v u (ih (by simpa [closed] using hc))
  | _ => intro h; simp [closed] at h
theorem closedL_get : ∀ {l : List Val} {k : Nat}, closedL l = true → k < l.length → closed (l.getD k .und) = true
  | [], _, _, h => absurd h (by simp)
  | x :: l, 0, h, _ => by simp only [closedL, Bool.and_eq_true] at h; exact h.1
  | x :: l, k + 1, h, hk => by
    simp only [closedL, Bool.and_eq_true] at h
    rw [List.getD_cons_succ]
    exact closedL_get h.2 (by simpa using hk)
/-- The cells of a value, held against the model's. -/
def CellsOk (ι : Map) (φ : Prot) (vs : List Val) (us : List Value) : Prop :=
  us.length = vs.length ∧ ∀ k, k < vs.length → (us.getD k undef).oneCell' = true ∧ Rel ι φ (vs.getD k .und) (us.getD k undef)
theorem Rel.cells {ι : Map} {φ : Prot} {v : Val} {u : Value} (h : Rel ι φ v u) (h2 : ∀ cs, v ≠ .tup cs) (h3 : v ≠ .und) : CellsOk ι φ (cellsOf v) u.cells.toList := by
  by_cases ha : ∃ cs, v = .agg cs
  · obtain ⟨cs, rfl⟩ := ha
    obtain ⟨us, rfl, hs, h1, hr⟩ := h.agg_
    refine ⟨by simpa [cellsOf, Value.cells] using hs, fun k hk => ?_⟩
    have e : us.toList.getD k undef = us.getD k undef := by simp [List.getD_eq_getElem?_getD, Array.getD_eq_getD_getElem?]
    simp only [cellsOf, Value.cells] at hk ⊢
    rw [e]
    exact ⟨h1 k hk, hr k hk⟩
  · have h1 : ∀ cs, v ≠ .agg cs := fun cs e => ha ⟨cs, e⟩
    have hc : cellsOf v = [v] := by cases v <;> first | rfl | exact absurd rfl (h1 _)
    have ho := h.one_cell h1 h2 h3
    have hu : u.cells.toList = [u] := by cases u <;> first | rfl | cases ho
    rw [hc, hu]
    refine ⟨rfl, fun k hk => ?_⟩
    have : k = 0 := by simp at hk; omega
    subst this
    exact ⟨ho, h⟩
end
end Go.AM

set_option linter.unusedVariables false
set_option linter.unusedSimpArgs false
set_option maxRecDepth 100000
namespace Go.AM
noncomputable section
open Go.RowKit

def Does (p : Prog) (H : Nat → Blk) (r : List Nat) (v : Val) (u : Upd) (r' : List Nat) : Prop := p.run H r (fun v' u' r'' => v' = v ∧ u' = u ∧ r'' = r')
theorem does_valK {x : Val} {H : Nat → Blk} {r : List Nat} {v : Val} {u : Upd} {r' : List Nat} (h : Does (valK x) H r v u r') : v = x ∧ u = [] := ⟨h.1.symm, h.2.1.symm⟩

theorem add_eq (g off j : Nat) : (⟨g, off, none⟩ : Addr).add j = ⟨g, off + j, none⟩ := by unfold Addr.add; split <;> simp_all
theorem add_add (a : Addr) (i j : Nat) : (a.add i).add j = a.add (i + j) := by
  unfold Addr.add
  by_cases hi : i = 0 <;> by_cases hj : j = 0 <;> simp [hi, hj, Nat.add_assoc]

theorem getD_take {l : List Val} {n k : Nat} (h : k < n) : (l.take n).getD k .und = l.getD k .und := by
  simp [List.getD_eq_getElem?_getD, h]
theorem getD_drop {l : List Val} {n k : Nat} : (l.drop n).getD k .und = l.getD (n + k) .und := by
  simp [List.getD_eq_getElem?_getD, List.getElem?_drop]

section
variable {P : Program} {ι : Map} {φ : Prot}
/-- Cells as a value of a type: what 'wrapVal' gives, and the model. -/
theorem does_from {d : TD} {cs : List Val} {off : Nat} {H : Nat → Blk} {r : List Nat} {v : Val} {u : Upd} {r' : List Nat} (h : Does (fromP d cs off) H r v u r') :
    u = [] ∧ ((cs.drop off).take d.size).length = d.size ∧ (d.isAgg = true ∧ v = .agg ((cs.drop off).take d.size) ∨ d.isAgg = false ∧ (cs.drop off).take d.size = [v]) := by
  unfold Does fromP at h
  rw [dropK_eq, takeK_eq] at h
  split at h
  · rename_i hl
    rw [beq_iff_eq] at hl
    unfold wrapVal at h
    split at h
    · rename_i ha
      exact ⟨h.2.1.symm, hl, .inl ⟨ha, h.1.symm⟩⟩
    · rename_i ha
      split at h
      · rename_i x hx
        exact ⟨h.2.1.symm, hl, .inr ⟨ha, by rw [hx, h.1]⟩⟩
      · exact h.elim
  · exact h.elim
theorem load_sound {t : TypeId} {d : TD} (hg : Good P d t) {cs : List Val} {off : Nat} {H : Nat → Blk} {r : List Nat} {v : Val} {u : Upd} {r' : List Nat} (h : Does (fromP d cs off) H r v u r')
    {w : World} {A : Addr} (hc : ∀ j, off + j < cs.length → ∃ u, w.cell? (A.add j) = some u ∧ u.oneCell' = true ∧ Rel ι φ (cs.getD (off + j) .und) u) :
    u = [] ∧ ∃ cv, (loadVar t A).run P w = .ok cv w ∧ Rel ι φ v cv := by
  obtain ⟨hu, hl, hv⟩ := does_from h
  refine ⟨hu, ?_⟩
  have hlen : ∀ j, j < d.size → off + j < cs.length := fun j hj => by
    simp only [List.length_take, List.length_drop] at hl
    omega
  have hget : ∀ j, j < d.size → ((cs.drop off).take d.size).getD j .und = cs.getD (off + j) .und := fun j hj => by rw [getD_take hj, getD_drop]
  rcases hv with ⟨ha, rfl⟩ | ⟨ha, hx⟩
  · let f : Nat → Value := fun j => (w.cell? (A.add j)).getD undef
    have hf : ∀ j, j < d.size → w.cell? (A.add j) = some (f j) := fun j hj => by
      obtain ⟨x, hx, _⟩ := hc j (hlen j hj)
      simp [f, hx]
    refine ⟨.agg ((List.range d.size).map f).toArray, ?_, ?_⟩
    · simp [loadVar, hg.isAgg_run, hg.size_run, ha, run_loadCells w A d.size f hf]
    · have e : ∀ i, i < d.size → (((List.range d.size).map f).toArray).getD i undef = f i := fun i hi => by
        simp [hi]
      refine .agg _ _ (by simp [hl]) (fun i hi => ?_) (fun i hi => ?_)
      · rw [hl] at hi
        obtain ⟨x, hx, h1, _⟩ := hc i (hlen i hi)
        rw [e i hi]
        simp only [f, hx]
        exact h1
      · rw [hl] at hi
        obtain ⟨x, hx, _, hr⟩ := hc i (hlen i hi)
        rw [e i hi, hget i hi]
        simp only [f, hx]
        exact hr
  · have h1 : d.size = 1 := by rw [hx] at hl; simpa using hl.symm
    obtain ⟨x, hx2, _, hr⟩ := hc 0 (hlen 0 (by omega))
    rw [add_zero_] at hx2
    refine ⟨x, ?_, ?_⟩
    · simp [loadVar, hg.isAgg_run, ha, hx2]
    · have := hget 0 (by omega)
      rw [hx] at this
      rw [← this] at hr
      exact hr
where add_zero_ {A : Addr} : A.add 0 = A := by simp [Addr.add]
/-- The same of an aggregate's cells. -/
theorem part_sound {t : TypeId} {d : TD} (hg : Good P d t) {cs : List Val} {off : Nat} {H : Nat → Blk} {r : List Nat} {v : Val} {u : Upd} {r' : List Nat} (h : Does (fromP d cs off) H r v u r')
    {w : World} {us : Array Value} (hs : us.size = cs.length) (h1 : ∀ i, i < cs.length → (us.getD i undef).oneCell' = true) (hr : ∀ i, i < cs.length → Rel ι φ (cs.getD i .und) (us.getD i undef)) :
    u = [] ∧ ∃ cv, (part t us off).run P w = .ok cv w ∧ Rel ι φ v cv := by
  obtain ⟨hu, hl, hv⟩ := does_from h
  refine ⟨hu, ?_⟩
  have hlen : ∀ j, j < d.size → off + j < cs.length := fun j hj => by
    simp only [List.length_take, List.length_drop] at hl
    omega
  have hget : ∀ j, j < d.size → ((cs.drop off).take d.size).getD j .und = cs.getD (off + j) .und := fun j hj => by rw [getD_take hj, getD_drop]
  rcases hv with ⟨ha, rfl⟩ | ⟨ha, hx⟩
  · refine ⟨.agg (us.extract off (off + d.size)), ?_, ?_⟩
    · simp [part, hg.isAgg_run, hg.size_run, ha]
    · have hsz : (us.extract off (off + d.size)).size = d.size := by
        simp only [List.length_take, List.length_drop] at hl
        simp only [Array.size_extract, hs]
        omega
      have e : ∀ i, i < d.size → (us.extract off (off + d.size)).getD i undef = us.getD (off + i) undef := fun i hi => by
        have := hlen i hi
        rw [Array.getD_eq_getD_getElem?, Array.getD_eq_getD_getElem?, Array.getElem?_extract]
        rw [if_pos (by omega)]
      refine .agg _ _ (by rw [hsz, hl]) (fun i hi => ?_) (fun i hi => ?_)
      · rw [hl] at hi; rw [e i hi]; exact h1 _ (hlen i hi)
      · rw [hl] at hi; rw [e i hi, hget i hi]; exact hr _ (hlen i hi)
  · have hz : d.size = 1 := by rw [hx] at hl; simpa using hl.symm
    have hlt := hlen 0 (by omega)
    have he : us[off]? = some (us.getD off undef) := by
      rw [Array.getD_eq_getD_getElem?, Array.getElem?_eq_getElem (by omega)]; rfl
    refine ⟨us.getD off undef, ?_, ?_⟩
    · generalize us.getD off undef = x at he
      simp [part, hg.isAgg_run, ha, he]
    · have := hget 0 (by omega)
      rw [hx] at this
      have hr0 := hr off hlt
      rw [Nat.add_zero] at this
      rw [← this] at hr0
      exact hr0
end

/-- Cells of a block of the call's own, as the model reads them. -/
theorem blk_cell {ι : Map} {φ : Prot} {w : World} {b g c : Nat} {cs : List Val} (hb : BlkOk ι φ w b (.cells cs)) (he : ι b = some (g, c)) :
    ∃ arr t, w.heap[g]? = some (.cells arr t (0, 0)) ∧ cs.length ≤ arr.size ∧ (∀ off sp, φ ⟨g, off, sp⟩ = none) ∧
      ∀ off, off < cs.length → w.cell? ⟨g, off, none⟩ = some (arr.getD off undef) ∧ (arr.getD off undef).oneCell' = true ∧ Rel ι φ (cs.getD off .und) (arr.getD off undef) := by
  obtain ⟨g', c', arr, t, e, hh, hs, hr, hf⟩ := hb
  rw [he] at e; injection e with e; injection e with e1 e2; subst e1
  refine ⟨arr, t, hh, hs, hf, fun off ho => ⟨?_, (hr off ho).1, (hr off ho).2⟩⟩
  simp only [World.cell?, hh]
  rw [Array.getD_eq_getD_getElem?, Array.getElem?_eq_getElem (by omega)]
  simp
theorem blk_row {ι : Map} {φ : Prot} {w : World} {b g c : Nat} {t : TypeId} {sz n pr : Nat} {get : Nat → List Val} (hb : BlkOk ι φ w b (.row t sz n get pr)) (he : ι b = some (g, c)) :
    ∃ arr, w.heap[g]? = some (.cells arr t (0, 0)) ∧ 0 < sz ∧ arr.size = c * sz ∧ n ≤ c ∧ c ≤ 9223372036854775807 ∧ pr ≤ n ∧ (∀ i, i < n → (get i).length = sz) ∧
      (∀ i j, i < n → j < sz → w.cell? ⟨g, i * sz + j, none⟩ = some (arr.getD (i * sz + j) undef) ∧ (arr.getD (i * sz + j) undef).oneCell' = true ∧ RelC φ ((get i).getD j .und) (arr.getD (i * sz + j) undef)) ∧
      (∀ i, i < arr.size → (arr.getD i undef).oneCell' = true) ∧ ∀ off sp, pr * sz ≤ off → φ ⟨g, off, sp⟩ = none := by
  obtain ⟨g', c', arr, e, hh, h0, hs, hnc, hc, hpr, hl, hr, h1, hf⟩ := hb
  rw [he] at e; injection e with e; injection e with e1 e2; subst e1; subst e2
  refine ⟨arr, hh, h0, hs, hnc, hc, hpr, hl, fun i j hi hj => ?_, h1, hf⟩
  have hlt : i * sz + j < arr.size := by
    rw [hs]
    calc i * sz + j < i * sz + sz := by omega
      _ = (i + 1) * sz := by rw [Nat.add_mul, Nat.one_mul]
      _ ≤ c * sz := Nat.mul_le_mul_right _ (by omega)
  refine ⟨?_, h1 _ hlt, hr i j hi hj⟩
  simp only [World.cell?, hh]
  rw [Array.getD_eq_getD_getElem?, Array.getElem?_eq_getElem hlt]
  simp

/-! ### memory -/
section
variable {P : Program} {T : TypeId → TD} {a : Act} {w w0 : World} {S : Nat → Prop} {φ0 : Prot} {ι : Map} {φ : Prot} {H : Nat → Blk} {nid : Nat} {v : Val} {u : Upd} {r' : List Nat} {tm : List Val}
variable {dst : Option Tmp} {ty : TypeId} {pos : String} {after : Array Edge} {guard : Option (Nat × Bool)}

theorem does_nb {d : TD} {k : TD → Prog} {r : List Nat} (h : Does (nb d k) H r v u r') : d ≠ .bad ∧ Does (k d) H r v u r' := by
  unfold Does nb at h
  cases d <;> first | exact ⟨by simp, h⟩ | exact h.elim
theorem TOk.good (hT : TOk P T) {t : TypeId} (h : T t ≠ .bad) : Good P (T t) t := (hT t _ rfl).resolve_left h

theorem sound_move {x : Operand} (hi : Inv w0 S φ0 ι φ H w) (ht : TmOk ι φ tm a.tmps) (h : Does (evK tm x valK) H [] v u r') : Step P ⟨dst, .move x, ty, pos, after, guard⟩ a w w0 S φ0 ι φ H nid v u := by
  rw [evK_eq] at h
  obtain ⟨rfl, rfl⟩ := does_valK h
  exact Step.pure_ hi (cv := a.eval x) (by simp [execOp]) (ht.ev x)
theorem sound_assign {x : Operand} (hi : Inv w0 S φ0 ι φ H w) (ht : TmOk ι φ tm a.tmps) (h : Does (evK tm x valK) H [] v u r') : Step P ⟨dst, .assign x, ty, pos, after, guard⟩ a w w0 S φ0 ι φ H nid v u := by
  rw [evK_eq] at h
  obtain ⟨rfl, rfl⟩ := does_valK h
  exact Step.pure_ hi (cv := a.eval x) (by simp [execOp]) (ht.ev x)
theorem does_pickP {t : Bool} {x y : Val} (h : Does (pickP t x y) H [] v u r') : u = [] ∧ v = cond t x y := by
  unfold pickP at h
  split at h
  · obtain ⟨rfl, rfl⟩ := does_valK h
    exact ⟨rfl, by cases t <;> rfl⟩
  · split at h
    · rename_i e
      obtain ⟨rfl, rfl⟩ := does_valK h
      rw [decide_eq_true_eq] at e; subst e
      exact ⟨rfl, by cases t <;> rfl⟩
    · exact h.elim
  · split at h
    · obtain ⟨rfl, rfl⟩ := does_valK h
      exact ⟨rfl, rfl⟩
    · obtain ⟨rfl, rfl⟩ := does_valK h
      exact ⟨rfl, rfl⟩
theorem sound_pick {c x y : Operand} (hi : Inv w0 S φ0 ι φ H w) (ht : TmOk ι φ tm a.tmps)
    (h : Does (evK tm c fun v => match v with
    | .bool t => evK tm x fun x => evK tm y fun y => pickP t x y
    | _ => .fail) H [] v u r') : Step P ⟨dst, .pick c x y, ty, pos, after, guard⟩ a w w0 S φ0 ι φ H nid v u := by
  rw [evK_eq] at h
  have hc := ht.ev c
  split at h
  · rename_i t e
    rw [e] at hc
    have hc := hc.bool_
    rw [evK_eq, evK_eq] at h
    obtain ⟨rfl, rfl⟩ := does_pickP h
    cases t
    · exact Step.pure_ hi (cv := a.eval y) (by simp [execOp, hc, asBool]) (ht.ev y)
    · exact Step.pure_ hi (cv := a.eval x) (by simp [execOp, hc, asBool]) (ht.ev x)
  · exact h.elim

theorem cellsOk_blk {us : List Value} {cs : List Val} (h : CellsOk ι φ cs us) {b c : Nat} (t : TypeId) (hb : ι b = none) (hp : ∀ a v, φ a = some v → a.block < w.heap.size) :
    BlkOk (setM ι b (w.heap.size, c)) φ (w.alloc (.cells us.toArray t)) b (.cells cs) := by
  refine ⟨w.heap.size, c, us.toArray, t, by simp [setM], heap_new _ _, by simp [h.1], fun i hi => ?_, fun off sp => ?_⟩
  · have e : us.toArray.getD i undef = us.getD i undef := by simp [List.getD_eq_getElem?_getD, Array.getD_eq_getD_getElem?]
    rw [e]
    exact ⟨(h.2 i hi).1, (h.2 i hi).2.mono (setM_le hb) (.refl _)⟩
  · cases hx : φ ⟨w.heap.size, off, sp⟩ with
    | none => rfl
    | some v => have := hp _ v hx; simp at this
theorem Inv.prot_lt (hi : Inv w0 S φ0 ι φ H w) : ∀ a v, φ a = some v → a.block < w.heap.size := fun a v h => cell_lt (hi.sim.prot a v h)

theorem sound_alloc {t : TypeId} (hT : TOk P T) (hi : Inv w0 S φ0 ι φ H w) (hn : (∃ x, (nid, x) ∈ u) → ι nid = none) (h : Does (nb (T t) fun d => appK d.zero [] fun z => .ret (.ptr nid 0) [(nid, .cells z)]) H [] v u r') :
    Step P ⟨dst, .alloc t, ty, pos, after, guard⟩ a w w0 S φ0 ι φ H nid v u := by
  obtain ⟨hb, h⟩ := does_nb h
  rw [appK_eq, List.append_nil] at h
  obtain ⟨rfl, rfl, _⟩ := h
  have hn := hn ⟨_, List.mem_singleton.2 rfl⟩
  obtain ⟨i, z, hin, hsz, hz, hc, _, _⟩ := (hT.good hb).zok
  have hco : CellsOk ι φ (T t).zero z.cells.toList := ⟨(hc φ).1, fun k hk => ⟨((hc φ).2 k hk).1, .c ((hc φ).2 k hk).2⟩⟩
  refine Step.alloc_ hi hn (cv := .pointer (some ⟨w.heap.size, 0, none⟩)) (ob := .cells z.cells.toList.toArray t) (c := 0) ?_ (cellsOk_blk hco t hn hi.prot_lt) (.ptr _ _ _ 0 (by simp [setM]))
  simp [execOp, Instr.alloc, zeroValue, run_info hin, hz, newVar, newRow]
theorem sound_box {t : TypeId} {x : Operand} (hi : Inv w0 S φ0 ι φ H w) (ht : TmOk ι φ tm a.tmps) (hn : (∃ x, (nid, x) ∈ u) → ι nid = none)
    (h : Does (evK tm x fun v => match v with
    | .agg cs => .ret (.ptr nid 0) [(nid, .cells cs)]
    | .und | .tup _ => .fail
    | v => .ret (.ptr nid 0) [(nid, .cells [v])]) H [] v u r') : Step P ⟨dst, .box t x, ty, pos, after, guard⟩ a w w0 S φ0 ι φ H nid v u := by
  rw [evK_eq] at h
  have hx := ht.ev x
  have key : ∀ x', ι nid = none → (∀ cs, evV tm x ≠ .tup cs) → evV tm x ≠ .und → (nid, Blk.cells (cellsOf (evV tm x))) = x' → Step P ⟨dst, .box t x, ty, pos, after, guard⟩ a w w0 S φ0 ι φ H nid (.ptr nid 0) [x'] := by
    rintro x' hn h2 h3 rfl
    refine Step.alloc_ hi hn (cv := .pointer (some ⟨w.heap.size, 0, none⟩)) (ob := .cells (a.eval x).cells.toList.toArray t) (c := 0) ?_ (cellsOk_blk (hx.cells h2 h3) t hn hi.prot_lt) (.ptr _ _ _ 0 (by simp [setM]))
    simp [execOp, Instr.box, newVar, newRow]
  split at h
  · rename_i cs e
    obtain ⟨rfl, rfl, _⟩ := h
    exact key _ (hn ⟨_, List.mem_singleton.2 rfl⟩) (fun cs' e' => by rw [e] at e'; cases e') (fun e' => by rw [e] at e'; cases e') (by rw [e]; rfl)
  · exact h.elim
  · exact h.elim
  · rename_i h1 h2 h3
    obtain ⟨rfl, rfl, _⟩ := h
    refine key _ (hn ⟨_, List.mem_singleton.2 rfl⟩) (fun cs' e' => h3 cs' e') (fun e' => h2 e') ?_
    cases hv : evV tm x <;> first | rfl | exact absurd hv (h1 _)

theorem does_one {t : TD} {cs : List Val} {k : Nat} {H : Nat → Blk} {r r' : List Nat} {v : Val} {u : Upd} (h1 : t.size = 1) (h2 : t.isAgg = false) (hk : k < cs.length) (h : Does (valK (cellAt cs k)) H r v u r') : Does (fromP t cs k) H r v u r' := by
  unfold fromP
  rw [dropK_eq, takeK_eq, h1]
  have e : (cs.drop k).take 1 = [cs.getD k .und] := by
    rw [List.drop_eq_getElem_cons hk, List.getD_eq_getElem?_getD, List.getElem?_eq_getElem hk]; rfl
  rw [e]
  simp only [List.length_cons, List.length_nil, Nat.zero_add, beq_self_eq_true, wrapVal, h2]
  rw [cellAt_eq] at h
  exact h
/-- A load. -/
theorem sound_load {t : TypeId} {x : Operand} (hT : TOk P T) (hi : Inv w0 S φ0 ι φ H w) (ht : TmOk ι φ tm a.tmps) (h : Does (nb (T t) fun d => evK tm x fun a => loadP d a) H [] v u r') :
    Step P ⟨dst, .load t x, ty, pos, after, guard⟩ a w w0 S φ0 ι φ H nid v u := by
  obtain ⟨hb, h⟩ := does_nb h
  rw [evK_eq] at h
  have hg := hT.good hb
  have hx := ht.ev x
  unfold Does loadP at h
  have fin : ∀ {A : Addr} {cs : List Val} {off : Nat} {r : List Nat}, a.eval x = .pointer (some A) → Does (fromP (T t) cs off) H r v u r' →
      (∀ j, off + j < cs.length → ∃ u, w.cell? (A.add j) = some u ∧ u.oneCell' = true ∧ Rel ι φ (cs.getD (off + j) .und) u) → Step P ⟨dst, .load t x, ty, pos, after, guard⟩ a w w0 S φ0 ι φ H nid v u := by
    intro A cs off r he hd hc
    obtain ⟨rfl, cv, hrun, hv⟩ := load_sound hg hd hc
    refine Step.pure_ hi (cv := cv) ?_ hv
    simp [execOp, Instr.loadAt, Instr.sureAddr, he, hrun]
  split at h
  · rename_i b off e
    rw [e] at hx
    obtain ⟨g, c, hm, he⟩ := hx.ptr_
    simp only [Prog.run] at h
    split at h
    · rename_i cs hbk
      have hB := hi.sim.blk b
      rw [hbk] at hB
      obtain ⟨arr, t', _, _, _, hcell⟩ := blk_cell hB hm
      exact fin he h (fun j hj => by rw [add_eq]; exact ⟨_, hcell _ hj⟩)
    · exact h.elim
  · rename_i b sz i j e
    rw [e] at hx
    obtain ⟨g, c, hm, he⟩ := hx.ep_
    simp only [Prog.run] at h
    split at h
    · rename_i te sz' n get pr hbk
      obtain ⟨hin, h⟩ := h
      split at h
      · rename_i hs
        rw [beq_iff_eq] at hs; subst hs
        have hB := hi.sim.blk b
        rw [hbk] at hB
        obtain ⟨arr, _, h0, _, _, _, _, hl, hcell, _⟩ := blk_row hB hm
        refine fin he h (fun k hk => ?_)
        rw [hl i hin] at hk
        obtain ⟨h1, h2, h3⟩ := hcell i (j + k) hin hk
        rw [add_eq, Nat.add_assoc]
        exact ⟨_, h1, h2, .c h3⟩
      · exact h.elim
    · rename_i cs hbk
      have hB := hi.sim.blk b
      rw [hbk] at hB
      obtain ⟨arr, t', _, _, _, hcell⟩ := blk_cell hB hm
      split at h
      · rename_i hs
        obtain ⟨hlt, h⟩ := h
        simp only [Bool.and_eq_true, beq_iff_eq, Bool.not_eq_true'] at hs
        refine fin (cs := cs) (off := i * sz + j) he (does_one hs.1 hs.2 hlt h) (fun k hk => ?_)
        rw [add_eq]
        exact ⟨_, hcell _ hk⟩
      · exact h.elim
    · exact h.elim
  · rename_i cs e
    rw [e] at hx
    obtain ⟨A, vals, he, hφ, h1, hr⟩ := hx.rptr_
    refine fin he h (fun j hj => ?_)
    rw [Nat.zero_add] at hj ⊢
    exact ⟨vals j, hi.sim.prot _ _ (hφ j hj), h1 j hj, .c (hr j hj)⟩
  · exact h.elim
end
end
end Go.AM

set_option linter.unusedVariables false
set_option linter.unusedSimpArgs false
set_option maxRecDepth 100000
namespace Go.AM
noncomputable section
open Go.RowKit

theorem getD_splice {α : Type} (z : α) {l new : List α} {off : Nat} (h : off + new.length ≤ l.length) (k : Nat) :
    (l.take off ++ (new ++ l.drop (off + new.length))).getD k z = if off ≤ k ∧ k < off + new.length then new.getD (k - off) z else l.getD k z := by
  simp only [List.getD_eq_getElem?_getD]
  have ht : (l.take off).length = off := by rw [List.length_take]; omega
  rcases Nat.lt_or_ge k off with h1 | h1
  · rw [if_neg (by omega), List.getElem?_append_left (by omega), List.getElem?_take, if_pos h1]
  · rw [List.getElem?_append_right (by omega), ht]
    rcases Nat.lt_or_ge k (off + new.length) with h2 | h2
    · rw [if_pos ⟨h1, h2⟩, List.getElem?_append_left (by omega)]
    · rw [if_neg (by omega), List.getElem?_append_right (by omega), List.getElem?_drop]
      congr 2; omega
theorem length_splice {α : Type} {l new : List α} {off : Nat} (h : off + new.length ≤ l.length) : (l.take off ++ (new ++ l.drop (off + new.length))).length = l.length := by
  simp only [List.length_append, List.length_take, List.length_drop]; omega
theorem arr_getD (us : Array Value) (k : Nat) : us.toList.getD k undef = us.getD k undef := by simp [List.getD_eq_getElem?_getD, Array.getD_eq_getD_getElem?]
theorem toArr_getD (us : List Value) (k : Nat) : us.toArray.getD k undef = us.getD k undef := by simp [List.getD_eq_getElem?_getD, Array.getD_eq_getD_getElem?]

theorem mem_getD {us : List Value} {p : Value → Prop} (h : ∀ k, k < us.length → p (us.getD k undef)) : ∀ x ∈ us, p x := by
  intro x hx
  obtain ⟨k, hk, rfl⟩ := List.mem_iff_getElem.1 hx
  have := h k hk
  rwa [List.getD_eq_getElem?_getD, List.getElem?_eq_getElem hk] at this

section
variable {P : Program} {T : TypeId → TD} {a : Act} {w w0 : World} {S : Nat → Prop} {φ0 : Prot} {ι : Map} {φ : Prot} {H : Nat → Blk} {nid : Nat} {v : Val} {u : Upd} {r' : List Nat} {tm : List Val}
variable {dst : Option Tmp} {ty : TypeId} {pos : String} {after : Array Edge} {guard : Option (Nat × Bool)}

theorem Step.write_ {o : Oper} (hi : Inv w0 S φ0 ι φ H w) {b g c : Nat} {x : Blk} {w' : World} (hb : ι b = some (g, c)) (hH : H b ≠ .gone) {nx : Next} (hr : (execOp a.eval o).run P w = .ok nx w')
    {cv : Value} (hnx : nx = .value cv ∨ nx = .skip ∧ cv = undef) (hos : w'.os = w.os) (htape : w'.tape = w.tape) (hout : w'.output = w.output) (hsize : w'.heap.size = w.heap.size) (hold : ∀ k, k ≠ g → w'.heap[k]? = w.heap[k]?)
    (hprot : ∀ a v, φ a = some v → a.block = g → w'.cell? a = some v) (hx : BlkOk ι φ w' b x) (hv : Rel ι φ v cv) : Step P o a w w0 S φ0 ι φ H nid v [(b, x)] :=
  ⟨nx, cv, w', ι, φ, hr, hnx, hv, hi.write hb hH hos htape hout hsize hold hprot hx, .refl _, .refl _, fun _ _ => rfl⟩

theorem setRow_size (w : World) (g : Nat) (cs : Array Value) : (w.setRow g cs).heap.size = w.heap.size := by simp [World.setRow]
theorem setRow_cell {w : World} {g : Nat} {old cs : Array Value} {t : TypeId} {fr : Nat × Nat} (hg : w.heap[g]? = some (.cells old t fr)) (off : Nat) (sp : Option Nat) :
    (w.setRow g cs).cell? ⟨g, off, sp⟩ = if sp.isSome then none else cs[off]? := by
  simp only [World.cell?, setRow_heap w g old cs t fr hg]

theorem store_run {t : TypeId} {d : TD} (hg : Good P d t) {us : Value} {g off : Nat} {arr : Array Value} {t' : TypeId} (hh : w.heap[g]? = some (.cells arr t' (0, 0))) (hl : us.cells.toList.length = d.size)
    (hfit : off + us.cells.toList.length ≤ arr.size) (h1 : ∀ x ∈ us.cells.toList, x.oneCell' = true) {x y : Operand} (hx : a.eval x = .pointer (some ⟨g, off, none⟩)) (hy : a.eval y = us) :
    (execOp a.eval ⟨dst, .store t x y, ty, pos, after, guard⟩).run P w = .ok .skip (w.setRow g (arr.toList.take off ++ us.cells.toList ++ arr.toList.drop (off + us.cells.toList.length)).toArray) := by
  have hs : us.cells.size = d.size := by rw [← Array.length_toList]; exact hl
  have hst := run_storeCells_at (P := P) g off t' us.cells.toList 0 arr w hh (by simpa using hfit) h1
  simp only [Nat.add_zero] at hst
  simp [execOp, Instr.storeAt, Instr.sureAddr, hx, hy, storeVar, hg.size_run, hs, hst]

theorem sound_storeC {t : TypeId} {d : TD} (hg : Good P d t) (hi : Inv w0 S φ0 ι φ H w) {va : Val} {cs : List Val} {x y : Operand} (hx : Rel ι φ va (a.eval x)) (hy : CellsOk ι φ cs (a.eval y).cells.toList)
    {r : List Nat} (h : Does (storeC d va cs) H r v u r') : Step P ⟨dst, .store t x y, ty, pos, after, guard⟩ a w w0 S φ0 ι φ H nid v u := by
  unfold Does storeC at h
  split at h
  case h_2 => exact h.elim
  rename_i hcs
  rw [beq_iff_eq] at hcs
  have hl : (a.eval y).cells.toList.length = d.size := by rw [hy.1, hcs]
  have h1 : ∀ z ∈ (a.eval y).cells.toList, z.oneCell' = true := mem_getD fun k hk => (hy.2 k (by rw [← hy.1]; exact hk)).1
  have cells_ : ∀ {b off g c : Nat} {old : List Val} {arr : Array Value} {t' : TypeId}, ι b = some (g, c) → H b = .cells old → w.heap[g]? = some (.cells arr t' (0, 0)) → old.length ≤ arr.size → (∀ off sp, φ ⟨g, off, sp⟩ = none) →
      (∀ k, k < old.length → w.cell? ⟨g, k, none⟩ = some (arr.getD k undef) ∧ (arr.getD k undef).oneCell' = true ∧ Rel ι φ (old.getD k .und) (arr.getD k undef)) → off + cs.length ≤ old.length → a.eval x = .pointer (some ⟨g, off, none⟩) →
      Step P ⟨dst, .store t x y, ty, pos, after, guard⟩ a w w0 S φ0 ι φ H nid (.tup []) [(b, .cells (old.take off ++ (cs ++ old.drop (off + cs.length))))] := by
    intro b off g c old arr t' hm hbk hh hs hf hcell hfit he
    have hfit' : off + (a.eval y).cells.toList.length ≤ arr.size := by rw [hy.1]; exact Nat.le_trans hfit hs
    have hrun := store_run (dst := dst) (ty := ty) (pos := pos) (after := after) (guard := guard) hg hh hl hfit' h1 he rfl
    refine Step.write_ hi hm (by rw [hbk]; simp) hrun (cv := undef) (.inr ⟨rfl, rfl⟩) rfl rfl rfl (setRow_size _ _ _) (fun k hk => setRow_other w g k _ hk) (fun q z hq hqb => ?_) ?_ (rel_undef _ _)
    · have := hf q.off q.spot
      rw [← hqb] at this
      rw [show (⟨q.block, q.off, q.spot⟩ : Addr) = q from rfl, hq] at this; cases this
    · have e : ∀ k, (arr.toList.take off ++ (a.eval y).cells.toList ++ arr.toList.drop (off + (a.eval y).cells.toList.length)).toArray.getD k undef =
          if off ≤ k ∧ k < off + cs.length then (a.eval y).cells.toList.getD (k - off) undef else arr.getD k undef := fun k => by
        rw [toArr_getD, List.append_assoc, getD_splice undef (by simpa using hfit') k, hy.1, arr_getD arr k]
      refine ⟨g, c, _, t', hm, setRow_heap w g arr _ t' _ hh, ?_, fun k hk => ?_, hf⟩
      · rw [length_splice hfit, List.size_toArray, List.append_assoc, length_splice (l := arr.toList) (by rw [Array.length_toList]; exact hfit'), Array.length_toList]; exact hs
      · rw [length_splice hfit] at hk
        rw [e k, getD_splice .und hfit k]
        by_cases hc2 : off ≤ k ∧ k < off + cs.length
        · rw [if_pos hc2, if_pos hc2]; exact hy.2 _ (by omega)
        · rw [if_neg hc2, if_neg hc2]; exact (hcell k hk).2
  split at h
  · rename_i b off
    obtain ⟨g, c, hm, he⟩ := hx.ptr_
    simp only [Prog.run] at h
    split at h
    case h_2 => exact h.elim
    rename_i old hbk
    have hB := hi.sim.blk b
    rw [hbk] at hB
    obtain ⟨arr, t', hh, hs, hf, hcell⟩ := blk_cell hB hm
    split at h
    case h_2 => exact h.elim
    rename_i hfit
    rw [decide_eq_true_eq] at hfit
    rw [splice_eq] at h
    obtain ⟨rfl, rfl, _⟩ := h
    exact cells_ hm hbk hh hs hf hcell hfit he
  · rename_i b sz i j
    obtain ⟨g, c, hm, he⟩ := hx.ep_
    simp only [Prog.run] at h
    split at h
    case h_3 => exact h.elim
    case h_2 =>
      rename_i old hbk
      have hB := hi.sim.blk b
      rw [hbk] at hB
      obtain ⟨arr, t', hh, hs, hf, hcell⟩ := blk_cell hB hm
      obtain ⟨hfit, h⟩ := h
      rw [putAt_eq] at h
      generalize i * sz + j = off at *
      obtain ⟨rfl, rfl, _⟩ := h
      exact cells_ hm hbk hh hs hf hcell hfit he
    rename_i te sz' n get pr hbk
    have hB := hi.sim.blk b
    rw [hbk] at hB
    obtain ⟨arr, hh, h0, hs, hnc, hc, hpr, hlen, hcell, hone, hf⟩ := blk_row hB hm
    obtain ⟨⟨hin, hpi⟩, h⟩ := h
    split at h
    case h_2 => exact h.elim
    rename_i hb3
    simp only [Bool.and_eq_true, beq_iff_eq, decide_eq_true_eq] at hb3
    obtain ⟨⟨hss, hcl⟩, hj⟩ := hb3
    subst hss
    obtain ⟨rfl, rfl, _⟩ := h
    have hisz : i * sz + sz ≤ c * sz := by
      calc i * sz + sz = (i + 1) * sz := by rw [Nat.add_mul, Nat.one_mul]
        _ ≤ c * sz := Nat.mul_le_mul_right _ (by omega)
    have hfit' : (i * sz + j) + (a.eval y).cells.toList.length ≤ arr.size := by rw [hy.1, hs]; omega
    have hrun := store_run (dst := dst) (ty := ty) (pos := pos) (after := after) (guard := guard) hg hh hl hfit' h1 he rfl
    refine Step.write_ hi hm (by rw [hbk]; simp) hrun (cv := undef) (.inr ⟨rfl, rfl⟩) rfl rfl rfl (setRow_size _ _ _) (fun k hk => setRow_other w g k _ hk) (fun q z hq hqb => ?_) ?_ (rel_undef _ _)
    · obtain ⟨qb, qo, qs⟩ := q
      simp only at hqb; subst hqb
      have hlt : qo < pr * sz := by
        rcases Nat.lt_or_ge qo (pr * sz) with h | h
        · exact h
        · rw [hf qo qs h] at hq; cases hq
      have hle : pr * sz ≤ i * sz := Nat.mul_le_mul_right _ hpi
      have hold := hi.sim.prot _ _ hq
      rw [setRow_cell hh]
      simp only [World.cell?, hh] at hold
      split at hold
      · cases hold
      · rename_i hsp
        rw [if_neg hsp, ← hold]
        simp only [List.append_assoc, List.getElem?_toArray]
        rw [List.getElem?_append_left (by rw [List.length_take, Array.length_toList]; omega), List.getElem?_take, if_pos (by omega), Array.getElem?_toList]
    · have e : ∀ k, (arr.toList.take (i * sz + j) ++ (a.eval y).cells.toList ++ arr.toList.drop (i * sz + j + (a.eval y).cells.toList.length)).toArray.getD k undef =
          if i * sz + j ≤ k ∧ k < i * sz + j + cs.length then (a.eval y).cells.toList.getD (k - (i * sz + j)) undef else arr.getD k undef := fun k => by
        rw [toArr_getD, List.append_assoc, getD_splice undef (by simpa using hfit') k, hy.1, arr_getD arr k]
      have hgl := hlen i hin
      have hsp : j + cs.length ≤ (get i).length := by omega
      have hsize : (arr.toList.take (i * sz + j) ++ (a.eval y).cells.toList ++ arr.toList.drop (i * sz + j + (a.eval y).cells.toList.length)).toArray.size = arr.size := by
        rw [List.size_toArray, List.append_assoc, length_splice (by simpa using hfit'), Array.length_toList]
      refine ⟨g, c, _, hm, setRow_heap w g arr _ te _ hh, h0, by rw [hsize, hs], hnc, hc, hpr, fun k hk => ?_, fun k l hk hll => ?_, fun k hk => ?_, hf⟩
      · by_cases hki : k = i
        · subst hki
          simp only [if_true]
          rw [List.append_assoc, length_splice hsp, hgl]
        · simp only [if_neg hki]; exact hlen k hk
      · rw [e]
        by_cases hki : k = i
        · subst hki
          simp only [if_true]
          rw [List.append_assoc, getD_splice .und hsp l]
          by_cases hin2 : j ≤ l ∧ l < j + cs.length
          · rw [if_pos hin2, if_pos (by omega), show k * sz + l - (k * sz + j) = l - j by omega]
            obtain ⟨_, hr⟩ := hy.2 (l - j) (by omega)
            exact hr.closed_ (closedL_get hcl (by omega))
          · rw [if_neg hin2, if_neg (by omega)]
            exact (hcell k l hin hll).2.2
        · simp only [if_neg hki]
          have hne : ¬ (i * sz + j ≤ k * sz + l ∧ k * sz + l < i * sz + j + cs.length) := by
            rcases Nat.lt_or_gt_of_ne hki with hlt | hgt
            · have : (k + 1) * sz ≤ i * sz := Nat.mul_le_mul_right _ hlt
              rw [Nat.add_mul, Nat.one_mul] at this
              omega
            · have : (i + 1) * sz ≤ k * sz := Nat.mul_le_mul_right _ hgt
              rw [Nat.add_mul, Nat.one_mul] at this
              omega
          rw [if_neg hne]
          exact (hcell k l hk hll).2.2
      · rw [hsize] at hk
        rw [e k]
        by_cases hc2 : i * sz + j ≤ k ∧ k < i * sz + j + cs.length
        · rw [if_pos hc2]; exact (hy.2 _ (by omega)).1
        · rw [if_neg hc2]; exact hone k hk
  · exact h.elim
end
end
end Go.AM

set_option linter.unusedVariables false
set_option linter.unusedSimpArgs false
set_option maxRecDepth 100000
namespace Go.AM
noncomputable section
open Go.RowKit

theorem goodF_get {P : Program} : ∀ {ds : List TD} {fs : List Field} {o f o' : Nat} {d : TD}, GoodF P ds fs o → fieldAt ds f o = some (o', d) → ∃ fi, fs[f]? = some fi ∧ fi.offset = o' ∧ Good P d fi.type
  | [], _, _, _, _, _, _, h => by cases h
  | x :: ds, [], _, _, _, _, h, _ => by simp [GoodF] at h
  | x :: ds, fi :: fs, o, 0, o', d, h, e => by
    simp only [GoodF] at h
    simp only [fieldAt, Option.some.injEq, Prod.mk.injEq] at e
    obtain ⟨rfl, rfl⟩ := e
    exact ⟨fi, rfl, h.1, h.2.2.1⟩
  | x :: ds, fi :: fs, o, f + 1, o', d, h, e => by
    simp only [GoodF] at h
    obtain ⟨fi', h1, h2⟩ := goodF_get h.2.2.2 (by simpa [fieldAt] using e)
    exact ⟨fi', by simpa using h1, h2⟩

section
variable {P : Program} {T : TypeId → TD} {a : Act} {w w0 : World} {S : Nat → Prop} {φ0 : Prot} {ι : Map} {φ : Prot} {H : Nat → Blk} {nid : Nat} {v : Val} {u : Upd} {r r' : List Nat} {tm : List Val}
variable {dst : Option Tmp} {ty : TypeId} {pos : String} {after : Array Edge} {guard : Option (Nat × Bool)}

theorem sound_store {t : TypeId} {x y : Operand} (hT : TOk P T) (hi : Inv w0 S φ0 ι φ H w) (ht : TmOk ι φ tm a.tmps) (h : Does (nb (T t) fun d => evK tm x fun a => evK tm y fun b => storeP d a b) H [] v u r') :
    Step P ⟨dst, .store t x y, ty, pos, after, guard⟩ a w w0 S φ0 ι φ H nid v u := by
  obtain ⟨hb, h⟩ := does_nb h
  rw [evK_eq, evK_eq] at h
  have hx := ht.ev x
  have hy := ht.ev y
  have hg := hT.good hb
  unfold Does storeP at h
  split at h
  · exact h.elim
  · exact h.elim
  · rename_i cs e
    rw [e] at hy
    exact sound_storeC hg hi hx (hy.cells (fun _ e => by cases e) (fun e => by cases e)) h
  · rename_i h1 h2 h3
    have hc := hy.cells (fun cs e => h2 cs e) (fun e => h1 e)
    have : cellsOf (evV tm y) = [evV tm y] := by
      cases e : evV tm y <;> first | rfl | exact absurd e (h3 _)
    rw [this] at hc
    exact sound_storeC hg hi hx hc h

theorem rptr_drop {cs : List Val} {A : Addr} {vals : Nat → Value} (hφ : ∀ j, j < cs.length → φ (A.add j) = some (vals j)) (h1 : ∀ j, j < cs.length → (vals j).oneCell' = true)
    (hr : ∀ j, j < cs.length → RelC φ (cs.getD j .und) (vals j)) (o : Nat) : Rel ι φ (.rptr (cs.drop o)) (.pointer (some (A.add o))) := by
  refine .c (.rptr _ _ (fun j => vals (o + j)) (fun j hj => ?_) (fun j hj => ?_) (fun j hj => ?_))
  · rw [List.length_drop] at hj; rw [add_add]; exact hφ _ (by omega)
  · rw [List.length_drop] at hj; exact h1 _ (by omega)
  · rw [List.length_drop] at hj; rw [getD_drop]; exact hr _ (by omega)

theorem sound_fieldAddr {t : TypeId} {x : Operand} {f : Nat} (hT : TOk P T) (hi : Inv w0 S φ0 ι φ H w) (ht : TmOk ι φ tm a.tmps) (h : Does (evK tm x fun x => fieldAddrP (T t) x f) H [] v u r') :
    Step P ⟨dst, .fieldAddr t x f, ty, pos, after, guard⟩ a w w0 S φ0 ι φ H nid v u := by
  rw [evK_eq] at h
  have hx := ht.ev x
  unfold Does fieldAddrP at h
  split at h
  case h_2 => exact h.elim
  rename_i fs hfs
  have hg : Good P (.struct fs) t := hfs ▸ hT.good (by rw [hfs]; simp)
  simp only [Good] at hg
  obtain ⟨⟨fields, hf, hgf⟩, _⟩ := hg
  split at h
  case h_2 => exact h.elim
  rename_i o d hfa
  obtain ⟨fi, hfi, ho, hd⟩ := goodF_get hgf hfa
  rw [Array.getElem?_toList] at hfi
  have run : ∀ {A : Addr}, a.eval x = .pointer (some A) → d.size ≠ 0 → (execOp a.eval ⟨dst, .fieldAddr t x f, ty, pos, after, guard⟩).run P w = .ok (.value (.pointer (some (A.add o)))) w := by
    intro A he hne
    simp [execOp, Instr.fieldAt, run_underlying hf, hfi, Instr.sureAddr, he, fieldPlace, hd.size_run, hne, ho]
  split at h
  case h_1 => exact h.elim
  rename_i hsz
  have hne : d.size ≠ 0 := by omega
  split at h
  · rename_i b off e
    rw [e] at hx
    obtain ⟨g, c, hm, he⟩ := hx.ptr_
    obtain ⟨rfl, rfl⟩ := does_valK h
    exact Step.pure_ hi (run he hne) (by rw [add_eq]; exact .ptr _ _ _ _ hm)
  · rename_i b s i j e
    rw [e] at hx
    obtain ⟨g, c, hm, he⟩ := hx.ep_
    obtain ⟨rfl, rfl⟩ := does_valK h
    exact Step.pure_ hi (run he hne) (by rw [add_eq, Nat.add_assoc]; exact .ep _ _ _ _ _ _ hm)
  · rename_i cs e
    rw [e] at hx
    obtain ⟨A, vals, he, hφ, h1, hr⟩ := hx.rptr_
    rw [dropK_eq] at h
    obtain ⟨rfl, rfl⟩ := does_valK h
    exact Step.pure_ hi (run he hne) (rptr_drop hφ h1 hr o)
  · exact h.elim

theorem sound_field {t : TypeId} {x : Operand} {f : Nat} (hT : TOk P T) (hi : Inv w0 S φ0 ι φ H w) (ht : TmOk ι φ tm a.tmps) (h : Does (evK tm x fun x => fieldP (T t) x f) H [] v u r') :
    Step P ⟨dst, .field t x f, ty, pos, after, guard⟩ a w w0 S φ0 ι φ H nid v u := by
  rw [evK_eq] at h
  have hx := ht.ev x
  unfold Does fieldP at h
  split at h
  case h_2 => exact h.elim
  rename_i fs cs hfs hcs
  have hg : Good P (.struct fs) t := hfs ▸ hT.good (by rw [hfs]; simp)
  simp only [Good] at hg
  obtain ⟨⟨fields, hf, hgf⟩, _⟩ := hg
  split at h
  case h_2 => exact h.elim
  rename_i o d hfa
  obtain ⟨fi, hfi, ho, hd⟩ := goodF_get hgf hfa
  rw [Array.getElem?_toList] at hfi
  rw [hcs] at hx
  obtain ⟨us, he, hs, h1, hr⟩ := hx.agg_
  obtain ⟨rfl, cv, hrun, hv⟩ := part_sound hd h (w := w) hs h1 hr
  refine Step.pure_ hi (cv := cv) ?_ hv
  simp [execOp, Instr.field, run_underlying hf, hfi, he, asAgg, ho, hrun]

theorem sound_indexAddr {t : TypeId} {x y : Operand} (hT : TOk P T) (hi : Inv w0 S φ0 ι φ H w) (ht : TmOk ι φ tm a.tmps) (h : Does (evK tm x fun x => evK tm y fun i => indexAddrP (T t) x i) H [] v u r') :
    Step P ⟨dst, .indexAddr t x y, ty, pos, after, guard⟩ a w w0 S φ0 ι φ H nid v u := by
  rw [evK_eq, evK_eq] at h
  have hx := ht.ev x
  have hy := ht.ev y
  unfold Does indexAddrP at h
  split at h
  case h_2 => exact h.elim
  rename_i k i e
  rw [e] at hy
  have hy := hy.int_
  split at h
  · rename_i n el hT2
    have hg : Good P (.arr n el) t := hT2 ▸ hT.good (by rw [hT2]; simp)
    simp only [Good] at hg
    obtain ⟨⟨et, hf, hel⟩, _⟩ := hg
    have run : ∀ {A : Addr}, a.eval x = .pointer (some A) → 0 ≤ i → i < n → (execOp a.eval ⟨dst, .indexAddr t x y, ty, pos, after, guard⟩).run P w = .ok (.value (.pointer (some (A.add (i.toNat * el.size))))) w := by
      intro A he h0 hn
      simp [execOp, Instr.indexAt, hy, asIntOf, run_underlying hf, Instr.sureAddr, he, h0, hn, hel.size_run]
    split at h
    · rename_i b off e2
      rw [e2] at hx
      obtain ⟨g, c, hm, he⟩ := hx.ptr_
      obtain ⟨hb, h⟩ := h
      obtain ⟨rfl, rfl⟩ := does_valK h
      exact Step.pure_ hi (run he hb.1 hb.2) (by rw [add_eq]; exact .ptr _ _ _ _ hm)
    · rename_i b s l j e2
      rw [e2] at hx
      obtain ⟨g, c, hm, he⟩ := hx.ep_
      obtain ⟨hb, h⟩ := h
      obtain ⟨rfl, rfl⟩ := does_valK h
      exact Step.pure_ hi (run he hb.1 hb.2) (by rw [add_eq, Nat.add_assoc]; exact .ep _ _ _ _ _ _ hm)
    · rename_i cs e2
      rw [e2] at hx
      obtain ⟨A, vals, he, hφ, h1, hr⟩ := hx.rptr_
      obtain ⟨hb, h⟩ := h
      rw [dropK_eq] at h
      obtain ⟨rfl, rfl⟩ := does_valK h
      exact Step.pure_ hi (run he hb.1 hb.2) (rptr_drop hφ h1 hr _)
    · exact h.elim
  · rename_i et sz by_ hT2
    have hg : Good P (.slice et sz by_) t := hT2 ▸ hT.good (by rw [hT2]; simp)
    simp only [Good] at hg
    obtain ⟨hf, ⟨inf, hin, hsz, _⟩, _⟩ := hg
    have run : ∀ {A : Addr} {n c : Nat}, a.eval x = .slice (some A) n c → 0 ≤ i → i < n → (execOp a.eval ⟨dst, .indexAddr t x y, ty, pos, after, guard⟩).run P w = .ok (.value (.pointer (some (A.add (i.toNat * sz))))) w := by
      intro A n c he h0 hn
      simp [execOp, Instr.indexAt, hy, asIntOf, run_underlying hf, he, h0, hn, sizeOf, run_info hin, hsz]
    split at h
    · rename_i s n get e2
      rw [e2] at hx
      obtain ⟨hb, h⟩ := h
      split at h
      case h_2 => exact h.elim
      rename_i hs
      rw [beq_iff_eq] at hs; subst hs
      obtain ⟨rfl, rfl⟩ := does_valK h
      rcases hx.ext_ with ⟨h0, _⟩ | ⟨A, c, vals, he, hc, hl, hφ, h1, hr⟩
      · omega
      · have hlt : i.toNat < n := by omega
        refine Step.pure_ hi (run he hb.1 hb.2) (.c (.rptr _ _ (fun j => vals i.toNat j) (fun j hj => ?_) (fun j hj => ?_) (fun j hj => ?_)))
        · rw [hl _ hlt] at hj; rw [add_add]; exact hφ _ _ hlt hj
        · rw [hl _ hlt] at hj; exact h1 _ _ hlt hj
        · rw [hl _ hlt] at hj; exact hr _ _ hlt hj
    · rename_i b n e2
      rw [e2] at hx
      obtain ⟨g, c, hm, hnc, he⟩ := hx.row_
      obtain ⟨hb, h⟩ := h
      obtain ⟨rfl, rfl⟩ := does_valK h
      exact Step.pure_ hi (run he hb.1 hb.2) (by rw [add_eq, Nat.zero_add]; exact .ep _ _ _ 0 _ _ hm)
    · exact h.elim
  · exact h.elim

theorem nthK_does : ∀ {vs : List Val} {j : Nat}, Does (nthK vs j valK) H r v u r' → u = [] ∧ j < vs.length ∧ v = vs.getD j .und
  | [], _, h => h.elim
  | x :: _, 0, h => by obtain ⟨rfl, rfl⟩ := does_valK h; exact ⟨rfl, by simp, rfl⟩
  | x :: vs, j + 1, h => by
    obtain ⟨h1, h2, h3⟩ := nthK_does (vs := vs) (j := j) h
    exact ⟨h1, by simp; omega, by simpa using h3⟩
theorem sound_extract {x : Operand} {j : Nat} (hi : Inv w0 S φ0 ι φ H w) (ht : TmOk ι φ tm a.tmps) (h : Does (evK tm x fun x => extractP x j) H [] v u r') :
    Step P ⟨dst, .extract x j, ty, pos, after, guard⟩ a w w0 S φ0 ι φ H nid v u := by
  rw [evK_eq] at h
  have hx := ht.ev x
  unfold Does extractP at h
  split at h
  case h_2 => exact h.elim
  rename_i vs e
  rw [e] at hx
  obtain ⟨us, he, hs, hr⟩ := hx.tup_
  obtain ⟨rfl, hj, rfl⟩ := nthK_does h
  refine Step.pure_ hi (cv := us.getD j undef) ?_ (hr j hj)
  have : us[j]? = some (us.getD j undef) := by rw [Array.getD_eq_getD_getElem?, Array.getElem?_eq_getElem (by omega)]; rfl
  generalize us.getD j undef = z at this
  simp [execOp, Instr.extract, he, this]

theorem sound_index {t : TypeId} {x y : Operand} (hT : TOk P T) (hi : Inv w0 S φ0 ι φ H w) (ht : TmOk ι φ tm a.tmps) (h : Does (evK tm x fun x => evK tm y fun i => indexP (T t) x i) H [] v u r') :
    Step P ⟨dst, .index t x y, ty, pos, after, guard⟩ a w w0 S φ0 ι φ H nid v u := by
  rw [evK_eq, evK_eq] at h
  have hx := ht.ev x
  have hy := ht.ev y
  unfold Does indexP at h
  split at h
  case h_2 => exact h.elim
  rename_i k i e
  rw [e] at hy
  have hy := hy.int_
  split at h
  · rename_i s hT2 e2
    have hg : Good P .str t := hT2 ▸ hT.good (by rw [hT2]; simp)
    simp only [Good] at hg
    rw [e2] at hx
    have hx := hx.str_
    obtain ⟨⟨h0, hn⟩, h⟩ := h
    obtain ⟨rfl, rfl⟩ := does_valK h
    refine Step.pure_ hi (cv := .int .u8 (bt s i)) ?_ (.c (.int _ _))
    have hlt : i.toNat < s.size := by omega
    have hb : bt s i = ((s[i.toNat]'hlt).toNat : Int) := by
      unfold bt
      have : s.data.toList[i.toNat]? = some (s[i.toNat]'hlt) := by
        rw [List.getElem?_eq_getElem (by rw [Array.length_toList]; exact hlt)]; rfl
      rw [this]
    rw [hb]
    simp [execOp, Instr.index, hy, hx, asIntOf, run_underlying hg.1, h0, hlt]
  · rename_i n el cs hT2 e2
    have hg : Good P (.arr n el) t := hT2 ▸ hT.good (by rw [hT2]; simp)
    simp only [Good] at hg
    obtain ⟨⟨et, hf, hel⟩, _⟩ := hg
    rw [e2] at hx
    obtain ⟨us, he, hs, h1, hr⟩ := hx.agg_
    obtain ⟨⟨h0, hn⟩, h⟩ := h
    obtain ⟨rfl, cv, hrun, hv⟩ := part_sound hel h (w := w) hs h1 hr
    refine Step.pure_ hi (cv := cv) ?_ hv
    simp [execOp, Instr.index, hy, he, asIntOf, run_underlying hf, h0, hn, hel.size_run, hrun]
  · exact h.elim

theorem sound_nilCheck {x : Operand} (hi : Inv w0 S φ0 ι φ H w) (ht : TmOk ι φ tm a.tmps) (h : Does (evK tm x fun x => match x with
    | .ptr b o => valK (.ptr b o)
    | .ep b s i j => valK (.ep b s i j)
    | .rptr cs => valK (.rptr cs)
    | .fn f a c => valK (.fn f a c)
    | _ => .fail) H [] v u r') : Step P ⟨dst, .nilCheck x, ty, pos, after, guard⟩ a w w0 S φ0 ι φ H nid v u := by
  rw [evK_eq] at h
  have hx := ht.ev x
  have key : ∀ {cv}, a.eval x = cv → (∃ A, cv = .pointer (some A)) ∨ (∃ f us ws, cv = .func (.func f) us ws) → Step P ⟨dst, .nilCheck x, ty, pos, after, guard⟩ a w w0 S φ0 ι φ H nid (evV tm x) [] := by
    rintro cv rfl (⟨A, he⟩ | ⟨f, us, ws, he⟩) <;> refine Step.pure_ hi (cv := a.eval x) ?_ hx <;> simp [execOp, he]
  split at h
  · rename_i b o e
    obtain ⟨rfl, rfl⟩ := does_valK h
    rw [← e]; rw [e] at hx
    obtain ⟨g, c, _, he⟩ := hx.ptr_
    exact key he (.inl ⟨_, rfl⟩)
  · rename_i b s i j e
    obtain ⟨rfl, rfl⟩ := does_valK h
    rw [← e]; rw [e] at hx
    obtain ⟨g, c, _, he⟩ := hx.ep_
    exact key he (.inl ⟨_, rfl⟩)
  · rename_i cs e
    obtain ⟨rfl, rfl⟩ := does_valK h
    rw [← e]; rw [e] at hx
    obtain ⟨A, vals, he, _⟩ := hx.rptr_
    exact key he (.inl ⟨_, rfl⟩)
  · rename_i f a' c e
    obtain ⟨rfl, rfl⟩ := does_valK h
    rw [← e]; rw [e] at hx
    obtain ⟨us, ws, he, _⟩ := hx.fn_
    exact key he (.inr ⟨_, _, _, rfl⟩)
  · exact h.elim
end
end
end Go.AM

set_option linter.unusedVariables false
set_option linter.unusedSimpArgs false
set_option maxRecDepth 100000
namespace Go.AM

def eqLeaf : Value → Value → Bool
  | .bool a, .bool b => a == b
  | .int _ a, .int _ b => a == b
  | .string a, .string b => a.toList == b.toList
  | _, _ => false
def LeafP : TD → Value → Value → Prop
  | .bool, x, y => (∃ b, x = .bool b) ∧ ∃ b, y = .bool b
  | .int k, x, y => (∃ n, x = .int k n) ∧ ∃ n, y = .int k n
  | .str, x, y => (∃ s, x = .string s) ∧ ∃ s, y = .string s
  | _, _, _ => False
def LP (ls : List TD) (off : Nat) (xs ys : Array Value) : Prop := ∀ k, k < ls.length → LeafP (ls.getD k .bad) (xs.getD (off + k) undef) (ys.getD (off + k) undef)
def eqs (xs ys : Array Value) (off n : Nat) : Bool := (List.range n).all fun i => eqLeaf (xs.getD (off + i) undef) (ys.getD (off + i) undef)
theorem eqs_add (xs ys : Array Value) (off m n : Nat) : eqs xs ys off (m + n) = (eqs xs ys off m && eqs xs ys (off + m) n) := by
  unfold eqs
  rw [List.range_add, List.all_append, List.all_map]
  congr 2
  funext i
  simp [Nat.add_assoc]
theorem getD_app_left {α : Type} (z : α) {l m : List α} {k : Nat} (h : k < l.length) : (l ++ m).getD k z = l.getD k z := by
  simp only [List.getD_eq_getElem?_getD]; rw [List.getElem?_append_left h]
theorem getD_app_right {α : Type} (z : α) {l m : List α} {k : Nat} : (l ++ m).getD (l.length + k) z = m.getD k z := by
  simp only [List.getD_eq_getElem?_getD]; rw [List.getElem?_append_right (by omega), show l.length + k - l.length = k by omega]
theorem repT_length (n : Nat) (l : List TD) : (repT n l).length = n * l.length := by
  induction n with
  | zero => simp [repT]
  | succ n ih => simp [repT, ih, Nat.add_mul, Nat.add_comm]
theorem repT_get : ∀ {n : Nat} {l : List TD} (j : Nat) {q : Nat}, q < l.length → j < n → (repT n l).getD (j * l.length + q) .bad = l.getD q .bad
  | n + 1, l, 0, q, hq, _ => by simp only [repT, Nat.zero_mul, Nat.zero_add]; exact getD_app_left _ hq
  | n + 1, l, j + 1, q, hq, hj => by
    simp only [repT]
    rw [show (j + 1) * l.length + q = l.length + (j * l.length + q) by rw [Nat.add_mul, Nat.one_mul]; omega, getD_app_right]
    exact repT_get j hq (by omega)
mutual
theorem TD.leafs_length : ∀ d : TD, d.flat = true → d.leafs.length = d.size
  | .bool, _ => rfl
  | .int _, _ => rfl
  | .str, _ => rfl
  | .struct fs, h => by simp only [TD.leafs, TD.size]; exact TD.leafss_length fs h
  | .arr n e, h => by simp only [TD.leafs, TD.size, repT_length]; rw [TD.leafs_length e h]
theorem TD.leafss_length : ∀ fs : List TD, TD.flats fs = true → (TD.leafss fs).length = TD.sizes fs
  | [], _ => rfl
  | f :: fs, h => by
    simp only [TD.flats, Bool.and_eq_true] at h
    simp only [TD.leafss, TD.sizes, List.length_append, TD.leafs_length f h.1, TD.leafss_length fs h.2]
end
theorem LP.left {l m : List TD} {off : Nat} {xs ys : Array Value} (h : LP (l ++ m) off xs ys) : LP l off xs ys := fun k hk => by
  have := h k (by simp; omega)
  rwa [getD_app_left _ hk] at this
theorem LP.right {l m : List TD} {off : Nat} {xs ys : Array Value} (h : LP (l ++ m) off xs ys) : LP m (off + l.length) xs ys := fun k hk => by
  have := h (l.length + k) (by simp; omega)
  rw [getD_app_right, ← Nat.add_assoc] at this
  exact this
theorem LP.extract {l : List TD} {off o n : Nat} {xs ys : Array Value} (hx : off + n ≤ xs.size) (hy : off + n ≤ ys.size) (ho : o + l.length ≤ n) (h : LP l (off + o) xs ys) :
    LP l o (xs.extract off (off + n)) (ys.extract off (off + n)) := fun k hk => by
  have := h k hk
  have e : ∀ zs : Array Value, off + n ≤ zs.size → (zs.extract off (off + n)).getD (o + k) undef = zs.getD (off + o + k) undef := fun zs hz => by
    rw [Array.getD_eq_getD_getElem?, Array.getD_eq_getD_getElem?, Array.getElem?_extract, if_pos (by omega), Nat.add_assoc]
  rw [e xs hx, e ys hy]
  exact this
theorem eqs_extract {off n : Nat} {xs ys : Array Value} (hx : off + n ≤ xs.size) (hy : off + n ≤ ys.size) : eqs (xs.extract off (off + n)) (ys.extract off (off + n)) 0 n = eqs xs ys off n := by
  unfold eqs
  rw [Bool.eq_iff_iff, List.all_eq_true, List.all_eq_true]
  refine forall_congr' fun i => forall_congr' fun hi => ?_
  have hi := List.mem_range.1 hi
  have e : ∀ zs : Array Value, off + n ≤ zs.size → (zs.extract off (off + n)).getD (0 + i) undef = zs.getD (off + i) undef := fun zs hz => by
    rw [Array.getD_eq_getD_getElem?, Array.getD_eq_getD_getElem?, Array.getElem?_extract, if_pos (by omega), Nat.zero_add]
  rw [e xs hx, e ys hy]

section
variable {P : Program} (w : World)
theorem part_agg {t : TypeId} {d : TD} (hg : Good P d t) (ha : d.isAgg = true) (xs : Array Value) (off : Nat) : (part t xs off).run P w = .ok (.agg (xs.extract off (off + d.size))) w := by
  simp [part, hg.isAgg_run, hg.size_run, ha]
theorem part_one {t : TypeId} {d : TD} (hg : Good P d t) (ha : d.isAgg = false) {xs : Array Value} {off : Nat} (h : off < xs.size) : (part t xs off).run P w = .ok (xs.getD off undef) w := by
  have : xs[off]? = some (xs.getD off undef) := by rw [Array.getD_eq_getD_getElem?, Array.getElem?_eq_getElem h]; rfl
  generalize xs.getD off undef = z at this
  simp [part, hg.isAgg_run, ha, this]
/-- What two parts come to. -/
def PartEq (P : Program) (t : TypeId) (n : Nat) (w : World) (xs ys : Array Value) (off : Nat) (r : Bool) : Prop :=
  ∃ x y, (part t xs off).run P w = .ok x w ∧ (part t ys off).run P w = .ok y w ∧ (Op.equalIn n t x y).run P w = .ok r w
theorem leafEq {t : TypeId} {d : TD} (hg : Good P d t) (ha : d.isAgg = false) (hl : d.leafs = [d]) {n : Nat} {xs ys : Array Value} {off : Nat} (hx : off + 1 ≤ xs.size) (hy : off + 1 ≤ ys.size) (hp : LP d.leafs off xs ys)
    (he : ∀ x y, LeafP d x y → (Op.equalIn (n + 1) t x y).run P w = .ok (eqLeaf x y) w) : PartEq P t (n + 1) w xs ys off (eqs xs ys off 1) := by
  refine ⟨_, _, part_one w hg ha (by omega), part_one w hg ha (by omega), ?_⟩
  have := hp 0 (by rw [hl]; simp)
  rw [hl] at this
  rw [he _ _ (by simpa using this)]
  simp [eqs]
mutual
theorem part_eq : ∀ (d : TD), d.flat = true → ∀ {t : TypeId}, Good P d t → ∀ (n : Nat), d.depth ≤ n → ∀ {xs ys : Array Value} {off : Nat}, off + d.size ≤ xs.size → off + d.size ≤ ys.size → LP d.leafs off xs ys →
    PartEq P t n w xs ys off (eqs xs ys off d.size)
  | .bool, _, t, hg, n + 1, _, xs, ys, off, hx, hy, hp => leafEq w hg rfl rfl hx hy hp fun x y h => by
      obtain ⟨⟨a, rfl⟩, b, rfl⟩ := h
      simp only [Good] at hg
      rw [run_equalIn_bool' w n t a b hg.1]; rfl
  | .int k, _, t, hg, n + 1, _, xs, ys, off, hx, hy, hp => leafEq w hg rfl rfl hx hy hp fun x y h => by
      obtain ⟨⟨a, rfl⟩, b, rfl⟩ := h
      simp only [Good] at hg
      simp [Op.equalIn, run_underlying hg.1, eqLeaf]
  | .str, _, t, hg, n + 1, _, xs, ys, off, hx, hy, hp => leafEq w hg rfl rfl hx hy hp fun x y h => by
      obtain ⟨⟨a, rfl⟩, b, rfl⟩ := h
      simp only [Good] at hg
      rw [run_equalIn_string w n t a b hg.1]; rfl
  | .struct fs, hf, t, hg, n + 1, hd, xs, ys, off, hx, hy, hp => by
    refine ⟨_, _, part_agg w hg rfl xs off, part_agg w hg rfl ys off, ?_⟩
    simp only [Good] at hg
    obtain ⟨⟨fields, hfu, hgf⟩, hst, _⟩ := hg
    have hfo : P.fieldsOf t = fields := by simp [Program.fieldsOf, hfu]
    rw [run_equalIn_struct w n t _ _ (by rw [hfo]; exact hfu) (hst hf).1, hfo]
    have hl := TD.leafss_length fs hf
    have := fields_eq fs hf hgf n (by simp only [TD.depth] at hd; omega) (xs := xs.extract off (off + (TD.struct fs).size)) (ys := ys.extract off (off + (TD.struct fs).size)) (o := 0)
      (by simp only [Array.size_extract, TD.size] at hx ⊢; omega) (by simp only [Array.size_extract, TD.size] at hy ⊢; omega)
      (LP.extract hx hy (by simp only [TD.size]; omega) hp)
    rw [this]
    have e := eqs_extract (n := (TD.struct fs).size) hx hy
    simp only [TD.size] at e ⊢
    rw [e]
  | .arr m e, hf, t, hg, n + 1, hd, xs, ys, off, hx, hy, hp => by
    refine ⟨_, _, part_agg w hg rfl xs off, part_agg w hg rfl ys off, ?_⟩
    simp only [Good] at hg
    obtain ⟨⟨el, hu, hge⟩, _⟩ := hg
    obtain ⟨i, z, hin, hsz, _⟩ := hge.zok
    have hc : P.cellsOf el = e.size := by simp [Program.cellsOf, hin, hsz]
    rw [run_equalIn_array w n _ _ hu hin, hc]
    have hl := TD.leafs_length e hf
    have key : ∀ k j, j + k = m → (Op.eqItems n el e.size (xs.extract off (off + (TD.arr m e).size)) (ys.extract off (off + (TD.arr m e).size)) (List.range' j k)).run P w =
        .ok (eqs (xs.extract off (off + (TD.arr m e).size)) (ys.extract off (off + (TD.arr m e).size)) (j * e.size) (k * e.size)) w := by
      intro k
      induction k with
      | zero => intro j _; simp [Op.eqItems, eqs]
      | succ k ih =>
        intro j hj
        have hjm : j * e.size + e.size ≤ m * e.size := by
          calc j * e.size + e.size = (j + 1) * e.size := by rw [Nat.add_mul, Nat.one_mul]
            _ ≤ m * e.size := Nat.mul_le_mul_right _ (by omega)
        have hlp : LP e.leafs (off + j * e.size) xs ys := fun q hq => by
          have hlt : j * e.size + q < (repT m e.leafs).length := by rw [repT_length, hl]; rw [hl] at hq; omega
          have := hp (j * e.size + q) hlt
          rw [show (TD.arr m e).leafs = repT m e.leafs from rfl, ← hl, repT_get j hq (by omega), hl, ← Nat.add_assoc] at this
          exact this
        obtain ⟨x, y, p1, p2, p3⟩ := part_eq e hf hge n (by simp only [TD.depth] at hd; omega) (xs := xs.extract off (off + (TD.arr m e).size)) (ys := ys.extract off (off + (TD.arr m e).size)) (off := j * e.size)
          (by simp only [Array.size_extract, TD.size] at hx ⊢; omega) (by simp only [Array.size_extract, TD.size] at hy ⊢; omega) (LP.extract hx hy (by rw [hl]; simp only [TD.size]; omega) hlp)
        simp only [List.range'_succ, Op.eqItems, Sem.run_bind, p1, p2, p3, Result.andThen_ok, Sem.run_ite]
        rw [show (k + 1) * e.size = e.size + k * e.size by rw [Nat.add_mul, Nat.one_mul, Nat.add_comm], eqs_add]
        generalize eqs (xs.extract off (off + (TD.arr m e).size)) (ys.extract off (off + (TD.arr m e).size)) (j * e.size) e.size = b
        cases b
        · simp
        · simp only [Bool.not_true, Bool.false_eq_true, if_false, Bool.true_and]
          rw [ih (j + 1) (by omega), Nat.add_mul, Nat.one_mul]
    have h0 := key m 0 (by omega)
    rw [Nat.zero_mul] at h0
    rw [List.range_eq_range', h0]
    have e2 := eqs_extract (n := (TD.arr m e).size) hx hy
    simp only [TD.size] at e2 ⊢
    rw [e2]
  | .bool, _, _, _, 0, hd, _, _, _, _, _, _ => absurd hd (by simp [TD.depth])
  | .int _, _, _, _, 0, hd, _, _, _, _, _, _ => absurd hd (by simp [TD.depth])
  | .str, _, _, _, 0, hd, _, _, _, _, _, _ => absurd hd (by simp [TD.depth])
  | .struct _, _, _, _, 0, hd, _, _, _, _, _, _ => absurd hd (by simp [TD.depth])
  | .arr _ _, _, _, _, 0, hd, _, _, _, _, _, _ => absurd hd (by simp [TD.depth])
theorem fields_eq : ∀ (ds : List TD), TD.flats ds = true → ∀ {fs : List Field} {o : Nat}, GoodF P ds fs o → ∀ (n : Nat), TD.depths ds ≤ n → ∀ {xs ys : Array Value}, o + TD.sizes ds ≤ xs.size → o + TD.sizes ds ≤ ys.size → LP (TD.leafss ds) o xs ys →
    (Op.eqFields n xs ys fs).run P w = .ok (eqs xs ys o (TD.sizes ds)) w
  | [], _, [], o, _, n, _, xs, ys, _, _, _ => by simp [Op.eqFields, eqs, TD.sizes]
  | d :: ds, hf, f :: fs, o, hg, n, hd, xs, ys, hx, hy, hp => by
    simp only [TD.flats, Bool.and_eq_true] at hf
    simp only [GoodF] at hg
    obtain ⟨rfl, hn, hgd, hgs⟩ := hg
    simp only [TD.sizes] at hx hy ⊢
    simp only [TD.depths] at hd
    obtain ⟨x, y, p1, p2, p3⟩ := part_eq d hf.1 hgd n (by omega) (xs := xs) (ys := ys) (off := f.offset) (by omega) (by omega) hp.left
    have hr := hp.right
    rw [TD.leafs_length d hf.1] at hr
    have ih := fields_eq ds hf.2 hgs n (by omega) (xs := xs) (ys := ys) (by omega) (by omega) hr
    have hn' : f.name ≠ "_" := by simpa using hn
    simp only [Op.eqFields, hn', ne_eq, not_false_eq_true, if_true, Sem.run_bind, p1, p2, p3, Result.andThen_ok, Sem.run_ite]
    rw [eqs_add]
    generalize eqs xs ys f.offset d.size = b
    cases b
    · simp
    · simp only [Bool.not_true, Bool.false_eq_true, if_false, Bool.true_and]
      exact ih
  | [], _, _ :: _, _, hg, _, _, _, _, _, _, _ => by simp [GoodF] at hg
  | _ :: _, _, [], _, hg, _, _, _, _, _, _, _ => by simp [GoodF] at hg
end
end
end Go.AM

set_option linter.unusedVariables false
set_option linter.unusedSimpArgs false
set_option maxRecDepth 100000
namespace Go.AM
noncomputable section
open Go.RowKit

section
variable {P : Program} {T : TypeId → TD} {a : Act} {w w0 : World} {S : Nat → Prop} {φ0 : Prot} {ι : Map} {φ : Prot} {H : Nat → Blk} {nid : Nat} {v : Val} {u : Upd} {r r' : List Nat} {tm : List Val}
variable {dst : Option Tmp} {ty : TypeId} {pos : String} {after : Array Edge} {guard : Option (Nat × Bool)}

theorem sound_unOp {op : UnOp} {t : TypeId} {x : Operand} (hi : Inv w0 S φ0 ι φ H w) (ht : TmOk ι φ tm a.tmps) (h : Does (evK tm x fun x => unP op x) H [] v u r') :
    Step P ⟨dst, .unOp op t x, ty, pos, after, guard⟩ a w w0 S φ0 ι φ H nid v u := by
  rw [evK_eq] at h
  have hx := ht.ev x
  unfold Does unP at h
  split at h
  · rename_i b e
    rw [e] at hx
    have hx := hx.bool_
    obtain ⟨rfl, rfl⟩ := does_valK h
    exact Step.pure_ hi (cv := .bool (!b)) (by simp [execOp, Op.unary, hx]) (.c (.bool _))
  · rename_i k n e
    rw [e] at hx
    have hx := hx.int_
    obtain ⟨rfl, rfl⟩ := does_valK h
    exact Step.pure_ hi (cv := .int k (k.wrap (0 - n))) (by simp [execOp, Op.unary, Op.intArith, hx]) (.c (.int _ _))
  · rename_i k n e
    rw [e] at hx
    have hx := hx.int_
    obtain ⟨rfl, rfl⟩ := does_valK h
    exact Step.pure_ hi (cv := .int k (k.wrap (BitVec.ofInt k.bits (if k.signed then -1 else k.max) ^^^ BitVec.ofInt k.bits n).toNat)) (by simp [execOp, Op.unary, Op.intBits, hx]) (.c (.int _ _))
  · exact h.elim

def unV : Val → Value
  | .int k n => .int k n
  | .bool b => .bool b
  | _ => undef
theorem arith_run {op : BinOp} {k : IntKind} {x y : Int} {z : Val} (h : arith op k x y = some z) (t : TypeId) : (binOp op t (.int k x) (.int k y)).run P w = .ok (unV z) w ∧ RelC φ z (unV z) := by
  constructor
  · cases op <;> simp only [arith, Option.some.injEq, reduceCtorEq] at h <;> subst h <;> simp [binOp, Op.intArith, Op.intBits, Op.intCmp, unV]
  · cases op <;> simp only [arith, Option.some.injEq, reduceCtorEq] at h <;> subst h <;> constructor

theorem eqGuard_int (op : BinOp) (t : TypeId) (x y : Operand) (k k' : IntKind) (m n : Int) : (eqGuard op t x y (.int k m) (.int k' n)).run P w = .ok () w := by
  cases op <;> simp [eqGuard]
theorem eqGuard_bool (op : BinOp) (t : TypeId) (x y : Operand) (m n : Bool) : (eqGuard op t x y (.bool m) (.bool n)).run P w = .ok () w := by
  cases op <;> simp [eqGuard]
theorem eqGuard_str (op : BinOp) (t : TypeId) (x y : Operand) (m n : ByteArray) : (eqGuard op t x y (.string m) (.string n)).run P w = .ok () w := by
  cases op <;> simp [eqGuard]
theorem eqGuard_slice (op : BinOp) (t : TypeId) (x y : Operand) (m n : Option Addr) (i j k l : Nat) : (eqGuard op t x y (.slice m i j) (.slice n k l)).run P w = .ok () w := by
  cases op <;> simp [eqGuard]
theorem eqGuard_ptr (op : BinOp) (t : TypeId) (x y : Operand) (m n : Option Addr) : (eqGuard op t x y (.pointer m) (.pointer n)).run P w = .ok () w := by
  cases op <;> simp [eqGuard]

/-! equality of flat aggregates -/
theorem eqK_does : ∀ {xs ys : List Val} {K : Bool → Prog}, Does (eqK xs ys K) H r v u r' → ∃ b, (∀ {us ws : List Value}, CellsOk ι φ xs us → CellsOk ι φ ys ws →
      us.length = xs.length ∧ ws.length = ys.length ∧ xs.length = ys.length ∧ b = ((List.range xs.length).all fun i => (eqLeaf (us.getD i undef) (ws.getD i undef)))) ∧ Does (K b) H r v u r'
  | [], [], K, h => ⟨true, fun hu hw => ⟨hu.1, hw.1, rfl, rfl⟩, h⟩
  | x :: xs, y :: ys, K, h => by
    have step : ∀ {e : Bool}, (∀ {cu cw : Value}, Rel ι φ x cu → Rel ι φ y cw → eqLeaf cu cw = e) → Does (eqK xs ys fun r => K (e && r)) H r v u r' →
        ∃ b, (∀ {us ws : List Value}, CellsOk ι φ (x :: xs) us → CellsOk ι φ (y :: ys) ws →
          us.length = (x :: xs).length ∧ ws.length = (y :: ys).length ∧ (x :: xs).length = (y :: ys).length ∧ b = ((List.range (x :: xs).length).all fun i => (eqLeaf (us.getD i undef) (ws.getD i undef)))) ∧ Does (K b) H r v u r' := by
      intro e he hd
      obtain ⟨b, hb, hK⟩ := eqK_does hd
      refine ⟨e && b, fun {us ws} hu hw => ?_, hK⟩
      cases us with
      | nil => have := hu.1; simp at this
      | cons cu us => cases ws with
        | nil => have := hw.1; simp at this
        | cons cw ws =>
          have h0 := hu.2 0 (by simp)
          have h0' := hw.2 0 (by simp)
          have tl : ∀ {z : Val} {zs : List Val} {c : Value} {cs : List Value}, CellsOk ι φ (z :: zs) (c :: cs) → CellsOk ι φ zs cs := fun h => ⟨by simpa using h.1, fun k hk => by simpa using h.2 (k + 1) (by simp; omega)⟩
          obtain ⟨l1, l2, l3, hbb⟩ := hb (tl hu) (tl hw)
          refine ⟨by simp [l1], by simp [l2], by simp [l3], ?_⟩
          rw [List.length_cons, List.range_succ_eq_map, List.all_cons, List.all_map, hbb]
          have := he h0.2 h0'.2
          simp only [List.getD_cons_zero] at this ⊢
          rw [this]
          rfl
    unfold Does eqK at h
    split at h
    · rename_i e1 e2; cases e1
    · rename_i e1 e2
      cases e1; cases e2
      exact step (fun h1 h2 => by rw [h1.bool_, h2.bool_]; rfl) h
    · rename_i e1 e2
      cases e1; cases e2
      split at h
      · rename_i hk
        rw [decide_eq_true_eq] at hk; subst hk
        exact step (fun h1 h2 => by rw [h1.int_, h2.int_]; rfl) h
      · exact h.elim
    · rename_i e1 e2
      cases e1; cases e2
      exact step (fun h1 h2 => by rw [h1.str_, h2.str_]; rfl) h
    · exact h.elim
  | [], _ :: _, _, h => by unfold Does eqK at h; exact h.elim
  | _ :: _, [], _, h => by
    unfold Does eqK at h
    split at h
    · rename_i e1 e2; exact absurd e1 (by simp)
    · rename_i e1 e2; exact absurd e2 (by simp)
    · rename_i e1 e2; exact absurd e2 (by simp)
    · rename_i e1 e2; exact absurd e2 (by simp)
    · exact h.elim

theorem leafsB_get : ∀ {ds : List TD} {vs : List Val}, leafsB ds vs = true → ds.length = vs.length ∧ ∀ k, k < vs.length → leafB (ds.getD k .bad) (vs.getD k .und) = true
  | [], [], _ => ⟨rfl, fun k hk => absurd hk (by simp)⟩
  | d :: ds, v :: vs, h => by
    simp only [leafsB, Bool.and_eq_true] at h
    obtain ⟨h1, h2⟩ := leafsB_get h.2
    refine ⟨by simp [h1], fun k hk => ?_⟩
    cases k with
    | zero => exact h.1
    | succ k => simpa using h2 k (by simpa using hk)
  | [], _ :: _, h => by cases h
  | _ :: _, [], h => by cases h
theorem leafB_val {d : TD} {x y : Val} {ux uy : Value} (h1 : leafB d x = true) (h2 : leafB d y = true) (r1 : Rel ι φ x ux) (r2 : Rel ι φ y uy) : LeafP d ux uy := by
  cases d <;> cases x <;> simp only [leafB, Bool.false_eq_true, decide_eq_true_eq] at h1 <;> cases y <;> simp only [leafB, Bool.false_eq_true, decide_eq_true_eq] at h2
  · exact ⟨⟨_, r1.bool_⟩, _, r2.bool_⟩
  · subst h1; subst h2; exact ⟨⟨_, r1.int_⟩, _, r2.int_⟩
  · exact ⟨⟨_, r1.str_⟩, _, r2.str_⟩

theorem eqn_pp {t e : TypeId} (d : Nat) (h : P.underlying t = some (.pointer e)) : (Op.equalIn (d + 1) t (.pointer none) (.pointer none)).run P w = .ok true w := by simp [Op.equalIn, run_underlying h]
theorem eqn_ap {t e : TypeId} (d : Nat) (h : P.underlying t = some (.pointer e)) (A : Addr) : (Op.equalIn (d + 1) t (.pointer (some A)) (.pointer none)).run P w = .ok false w := by simp [Op.equalIn, run_underlying h]
theorem eqn_pa {t e : TypeId} (d : Nat) (h : P.underlying t = some (.pointer e)) (A : Addr) : (Op.equalIn (d + 1) t (.pointer none) (.pointer (some A))).run P w = .ok false w := by simp [Op.equalIn, run_underlying h]
theorem eqn_sl {t e : TypeId} (d : Nat) (h : P.underlying t = some (.slice e)) (A : Option Addr) (n c : Nat) : (Op.equalIn (d + 1) t (.slice A n c) (.slice none 0 0)).run P w = .ok A.isNone w := by
  cases A <;> simp [Op.equalIn, run_underlying h]
theorem eql_ptr {t : TypeId} {x y : Option Addr} {b : Bool} (h : (Op.equalIn 10000 t (.pointer x) (.pointer y)).run P w = .ok b w) : (binOp .eql t (.pointer x) (.pointer y)).run P w = .ok (.bool b) w := by
  simp only [binOp, Op.equal, Op.maxDepth, Sem.run_bind, h, Result.andThen_ok, Sem.run_pure]
theorem neq_ptr {t : TypeId} {x y : Option Addr} {b : Bool} (h : (Op.equalIn 10000 t (.pointer x) (.pointer y)).run P w = .ok b w) : (binOp .neq t (.pointer x) (.pointer y)).run P w = .ok (.bool (!b)) w := by
  simp only [binOp, Op.equal, Op.maxDepth, Sem.run_bind, h, Result.andThen_ok, Sem.run_pure]
theorem eql_sl {t : TypeId} {x y : Option Addr} {n c m d : Nat} {b : Bool} (h : (Op.equalIn 10000 t (.slice x n c) (.slice y m d)).run P w = .ok b w) : (binOp .eql t (.slice x n c) (.slice y m d)).run P w = .ok (.bool b) w := by
  simp only [binOp, Op.equal, Op.maxDepth, Sem.run_bind, h, Result.andThen_ok, Sem.run_pure]
theorem neq_sl {t : TypeId} {x y : Option Addr} {n c m d : Nat} {b : Bool} (h : (Op.equalIn 10000 t (.slice x n c) (.slice y m d)).run P w = .ok b w) : (binOp .neq t (.slice x n c) (.slice y m d)).run P w = .ok (.bool (!b)) w := by
  simp only [binOp, Op.equal, Op.maxDepth, Sem.run_bind, h, Result.andThen_ok, Sem.run_pure]

/-- '==', where the machine has it. -/
theorem eqP_sound {t : TypeId} (hT : TOk P T) {x y : Val} {ux uy : Value} {K : Bool → Prog} (hx : Rel ι φ x ux) (hy : Rel ι φ y uy) (h : Does (eqP (T t) x y K) H r v u r') (op : BinOp) (ox oy : Operand) :
    ∃ b, (eqGuard op t ox oy ux uy).run P w = .ok () w ∧ (binOp .eql t ux uy).run P w = .ok (.bool b) w ∧ (binOp .neq t ux uy).run P w = .ok (.bool (!b)) w ∧ Does (K b) H r v u r' := by
  unfold Does eqP at h
  split at h
  · rename_i cs ds
    split at h
    case h_2 => exact h.elim
    rename_i hb
    simp only [Bool.and_eq_true, decide_eq_true_eq] at hb
    obtain ⟨⟨⟨⟨ha, hf⟩, hd⟩, hl1⟩, hl2⟩ := hb
    obtain ⟨us, rfl, hs1, ho1, hr1⟩ := hx.agg_
    obtain ⟨ws, rfl, hs2, ho2, hr2⟩ := hy.agg_
    obtain ⟨b, hb, hK⟩ := eqK_does (ι := ι) (φ := φ) h
    have c1 : CellsOk ι φ cs us.toList := ⟨by simpa using hs1, fun k hk => by rw [arr_getD]; exact ⟨ho1 k hk, hr1 k hk⟩⟩
    have c2 : CellsOk ι φ ds ws.toList := ⟨by simpa using hs2, fun k hk => by rw [arr_getD]; exact ⟨ho2 k hk, hr2 k hk⟩⟩
    obtain ⟨_, _, hlen, hbe⟩ := hb c1 c2
    have hgood := hT.good (t := t) (by intro e; rw [e] at ha; cases ha)
    obtain ⟨l1, g1⟩ := leafsB_get hl1
    obtain ⟨l2, g2⟩ := leafsB_get hl2
    have hls := TD.leafs_length _ hf
    have hLP : LP (T t).leafs 0 us ws := fun k hk => by
      rw [Nat.zero_add]
      exact leafB_val (g1 k (by omega)) (g2 k (by omega)) (hr1 k (by omega)) (hr2 k (by omega))
    have hbe' : b = eqs us ws 0 (T t).size := by
      rw [hbe]; unfold eqs
      rw [← hls, l1]
      simp only [Nat.zero_add, arr_getD]
    obtain ⟨x', y', p1, p2, p3⟩ := part_eq w (T t) hf hgood 10000 (by omega) (xs := us) (ys := ws) (off := 0) (by omega) (by omega) hLP
    rw [part_agg w hgood ha us 0] at p1
    rw [part_agg w hgood ha ws 0] at p2
    have ex : ∀ zs : Array Value, zs.size = (T t).size → zs.extract 0 (0 + (T t).size) = zs := fun zs hz => by rw [← hz]; simp
    rw [ex us (by omega)] at p1
    rw [ex ws (by omega)] at p2
    simp only [Result.ok.injEq, and_true] at p1 p2
    subst p1; subst p2
    have hguard : P.eqGuardType P.depth t = false := by
      cases hTt : T t <;> rw [hTt] at ha hf hgood <;> simp only [TD.isAgg, Bool.false_eq_true] at ha <;> simp only [Good] at hgood
      · exact (hgood.2.1 hf).2
      · exact hgood.2.1 hf
    refine ⟨b, run_eqGuard_agg w op t ox oy us ws hguard, ?_, ?_, hK⟩
    · rw [run_eql_struct, p3, hbe']; rfl
    · rw [run_neq_struct, p3, hbe']; rfl
  · have hx := hx.nilp_; have hy := hy.nilp_; subst hx; subst hy
    split at h
    · rename_i e hTt
      have hg : Good P (.ptr e) t := hTt ▸ hT.good (by rw [hTt]; simp)
      simp only [Good] at hg
      have he := eqn_pp (w := w) 9999 hg.1
      exact ⟨true, eqGuard_ptr .., eql_ptr he, neq_ptr he, h⟩
    · exact h.elim
  · obtain ⟨g, c, _, hx⟩ := hx.ptr_; have hy := hy.nilp_; subst hx; subst hy
    split at h
    · rename_i e hTt
      have hg : Good P (.ptr e) t := hTt ▸ hT.good (by rw [hTt]; simp)
      simp only [Good] at hg
      have he := eqn_ap (w := w) 9999 hg.1
      exact ⟨false, eqGuard_ptr .., eql_ptr (he _), neq_ptr (he _), h⟩
    · exact h.elim
  · have hx := hx.nilp_; obtain ⟨g, c, _, hy⟩ := hy.ptr_; subst hx; subst hy
    split at h
    · rename_i e hTt
      have hg : Good P (.ptr e) t := hTt ▸ hT.good (by rw [hTt]; simp)
      simp only [Good] at hg
      have he := eqn_pa (w := w) 9999 hg.1
      exact ⟨false, eqGuard_ptr .., eql_ptr (he _), neq_ptr (he _), h⟩
    · exact h.elim
  · obtain ⟨A, _, hx, _⟩ := hx.rptr_; have hy := hy.nilp_; subst hx; subst hy
    split at h
    · rename_i e hTt
      have hg : Good P (.ptr e) t := hTt ▸ hT.good (by rw [hTt]; simp)
      simp only [Good] at hg
      have he := eqn_ap (w := w) 9999 hg.1
      exact ⟨false, eqGuard_ptr .., eql_ptr (he _), neq_ptr (he _), h⟩
    · exact h.elim
  · have hx := hx.nilp_; obtain ⟨A, _, hy, _⟩ := hy.rptr_; subst hx; subst hy
    split at h
    · rename_i e hTt
      have hg : Good P (.ptr e) t := hTt ▸ hT.good (by rw [hTt]; simp)
      simp only [Good] at hg
      have he := eqn_pa (w := w) 9999 hg.1
      exact ⟨false, eqGuard_ptr .., eql_ptr (he _), neq_ptr (he _), h⟩
    · exact h.elim
  · have hx := hx.nils_; have hy := hy.nils_; subst hx; subst hy
    split at h
    · rename_i e sz by_ hTt
      have hg : Good P (.slice e sz by_) t := hTt ▸ hT.good (by rw [hTt]; simp)
      simp only [Good] at hg
      have he := eqn_sl (w := w) 9999 hg.1
      exact ⟨true, eqGuard_slice .., eql_sl (he none _ _), neq_sl (he none _ _), h⟩
    · exact h.elim
  · obtain ⟨g, c, _, _, hx⟩ := hx.row_; have hy := hy.nils_; subst hx; subst hy
    split at h
    · rename_i e sz by_ hTt
      have hg : Good P (.slice e sz by_) t := hTt ▸ hT.good (by rw [hTt]; simp)
      simp only [Good] at hg
      have he := eqn_sl (w := w) 9999 hg.1
      exact ⟨false, eqGuard_slice .., eql_sl (he (some _) _ _), neq_sl (he (some _) _ _), h⟩
    · exact h.elim
  · have hy := hy.nils_; subst hy
    split at h
    · rename_i hTt
      obtain ⟨hn, h⟩ := h
      rcases hx.ext_ with ⟨h0, _⟩ | ⟨A, c, vals, hx, _⟩
      · omega
      · subst hx
        have hg := hTt ▸ hT.good (t := t) (by rw [hTt]; simp)
        simp only [Good] at hg
        have he := eqn_sl (w := w) 9999 hg.1
        exact ⟨false, eqGuard_slice .., eql_sl (he (some A) _ _), neq_sl (he (some A) _ _), h⟩
    · exact h.elim
  · exact h.elim

theorem sound_binOp0 {op : BinOp} {t yt : TypeId} {x y : Operand} (hT : TOk P T) (hi : Inv w0 S φ0 ι φ H w) (ht : TmOk ι φ tm a.tmps) (h : Does (evK tm x fun x => evK tm y fun y => binP (T t) op x y) H [] v u r') :
    Step P ⟨dst, .binOp op t x y yt, ty, pos, after, guard⟩ a w w0 S φ0 ι φ H nid v u := by
  rw [evK_eq, evK_eq] at h
  have hx := ht.ev x
  have hy := ht.ev y
  unfold Does binP at h
  split at h
  · rename_i k m k' n e1 e2
    rw [e1] at hx; rw [e2] at hy
    have hx := hx.int_; have hy := hy.int_
    split at h
    · obtain ⟨hb, h⟩ := h
      obtain ⟨rfl, rfl⟩ := does_valK h
      refine Step.pure_ hi (cv := .int k (k.wrap (m * 2 ^ (min n.toNat k.bits)))) ?_ (.c (.int _ _))
      have : ¬ n < 0 := by omega
      simp [execOp, hx, hy, eqGuard_int, binOp, Op.shift, this]
    · obtain ⟨hb, h⟩ := h
      obtain ⟨rfl, rfl⟩ := does_valK h
      refine Step.pure_ hi (cv := .int k (m.fdiv (2 ^ (min n.toNat k.bits)))) ?_ (.c (.int _ _))
      have : ¬ n < 0 := by omega
      simp [execOp, hx, hy, eqGuard_int, binOp, Op.shift, this]
    · obtain ⟨hb, h⟩ := h
      split at h
      case h_2 => exact h.elim
      rename_i hk; rw [decide_eq_true_eq] at hk; subst hk
      obtain ⟨rfl, rfl⟩ := does_valK h
      exact Step.pure_ hi (cv := .int k (k.wrap (m.tdiv n))) (by simp [execOp, hx, hy, eqGuard_int, binOp, Op.intDiv, hb]) (.c (.int _ _))
    · obtain ⟨hb, h⟩ := h
      split at h
      case h_2 => exact h.elim
      rename_i hk; rw [decide_eq_true_eq] at hk; subst hk
      obtain ⟨rfl, rfl⟩ := does_valK h
      exact Step.pure_ hi (cv := .int k (m.tmod n)) (by simp [execOp, hx, hy, eqGuard_int, binOp, Op.intDiv, hb]) (.c (.int _ _))
    · split at h
      case h_2 => exact h.elim
      rename_i hk; rw [decide_eq_true_eq] at hk; subst hk
      split at h
      case h_2 => exact h.elim
      rename_i z hz
      obtain ⟨rfl, rfl⟩ := does_valK h
      obtain ⟨h1, h2⟩ := arith_run (P := P) (w := w) (φ := φ) hz t
      exact Step.pure_ hi (cv := unV v) (by simp [execOp, hx, hy, eqGuard_int, h1]) (.c h2)
  · rename_i m n e1 e2
    rw [e1] at hx; rw [e2] at hy
    have hx := hx.bool_; have hy := hy.bool_
    split at h
    case h_2 => exact h.elim
    rename_i hTt
    have hg : Good P .bool t := hTt ▸ hT.good (by rw [hTt]; simp)
    simp only [Good] at hg
    split at h
    · obtain ⟨rfl, rfl⟩ := does_valK h
      exact Step.pure_ hi (cv := .bool (m == n)) (by simp [execOp, hx, hy, eqGuard_bool, binOp, Op.equal, Op.maxDepth, run_equalIn_bool' w 9999 t m n hg.1]) (.c (.bool _))
    · obtain ⟨rfl, rfl⟩ := does_valK h
      exact Step.pure_ hi (cv := .bool (!(m == n))) (by simp [execOp, hx, hy, eqGuard_bool, binOp, Op.equal, Op.maxDepth, run_equalIn_bool' w 9999 t m n hg.1]) (.c (.bool _))
    · exact h.elim
  · rename_i m n e1 e2
    rw [e1] at hx; rw [e2] at hy
    have hx := hx.str_; have hy := hy.str_
    split at h
    · obtain ⟨hb, h⟩ := h
      obtain ⟨rfl, rfl⟩ := does_valK h
      refine Step.pure_ hi (cv := .string (m ++ n)) ?_ (.c (.str _))
      have : ¬ ((m.size : Int) + (n.size : Int) > IntKind.i64.max) := by
        have : IntKind.i64.max = 9223372036854775807 := by decide
        rw [this]; omega
      simp [execOp, hx, hy, eqGuard_str, binOp, Op.stringOp]
      omega
    · obtain ⟨rfl, rfl⟩ := does_valK h
      exact Step.pure_ hi (cv := .bool (m.toList == n.toList)) (by simp [execOp, hx, hy, eqGuard_str, binOp, Op.stringOp]) (.c (.bool _))
    · obtain ⟨rfl, rfl⟩ := does_valK h
      exact Step.pure_ hi (cv := .bool (!(m.toList == n.toList))) (by simp [execOp, hx, hy, eqGuard_str, binOp, Op.stringOp]) (.c (.bool _))
    · obtain ⟨rfl, rfl⟩ := does_valK h
      exact Step.pure_ hi (cv := .bool (Op.bytesLess m.toList n.toList)) (by simp [execOp, hx, hy, eqGuard_str, binOp, Op.stringOp]) (.c (.bool _))
    · obtain ⟨rfl, rfl⟩ := does_valK h
      exact Step.pure_ hi (cv := .bool ((Op.bytesLess m.toList n.toList || m.toList == n.toList))) (by simp [execOp, hx, hy, eqGuard_str, binOp, Op.stringOp]) (.c (.bool _))
    · obtain ⟨rfl, rfl⟩ := does_valK h
      exact Step.pure_ hi (cv := .bool (!(Op.bytesLess m.toList n.toList || m.toList == n.toList))) (by simp [execOp, hx, hy, eqGuard_str, binOp, Op.stringOp]) (.c (.bool _))
    · obtain ⟨rfl, rfl⟩ := does_valK h
      exact Step.pure_ hi (cv := .bool (!(Op.bytesLess m.toList n.toList))) (by simp [execOp, hx, hy, eqGuard_str, binOp, Op.stringOp]) (.c (.bool _))
    · exact h.elim
  · split at h
    · obtain ⟨b, h1, h2, h3, h4⟩ := eqP_sound (w := w) hT hx hy h .eql x y
      obtain ⟨rfl, rfl⟩ := does_valK h4
      exact Step.pure_ hi (cv := .bool b) (by simp [execOp, h1, h2]) (.c (.bool _))
    · obtain ⟨b, h1, h2, h3, h4⟩ := eqP_sound (w := w) hT hx hy h .neq x y
      obtain ⟨rfl, rfl⟩ := does_valK h4
      exact Step.pure_ hi (cv := .bool (!b)) (by simp [execOp, h1, h3]) (.c (.bool _))
    · exact h.elim
theorem ptr_eq {t e : TypeId} (d : Nat) (h : P.underlying t = some (.pointer e)) {n : Nat} (hs : (sizeOf e).run P w = .ok n w) (hn : n ≠ 0) {A B : Addr} {b : Bool} (hr : (sameAddr A B).run P w = .ok b w) : (Op.equalIn (d + 1) t (.pointer (some A)) (.pointer (some B))).run P w = .ok b w := by
  simp [Op.equalIn, run_underlying h, hs, hn, hr]
theorem sound_binOp {op : BinOp} {t yt : TypeId} {x y : Operand} (hT : TOk P T) (hi : Inv w0 S φ0 ι φ H w) (ht : TmOk ι φ tm a.tmps) (h : Does (evK tm x fun x => evK tm y fun y => binPT T (T t) op x y) H [] v u r') :
    Step P ⟨dst, .binOp op t x y yt, ty, pos, after, guard⟩ a w w0 S φ0 ι φ H nid v u := by
  have h2 := h
  rw [evK_eq, evK_eq] at h
  have hx := ht.ev x
  have hy := ht.ev y
  unfold binPT at h
  split at h
  · rename_i b o b' o' e1 e2
    rw [e1] at hx; rw [e2] at hy
    obtain ⟨g, c, hm, hx⟩ := hx.ptr_
    obtain ⟨g', c', hm', hy⟩ := hy.ptr_
    unfold Does ptrEqP at h
    split at h
    case h_2 => exact h.elim
    rename_i e hTt
    have hg : Good P (.ptr e) t := hTt ▸ hT.good (by rw [hTt]; simp)
    simp only [Good] at hg
    obtain ⟨hbad, h⟩ := does_nb h
    have hge := hT.good hbad
    unfold Does at h
    split at h
    case h_1 => exact h.elim
    rename_i n hsz
    simp only [Prog.run] at h
    split at h
    case h_2 => exact h.elim
    rename_i cs hc1
    simp only [Prog.run] at h
    split at h
    case h_2 => exact h.elim
    rename_i cs' hc2
    have hB := hi.sim.blk b
    rw [hc1] at hB
    have hB' := hi.sim.blk b'
    rw [hc2] at hB'
    obtain ⟨g1, c1, arr1, t1, i1, hh1, _⟩ := hB
    obtain ⟨g2, c2, arr2, t2, i2, hh2, _⟩ := hB'
    rw [hm] at i1; injection i1 with i1; injection i1 with i1 _; subst i1
    rw [hm'] at i2; injection i2 with i2; injection i2 with i2 _; subst i2
    have hsame : (sameAddr ⟨g, o, none⟩ ⟨g', o', none⟩).run P w = .ok (b == b' && o == o') w := by
      by_cases hbb : b = b'
      · subst hbb
        rw [hm] at hm'; injection hm' with hm'; injection hm' with hm' _; subst hm'
        by_cases hoo : o = o'
        · subst hoo
          rw [run_sameAddr_same]; simp
        · have hne : (⟨g, o, none⟩ : Addr) ≠ ⟨g, o', none⟩ := fun e => hoo (by injection e)
          rw [run_sameAddr_other w hne hh1 hh2]; simp [hoo]
      · have hgg : g ≠ g' := fun e => by
          subst e
          exact hbb (hi.sim.inj b b' g c c' (by rw [hc1]; simp) (by rw [hc2]; simp) hm hm')
        have hne : (⟨g, o, none⟩ : Addr) ≠ ⟨g', o', none⟩ := fun e => hgg (by injection e)
        rw [run_sameAddr_other w hne hh1 hh2]; simp [hbb]
    have he := ptr_eq 9999 hg.1 (hge.size_run w) (by rw [hsz]; simp) hsame
    split at h
    · obtain ⟨rfl, rfl⟩ := does_valK h
      exact Step.pure_ hi (cv := .bool (b == b' && o == o')) (by simp [execOp, hx, hy, eqGuard_ptr, eql_ptr he]) (.c (.bool _))
    · obtain ⟨rfl, rfl⟩ := does_valK h
      exact Step.pure_ hi (cv := .bool (!(b == b' && o == o'))) (by simp [execOp, hx, hy, eqGuard_ptr, neq_ptr he]) (.c (.bool _))
    · exact h.elim
  · exact sound_binOp0 hT hi ht (by rw [evK_eq, evK_eq]; exact h)
end
end
end Go.AM

