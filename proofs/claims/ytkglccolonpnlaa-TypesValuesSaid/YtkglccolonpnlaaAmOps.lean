/- The abstract machine's operations do what the model's do. -/
import Derived.Test.YtkglccolonpnlaaAmTypes
import Derived.Laws.CopyRow
import Derived.Laws.Cells
import Derived.Maps.AppendAt
import Derived.Laws.StructEq
set_option linter.unusedVariables false
set_option linter.unusedSimpArgs false
set_option maxRecDepth 100000
namespace Go.AM
noncomputable section
open Go.RowKit

/-! ### the continuation forms, as what they are -/
section
variable {α : Type}
theorem putK_eq : ∀ (l : List Val) (n : Nat) (v : Val) (K : List Val → α), putK l n v K = K (l.set n v)
  | [], _, _, _ => rfl
  | _ :: _, 0, _, _ => rfl
  | x :: l, n + 1, v, K => (putK_eq l n v fun l' => K (x :: l')).trans (by rw [List.set_cons_succ])
theorem getK_eq : ∀ (l : List Val) (n : Nat) (K : Val → α), getK l n K = K (l.getD n (.tup []))
  | [], _, _ => rfl
  | _ :: _, 0, _ => rfl
  | x :: l, n + 1, K => (getK_eq l n K).trans (by rw [List.getD_cons_succ])
theorem dropK_eq : ∀ (l : List Val) (n : Nat) (K : List Val → α), dropK l n K = K (l.drop n)
  | l, 0, _ => by simp [dropK]
  | [], n + 1, _ => by simp [dropK]
  | x :: l, n + 1, K => by simp only [dropK, dropK_eq l n, List.drop_succ_cons]
theorem takeK_eq : ∀ (l : List Val) (n : Nat) (K : List Val → α), takeK l n K = K (l.take n)
  | l, 0, _ => by simp [takeK]
  | [], n + 1, _ => by simp [takeK]
  | x :: l, n + 1, K => by simp only [takeK, takeK_eq l n, List.take_succ_cons]
theorem appK_eq : ∀ (l m : List Val) (K : List Val → α), appK l m K = K (l ++ m)
  | [], m, _ => rfl
  | x :: l, m, K => by simp only [appK, appK_eq l m, List.cons_append]
def ofV (v : Value) : Val := ofValueK v id
theorem ofValueK_eq (v : Value) (K : Val → α) : ofValueK v K = K (ofV v) := by
  unfold ofV ofValueK
  split <;> rfl
def evV (tm : List Val) (x : Operand) : Val := evK tm x id
theorem evK_eq (tm : List Val) (x : Operand) (K : Val → α) : evK tm x K = K (evV tm x) := by
  unfold evV evK
  cases x <;> simp only [getK_eq, ofValueK_eq, id]
theorem evsK_eq (tm : List Val) : ∀ (xs : List Operand) (K : List Val → α), evsK tm xs K = K (xs.map (evV tm))
  | [], _ => rfl
  | x :: xs, K => by simp only [evsK, evK_eq, evsK_eq tm xs, List.map_cons]
theorem optK_eq (tm : List Val) (x : Option Operand) (K : Option Val → α) : optK tm x K = K (x.map (evV tm)) := by
  cases x <;> simp [optK, evK_eq]
end
theorem splice_eq (cs : List Val) (off : Nat) (new : List Val) (K : List Val → Prog) : splice cs off new K = K (cs.take off ++ (new ++ cs.drop (off + new.length))) := by
  simp only [splice, takeK_eq, dropK_eq, appK_eq]

/-- What a program does: the one outcome. -/
theorem Prog.run_ex : ∀ (p : Prog) (H : Nat → Blk) (r : List Nat) (K : Val → Upd → List Nat → Prop), p.run H r K → ∃ v u r', p.run H r (fun v' u' r'' => v' = v ∧ u' = u ∧ r'' = r') ∧ K v u r'
  | .ret v u, _, r, _, h => ⟨v, u, r, ⟨rfl, rfl, rfl⟩, h⟩
  | .get b k, H, r, K, h => Prog.run_ex (k (H b)) H (b :: r) K h
  | @Prog.need p _ k, H, r, K, h => by
    obtain ⟨v, u, r', h1, h2⟩ := Prog.run_ex k H r K h.2
    exact ⟨v, u, r', ⟨h.1, h1⟩, h2⟩
  | .fail, _, _, _, h => h.elim
theorem Prog.run_mono : ∀ (p : Prog) (H : Nat → Blk) (r : List Nat) (K K' : Val → Upd → List Nat → Prop), (∀ v u r, K v u r → K' v u r) → p.run H r K → p.run H r K'
  | .ret _ _, _, _, _, _, hk, h => hk _ _ _ h
  | .get b k, H, r, K, K', hk, h => Prog.run_mono (k (H b)) H (b :: r) K K' hk h
  | @Prog.need _ _ k, H, r, K, K', hk, h => ⟨h.1, Prog.run_mono k H r K K' hk h.2⟩
  | .fail, _, _, _, _, _, h => h.elim
/-- What was read grows. -/
theorem Prog.run_reads : ∀ (p : Prog) (H : Nat → Blk) (r : List Nat) (v : Val) (u : Upd) (r' : List Nat), p.run H r (fun v' u' r'' => v' = v ∧ u' = u ∧ r'' = r') → ∀ b, b ∈ r → b ∈ r'
  | .ret _ _, _, _, _, _, _, ⟨_, _, h⟩, b, hb => by subst h; exact hb
  | .get x k, H, r, v, u, r', h, b, hb => Prog.run_reads (k (H x)) H (x :: r) v u r' h b (List.mem_cons_of_mem _ hb)
  | @Prog.need _ _ k, H, r, v, u, r', h, b, hb => Prog.run_reads k H r v u r' h.2 b hb
  | .fail, _, _, _, _, _, h, _, _ => h.elim
/-- It hangs on no block but those that it reads. -/
theorem Prog.run_local : ∀ (p : Prog) (H H' : Nat → Blk) (r : List Nat) (v : Val) (u : Upd) (r' : List Nat), (∀ b, b ∈ r' → H' b = H b) → p.run H r (fun v' u' r'' => v' = v ∧ u' = u ∧ r'' = r') →
    p.run H' r (fun v' u' r'' => v' = v ∧ u' = u ∧ r'' = r')
  | .ret _ _, _, _, _, _, _, _, _, h => h
  | .get x k, H, H', r, v, u, r', hb, h => by
    have hx : x ∈ r' := Prog.run_reads (k (H x)) H (x :: r) v u r' h x (by simp)
    show (k (H' x)).run H' (x :: r) _
    rw [hb x hx]
    exact Prog.run_local (k (H x)) H H' (x :: r) v u r' hb h
  | @Prog.need _ _ k, H, H', r, v, u, r', hb, h => ⟨h.1, Prog.run_local k H H' r v u r' hb h.2⟩
  | .fail, _, _, _, _, _, _, _, h => h.elim

def applyF (H : Nat → Blk) : Upd → Nat → Blk
  | [] => H
  | (i, x) :: u => applyF (setH H i x) u

/-! ### the frame's temporaries -/
structure TmOk (ι : Map) (φ : Prot) (tm : List Val) (us : Array Value) : Prop where
  len : us.size = tm.length
  rel : ∀ i, i < tm.length → Rel ι φ (tm.getD i .und) (us.getD i undef)
theorem rel_undef (ι : Map) (φ : Prot) : Rel ι φ (.tup []) undef := .tup [] #[] rfl (fun i hi => absurd hi (by simp))
theorem TmOk.get {ι : Map} {φ : Prot} {tm : List Val} {us : Array Value} (h : TmOk ι φ tm us) (i : Nat) : Rel ι φ (tm.getD i (.tup [])) (us.getD i undef) := by
  rcases Nat.lt_or_ge i tm.length with hi | hi
  · have := h.rel i hi
    rwa [List.getD_eq_getElem?_getD, List.getElem?_eq_getElem hi] at this ⊢
  · rw [List.getD_eq_getElem?_getD, List.getElem?_eq_none hi]
    have : us.size ≤ i := by rw [h.len]; exact hi
    simp only [Array.getD_eq_getD_getElem?, Array.getElem?_eq_none this]
    exact rel_undef ι φ
theorem ofV_rel (ι : Map) (φ : Prot) (v : Value) : Rel ι φ (ofV v) v := by
  unfold ofV ofValueK
  split
  · exact .c (.bool _)
  · exact .c (.int _ _)
  · exact .c (.str _)
  · exact .c .nilp
  · exact .c .nils
  · exact .c .nilm
  · exact .c .nilf
  · exact .c .nili
  · exact rel_undef ι φ
  · exact .und _
theorem TmOk.ev {ι : Map} {φ : Prot} {tm : List Val} {a : Act} (h : TmOk ι φ tm a.tmps) (x : Operand) : Rel ι φ (evV tm x) (a.eval x) := by
  unfold evV evK
  cases x with
  | tmp t => simp only [getK_eq, id]; exact h.get t
  | const v => simp only [ofValueK_eq, id]; exact ofV_rel ι φ v
  | global g => exact .und _
  | func f => exact .c (.fn f)
theorem TmOk.mono {ι ι' : Map} {φ φ' : Prot} {tm : List Val} {us : Array Value} (hm : MapLe ι ι') (hp : ProtLe φ φ') (h : TmOk ι φ tm us) : TmOk ι' φ' tm us :=
  ⟨h.len, fun i hi => (h.rel i hi).mono hm hp⟩

/-- One operation's step, in the model. -/
structure Step (P : Program) (o : Oper) (a : Act) (w : World) (w0 : World) (S : Nat → Prop) (φ0 : Prot) (ι : Map) (φ : Prot) (H : Nat → Blk) (nid : Nat) (v : Val) (u : Upd) : Prop where
  ex : ∃ nx cv w' ι' φ', (execOp a.eval o).run P w = .ok nx w' ∧ (nx = .value cv ∨ nx = .skip ∧ cv = undef) ∧ Rel ι' φ' v cv ∧ Inv w0 S φ0 ι' φ' (applyF H u) w' ∧
    MapLe ι ι' ∧ ProtLe φ φ' ∧ ∀ b, (b = nid → ∀ x, (nid, x) ∉ u) → ι' b = ι b

section
variable {P : Program} {o : Oper} {a : Act} {w w0 : World} {S : Nat → Prop} {φ0 : Prot} {ι : Map} {φ : Prot} {H : Nat → Blk} {nid : Nat} {v : Val} {u : Upd}
/-- An operation that leaves the world alone. -/
theorem Step.pure_ (hi : Inv w0 S φ0 ι φ H w) {cv : Value} (hr : (execOp a.eval o).run P w = .ok (.value cv) w) (hv : Rel ι φ v cv) : Step P o a w w0 S φ0 ι φ H nid v [] :=
  ⟨_, cv, w, ι, φ, hr, .inl rfl, hv, hi, .refl _, .refl _, fun _ _ => rfl⟩
/-- A new block. -/
theorem Step.alloc_ (hi : Inv w0 S φ0 ι φ H w) (hn : ι nid = none) {cv : Value} {ob : Obj} {x : Blk} {c : Nat} (hr : (execOp a.eval o).run P w = .ok (.value cv) (w.alloc ob))
    (hx : BlkOk (setM ι nid (w.heap.size, c)) φ (w.alloc ob) nid x) (hv : Rel (setM ι nid (w.heap.size, c)) φ v cv) : Step P o a w w0 S φ0 ι φ H nid v [(nid, x)] :=
  ⟨_, cv, w.alloc ob, setM ι nid (w.heap.size, c), φ, hr, .inl rfl, hv, hi.alloc hn hx, setM_le hn, .refl _, fun b hb => by
    have : b ≠ nid := fun e => hb e _ (List.mem_singleton.2 rfl)
    simp [setM, this]⟩
end
theorem heap_new (w : World) (o : Obj) : (w.alloc o).heap[w.heap.size]? = some o := heap_alloc_new w o

/-! inversion: what a value that is related is -/
section
variable {ι : Map} {φ : Prot} {u : Value}
theorem Rel.bool_ {b : Bool} (h : Rel ι φ (.bool b) u) : u = .bool b := by cases h with | c h => cases h; rfl
theorem Rel.int_ {k : IntKind} {n : Int} (h : Rel ι φ (.int k n) u) : u = .int k n := by cases h with | c h => cases h; rfl
theorem Rel.str_ {s : ByteArray} (h : Rel ι φ (.str s) u) : u = .string s := by cases h with | c h => cases h; rfl
theorem Rel.nilp_ (h : Rel ι φ .nilp u) : u = .pointer none := by cases h with | c h => cases h; rfl
theorem Rel.nils_ (h : Rel ι φ .nils u) : u = .slice none 0 0 := by cases h with | c h => cases h; rfl
theorem Rel.emp_ (h : Rel ι φ .emp u) : ∃ A, u = .slice (some A) 0 0 := by cases h with | c h => cases h with | emp A => exact ⟨A, rfl⟩
theorem Rel.agg_ {cs : List Val} (h : Rel ι φ (.agg cs) u) : ∃ us : Array Value, u = .agg us ∧ us.size = cs.length ∧ (∀ i, i < cs.length → (us.getD i undef).oneCell' = true) ∧ ∀ i, i < cs.length → Rel ι φ (cs.getD i .und) (us.getD i undef) := by
  cases h with
  | c h => cases h
  | agg _ us h h1 hr => exact ⟨us, rfl, h, h1, hr⟩
theorem Rel.tup_ {cs : List Val} (h : Rel ι φ (.tup cs) u) : ∃ us : Array Value, u = .tuple us ∧ us.size = cs.length ∧ ∀ i, i < cs.length → Rel ι φ (cs.getD i .und) (us.getD i undef) := by
  cases h with
  | c h => cases h
  | tup _ us h hr => exact ⟨us, rfl, h, hr⟩
theorem Rel.ptr_ {b off : Nat} (h : Rel ι φ (.ptr b off) u) : ∃ g c, ι b = some (g, c) ∧ u = .pointer (some ⟨g, off, none⟩) := by
  cases h with
  | c h => cases h
  | ptr _ _ g c h => exact ⟨g, c, h, rfl⟩
theorem Rel.ep_ {b sz i j : Nat} (h : Rel ι φ (.ep b sz i j) u) : ∃ g c, ι b = some (g, c) ∧ u = .pointer (some ⟨g, i * sz + j, none⟩) := by
  cases h with
  | c h => cases h
  | ep _ _ _ _ g c h => exact ⟨g, c, h, rfl⟩
theorem Rel.row_ {b n : Nat} (h : Rel ι φ (.row b n) u) : ∃ g c, ι b = some (g, c) ∧ n ≤ c ∧ u = .slice (some ⟨g, 0, none⟩) n c := by
  cases h with
  | c h => cases h
  | row _ _ g c h hn => exact ⟨g, c, h, hn, rfl⟩
theorem Rel.rptr_ {cs : List Val} (h : Rel ι φ (.rptr cs) u) : ∃ (A : Addr) (vals : Nat → Value), u = .pointer (some A) ∧ (∀ j, j < cs.length → φ (A.add j) = some (vals j)) ∧ (∀ j, j < cs.length → (vals j).oneCell' = true) ∧ ∀ j, j < cs.length → RelC φ (cs.getD j .und) (vals j) := by
  cases h with
  | c h => cases h with | rptr _ A vals hφ h1 hr => exact ⟨A, vals, rfl, hφ, h1, hr⟩
theorem Rel.ext_ {sz n : Nat} {get : Nat → List Val} (h : Rel ι φ (.ext sz n get) u) : (n = 0 ∧ u = .slice none 0 0) ∨ ∃ (A : Addr) (c : Nat) (vals : Nat → Nat → Value), u = .slice (some A) n c ∧ n ≤ c ∧ (∀ i, i < n → (get i).length = sz) ∧
    (∀ i j, i < n → j < sz → φ (A.add (i * sz + j)) = some (vals i j)) ∧ (∀ i j, i < n → j < sz → (vals i j).oneCell' = true) ∧ ∀ i j, i < n → j < sz → RelC φ ((get i).getD j .und) (vals i j) := by
  cases h with
  | c h => cases h with
    | ext _ _ _ A c vals hc hl hφ h1 hr => exact .inr ⟨A, c, vals, rfl, hc, hl, hφ, h1, hr⟩
    | extNil => exact .inl ⟨rfl, rfl⟩
theorem Rel.fn_ {f : FuncId} {fs cs : List Val} (h : Rel ι φ (.fn f fs cs) u) : ∃ us ws : Array Value, u = .func (.func f) us ws ∧ us.size = fs.length ∧ ws.size = cs.length ∧
    (∀ i, i < fs.length → Rel ι φ (fs.getD i .und) (us.getD i undef)) ∧ ∀ i, i < cs.length → Rel ι φ (cs.getD i .und) (ws.getD i undef) := by
  cases h with
  | c h => cases h with | fn => exact ⟨#[], #[], rfl, rfl, rfl, fun i hi => absurd hi (by simp), fun i hi => absurd hi (by simp)⟩
  | fn _ _ _ us ws h1 h2 r1 r2 => exact ⟨us, ws, rfl, h1, h2, r1, r2⟩
/-- What is neither an aggregate, nor a tuple, nor unknown, is one cell. -/
theorem Rel.one_cell {v : Val} (h : Rel ι φ v u) (h1 : ∀ cs, v ≠ .agg cs) (h2 : ∀ cs, v ≠ .tup cs) (h3 : v ≠ .und) : u.oneCell' = true := by
  cases h with
  | c h => cases h <;> rfl
  | agg cs => exact absurd rfl (h1 cs)
  | tup cs => exact absurd rfl (h2 cs)
  | und => exact absurd rfl h3
  | _ => rfl
end
/-- A closed value hangs on no block. -/
theorem Rel.closed_ {ι : Map} {φ : Prot} {v : Val} {u : Value} (h : Rel ι φ v u) : closed v = true → RelC φ v u := by
  induction h with
  | c h => exact fun _ => h
  | fn f fs cs us ws h1 h2 r1 r2 =>
    intro h
    cases fs with
    | cons => simp [closed] at h
    | nil => cases cs with
      | cons => simp [closed] at h
      | nil =>
        have e1 : us = #[] := Array.eq_empty_of_size_eq_zero (by simpa using h1)
        have e2 : ws = #[] := Array.eq_empty_of_size_eq_zero (by simpa using h2)
        subst e1; subst e2
        exact .fn f
  | ifc t v u h ih => intro hc; exact .ifc t v u (ih (by simpa [closed] using hc))
  | _ => intro h; simp [closed] at h
theorem closedL_get : ∀ {l : List Val} {k : Nat}, closedL l = true → k < l.length → closed (l.getD k .und) = true
  | [], _, _, h => absurd h (by simp)
  | x :: l, 0, h, _ => by simp only [closedL, Bool.and_eq_true] at h; exact h.1
  | x :: l, k + 1, h, hk => by
    simp only [closedL, Bool.and_eq_true] at h
    rw [List.getD_cons_succ]
    exact closedL_get h.2 (by simpa using hk)
/-- The cells of a value, held against the model's. -/
def CellsOk (ι : Map) (φ : Prot) (vs : List Val) (us : List Value) : Prop :=
  us.length = vs.length ∧ ∀ k, k < vs.length → (us.getD k undef).oneCell' = true ∧ Rel ι φ (vs.getD k .und) (us.getD k undef)
theorem Rel.cells {ι : Map} {φ : Prot} {v : Val} {u : Value} (h : Rel ι φ v u) (h2 : ∀ cs, v ≠ .tup cs) (h3 : v ≠ .und) : CellsOk ι φ (cellsOf v) u.cells.toList := by
  by_cases ha : ∃ cs, v = .agg cs
  · obtain ⟨cs, rfl⟩ := ha
    obtain ⟨us, rfl, hs, h1, hr⟩ := h.agg_
    refine ⟨by simpa [cellsOf, Value.cells] using hs, fun k hk => ?_⟩
    have e : us.toList.getD k undef = us.getD k undef := by simp [List.getD_eq_getElem?_getD, Array.getD_eq_getD_getElem?]
    simp only [cellsOf, Value.cells] at hk ⊢
    rw [e]
    exact ⟨h1 k hk, hr k hk⟩
  · have h1 : ∀ cs, v ≠ .agg cs := fun cs e => ha ⟨cs, e⟩
    have hc : cellsOf v = [v] := by cases v <;> first | rfl | exact absurd rfl (h1 _)
    have ho := h.one_cell h1 h2 h3
    have hu : u.cells.toList = [u] := by cases u <;> first | rfl | cases ho
    rw [hc, hu]
    refine ⟨rfl, fun k hk => ?_⟩
    have : k = 0 := by simp at hk; omega
    subst this
    exact ⟨ho, h⟩
end
end Go.AM
