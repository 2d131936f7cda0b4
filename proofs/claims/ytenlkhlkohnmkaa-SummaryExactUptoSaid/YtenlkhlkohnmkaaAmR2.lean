/- The rows' arguments, opened: slices, in rows of the second form. -/
import Derived.Test.YtenlkhlkohnmkaaAmR1
import Derived.Test.YtenlkhlkohnmkaaAmGV
import Derived.Test.YtenlkhlkohnmkaaRows
import Derived.JoinedCond
set_option linter.unusedVariables false
set_option linter.unusedSimpArgs false
set_option maxRecDepth 100000
namespace Go.AM
/-- a slice that is read -/
structure Sl (α : Type) where
  n : Nat
  g : Nat → List Val
  l : List α
theorem list_of {α : Type} {P : α → Prop} {enc : α → List Val} {g : Nat → List Val} : ∀ {n : Nat}, (∀ i, i < n → ∃ a, P a ∧ g i = enc a) → ∃ l : List α, ExtL enc n g l ∧ ∀ x ∈ l, P x
  | 0, _ => ⟨[], ⟨rfl, fun i h => absurd h (by simp)⟩, fun x h => absurd h (by simp)⟩
  | n + 1, h => by
    obtain ⟨l, h1, h2⟩ := list_of (n := n) (fun i hi => h i (by omega))
    obtain ⟨a, ha, hg⟩ := h n (by omega)
    obtain ⟨hl, hi⟩ := h1
    refine ⟨l ++ [a], ⟨by simp [hl], fun i hi' => ?_⟩, fun x hx => ?_⟩
    · rw [List.length_append, List.length_singleton] at hi'
      rcases (by omega : i < l.length ∨ i = l.length) with h | h
      · rw [List.getElem_append_left h]; exact hi i h
      · subst h
        rw [List.getElem_append_right (by omega)]
        simp only [Nat.sub_self, List.getElem_cons_zero]
        rw [hl]; exact hg
    · rcases List.mem_append.1 hx with h | h
      · exact h2 x h
      · rw [List.mem_singleton] at h; subst h; exact ha
end Go.AM
namespace Go.Proofs.Ytenlkhlkohnmkaa
open Go.AM Go.ChangeShapes Go.WideShapes Go.ChangeAt Go.RowKit
theorem bulk_part {H : Type} {d : DataW H} {l : List (DataW H)} (h : d ∈ l) : Rows.uptoBulk d ≤ Rows.uptoBulkAll l := by
  induction l with
  | nil => cases h
  | cons x r ih =>
    simp only [Rows.uptoBulkAll]
    cases List.mem_cons.1 h with
    | inl e => subst e; omega
    | inr e => have := ih e; omega
theorem bulk_one {H : Type} (d : DataW H) : 1 ≤ Rows.uptoBulk d := by
  cases d with
  | lit l => cases l <;> simp [Rows.uptoBulk]
  | nil => simp [Rows.uptoBulk]
  | ptr d => simp [Rows.uptoBulk]
  | slice elems spare => simp [Rows.uptoBulk]
  | agg parts => simp [Rows.uptoBulk]
  | iface t d => simp [Rows.uptoBulk]
  | map entries => simp [Rows.uptoBulk]
  | held h => simp [Rows.uptoBulk]
theorem bulk_length {H : Type} (l : List (DataW H)) : l.length ≤ Rows.uptoBulkAll l := by
  induction l with
  | nil => simp [Rows.uptoBulkAll]
  | cons x r ih => have := bulk_one x; simp only [Rows.uptoBulkAll, List.length_cons]; omega
theorem bulk_bound {H : Type} {d : DataW H} {l : List (DataW H)} (hk : Rows.uptoSmall H l = true) (h : d ∈ l) : Rows.uptoBulk d ≤ 1048576 := by
  have h1 : Rows.uptoBulkAll l ≤ 1048576 := by simpa [Rows.uptoSmall] using hk
  exact Nat.le_trans (bulk_part h) h1
section
variable {H : Type} {enc : TypeId × Value → H} {W0 : World} {spare : Nat → Bool} {held : Bool} {base : Nat} {v : Value} {d : DataW H} {ps : List MemPlace} {r : Reach} {ι : AM.Map}
theorem ext_bulk {t e : TypeId} {fuel sz n : Nat} {g : Nat → List Val} (hu : (Try.prog).underlying t = some (.slice e)) (h : DataW.trod enc Try.prog W0 0 spare held fuel t [v] = some (d, ps)) (hr : AM.Rel ι W0.cell? (.ext sz n g) v) : n ≤ Rows.uptoBulk d := by
  rcases DataW.trod_slice hu h with ⟨e1, e2⟩ | ⟨a, len, cap, elems, rest, m, _, e1, e2, _, _, _, hel, _⟩
  · injection e1 with e1 _
    subst e1
    rcases hr.ext_ with ⟨h0, _⟩ | ⟨A, c, vals, he, _⟩
    · omega
    · cases he
  · injection e1 with e1 _
    subst e1
    injection e2 with e2 _
    subst e2
    rcases hr.ext_ with ⟨h0, _⟩ | ⟨A, c, vals, he, _⟩
    · omega
    · injection he with _ he _
      have := bulk_length (elems.map (·.1))
      rw [List.length_map] at this
      simp only [Rows.uptoBulk]
      omega
theorem trod_one {t : TypeId} {fuel : Nat} (h : DataW.trod enc Try.prog W0 0 spare held fuel t v.cells.toList = some (d, ps)) (hv : v.cells = #[v]) : DataW.trod enc Try.prog W0 0 spare held fuel t [v] = some (d, ps) := by rwa [hv] at h
theorem slice_cells {e : TypeId} {sz : Nat} {n : Nat} {g : Nat → List Val} (hr : AM.Rel ι W0.cell? (.ext sz n g) v) : v.cells = #[v] := by
  rcases hr.ext_ with ⟨_, rfl⟩ | ⟨A, c, vals, rfl, _⟩ <;> rfl
theorem open_vals (hval : Value.okWide Try.prog W0 r base 62 v) (h : DataW.Trod enc Try.prog W0 0 spare held 62 v d ps) : ∃ x : Sl Vl, (ExtL cV x.n x.g x.l ∧ ∀ y ∈ x.l, y.wf) ∧ x.n ≤ Rows.uptoBulk d ∧ AM.Rel ι W0.cell? (.ext 10 x.n x.g) v := by
  obtain ⟨fuel, hf⟩ := h
  have g := good 62 (d := .slice 47 10 88) rfl (by intro h; cases h)
  obtain ⟨vs, hty, hc⟩ := open_ tok closed_tab fuel (.slice 47 10 88) 62 [47] g rfl (fun e he => by
    simp only [List.mem_singleton] at he
    subst he
    exact ⟨(by intro h; cases h), _, rfl⟩) _ _ _ hf
  cases fuel with
  | zero => exact hty.elim
  | succ f =>
    simp only [Ty, TyS] at hty
    obtain ⟨n, get, rfl, hn, hget⟩ := hty
    obtain ⟨l, hl, hw⟩ := list_of (P := Vl.wf) (enc := cV) (g := get) (n := n) (fun i hi => by
      obtain ⟨sl, hs⟩ := ty_S (hget i hi).2
      exact tyS_val hs)
    have hr : AM.Rel ι W0.cell? (.ext 10 n get) v := arg_one g rfl hval hc
    refine ⟨⟨n, get, l⟩, ⟨hl, hw⟩, ext_bulk (by simp only [AM.Good] at g; exact g.1) (trod_one hf (slice_cells (e := 0) hr)) hr, hr⟩
theorem open_bytes (hval : Value.okWide Try.prog W0 r base 63 v) (h : DataW.Trod enc Try.prog W0 0 spare held 63 v d ps) : ∃ x : Sl Int, (ExtL (fun b => [.int .u8 b]) x.n x.g x.l ∧ ∀ y ∈ x.l, 0 ≤ y ∧ y < 256) ∧ x.n ≤ Rows.uptoBulk d ∧ AM.Rel ι W0.cell? (.ext 1 x.n x.g) v := by
  obtain ⟨fuel, hf⟩ := h
  have g := good 63 (d := .slice 5 1 1) rfl (by intro h; cases h)
  obtain ⟨vs, hty, hc⟩ := open_ tok closed_tab fuel (.slice 5 1 1) 63 [5] g rfl (fun e he => by
    simp only [List.mem_singleton] at he
    subst he
    exact ⟨(by intro h; cases h), _, rfl⟩) _ _ _ hf
  cases fuel with
  | zero => exact hty.elim
  | succ f =>
    simp only [Ty, TyS] at hty
    obtain ⟨n, get, rfl, hn, hget⟩ := hty
    obtain ⟨l, hl, hw⟩ := list_of (P := fun b : Int => 0 ≤ b ∧ b < 256) (enc := fun b => [.int .u8 b]) (g := get) (n := n) (fun i hi => by
      obtain ⟨b, e, w⟩ := ty_int (hget i hi).2
      exact ⟨b, wf8 w, e⟩)
    have hr : AM.Rel ι W0.cell? (.ext 1 n get) v := arg_one g rfl hval hc
    refine ⟨⟨n, get, l⟩, ⟨hl, hw⟩, ext_bulk (by simp only [AM.Good] at g; exact g.1) (trod_one hf (slice_cells (e := 0) hr)) hr, hr⟩
end
end Go.Proofs.Ytenlkhlkohnmkaa
