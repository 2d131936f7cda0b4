/- The operations: len, min, max; all of them together. -/
import Derived.Test.YtkglccolonpnlaaAmOpsN
set_option linter.unusedVariables false
set_option linter.unusedSimpArgs false
set_option maxRecDepth 100000
namespace Go.AM
noncomputable section
open Go.RowKit

section
variable {P : Program} {T : TypeId → TD} {a : Act} {w w0 : World} {S : Nat → Prop} {φ0 : Prot} {ι : Map} {φ : Prot} {H : Nat → Blk} {nid : Nat} {v : Val} {u : Upd} {r r' : List Nat} {tm : List Val}
variable {dst : Option Tmp} {ty : TypeId} {pos : String} {after : Array Edge} {guard : Option (Nat × Bool)}

theorem len_sound {t : TypeId} {x : Val} {cx : Value} {ats : Array TypeId} {args : Array Value} (h0 : ats[0]? = some t) (h1 : args[0]? = some cx) (hT : TOk P T) (hB : ∀ b, BlkOk ι φ w b (H b)) (hx : Rel ι φ x cx) (h : Does (lenP (T t) x) H [] v u r') :
    u = [] ∧ ∃ n : Nat, v = .int .i64 n ∧ (Builtin.len_ ats ty args).run P w = .ok (.int .i64 n) w := by
  unfold Does lenP at h
  have fin : ∀ {n : Nat}, Does (valK (.int .i64 n)) H [] v u r' → (Builtin.len_ ats ty args).run P w = .ok (.int .i64 n) w → u = [] ∧ ∃ n : Nat, v = .int .i64 n ∧ (Builtin.len_ ats ty args).run P w = .ok (.int .i64 n) w := by
    intro n hd hr
    obtain ⟨rfl, rfl⟩ := does_valK hd
    exact ⟨rfl, n, rfl, hr⟩
  have sl : ∀ {e sz by_ A c} {n : Nat}, T t = .slice e sz by_ → cx = .slice A n c → (Builtin.len_ ats ty args).run P w = .ok (.int .i64 n) w := by
    intro e sz by_ A c n hTt hc
    obtain ⟨hu, _⟩ := Good.slice_ hT hTt
    subst hc
    simp [Builtin.len_, h0, h1, run_underlying hu, goInt]
  split at h
  · rename_i s hTt
    have hg : Good P .str t := hTt ▸ hT.good (by rw [hTt]; simp)
    simp only [Good] at hg
    have hc := hx.str_
    subst hc
    exact fin h (by simp [Builtin.len_, h0, h1, run_underlying hg.1, goInt])
  · rename_i n e hTt
    have hg : Good P (.arr n e) t := hTt ▸ hT.good (by rw [hTt]; simp)
    simp only [Good] at hg
    obtain ⟨⟨el, hu, _⟩, _⟩ := hg
    exact fin h (by simp [Builtin.len_, h0, h1, run_underlying hu, goInt])
  · rename_i hTt; exact fin (n := 0) h (sl hTt hx.nils_)
  · rename_i hTt; obtain ⟨A, e⟩ := hx.emp_; exact fin (n := 0) h (sl hTt e)
  · rename_i hTt
    rcases hx.ext_ with ⟨rfl, e⟩ | ⟨A, c, vals, e, _⟩
    · exact fin h (sl hTt e)
    · exact fin h (sl hTt e)
  · rename_i hTt; obtain ⟨g, c, _, _, e⟩ := hx.row_; exact fin h (sl hTt e)
  · rename_i hTt; obtain ⟨g, c, cap, _, _, e⟩ := hx.asl_; exact fin h (sl hTt e)
  · rename_i kt et hTt
    have hu := map_type hT hTt
    cases hx with
    | c hcx => cases hcx; exact fin (n := 0) h (by simp [Builtin.len_, h0, h1, run_underlying hu, goInt])
  · rename_i kt et b hTt
    have hu := map_type hT hTt
    simp only [Prog.run] at h
    split at h
    case h_2 => exact h.elim
    rename_i kag vag ks es hbk
    have hBb := hB b
    rw [hbk] at hBb
    obtain ⟨g, c, arr, clock, hm, hheap, hents⟩ := hBb
    cases hx with
    | c hcx => cases hcx
    | map _ g' c' hm' =>
      rw [hm] at hm'
      simp only [Option.some.injEq, Prod.mk.injEq] at hm'
      obtain ⟨rfl, rfl⟩ := hm'
      have hl := hents.length
      rw [Array.length_toList] at hl
      obtain ⟨hv, hu', _⟩ := h
      subst hv; subst hu'
      exact ⟨rfl, es.length, rfl, by simp [Builtin.len_, h0, h1, run_underlying hu, Go.MapKept.run_getObj_map hheap, goInt, hl]⟩
  · exact h.elim

theorem minP_sound {mx : Bool} : ∀ {xs : List Val} {us : List Value} {k : IntKind} {n : Int}, us.length = xs.length → (∀ i, i < xs.length → Rel ι φ (xs.getD i .und) (us.getD i undef)) → Does (minP mx (.int k n) xs) H [] v u r' →
    u = [] ∧ ∃ m : Int, v = .int k m ∧ (us.foldlM (match mx with | true => Builtin.max2 | false => Builtin.min2) (.int k n)).run P w = .ok (.int k m) w
  | [], us, k, n, hl, _, h => by
    have : us = [] := List.eq_nil_of_length_eq_zero (by simpa using hl)
    subst this
    unfold Does minP at h
    obtain ⟨rfl, rfl⟩ := does_valK h
    exact ⟨rfl, n, rfl, by simp⟩
  | x :: xs, [], k, n, hl, _, h => by simp at hl
  | x :: xs, y :: us, k, n, hl, hr, h => by
    unfold Does at h
    cases x <;> first | exact h.elim | skip
    rename_i k' b
    have hy : y = .int k' b := Rel.int_ (ι := ι) (φ := φ) (hr 0 (by simp))
    subst hy
    have hr' : ∀ i, i < xs.length → Rel ι φ (xs.getD i .und) (us.getD i undef) := fun i hi => by
      have := hr (i + 1) (by simpa using hi)
      simpa using this
    cases mx with
    | true =>
      obtain ⟨h1, m, h2, h3⟩ := minP_sound (mx := true) (us := us) (by simpa using hl) hr' h
      refine ⟨h1, m, h2, ?_⟩
      rw [List.foldlM_cons, ← h3]
      simp [Builtin.max2, pickM]
    | false =>
      obtain ⟨h1, m, h2, h3⟩ := minP_sound (mx := false) (us := us) (by simpa using hl) hr' h
      refine ⟨h1, m, h2, ?_⟩
      rw [List.foldlM_cons, ← h3]
      simp [Builtin.min2, pickM]

theorem sound_builtin {b : Builtin} {c : Call} (hc : c.callee = .builtin b) (hT : TOk P T) (hi : Inv w0 S φ0 ι φ H w) (ht : TmOk ι φ tm a.tmps) (hn : (∃ x, (nid, x) ∈ u) → ι nid = none)
    (h : Does (evsK tm c.args.toList fun xs => builtinP T b c.argTypes.toList nid xs) H [] v u r') : Step P ⟨dst, .call c, ty, pos, after, guard⟩ a w w0 S φ0 ι φ H nid v u := by
  rw [evsK_eq] at h
  obtain ⟨cal, args, ats⟩ := c
  obtain ⟨args⟩ := args
  obtain ⟨ats⟩ := ats
  simp only at hc h
  subst hc
  have hrel : ∀ i, i < args.length → Rel ι φ ((args.map (evV tm)).getD i .und) ((args.map a.eval).getD i undef) := fun i hi => by
    have e1 : (args.map (evV tm)).getD i .und = evV tm args[i] := by
      rw [List.getD_eq_getElem?_getD, List.getElem?_map, List.getElem?_eq_getElem hi]; rfl
    have e2 : (args.map a.eval).getD i undef = a.eval args[i] := by
      rw [List.getD_eq_getElem?_getD, List.getElem?_map, List.getElem?_eq_getElem hi]; rfl
    rw [e1, e2]; exact ht.ev _
  have mm : ∀ {mx : Bool} {k : IntKind} {n : Int} {x : Operand} {rest : List Operand}, args = x :: rest → evV tm x = .int k n → Does (minP mx (.int k n) (rest.map (evV tm))) H [] v u r' → b = (match mx with | true => .max | false => .min) →
      Step P ⟨dst, .call ⟨.builtin b, ⟨args⟩, ⟨ats⟩⟩, ty, pos, after, guard⟩ a w w0 S φ0 ι φ H nid v u := by
    intro mx k n x rest he hx hd hb
    subst he
    obtain ⟨rfl, m, rfl, hr⟩ := minP_sound (P := P) (w := w) (us := rest.map a.eval) (by simp) (fun i hi => by
      have := hrel (i + 1) (by simpa using hi)
      simpa using this) hd
    refine Step.pure_ hi (cv := .int k m) ?_ (.c (.int _ _))
    have hx' := ht.ev x
    rw [hx] at hx'
    have hxe := hx'.int_
    cases mx with
    | true =>
      subst hb
      simp only at hr
      simp [execOp, resolve, invoke, builtin, Builtin.max_, hxe, hr]
    | false =>
      subst hb
      simp only at hr
      simp [execOp, resolve, invoke, builtin, Builtin.min_, hxe, hr]
  unfold Does builtinP at h
  split at h
  · rename_i t u2 x y e2
    split at h
    case h_2 => exact h.elim
    rename_i htu
    rw [beq_iff_eq] at htu; subst htu
    cases args with
    | nil => simp at e2
    | cons x0 args => cases args with
      | nil => simp at e2
      | cons y0 args => cases args with
        | cons z0 args => simp at e2
        | nil =>
          simp only [List.map_cons, List.map_nil, List.cons.injEq, and_true] at e2
          obtain ⟨rfl, rfl⟩ := e2
          exact sound_append (cl := ⟨.builtin .append, ⟨[x0, y0]⟩, ⟨[t, t]⟩⟩) rfl hT hi ht hn h
  · rename_i t x e2
    cases args with
    | nil => simp at e2
    | cons x0 args => cases args with
      | cons y0 args => simp at e2
      | nil =>
        simp only [List.map_cons, List.map_nil, List.cons.injEq, and_true] at e2
        subst e2
        obtain ⟨rfl, n, rfl, hr⟩ := len_sound (P := P) (w := w) (ty := ty) (ats := #[t]) (args := #[a.eval x0]) rfl rfl hT hi.sim.blk (ht.ev x0) h
        refine Step.pure_ hi (cv := .int .i64 n) ?_ (.c (.int _ _))
        simp [execOp, resolve, invoke, builtin, hr]
  · rename_i k n rest e2
    cases args with
    | nil => simp at e2
    | cons x0 args =>
      simp only [List.map_cons, List.cons.injEq] at e2
      obtain ⟨hx, rfl⟩ := e2
      exact mm (mx := false) rfl hx h rfl
  · rename_i k n rest e2
    cases args with
    | nil => simp at e2
    | cons x0 args =>
      simp only [List.map_cons, List.cons.injEq] at e2
      obtain ⟨hx, rfl⟩ := e2
      exact mm (mx := true) rfl hx h rfl
  · exact h.elim

/-- EVERY OPERATION: what the program says, the model does. -/
theorem op_sound {o : Oper} (hT : TOk P T) (hi : Inv w0 S φ0 ι φ H w) (ht : TmOk ι φ tm a.tmps) (hn : (∃ x, (nid, x) ∈ u) → ι nid = none) (h : Does (opP T o tm nid) H [] v u r') : Step P o a w w0 S φ0 ι φ H nid v u := by
  obtain ⟨dst, op, ty, pos, after, guard⟩ := o
  unfold opP at h
  cases op <;> simp only at h
  case move => exact sound_move hi ht h
  case assign => exact sound_assign hi ht h
  case pick => exact sound_pick hi ht h
  case alloc => exact sound_alloc hT hi hn h
  case box => exact sound_box hi ht hn h
  case build => exact sound_build hT hi ht h
  case buildSlice => exact sound_buildSlice hT hi ht hn h
  case load => exact sound_load hT hi ht h
  case store => exact sound_store hT hi ht h
  case nilCheck => exact sound_nilCheck hi ht h
  case binOp => exact sound_binOp hT hi ht h
  case unOp => exact sound_unOp hi ht h
  case convert => exact sound_convert hT hi ht h
  case sliceToArrayPointer => exact sound_arrPtr hT hi ht h
  case makeInterface => exact sound_makeInterface hT hi ht h
  case makeFunc f x y =>
    cases f <;> first | exact sound_makeFunc hi ht h | exact h.elim
  case makeSlice => exact sound_makeSlice hT hi ht hn h
  case slice => exact sound_slice hT hi ht h
  case fieldAddr => exact sound_fieldAddr hT hi ht h
  case field => exact sound_field hT hi ht h
  case indexAddr => exact sound_indexAddr hT hi ht h
  case index => exact sound_index hT hi ht h
  case extract => exact sound_extract hi ht h
  case makeMap => exact sound_makeMap hT hi ht hn h
  case lookup => exact sound_lookup hT hi ht h
  case mapUpdate => exact sound_mapUpdate hT hi ht h
  case insert => exact sound_insert hT hi ht h
  case call c =>
    cases hc : c.callee <;> rw [hc] at h <;> simp only at h
    case builtin b => exact sound_builtin hc hT hi ht hn h
    all_goals exact h.elim
  all_goals exact h.elim
end
end
end Go.AM
