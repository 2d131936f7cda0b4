/- The operations one by one: aggregates, slices that are built, functions, interfaces. -/
import Derived.Test.YtkglccolonpnlaaAmOps4
import Derived.Great.BuildSlice
set_option linter.unusedVariables false
set_option linter.unusedSimpArgs false
set_option maxRecDepth 100000
namespace Go.AM
noncomputable section
open Go.RowKit

section
variable {P : Program} {T : TypeId → TD} {a : Act} {w w0 : World} {S : Nat → Prop} {φ0 : Prot} {ι : Map} {φ : Prot} {H : Nat → Blk} {nid : Nat} {v : Val} {u : Upd} {r r' : List Nat} {tm : List Val}
variable {dst : Option Tmp} {ty : TypeId} {pos : String} {after : Array Edge} {guard : Option (Nat × Bool)}

theorem fill_sound {place cplace : Nat → Option (Nat × Nat)} (hp : ∀ i p, place i = some p → cplace i = some p) (ht : TmOk ι φ tm a.tmps) : ∀ {parts : List (Nat × Operand)} {z : List Val} {uz : Array Value} {K : List Val → Prog},
    Does (fillK place tm z parts K) H r v u r' → CellsOk ι φ z uz.toList →
    ∃ cs' ucs, Does (K cs') H r v u r' ∧ Instr.fill cplace uz (parts.map fun x => (x.1, a.eval x.2)) = some ucs ∧ CellsOk ι φ cs' ucs.toList ∧ cs'.length = z.length
  | [], z, uz, K, h, hz => ⟨z, uz, h, rfl, hz, rfl⟩
  | (i, x) :: parts, z, uz, K, h, hz => by
    unfold Does fillK at h
    rw [evK_eq] at h
    have hx := ht.ev x
    have key : (∀ cs, evV tm x ≠ .tup cs) → evV tm x ≠ .und → Does (match place i with
        | some (off, size) => match (cellsOf (evV tm x)).length == size && decide (off + size ≤ z.length) with
          | true => splice z off (cellsOf (evV tm x)) fun cs' => fillK place tm cs' parts K
          | false => .fail
        | none => .fail) H r v u r' →
        ∃ cs' ucs, Does (K cs') H r v u r' ∧ Instr.fill cplace uz (((i, x) :: parts).map fun x => (x.1, a.eval x.2)) = some ucs ∧ CellsOk ι φ cs' ucs.toList ∧ cs'.length = z.length := by
      intro h2 h3 h
      have hc := hx.cells h2 h3
      unfold Does at h
      split at h
      case h_2 => exact h.elim
      rename_i off size hpl
      split at h
      case h_2 => exact h.elim
      rename_i hb
      rw [Bool.and_eq_true, beq_iff_eq, decide_eq_true_eq] at hb
      obtain ⟨hs, hfit⟩ := hb
      subst hs
      rw [splice_eq] at h
      have hsz : (a.eval x).cells.size = (cellsOf (evV tm x)).length := by rw [← Array.length_toList]; exact hc.1
      have huz : uz.size = z.length := by rw [← Array.length_toList]; exact hz.1
      obtain ⟨g1, g2⟩ := Great.foldl_set off (a.eval x).cells.toList 0 uz
      have hnew : CellsOk ι φ (z.take off ++ (cellsOf (evV tm x) ++ z.drop (off + (cellsOf (evV tm x)).length))) (((a.eval x).cells.toList.zipIdx 0).foldl (fun cs (x : Value × Nat) => cs.setIfInBounds (off + x.2) x.1) uz).toList := by
        refine ⟨by rw [length_splice hfit, Array.length_toList, g1, huz], fun k hk => ?_⟩
        rw [length_splice hfit] at hk
        rw [getD_splice .und hfit k]
        have e : (((a.eval x).cells.toList.zipIdx 0).foldl (fun cs (x : Value × Nat) => cs.setIfInBounds (off + x.2) x.1) uz).toList.getD k undef =
            if off ≤ k ∧ k < off + (cellsOf (evV tm x)).length then (a.eval x).cells.toList.getD (k - off) undef else uz.toList.getD k undef := by
          rw [List.getD_eq_getElem?_getD, Array.getElem?_toList, g2 k]
          simp only [Nat.add_zero, hc.1]
          by_cases hin : off ≤ k ∧ k < off + (cellsOf (evV tm x)).length
          · rw [if_pos ⟨hin.1, hin.2, by omega⟩, if_pos hin, List.getD_eq_getElem?_getD]
          · rw [if_neg (by omega), if_neg hin, List.getD_eq_getElem?_getD, Array.getElem?_toList]
        rw [e]
        by_cases hin : off ≤ k ∧ k < off + (cellsOf (evV tm x)).length
        · rw [if_pos hin, if_pos hin]; exact hc.2 _ (by omega)
        · rw [if_neg hin, if_neg hin]; exact hz.2 k hk
      obtain ⟨cs', ucs, k1, k2, k3, k4⟩ := fill_sound hp ht h hnew
      refine ⟨cs', ucs, k1, ?_, k3, by rw [k4, length_splice hfit]⟩
      rw [← k2]
      simp only [List.map_cons]
      rw [Instr.fill, hp _ _ hpl]
      simp only [hsz]
      rw [if_neg (by simp; omega)]
      congr 1
      rw [← Array.foldl_toList, Array.toList_zipIdx]
    split at h
    · exact h.elim
    · exact h.elim
    · rename_i h1 h2
      exact key (fun cs e => h2 cs e) (fun e => h1 e) h

theorem structPlace_get {fs : List TD} {i : Nat} {p : Nat × Nat} (h : structPlace fs i = some p) : ∃ d, fieldAt fs i 0 = some (p.1, d) ∧ p.2 = d.size := by
  unfold structPlace at h
  split at h
  · rename_i o d e; simp only [Option.some.injEq] at h; subst h; exact ⟨d, e, rfl⟩
  · cases h
theorem places_of {fs : List TD} : ∀ {fields : List Field} {o : Nat}, GoodF P fs fields o → ∃ places, fields.mapM (fun f => (P.info? f.type).map fun i => (f.offset, i.size)) = some places ∧
    ∀ i o' d, fieldAt fs i o = some (o', d) → places[i]? = some (o', d.size) := by
  induction fs with
  | nil =>
    intro fields o h
    cases fields with
    | nil => exact ⟨[], rfl, fun i o' d h => by cases h⟩
    | cons f fields => simp [GoodF] at h
  | cons x fs ih =>
    intro fields o h
    cases fields with
    | nil => simp [GoodF] at h
    | cons f fields =>
      simp only [GoodF] at h
      obtain ⟨rfl, _, hg, hgs⟩ := h
      obtain ⟨pl, h1, h2⟩ := ih hgs
      obtain ⟨i, z, hi, hs, _⟩ := hg.zok
      refine ⟨(f.offset, i.size) :: pl, by simp [hi, h1], fun j o' d e => ?_⟩
      cases j with
      | zero => simp only [fieldAt, Option.some.injEq, Prod.mk.injEq] at e; obtain ⟨rfl, rfl⟩ := e; simp [hs]
      | succ j => simpa using h2 j o' d (by simpa [fieldAt] using e)

theorem agg_rel {cs : List Val} {us : Array Value} (h : CellsOk ι φ cs us.toList) : Rel ι φ (.agg cs) (.agg us) := by
  refine .agg _ _ (by simpa using h.1) (fun i hi => ?_) (fun i hi => ?_)
  · have := (h.2 i hi).1; rwa [arr_getD us i] at this
  · have := (h.2 i hi).2; rwa [arr_getD us i] at this
theorem map_parts (parts : Array (Nat × Operand)) : (parts.map fun (i, x) => (i, a.eval x)).toList = parts.toList.map fun x => (x.1, a.eval x.2) := by
  rw [Array.toList_map]

theorem sound_build {t : TypeId} {parts : Array (Nat × Operand)} (hT : TOk P T) (hi : Inv w0 S φ0 ι φ H w) (ht : TmOk ι φ tm a.tmps) (h : Does (nb (T t) fun d => buildP d tm parts.toList) H [] v u r') :
    Step P ⟨dst, .build t parts, ty, pos, after, guard⟩ a w w0 S φ0 ι φ H nid v u := by
  obtain ⟨hb, h⟩ := does_nb h
  have hg := hT.good hb
  obtain ⟨it, z, hin, hsz, hz, hzc, hag, _⟩ := hg.zok
  have hzo : CellsOk ι φ (T t).zero z.cells.toList := ⟨(hzc φ).1, fun k hk => ⟨((hzc φ).2 k hk).1, .c ((hzc φ).2 k hk).2⟩⟩
  have fin : ∀ {cs' : List Val} {ucs : Array Value}, Does (valK (.agg cs')) H [] v u r' → P.built t (parts.toList.map fun x => (x.1, a.eval x.2)) = some ucs → CellsOk ι φ cs' ucs.toList →
      Step P ⟨dst, .build t parts, ty, pos, after, guard⟩ a w w0 S φ0 ι φ H nid v u := by
    intro cs' ucs hd hbt hc
    obtain ⟨rfl, rfl⟩ := does_valK hd
    have := run_build w t (parts.map fun (i, x) => (i, a.eval x)) ucs (by rw [map_parts]; exact hbt)
    exact Step.pure_ hi (cv := .agg ucs) (by simp [execOp, this]) (agg_rel hc)
  unfold Does buildP at h
  generalize hTt : T t = d at h hg hzo
  split at h
  · rename_i fs
    rw [appK_eq, List.append_nil] at h
    simp only [Good] at hg
    obtain ⟨⟨fields, hf, hgf⟩, _⟩ := hg
    obtain ⟨places, hpl, hpg⟩ := places_of hgf
    obtain ⟨cs', ucs, k1, k2, k3, _⟩ := fill_sound (cplace := (places.toArray[·]?)) (fun i p e => by
      obtain ⟨d, e1, e2⟩ := structPlace_get e
      have := hpg i _ _ e1
      simp only [List.getElem?_toArray, this, ← e2]) ht h hzo
    refine fin k1 ?_ k3
    unfold Program.built
    simp only [hin, hf, hz, hpl]
    exact k2
  · rename_i n e
    rw [appK_eq, List.append_nil] at h
    simp only [Good] at hg
    obtain ⟨⟨el, hf, hge⟩, _⟩ := hg
    obtain ⟨ie, ze, hie, hse, _⟩ := hge.zok
    obtain ⟨cs', ucs, k1, k2, k3, _⟩ := fill_sound (cplace := fun i => some (i * ie.size, ie.size)) (fun i p e => by rw [hse]; exact e) ht h hzo
    refine fin k1 ?_ k3
    unfold Program.built
    simp only [hin, hf, hz, hie]
    exact k2
  · exact h.elim

theorem rep_get : ∀ {n : Nat} {l : List Val} (j : Nat) {q : Nat}, q < l.length → j < n → (rep n l).getD (j * l.length + q) .und = l.getD q .und
  | n + 1, l, 0, q, hq, _ => by simp only [rep, Nat.zero_mul, Nat.zero_add]; exact getD_app_left _ hq
  | n + 1, l, j + 1, q, hq, hj => by
    simp only [rep]
    rw [show (j + 1) * l.length + q = l.length + (j * l.length + q) by rw [Nat.add_mul, Nat.one_mul]; omega, getD_app_right]
    exact rep_get j hq (by omega)
/-- n times a zero value's cells. -/
theorem zeros_ok {z : Value} {l : List Val} (hz : CellsOk ι φ l z.cells.toList) (h0 : 0 < l.length) (n : Nat) : CellsOk ι φ (rep n l) ((Array.range (n * l.length)).map (z.cells[· % z.cells.size]!)).toList := by
  have hs : z.cells.size = l.length := by rw [← Array.length_toList]; exact hz.1
  refine ⟨by simp [rep_length], fun k hk => ?_⟩
  rw [rep_length] at hk
  have hq : k % l.length < l.length := Nat.mod_lt _ h0
  have hj : k / l.length < n := by rw [Nat.div_lt_iff_lt_mul h0]; exact hk
  have e1 : (rep n l).getD k .und = l.getD (k % l.length) .und := by
    have := rep_get (n := n) (l := l) (k / l.length) hq hj
    rwa [Nat.mul_comm, Nat.div_add_mod] at this
  have e2 : ((Array.range (n * l.length)).map (z.cells[· % z.cells.size]!)).toList.getD k undef = z.cells.toList.getD (k % l.length) undef := by
    rw [arr_getD, arr_getD, Array.getD_eq_getD_getElem?, Array.getElem?_map, Array.getElem?_range, if_pos hk, hs]
    simp only [Option.map_some, Option.getD_some]
    rw [Array.getD_eq_getD_getElem?, getElem!_def]
    rw [Array.getElem?_eq_getElem (by omega)]
    rfl
  rw [e1, e2]
  exact hz.2 _ hq

theorem pieces_get : ∀ {n sz : Nat} {l : List Val} (i : Nat), l.length = n * sz → i < n → (pieces sz n l).getD i [] = (l.drop (i * sz)).take sz
  | n + 1, sz, l, 0, _, _ => by simp [pieces]
  | n + 1, sz, l, i + 1, hl, hi => by
    simp only [pieces, List.getD_cons_succ]
    rw [pieces_get (n := n) i (by rw [List.length_drop, hl, Nat.add_mul, Nat.one_mul]; omega) (by omega), List.drop_drop, Nat.add_mul, Nat.one_mul, Nat.add_comm]
/-- A row out of cells. -/
theorem row_blk {cs : List Val} {ucs : Array Value} {n sz b : Nat} {e : TypeId} (hc : CellsOk ι φ cs ucs.toList) (hl : cs.length = n * sz) (h0 : 0 < sz) (hcl : closedL cs = true) (hn : n ≤ 9223372036854775807) (hp : ∀ a v, φ a = some v → a.block < w.heap.size) :
    BlkOk (setM ι b (w.heap.size, n)) φ (w.alloc (.cells ucs e)) b (.row e sz n (fun i => (pieces sz n cs).getD i []) 0) := by
  have hs : ucs.size = n * sz := by rw [← Array.length_toList, hc.1, hl]
  have hlen : ∀ i, i < n → i * sz + sz ≤ n * sz := fun i hi => by
    calc i * sz + sz = (i + 1) * sz := by rw [Nat.add_mul, Nat.one_mul]
      _ ≤ n * sz := Nat.mul_le_mul_right _ (by omega)
  refine ⟨w.heap.size, n, ucs, by simp [setM], heap_new _ _, h0, hs, Nat.le_refl _, hn, Nat.zero_le _, fun i hi => ?_, fun i j hi hj => ?_, fun i hi => ?_, fun off sp _ => ?_⟩
  · have := hlen i hi
    simp only [pieces_get i hl hi, List.length_take, List.length_drop]
    omega
  · have := hlen i hi
    simp only [pieces_get i hl hi]
    rw [getD_take hj, getD_drop]
    have hk : i * sz + j < cs.length := by omega
    have h2 := (hc.2 _ hk).2
    rw [arr_getD ucs] at h2
    exact h2.closed_ (closedL_get hcl hk)
  · have := (hc.2 i (by omega)).1
    rwa [arr_getD ucs] at this
  · cases hx : φ ⟨w.heap.size, off, sp⟩ with
    | none => rfl
    | some v => have := hp _ v hx; simp at this

theorem sound_buildSlice {t : TypeId} {len : Nat} {parts : Array (Nat × Operand)} (hT : TOk P T) (hi : Inv w0 S φ0 ι φ H w) (ht : TmOk ι φ tm a.tmps) (hn : (∃ x, (nid, x) ∈ u) → ι nid = none)
    (h : Does (buildSliceP T (T t) len nid tm parts.toList) H [] v u r') : Step P ⟨dst, .buildSlice t len parts, ty, pos, after, guard⟩ a w w0 S φ0 ι φ H nid v u := by
  unfold Does buildSliceP at h
  split at h
  case h_2 => exact h.elim
  rename_i e sz by_ hTt
  have hg : Good P (.slice e sz by_) t := hTt ▸ hT.good (by rw [hTt]; simp)
  simp only [Good] at hg
  obtain ⟨hu, _⟩ := hg
  obtain ⟨hbe, h⟩ := does_nb h
  unfold Does at h
  split at h
  case h_2 => exact h.elim
  rename_i hb
  simp only [Bool.and_eq_true, decide_eq_true_eq, beq_iff_eq] at hb
  obtain ⟨⟨h0, hsz⟩, hsm⟩ := hb
  subst hsz
  obtain ⟨ie, z, hie, hse, hz, hzc, _⟩ := (hT.good hbe).zok
  have hzo : CellsOk ι φ (T e).zero z.cells.toList := ⟨(hzc φ).1, fun k hk => ⟨((hzc φ).2 k hk).1, .c ((hzc φ).2 k hk).2⟩⟩
  have hzl := TD.zero_length (T e)
  rw [appK_eq, List.append_nil] at h
  have hzs := zeros_ok (ι := ι) (φ := φ) hzo (by omega) len
  rw [hzl] at hzs
  obtain ⟨cs', ucs, k1, k2, k3, k4⟩ := fill_sound (cplace := fun i => some (i * ie.size, ie.size)) (fun i p e => by rw [hse]; exact e) ht h hzs
  unfold Does at k1
  split at k1
  case h_2 => exact k1.elim
  rename_i hcl
  obtain ⟨rfl, rfl, _⟩ := k1
  have hn := hn ⟨_, List.mem_singleton.2 rfl⟩
  have hrun : (Instr.buildSlice t len (parts.map fun (i, x) => (i, a.eval x))).run P w = .ok (.slice (some ⟨w.heap.size, 0, none⟩) len len) (w.alloc (.cells ucs e)) := by
    rcases Nat.eq_zero_or_pos len with hl0 | hl0
    · subst hl0
      simp only [Nat.zero_mul] at k2
      rw [← map_parts] at k2
      have e0 : ((Array.range 0).map (z.cells[· % z.cells.size]!)) = #[] := by simp
      rw [e0] at k2
      simp only [Array.toList_map] at k2
      have e1 : Array.map (fun _ : Nat => (default : Value)) (Array.range 0) = #[] := by simp
      simp [Instr.buildSlice, run_underlying hu, sizeOf, run_info hie, newRow]
      rw [e1, k2]
      simp
    · have hp1 : 0 < len * ie.size := by rw [hse]; exact Nat.mul_pos hl0 h0
      refine run_buildSlice w t e len _ ucs ie z hu hie hz (by rw [hse]; omega) (by omega) ?_
      rw [map_parts, hse]
      rw [hse] at k2
      exact k2
  refine Step.alloc_ hi hn (c := len) (cv := .slice (some ⟨w.heap.size, 0, none⟩) len len) (ob := .cells ucs e) (by simp [execOp, hrun]) (row_blk k3 (by rw [k4, rep_length, hzl]) h0 hcl (by have : len ≤ len * (T e).size := Nat.le_mul_of_pos_right _ h0; omega) hi.prot_lt) (.row _ _ _ _ (by simp [setM]) (Nat.le_refl _))

theorem sound_makeFunc {f : FuncId} {x y : Array Operand} (hi : Inv w0 S φ0 ι φ H w) (ht : TmOk ι φ tm a.tmps) (h : Does (evsK tm x.toList fun a => evsK tm y.toList fun c => valK (.fn f a c)) H [] v u r') :
    Step P ⟨dst, .makeFunc (.func f) x y, ty, pos, after, guard⟩ a w w0 S φ0 ι φ H nid v u := by
  rw [evsK_eq, evsK_eq] at h
  obtain ⟨rfl, rfl⟩ := does_valK h
  have key : ∀ (z : Array Operand) (i : Nat), i < (z.toList.map (evV tm)).length → Rel ι φ ((z.toList.map (evV tm)).getD i .und) ((z.map a.eval).getD i undef) := fun z i hi => by
    rw [List.length_map] at hi
    have e1 : (z.toList.map (evV tm)).getD i .und = evV tm z.toList[i] := by
      rw [List.getD_eq_getElem?_getD, List.getElem?_map, List.getElem?_eq_getElem hi]; rfl
    have e2 : (z.map a.eval).getD i undef = a.eval z.toList[i] := by
      rw [Array.getD_eq_getD_getElem?, Array.getElem?_map, Array.getElem?_eq_getElem (by simpa using hi)]; simp
    rw [e1, e2]
    exact ht.ev _
  exact Step.pure_ hi (cv := .func (.func f) (x.map a.eval) (y.map a.eval)) (by simp [execOp, Instr.makeFunc]) (.fn f _ _ _ _ (by simp) (by simp) (key x) (key y))

theorem sound_makeInterface {t : TypeId} {x : Operand} (hT : TOk P T) (hi : Inv w0 S φ0 ι φ H w) (ht : TmOk ι φ tm a.tmps) (h : Does (evK tm x fun x => match T t with
    | .iface | .bad => .fail
    | _ => valK (.ifc t x)) H [] v u r') : Step P ⟨dst, .makeInterface t x, ty, pos, after, guard⟩ a w w0 S φ0 ι φ H nid v u := by
  rw [evK_eq] at h
  have hx := ht.ev x
  unfold Does at h
  split at h
  · exact h.elim
  · exact h.elim
  · rename_i h1 h2
    obtain ⟨rfl, rfl⟩ := does_valK h
    refine Step.pure_ hi (cv := .iface t (a.eval x)) ?_ (.ifc _ _ _ hx)
    have hg := hT.good (t := t) (fun e => h2 e)
    cases hd : T t <;> rw [hd] at hg <;> simp only [Good] at hg
    case struct => obtain ⟨⟨fields, hf, _⟩, _⟩ := hg; simp [execOp, Instr.makeInterface, run_underlying hf]
    case arr => obtain ⟨⟨el, hf, _⟩, _⟩ := hg; simp [execOp, Instr.makeInterface, run_underlying hf]
    case func => obtain ⟨⟨ps, rs, vv, hf⟩, _⟩ := hg; simp [execOp, Instr.makeInterface, run_underlying hf]
    case iface => exact absurd hd h1
    all_goals (simp [execOp, Instr.makeInterface, run_underlying hg.1])
end
end
end Go.AM
