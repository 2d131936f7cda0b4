/- The operations one by one: aggregates, slices that are built, functions, interfaces. -/
import Derived.Test.YtafiechoplbieaaAmHb
import Derived.Great.BuildSlice
import Derived.Lib.ConvBytes
import Derived.Laws.MakeOwn
import Derived.Laws.BytesString
set_option linter.unusedVariables false
set_option linter.unusedSimpArgs false
set_option maxRecDepth 100000
namespace Go.AM
noncomputable section
open Go.RowKit

section
variable {P : Program} {T : TypeId → TD} {a : Act} {w w0 : World} {S : Nat → Prop} {φ0 : Prot} {ι : Map} {φ : Prot} {H : Nat → Blk} {nid : Nat} {v : Val} {u : Upd} {r r' : List Nat} {tm : List Val}
variable {dst : Option Tmp} {ty : TypeId} {pos : String} {after : Array Edge} {guard : Option (Nat × Bool)}

theorem fill_sound {place cplace : Nat → Option (Nat × Nat)} (hp : ∀ i p, place i = some p → cplace i = some p) (ht : TmOk ι φ tm a.tmps) : ∀ {parts : List (Nat × Operand)} {z : List Val} {uz : Array Value} {K : List Val → Prog},
    Does (fillK place tm z parts K) H r v u r' → CellsOk ι φ z uz.toList →
    ∃ cs' ucs, Does (K cs') H r v u r' ∧ Instr.fill cplace uz (parts.map fun x => (x.1, a.eval x.2)) = some ucs ∧ CellsOk ι φ cs' ucs.toList ∧ cs'.length = z.length
  | [], z, uz, K, h, hz => ⟨z, uz, h, rfl, hz, rfl⟩
  | (i, x) :: parts, z, uz, K, h, hz => by
    unfold Does fillK at h
    rw [evK_eq] at h
    have hx := ht.ev x
    have key : (∀ cs, evV tm x ≠ .tup cs) → evV tm x ≠ .und → Does (match place i with
        | some (off, size) => match (cellsOf (evV tm x)).length == size && decide (off + size ≤ z.length) with
          | true => splice z off (cellsOf (evV tm x)) fun cs' => fillK place tm cs' parts K
          | false => .fail
        | none => .fail) H r v u r' →
        ∃ cs' ucs, Does (K cs') H r v u r' ∧ Instr.fill cplace uz (((i, x) :: parts).map fun x => (x.1, a.eval x.2)) = some ucs ∧ CellsOk ι φ cs' ucs.toList ∧ cs'.length = z.length := by
      intro h2 h3 h
      have hc := hx.cells h2 h3
      unfold Does at h
      split at h
      case h_2 => exact h.elim
      rename_i off size hpl
      split at h
      case h_2 => exact h.elim
      rename_i hb
      rw [Bool.and_eq_true, beq_iff_eq, decide_eq_true_eq] at hb
      obtain ⟨hs, hfit⟩ := hb
      subst hs
      rw [splice_eq] at h
      have hsz : (a.eval x).cells.size = (cellsOf (evV tm x)).length := by rw [← Array.length_toList]; exact hc.1
      have huz : uz.size = z.length := by rw [← Array.length_toList]; exact hz.1
      obtain ⟨g1, g2⟩ := Great.foldl_set off (a.eval x).cells.toList 0 uz
      have hnew : CellsOk ι φ (z.take off ++ (cellsOf (evV tm x) ++ z.drop (off + (cellsOf (evV tm x)).length))) (((a.eval x).cells.toList.zipIdx 0).foldl (fun cs (x : Value × Nat) => cs.setIfInBounds (off + x.2) x.1) uz).toList := by
        refine ⟨by rw [length_splice hfit, Array.length_toList, g1, huz], fun k hk => ?_⟩
        rw [length_splice hfit] at hk
        rw [getD_splice .und hfit k]
        have e : (((a.eval x).cells.toList.zipIdx 0).foldl (fun cs (x : Value × Nat) => cs.setIfInBounds (off + x.2) x.1) uz).toList.getD k undef =
            if off ≤ k ∧ k < off + (cellsOf (evV tm x)).length then (a.eval x).cells.toList.getD (k - off) undef else uz.toList.getD k undef := by
          rw [List.getD_eq_getElem?_getD, Array.getElem?_toList, g2 k]
          simp only [Nat.add_zero, hc.1]
          by_cases hin : off ≤ k ∧ k < off + (cellsOf (evV tm x)).length
          · rw [if_pos ⟨hin.1, hin.2, by omega⟩, if_pos hin, List.getD_eq_getElem?_getD]
          · rw [if_neg (by omega), if_neg hin, List.getD_eq_getElem?_getD, Array.getElem?_toList]
        rw [e]
        by_cases hin : off ≤ k ∧ k < off + (cellsOf (evV tm x)).length
        · rw [if_pos hin, if_pos hin]; exact hc.2 _ (by omega)
        · rw [if_neg hin, if_neg hin]; exact hz.2 k hk
      obtain ⟨cs', ucs, k1, k2, k3, k4⟩ := fill_sound hp ht h hnew
      refine ⟨cs', ucs, k1, ?_, k3, by rw [k4, length_splice hfit]⟩
      rw [← k2]
      simp only [List.map_cons]
      rw [Instr.fill, hp _ _ hpl]
      simp only [hsz]
      rw [if_neg (by simp; omega)]
      congr 1
      rw [← Array.foldl_toList, Array.toList_zipIdx]
    split at h
    · exact h.elim
    · exact h.elim
    · rename_i h1 h2
      exact key (fun cs e => h2 cs e) (fun e => h1 e) h

theorem structPlace_get {fs : List TD} {i : Nat} {p : Nat × Nat} (h : structPlace fs i = some p) : ∃ d, fieldAt fs i 0 = some (p.1, d) ∧ p.2 = d.size := by
  unfold structPlace at h
  split at h
  · rename_i o d e; simp only [Option.some.injEq] at h; subst h; exact ⟨d, e, rfl⟩
  · cases h
theorem places_of {fs : List TD} : ∀ {fields : List Field} {o : Nat}, GoodF P fs fields o → ∃ places, fields.mapM (fun f => (P.info? f.type).map fun i => (f.offset, i.size)) = some places ∧
    ∀ i o' d, fieldAt fs i o = some (o', d) → places[i]? = some (o', d.size) := by
  induction fs with
  | nil =>
    intro fields o h
    cases fields with
    | nil => exact ⟨[], rfl, fun i o' d h => by cases h⟩
    | cons f fields => simp [GoodF] at h
  | cons x fs ih =>
    intro fields o h
    cases fields with
    | nil => simp [GoodF] at h
    | cons f fields =>
      simp only [GoodF] at h
      obtain ⟨rfl, _, hg, hgs⟩ := h
      obtain ⟨pl, h1, h2⟩ := ih hgs
      obtain ⟨i, z, hi, hs, _⟩ := hg.zok
      refine ⟨(f.offset, i.size) :: pl, by simp [hi, h1], fun j o' d e => ?_⟩
      cases j with
      | zero => simp only [fieldAt, Option.some.injEq, Prod.mk.injEq] at e; obtain ⟨rfl, rfl⟩ := e; simp [hs]
      | succ j => simpa using h2 j o' d (by simpa [fieldAt] using e)

theorem agg_rel {cs : List Val} {us : Array Value} (h : CellsOk ι φ cs us.toList) : Rel ι φ (.agg cs) (.agg us) := by
  refine .agg _ _ (by simpa using h.1) (fun i hi => ?_) (fun i hi => ?_)
  · have := (h.2 i hi).1; rwa [arr_getD us i] at this
  · have := (h.2 i hi).2; rwa [arr_getD us i] at this
theorem map_parts (parts : Array (Nat × Operand)) : (parts.map fun (i, x) => (i, a.eval x)).toList = parts.toList.map fun x => (x.1, a.eval x.2) := by
  rw [Array.toList_map]

theorem sound_build {t : TypeId} {parts : Array (Nat × Operand)} (hT : TOk P T) (hi : Inv w0 S φ0 ι φ H w) (ht : TmOk ι φ tm a.tmps) (h : Does (nb (T t) fun d => buildP d tm parts.toList) H [] v u r') :
    Step P ⟨dst, .build t parts, ty, pos, after, guard⟩ a w w0 S φ0 ι φ H nid v u := by
  obtain ⟨hb, h⟩ := does_nb h
  have hg := hT.good hb
  obtain ⟨it, z, hin, hsz, hz, hzc, hag, _⟩ := hg.zok
  have hzo : CellsOk ι φ (T t).zero z.cells.toList := ⟨(hzc φ).1, fun k hk => ⟨((hzc φ).2 k hk).1, .c ((hzc φ).2 k hk).2⟩⟩
  have fin : ∀ {cs' : List Val} {ucs : Array Value}, Does (valK (.agg cs')) H [] v u r' → P.built t (parts.toList.map fun x => (x.1, a.eval x.2)) = some ucs → CellsOk ι φ cs' ucs.toList →
      Step P ⟨dst, .build t parts, ty, pos, after, guard⟩ a w w0 S φ0 ι φ H nid v u := by
    intro cs' ucs hd hbt hc
    obtain ⟨rfl, rfl⟩ := does_valK hd
    have := run_build w t (parts.map fun (i, x) => (i, a.eval x)) ucs (by rw [map_parts]; exact hbt)
    exact Step.pure_ hi (cv := .agg ucs) (by simp [execOp, this]) (agg_rel hc)
  unfold Does buildP at h
  generalize hTt : T t = d at h hg hzo
  split at h
  · rename_i fs
    rw [appK_eq, List.append_nil] at h
    simp only [Good] at hg
    obtain ⟨⟨fields, hf, hgf⟩, _⟩ := hg
    obtain ⟨places, hpl, hpg⟩ := places_of hgf
    obtain ⟨cs', ucs, k1, k2, k3, _⟩ := fill_sound (cplace := (places.toArray[·]?)) (fun i p e => by
      obtain ⟨d, e1, e2⟩ := structPlace_get e
      have := hpg i _ _ e1
      simp only [List.getElem?_toArray, this, ← e2]) ht h hzo
    refine fin k1 ?_ k3
    unfold Program.built
    simp only [hin, hf, hz, hpl]
    exact k2
  · rename_i n e
    rw [appK_eq, List.append_nil] at h
    simp only [Good] at hg
    obtain ⟨⟨el, hf, hge⟩, _⟩ := hg
    obtain ⟨ie, ze, hie, hse, _⟩ := hge.zok
    obtain ⟨cs', ucs, k1, k2, k3, _⟩ := fill_sound (cplace := fun i => some (i * ie.size, ie.size)) (fun i p e => by rw [hse]; exact e) ht h hzo
    refine fin k1 ?_ k3
    unfold Program.built
    simp only [hin, hf, hz, hie]
    exact k2
  · exact h.elim

theorem rep_get : ∀ {n : Nat} {l : List Val} (j : Nat) {q : Nat}, q < l.length → j < n → (rep n l).getD (j * l.length + q) .und = l.getD q .und
  | n + 1, l, 0, q, hq, _ => by simp only [rep, Nat.zero_mul, Nat.zero_add]; exact getD_app_left _ hq
  | n + 1, l, j + 1, q, hq, hj => by
    simp only [rep]
    rw [show (j + 1) * l.length + q = l.length + (j * l.length + q) by rw [Nat.add_mul, Nat.one_mul]; omega, getD_app_right]
    exact rep_get j hq (by omega)
/-- n times a zero value's cells. -/
theorem zeros_ok {z : Value} {l : List Val} (hz : CellsOk ι φ l z.cells.toList) (h0 : 0 < l.length) (n : Nat) : CellsOk ι φ (rep n l) ((Array.range (n * l.length)).map (z.cells[· % z.cells.size]!)).toList := by
  have hs : z.cells.size = l.length := by rw [← Array.length_toList]; exact hz.1
  refine ⟨by simp [rep_length], fun k hk => ?_⟩
  rw [rep_length] at hk
  have hq : k % l.length < l.length := Nat.mod_lt _ h0
  have hj : k / l.length < n := by rw [Nat.div_lt_iff_lt_mul h0]; exact hk
  have e1 : (rep n l).getD k .und = l.getD (k % l.length) .und := by
    have := rep_get (n := n) (l := l) (k / l.length) hq hj
    rwa [Nat.mul_comm, Nat.div_add_mod] at this
  have e2 : ((Array.range (n * l.length)).map (z.cells[· % z.cells.size]!)).toList.getD k undef = z.cells.toList.getD (k % l.length) undef := by
    rw [arr_getD, arr_getD, Array.getD_eq_getD_getElem?, Array.getElem?_map, Array.getElem?_range, if_pos hk, hs]
    simp only [Option.map_some, Option.getD_some]
    rw [Array.getD_eq_getD_getElem?, getElem!_def]
    rw [Array.getElem?_eq_getElem (by omega)]
    rfl
  rw [e1, e2]
  exact hz.2 _ hq

theorem pieces_get : ∀ {n sz : Nat} {l : List Val} (i : Nat), l.length = n * sz → i < n → (pieces sz n l).getD i [] = (l.drop (i * sz)).take sz
  | n + 1, sz, l, 0, _, _ => by simp [pieces]
  | n + 1, sz, l, i + 1, hl, hi => by
    simp only [pieces, List.getD_cons_succ]
    rw [pieces_get (n := n) i (by rw [List.length_drop, hl, Nat.add_mul, Nat.one_mul]; omega) (by omega), List.drop_drop, Nat.add_mul, Nat.one_mul, Nat.add_comm]
/-- A row out of cells. -/
theorem row_blk {cs : List Val} {ucs : Array Value} {n sz b : Nat} {e : TypeId} (hc : CellsOk ι φ cs ucs.toList) (hl : cs.length = n * sz) (h0 : 0 < sz) (hcl : closedL cs = true) (hn : n ≤ 9223372036854775807) (hp : ∀ a v, φ a = some v → a.block < w.heap.size) :
    BlkOk (setM ι b (w.heap.size, n)) φ (w.alloc (.cells ucs e)) b (.row e sz n (fun i => (pieces sz n cs).getD i []) 0) := by
  have hs : ucs.size = n * sz := by rw [← Array.length_toList, hc.1, hl]
  have hlen : ∀ i, i < n → i * sz + sz ≤ n * sz := fun i hi => by
    calc i * sz + sz = (i + 1) * sz := by rw [Nat.add_mul, Nat.one_mul]
      _ ≤ n * sz := Nat.mul_le_mul_right _ (by omega)
  refine ⟨w.heap.size, n, ucs, by simp [setM], heap_new _ _, h0, hs, Nat.le_refl _, hn, Nat.zero_le _, fun i hi => ?_, fun i j hi hj => ?_, fun i hi => ?_, fun off sp _ => ?_⟩
  · have := hlen i hi
    simp only [pieces_get i hl hi, List.length_take, List.length_drop]
    omega
  · have := hlen i hi
    simp only [pieces_get i hl hi]
    rw [getD_take hj, getD_drop]
    have hk : i * sz + j < cs.length := by omega
    have h2 := (hc.2 _ hk).2
    rw [arr_getD ucs] at h2
    exact h2.closed_ (closedL_get hcl hk)
  · have := (hc.2 i (by omega)).1
    rwa [arr_getD ucs] at this
  · cases hx : φ ⟨w.heap.size, off, sp⟩ with
    | none => rfl
    | some v => have := hp _ v hx; simp at this

theorem sound_buildSlice {t : TypeId} {len : Nat} {parts : Array (Nat × Operand)} (hT : TOk P T) (hi : Inv w0 S φ0 ι φ H w) (ht : TmOk ι φ tm a.tmps) (hn : (∃ x, (nid, x) ∈ u) → ι nid = none)
    (h : Does (buildSliceP T (T t) len nid tm parts.toList) H [] v u r') : Step P ⟨dst, .buildSlice t len parts, ty, pos, after, guard⟩ a w w0 S φ0 ι φ H nid v u := by
  unfold Does buildSliceP at h
  split at h
  case h_2 => exact h.elim
  rename_i e sz by_ hTt
  have hg : Good P (.slice e sz by_) t := hTt ▸ hT.good (by rw [hTt]; simp)
  simp only [Good] at hg
  obtain ⟨hu, _⟩ := hg
  obtain ⟨hbe, h⟩ := does_nb h
  unfold Does at h
  split at h
  case h_2 => exact h.elim
  rename_i hb
  simp only [Bool.and_eq_true, decide_eq_true_eq, beq_iff_eq] at hb
  obtain ⟨⟨h0, hsz⟩, hsm⟩ := hb
  subst hsz
  obtain ⟨ie, z, hie, hse, hz, hzc, _⟩ := (hT.good hbe).zok
  have hzo : CellsOk ι φ (T e).zero z.cells.toList := ⟨(hzc φ).1, fun k hk => ⟨((hzc φ).2 k hk).1, .c ((hzc φ).2 k hk).2⟩⟩
  have hzl := TD.zero_length (T e)
  rw [appK_eq, List.append_nil] at h
  have hzs := zeros_ok (ι := ι) (φ := φ) hzo (by omega) len
  rw [hzl] at hzs
  obtain ⟨cs', ucs, k1, k2, k3, k4⟩ := fill_sound (cplace := fun i => some (i * ie.size, ie.size)) (fun i p e => by rw [hse]; exact e) ht h hzs
  have hrun : (Instr.buildSlice t len (parts.map fun (i, x) => (i, a.eval x))).run P w = .ok (.slice (some ⟨w.heap.size, 0, none⟩) len len) (w.alloc (.cells ucs e)) := by
    rcases Nat.eq_zero_or_pos len with hl0 | hl0
    · subst hl0
      simp only [Nat.zero_mul] at k2
      rw [← map_parts] at k2
      have e0 : ((Array.range 0).map (z.cells[· % z.cells.size]!)) = #[] := by simp
      rw [e0] at k2
      simp only [Array.toList_map] at k2
      have e1 : Array.map (fun _ : Nat => (default : Value)) (Array.range 0) = #[] := by simp
      simp [Instr.buildSlice, run_underlying hu, sizeOf, run_info hie, newRow]
      rw [e1, k2]
      simp
    · have hp1 : 0 < len * ie.size := by rw [hse]; exact Nat.mul_pos hl0 h0
      refine run_buildSlice w t e len _ ucs ie z hu hie hz (by rw [hse]; omega) (by omega) ?_
      rw [map_parts, hse]
      rw [hse] at k2
      exact k2
  unfold Does at k1
  split at k1
  case h_2 =>
    obtain ⟨rfl, rfl, _⟩ := k1
    have hn := hn ⟨_, List.mem_singleton.2 rfl⟩
    exact Step.alloc_ hi hn (c := len) (cv := .slice (some ⟨w.heap.size, 0, none⟩) len len) (ob := .cells ucs e) (by simp [execOp, hrun]) (by simpa using cellsOk_blk (c := len) k3 e hn hi.prot_lt) (.row _ _ _ _ (by simp [setM]) (Nat.le_refl _))
  rename_i hcl
  obtain ⟨rfl, rfl, _⟩ := k1
  have hn := hn ⟨_, List.mem_singleton.2 rfl⟩
  refine Step.alloc_ hi hn (c := len) (cv := .slice (some ⟨w.heap.size, 0, none⟩) len len) (ob := .cells ucs e) (by simp [execOp, hrun]) (row_blk k3 (by rw [k4, rep_length, hzl]) h0 hcl (by have : len ≤ len * (T e).size := Nat.le_mul_of_pos_right _ h0; omega) hi.prot_lt) (.row _ _ _ _ (by simp [setM]) (Nat.le_refl _))

theorem sound_makeFunc {f : FuncId} {x y : Array Operand} (hi : Inv w0 S φ0 ι φ H w) (ht : TmOk ι φ tm a.tmps) (h : Does (evsK tm x.toList fun a => evsK tm y.toList fun c => valK (.fn f a c)) H [] v u r') :
    Step P ⟨dst, .makeFunc (.func f) x y, ty, pos, after, guard⟩ a w w0 S φ0 ι φ H nid v u := by
  rw [evsK_eq, evsK_eq] at h
  obtain ⟨rfl, rfl⟩ := does_valK h
  have key : ∀ (z : Array Operand) (i : Nat), i < (z.toList.map (evV tm)).length → Rel ι φ ((z.toList.map (evV tm)).getD i .und) ((z.map a.eval).getD i undef) := fun z i hi => by
    rw [List.length_map] at hi
    have e1 : (z.toList.map (evV tm)).getD i .und = evV tm z.toList[i] := by
      rw [List.getD_eq_getElem?_getD, List.getElem?_map, List.getElem?_eq_getElem hi]; rfl
    have e2 : (z.map a.eval).getD i undef = a.eval z.toList[i] := by
      rw [Array.getD_eq_getD_getElem?, Array.getElem?_map, Array.getElem?_eq_getElem (by simpa using hi)]; simp
    rw [e1, e2]
    exact ht.ev _
  exact Step.pure_ hi (cv := .func (.func f) (x.map a.eval) (y.map a.eval)) (by simp [execOp, Instr.makeFunc]) (.fn f _ _ _ _ (by simp) (by simp) (key x) (key y))

theorem sound_makeInterface {t : TypeId} {x : Operand} (hT : TOk P T) (hi : Inv w0 S φ0 ι φ H w) (ht : TmOk ι φ tm a.tmps) (h : Does (evK tm x fun x => match T t with
    | .iface | .bad => .fail
    | _ => valK (.ifc t x)) H [] v u r') : Step P ⟨dst, .makeInterface t x, ty, pos, after, guard⟩ a w w0 S φ0 ι φ H nid v u := by
  rw [evK_eq] at h
  have hx := ht.ev x
  unfold Does at h
  split at h
  · exact h.elim
  · exact h.elim
  · rename_i h1 h2
    obtain ⟨rfl, rfl⟩ := does_valK h
    refine Step.pure_ hi (cv := .iface t (a.eval x)) ?_ (.ifc _ _ _ hx)
    have hg := hT.good (t := t) (fun e => h2 e)
    cases hd : T t <;> rw [hd] at hg <;> simp only [Good] at hg
    case struct => obtain ⟨⟨fields, hf, _⟩, _⟩ := hg; simp [execOp, Instr.makeInterface, run_underlying hf]
    case arr => obtain ⟨⟨el, hf, _⟩, _⟩ := hg; simp [execOp, Instr.makeInterface, run_underlying hf]
    case func => obtain ⟨⟨ps, rs, vv, hf⟩, _⟩ := hg; simp [execOp, Instr.makeInterface, run_underlying hf]
    case iface => exact absurd hd h1
    all_goals (simp [execOp, Instr.makeInterface, run_underlying hg.1])
end
end
end Go.AM

set_option linter.unusedVariables false
set_option linter.unusedSimpArgs false
set_option maxRecDepth 100000
namespace Go.AM
noncomputable section
open Go.RowKit

section
variable {P : Program} {T : TypeId → TD} {a : Act} {w w0 : World} {S : Nat → Prop} {φ0 : Prot} {ι : Map} {φ : Prot} {H : Nat → Blk} {nid : Nat} {v : Val} {u : Upd} {r r' : List Nat} {tm : List Val}
variable {dst : Option Tmp} {ty : TypeId} {pos : String} {after : Array Edge} {guard : Option (Nat × Bool)}

theorem Good.slice_ {e : TypeId} {sz by_ : Nat} {t : TypeId} (hT : TOk P T) (h : T t = .slice e sz by_) : P.underlying t = some (.slice e) ∧ ∃ i, P.info? e = some i ∧ i.size = sz ∧ i.bytes = by_ := by
  have hg : Good P (.slice e sz by_) t := h ▸ hT.good (by rw [h]; simp)
  simp only [Good] at hg
  exact ⟨hg.1, hg.2.1⟩
theorem made_row {zl : List Val} {zc : Array Value} {n m sz b : Nat} {e : TypeId} (hz : CellsOk ι φ zl zc.toList) (hl : zl.length = sz) (h0 : 0 < sz) (hcl : closedL zl = true) (hnm : n ≤ m) (hm : m ≤ 9223372036854775807)
    (hp : ∀ a v, φ a = some v → a.block < w.heap.size) :
    BlkOk (setM ι b (w.heap.size, m)) φ (w.alloc (.cells (madeCells zc (m * sz)) e)) b (.row e sz n (fun _ => zl) 0) := by
  have hzs : zc.size = sz := by rw [← Array.length_toList, hz.1, hl]
  have get : ∀ k, k < m * sz → (madeCells zc (m * sz)).getD k undef = zc.toList.getD (k % sz) undef := fun k hk => by
    have hq : k % sz < sz := Nat.mod_lt _ h0
    unfold madeCells
    rw [arr_getD, Array.getD_eq_getD_getElem?, Array.getElem?_map, Array.getElem?_range, if_pos hk, hzs]
    simp only [Option.map_some, Option.getD_some]
    rw [Array.getD_eq_getD_getElem?, getElem!_def, Array.getElem?_eq_getElem (by omega)]
    rfl
  refine ⟨w.heap.size, m, _, by simp [setM], heap_new _ _, h0, size_madeCells _ _, hnm, hm, Nat.zero_le _, fun i _ => hl, fun i j hi hj => ?_, fun k hk => ?_, fun off sp _ => ?_⟩
  · have hlt : i * sz + j < m * sz := by
      calc i * sz + j < i * sz + sz := by omega
        _ = (i + 1) * sz := by rw [Nat.add_mul, Nat.one_mul]
        _ ≤ m * sz := Nat.mul_le_mul_right _ (by omega)
    rw [get _ hlt, Nat.mul_comm i sz, Nat.mul_add_mod, Nat.mod_eq_of_lt hj]
    exact (hz.2 j (by omega)).2.closed_ (closedL_get hcl (by omega))
  · rw [size_madeCells] at hk
    rw [get _ hk]
    exact (hz.2 _ (by rw [hl]; exact Nat.mod_lt _ h0)).1
  · cases hx : φ ⟨w.heap.size, off, sp⟩ with
    | none => rfl
    | some v => have := hp _ v hx; simp at this

theorem sound_makeSlice {t : TypeId} {x y : Operand} (hT : TOk P T) (hi : Inv w0 S φ0 ι φ H w) (ht : TmOk ι φ tm a.tmps) (hn : (∃ x, (nid, x) ∈ u) → ι nid = none)
    (h : Does (evK tm x fun l => evK tm y fun c => makeSliceP T (T t) nid l c) H [] v u r') : Step P ⟨dst, .makeSlice t x y, ty, pos, after, guard⟩ a w w0 S φ0 ι φ H nid v u := by
  rw [evK_eq, evK_eq] at h
  have hx := ht.ev x
  have hy := ht.ev y
  unfold Does makeSliceP at h
  split at h
  case h_2 => exact h.elim
  rename_i e sz by_ n m hTt ex ey
  rw [ex] at hx
  rw [ey] at hy
  obtain ⟨hu, ie', hie', hs', hb'⟩ := Good.slice_ hT hTt
  obtain ⟨hbe, h⟩ := does_nb h
  unfold Does at h
  split at h
  case h_2 => exact h.elim
  rename_i hb
  simp only [Bool.and_eq_true, decide_eq_true_eq, beq_iff_eq] at hb
  obtain ⟨⟨h0, hsz⟩, hcl⟩ := hb
  obtain ⟨⟨hn0, hnm, hby, hm⟩, rfl, rfl, _⟩ := h
  have hn := hn ⟨_, List.mem_singleton.2 rfl⟩
  obtain ⟨ie, z, hie, hse, hz, hzc, _⟩ := (hT.good hbe).zok
  rw [hie] at hie'; injection hie' with e1; subst e1
  have hzo : CellsOk ι φ (T e).zero z.cells.toList := ⟨(hzc φ).1, fun k hk => ⟨((hzc φ).2 k hk).1, .c ((hzc φ).2 k hk).2⟩⟩
  have hr := run_make (P := P) w t e ie z hu hie hz .i64 .i64 n m hn0 hnm (by rw [Int.mul_comm, hb']; omega) (by omega)
  rw [hs'] at hr
  refine Step.alloc_ hi hn (c := m.toNat) (cv := .slice (some ⟨w.heap.size, 0, none⟩) n.toNat m.toNat) (ob := .cells (madeCells z.cells (m.toNat * sz)) e) ?_ (made_row hzo (by rw [TD.zero_length, hsz]) h0 hcl (by omega) (by omega) hi.prot_lt)
    (.row _ _ _ m.toNat (by simp [setM]) (by omega))
  simp only [execOp, hx.int_, hy.int_, Sem.run_bind, hr, Result.andThen_ok, Sem.run_pure]

/-- A slice that is read. -/
theorem seen_sound {x : Val} {ux : Value} {K : Nat → Nat → (Nat → List Val) → Prog} (hx : Rel ι φ x ux) (hs : Sim ι φ H w) (h : Does (seenP x K) H r v u r') :
    ∃ sz n g r2, Does (K sz n g) H r2 v u r' ∧ (∃ A c, ux = .slice A n c ∧ n ≤ c ∧ ((n = 0 ∧ A = none ∧ c = 0) ∨ ∃ B, A = some B ∧ (∀ i, i < n → (g i).length = sz) ∧
      ∀ i j, i < n → j < sz → ∃ y, w.cell? (B.add (i * sz + j)) = some y ∧ y.oneCell' = true ∧ RelC φ ((g i).getD j .und) y)) := by
  unfold Does seenP at h
  split at h
  · refine ⟨1, 0, _, _, h, none, 0, hx.nils_, Nat.le_refl _, .inl ⟨rfl, rfl, rfl⟩⟩
  · obtain ⟨A, e⟩ := hx.emp_
    cases A with
    | none => exact ⟨1, 0, _, _, h, none, 0, e, Nat.le_refl _, .inl ⟨rfl, rfl, rfl⟩⟩
    | some A => exact ⟨1, 0, _, _, h, some A, 0, e, Nat.le_refl _, .inr ⟨A, rfl, fun i hi => absurd hi (by omega), fun i j hi => absurd hi (by omega)⟩⟩
  · rename_i sz n g
    rcases hx.ext_ with ⟨rfl, e⟩ | ⟨A, c, vals, e, hc, hl, hφ, h1, hr⟩
    · exact ⟨sz, 0, g, _, h, none, 0, e, Nat.le_refl _, .inl ⟨rfl, rfl, rfl⟩⟩
    · exact ⟨sz, n, g, _, h, some A, c, e, hc, .inr ⟨A, rfl, hl, fun i j hi hj => ⟨_, hs.prot _ _ (hφ i j hi hj), h1 i j hi hj, hr i j hi hj⟩⟩⟩
  · rename_i b n
    obtain ⟨g, c, hm, hn, e⟩ := hx.row_
    simp only [Prog.run] at h
    split at h
    case h_2 => exact h.elim
    rename_i te sz m get pr hbk
    obtain ⟨hnm, h⟩ := h
    have hB := hs.blk b
    rw [hbk] at hB
    obtain ⟨arr, _, _, _, hmc, _, _, hl, hcell, _⟩ := blk_row hB hm
    exact ⟨sz, n, get, _, h, _, c, e, hn, .inr ⟨_, rfl, fun i hi => hl i (by omega), fun i j hi hj => ⟨_, by rw [add_eq, Nat.zero_add]; exact (hcell i j (by omega) hj).1, (hcell i j (by omega) hj).2⟩⟩⟩
  · exact h.elim

theorem seenQ_sound {x : Val} {ux : Value} {K : Nat → Nat → (Nat → List Val) → Prog} {J : Nat → List Val → Prog} (hx : Rel ι φ x ux) (hs : Sim ι φ H w) (h : Does (seenQ x K J) H r v u r') :
    Does (seenP x K) H r v u r' ∨ ∃ b n cs, x = .row b n ∧ H b = .cells cs ∧ Does (J n cs) H (b :: r) v u r' := by
  unfold Does seenQ at h
  unfold seenP
  split at h
  · exact .inl h
  · exact .inl h
  · exact .inl h
  · rename_i b n
    simp only [Prog.run] at h
    split at h
    · rename_i te sz m get pr hbk
      refine .inl ?_
      simp only [Does, Prog.run, hbk]
      exact h
    · rename_i cs hbk
      exact .inr ⟨b, n, cs, rfl, hbk, h⟩
    · exact h.elim
  · exact h.elim
theorem push_data (s : ByteArray) (b : UInt8) : (s.push b).data = s.data.push b := rfl
theorem foldl_push : ∀ (ns : List Int) (s : ByteArray), (ns.foldl (fun r n => r.push (UInt8.ofNat n.toNat)) s).data = s.data ++ (ns.map fun n => UInt8.ofNat n.toNat).toArray
  | [], s => by simp
  | n :: ns, s => by rw [List.foldl_cons, foldl_push ns, push_data]; apply Array.ext'; simp
theorem bytes_run {A : Addr} {n c : Nat} {g : Nat → List Val} (hb : ∀ i, i < n → isByte (g i)) (hc : ∀ i, i < n → ∃ y, w.cell? (A.add i) = some y ∧ ∀ k m, g i = [.int k m] → y = .int k m) :
    (Conv.bytesToString (.slice (some A) n c)).run P w = .ok (.string (bytesStr n g)) w := by
  let f : Nat → Int := fun i => match g i with | [.int _ m] => m | _ => 0
  have hf : ∀ i, i < n → w.cell? (A.add i) = some (.int .u8 (f i)) := fun i hi => by
    obtain ⟨m, hm⟩ := hb i hi
    obtain ⟨y, hy, hv⟩ := hc i hi
    rw [hy, hv _ _ hm]
    simp only [f, hm]
  have hl := run_loadCells (P := P) w A n (fun i => .int .u8 (f i)) hf
  have hr := run_bytesToString (P := P) w A n c ((List.range n).map f) (by rw [hl]; congr 1; apply Array.ext'; simp [List.map_map, Function.comp_def])
  rw [hr]
  congr 2
  have e : ((List.range n).map f).foldl (fun r n => r.push (UInt8.ofNat n.toNat)) ByteArray.empty = bytesStr n g := by
    have h1 := foldl_push ((List.range n).map f) ByteArray.empty
    have h2 : (bytesStr n g).data = ByteArray.empty.data ++ (((List.range n).map f).map fun n => UInt8.ofNat n.toNat).toArray := by
      simp only [bytesStr, List.map_map]
      have : ByteArray.empty.data = #[] := rfl
      rw [this, Array.empty_append]
      congr 1
      refine List.map_congr_left fun i hi => ?_
      obtain ⟨m, hm⟩ := hb i (List.mem_range.1 hi)
      simp only [Function.comp_def, f, hm, byteOf]
    generalize ((List.range n).map f).foldl (fun r n => r.push (UInt8.ofNat n.toNat)) ByteArray.empty = x at h1
    rw [← h2] at h1
    cases x; cases hbs : bytesStr n g; rw [hbs] at h1; simp only at h1; rw [h1]
  rw [e]

theorem strOfK_ok : ∀ {c : List Val} {K : List UInt8 → Prog}, Does (strOfK c K) H r v u r' → ∃ ns : List Int, c = ns.map (.int .u8) ∧ Does (K (ns.map fun n => UInt8.ofNat n.toNat)) H r v u r'
  | [], K, h => ⟨[], rfl, h⟩
  | x :: l, K, h => by
    have key : ∀ (k : IntKind) (n : Int), x = .int k n → k = .u8 → ∃ ns : List Int, x :: l = ns.map (.int .u8) ∧ Does (K (ns.map fun n => UInt8.ofNat n.toNat)) H r v u r' := by
      rintro k n rfl rfl
      have h : Does (strOfK l fun bs => K (UInt8.ofNat n.toNat :: bs)) H r v u r' := h
      obtain ⟨ns, e, h⟩ := strOfK_ok h
      exact ⟨n :: ns, by rw [e]; rfl, h⟩
    cases x <;> first | exact h.elim | skip
    rename_i k n
    cases k <;> first | exact h.elim | exact key _ _ rfl rfl
theorem Rel.asl_ {b off n : Nat} {ux : Value} (h : Rel ι φ (.asl b off n) ux) : ∃ g c cap, ι b = some (g, c) ∧ n ≤ cap ∧ ux = .slice (some ⟨g, off, none⟩) n cap := by
  cases h with
  | c h => cases h
  | asl _ _ _ g c cap h hn => exact ⟨g, c, cap, h, hn, rfl⟩
/-- New memory that is never written again. -/
theorem Inv.shelter (h : Inv w0 S φ0 ι φ H w) {w' : World} {φ' : Prot} (hos : w'.os = w.os) (htape : w'.tape = w.tape) (hout : w'.output = w.output) (hsize : w.heap.size ≤ w'.heap.size)
    (hold : ∀ g, g < w.heap.size → w'.heap[g]? = w.heap[g]?) (hφ : ∀ a, a.block < w.heap.size → φ' a = φ a) (hnew : ∀ a v, φ' a = some v → w.heap.size ≤ a.block → w'.cell? a = some v) : Inv w0 S φ0 ι φ' H w' := by
  have hlt : ∀ a v, φ a = some v → a.block < w.heap.size := fun a v e => cell_lt (h.sim.prot a v e)
  have hle : ProtLe φ φ' := fun a v e => by rw [hφ a (hlt a v e)]; exact e
  have hcell : ∀ a : Addr, a.block < w.heap.size → w'.cell? a = w.cell? a := fun a ha => by simp only [World.cell?, hold a.block ha]
  refine ⟨⟨fun b => ?_, h.sim.inj, fun a v e => ?_⟩, ⟨hos.trans h.keep.os, htape.trans h.keep.tape, hout.trans h.keep.output, Nat.le_trans h.keep.size hsize, fun g hg hs => ?_⟩, h.own, fun a ha => ?_, h.le.trans hle⟩
  · have hp : ∀ g c, ι b = some (g, c) → H b ≠ .gone → g < w.heap.size := fun g c e hg => by
      obtain ⟨g', c', e', hl⟩ := (h.sim.blk b).place hg
      rw [e] at e'; injection e' with e'; injection e' with e1 _; omega
    exact (h.sim.blk b).mono (.refl _) hle (fun g c e hg => hold g (hp g c e hg)) (fun g c e hg off sp hn => by rw [hφ ⟨g, off, sp⟩ (hp g c e hg)]; exact hn)
  · rcases Nat.lt_or_ge a.block w.heap.size with hl | hl
    · rw [hcell a hl]; exact h.sim.prot a v (by rw [← hφ a hl]; exact e)
    · exact hnew a v e hl
  · rw [hold g (by have := h.keep.size; omega)]; exact h.keep.block g hg hs
  · rcases Nat.lt_or_ge a.block w.heap.size with hl | hl
    · exact h.new a (by rw [← hφ a hl]; exact ha)
    · exact .inr (.inr (by have := h.keep.size; omega))
theorem sound_toBytes {s t : TypeId} {x : Operand} {z : ByteArray} {e : TypeId} {us : TypeDesc} (hi : Inv w0 S φ0 ι φ H w) (hx : a.eval x = .string z) (hs : P.underlying s = some us) (hd : P.underlying t = some (.slice e)) (he : P.underlying e = some (.int .u8)) :
    Step P ⟨dst, .convert s t x, ty, pos, after, guard⟩ a w w0 S φ0 ι φ H nid (.ext 1 z.size fun i => [.int .u8 (bt z i)]) [] := by
  let φ' : Prot := fun q => if q.block = w.heap.size ∧ q.spot = none ∧ q.off < z.size then some (.int .u8 (bt z q.off)) else φ q
  have hbt : ∀ j, j < z.size → bt z (j : Nat) = ((z.data.toList.getD j 0).toNat : Int) := fun j hj => by
    unfold bt
    have hj' : j < z.data.toList.length := by simpa using hj
    rw [Int.toNat_natCast, List.getElem?_eq_getElem hj', List.getD_eq_getElem?_getD, List.getElem?_eq_getElem hj']; rfl
  have hlt : ∀ q v, φ q = some v → q.block < w.heap.size := fun q v e => cell_lt (hi.sim.prot q v e)
  have hle : ProtLe φ φ' := fun q v e => by
    have := hlt q v e
    simp only [φ']; rw [if_neg (by omega)]; exact e
  have hcell : ∀ q v, φ' q = some v → w.heap.size ≤ q.block → (Lib.bytesWorld w e z).cell? q = some v := fun q v hq hl => by
    simp only [φ'] at hq
    split at hq
    · rename_i hc
      obtain ⟨qb, qo, qs⟩ := q
      simp only at hc; obtain ⟨rfl, rfl, hlt⟩ := hc
      injection hq with hq; subst hq
      rw [Lib.bytesWorld_cell w e z qo hlt, hbt qo hlt]
    · have := hlt q v hq; omega
  have hI : Inv w0 S φ0 ι φ' H (Lib.bytesWorld w e z) := hi.shelter (by simp [Lib.bytesWorld, World.freeze, World.alloc, World.drew, -World.alloc_eq, -World.drew_eq]) (by simp [Lib.bytesWorld, World.freeze, World.alloc, World.drew, -World.alloc_eq, -World.drew_eq])
    (by simp [Lib.bytesWorld, World.freeze, World.alloc, World.drew, -World.alloc_eq, -World.drew_eq]) (by rw [Lib.bytesWorld_size]; omega) (fun g hg => Lib.bytesWorld_at_old w e z g hg)
    (fun q hq => by simp only [φ']; rw [if_neg (by omega)]) hcell
  have hcap : z.size ≤ grownCap w z.size 0 e := grownCap_ge w _ _ _
  refine ⟨.value (.slice (some ⟨w.heap.size, 0, none⟩) z.size (grownCap w z.size 0 e)), _, _, ι, φ', ?_, .inl rfl, .c (.ext 1 z.size _ _ _ (fun i _ => .int .u8 (bt z i)) hcap (fun _ _ => rfl) (fun i j h0 h1 => ?_) (fun _ _ _ _ => rfl) (fun i j _ h1 => ?_)), hI, .refl _, hle, fun _ _ => rfl⟩
  · simp [execOp, hx, Lib.run_convert_string_bytes w s t e z hs hd he]
  · have : j = 0 := by omega
    subst this
    simp only [φ', add_eq, Nat.zero_add, Nat.mul_one, Nat.add_zero]
    rw [if_pos ⟨trivial, trivial, h0⟩]
  · have : j = 0 := by omega
    subst this
    exact .int .u8 _
theorem sound_convert {s t : TypeId} {x : Operand} (hT : TOk P T) (hi : Inv w0 S φ0 ι φ H w) (ht : TmOk ι φ tm a.tmps) (h : Does (evK tm x fun x => convP T (T s) (T t) x) H [] v u r') :
    Step P ⟨dst, .convert s t x, ty, pos, after, guard⟩ a w w0 S φ0 ι φ H nid v u := by
  rw [evK_eq] at h
  have hx := ht.ev x
  generalize evV tm x = vx at h hx
  unfold Does convP at h
  have byteT : ∀ {e : TypeId}, T e = .int .u8 → P.underlying e = some (.int .u8) := fun {e} he => by
    have hg : Good P (.int .u8) e := he ▸ hT.good (by rw [he]; simp)
    simp only [Good] at hg; exact hg.1
  have strT : T t = .str → P.underlying t = some .string := fun he => by
    have hg : Good P .str t := he ▸ hT.good (by rw [he]; simp)
    simp only [Good] at hg; exact hg.1
  split at h
  · rename_i k0 k k' n hTs hTt
    obtain ⟨rfl, rfl⟩ := does_valK h
    have hg : Good P (.int k) t := hTt ▸ hT.good (by rw [hTt]; simp)
    have hg2 : Good P (.int k0) s := hTs ▸ hT.good (by rw [hTs]; simp)
    simp only [Good] at hg hg2
    refine Step.pure_ hi (cv := .int k (k.wrap n)) ?_ (.c (.int _ _))
    simp [execOp, hx.int_, convert, run_underlying hg.1, run_underlying hg2.1, Conv.intToInt]
  · rename_i z hTs hTt
    obtain ⟨rfl, rfl⟩ := does_valK h
    have hg : Good P .str s := hTs ▸ hT.good (by rw [hTs]; simp)
    simp only [Good] at hg
    refine Step.pure_ hi (cv := .string z) ?_ (.c (.str _))
    simp [execOp, hx.str_, convert, run_underlying hg.1, run_underlying (strT hTt)]
  · rename_i e by_ z hTs hTt
    split at h
    case h_2 => exact h.elim
    rename_i he
    obtain ⟨rfl, rfl⟩ := does_valK h
    have hg : Good P .str s := hTs ▸ hT.good (by rw [hTs]; simp)
    have hg2 : Good P (.slice e 1 by_) t := hTt ▸ hT.good (by rw [hTt]; simp)
    simp only [Good] at hg hg2
    exact sound_toBytes hi hx.str_ hg.1 hg2.1 (byteT he)
  · rename_i e by_ bl off n hTs hTt
    obtain ⟨hu, _⟩ := Good.slice_ hT hTs
    split at h
    case h_2 => exact h.elim
    rename_i he
    simp only [Prog.run] at h
    split at h
    case h_2 => exact h.elim
    rename_i cs hbk
    rw [dropK_eq, takeK_eq] at h
    split at h
    case h_2 => exact h.elim
    rename_i hl
    rw [beq_iff_eq] at hl
    obtain ⟨ns, hns, h⟩ := strOfK_ok h
    obtain ⟨rfl, rfl⟩ := does_valK h
    obtain ⟨g, c, cap, hm, hn, hux⟩ := hx.asl_
    have hB := hi.sim.blk bl
    rw [hbk] at hB
    obtain ⟨arr, t', hh, hs, _, hcell⟩ := blk_cell hB hm
    have hfit : n = 0 ∨ off + n ≤ cs.length := by rw [List.length_take, List.length_drop] at hl; omega
    have hnl : ns.length = n := by rw [← hl, hns, List.length_map]
    have hget : ∀ i, i < n → cs.getD (off + i) .und = .int .u8 (ns.getD i 0) := fun i hin => by
      rw [← getD_drop, ← getD_take hin, hns, List.getD_eq_getElem?_getD, List.getElem?_map, List.getElem?_eq_getElem (by omega), List.getD_eq_getElem?_getD, List.getElem?_eq_getElem (by omega)]; rfl
    have hr := bytes_run (P := P) (w := w) (A := ⟨g, off, none⟩) (n := n) (c := cap) (g := fun i => [.int .u8 (ns.getD i 0)]) (fun i _ => ⟨_, rfl⟩) (fun i hin => ⟨_, by rw [add_eq]; exact (hcell (off + i) (by omega)).1, fun k m e => by
      simp only [List.cons.injEq, and_true] at e
      have hrel := (hcell (off + i) (by omega)).2.2
      rw [hget i hin, e] at hrel
      exact hrel.int_⟩)
    have hstr : bytesStr n (fun i => [.int .u8 (ns.getD i 0)]) = ⟨(ns.map fun n => UInt8.ofNat n.toNat).toArray⟩ := by
      unfold bytesStr
      congr 2
      apply List.ext_getElem?
      intro i
      rw [List.getElem?_map, List.getElem?_map]
      rcases Nat.lt_or_ge i n with h | h
      · rw [List.getElem?_range h, List.getElem?_eq_getElem (by omega)]
        simp [byteOf, List.getD_eq_getElem?_getD, List.getElem?_eq_getElem (by omega : i < ns.length)]
      · rw [List.getElem?_eq_none (by simpa using h), List.getElem?_eq_none (by omega)]; rfl
    rw [hstr] at hr
    refine Step.pure_ hi (cv := .string ⟨(ns.map fun n => UInt8.ofNat n.toNat).toArray⟩) ?_ (.c (.str _))
    simp [execOp, hux, convert, run_underlying hu, run_underlying (strT hTt), run_underlying (byteT he), hr]
  · rename_i e by_ hTs hTt _
    obtain ⟨hu, _⟩ := Good.slice_ hT hTs
    split at h
    case h_2 => exact h.elim
    rename_i he
    obtain ⟨sz, n, g, r2, h, A, c, hux, hnc, hcs⟩ := seen_sound hx hi.sim h
    unfold Does at h
    split at h
    case h_2 => exact h.elim
    rename_i hsz
    rw [beq_iff_eq] at hsz; subst hsz
    obtain ⟨hby, h⟩ := h
    obtain ⟨rfl, rfl⟩ := does_valK h
    refine Step.pure_ hi (cv := .string (bytesStr n g)) ?_ (.c (.str _))
    rcases hcs with ⟨rfl, rfl, rfl⟩ | ⟨B, rfl, hl, hcell⟩
    · have : bytesStr 0 g = ByteArray.empty := rfl
      simp [execOp, hux, convert, run_underlying hu, run_underlying (strT hTt), run_underlying (byteT he), Conv.bytesToString, this]
    · have hr := bytes_run (P := P) (w := w) (A := B) (n := n) (c := c) (g := g) hby (fun i hin => by
        obtain ⟨y, hy, _, hrel⟩ := hcell i 0 hin (by omega)
        refine ⟨y, by simpa using hy, fun k m e => ?_⟩
        rw [e] at hrel
        exact (Rel.c (ι := ι) hrel).int_)
      simp [execOp, hux, convert, run_underlying hu, run_underlying (strT hTt), run_underlying (byteT he), hr]
  · rename_i k0 k n hTs hTt
    obtain ⟨⟨h0, h1⟩, h⟩ := h
    obtain ⟨rfl, rfl⟩ := does_valK h
    have hg2 : Good P (.int k0) s := hTs ▸ hT.good (by rw [hTs]; simp)
    simp only [Good] at hg2
    have he : Utf8.encode n = ⟨#[UInt8.ofNat n.toNat]⟩ := by
      have hv : Utf8.valid n = true := by
        unfold Utf8.valid
        rw [Bool.or_eq_true, Bool.and_eq_true, decide_eq_true_eq, decide_eq_true_eq]
        exact .inl ⟨h0, by omega⟩
      unfold Utf8.encode
      simp only [hv, if_true]
      rw [if_pos (show n.toNat < 128 by omega)]
    refine Step.pure_ hi (cv := .string ⟨#[UInt8.ofNat n.toNat]⟩) ?_ (.c (.str _))
    simp [execOp, hx.int_, convert, run_underlying hg2.1, run_underlying (strT hTt), Conv.intToString, he]
  · exact h.elim
end
end
end Go.AM

set_option linter.unusedVariables false
set_option linter.unusedSimpArgs false
set_option maxRecDepth 100000
namespace Go.AM
noncomputable section
open Go.RowKit

section
variable {P : Program} {T : TypeId → TD} {a : Act} {w w0 : World} {S : Nat → Prop} {φ0 : Prot} {ι : Map} {φ : Prot} {H : Nat → Blk} {nid : Nat} {v : Val} {u : Upd} {r r' : List Nat} {tm : List Val}
variable {dst : Option Tmp} {ty : TypeId} {pos : String} {after : Array Edge} {guard : Option (Nat × Bool)}

def OptRel (ι : Map) (φ : Prot) : Option Val → Option Value → Prop
  | none, none => True
  | some v, some u => Rel ι φ v u
  | _, _ => False
theorem TmOk.opt (ht : TmOk ι φ tm a.tmps) (x : Option Operand) : OptRel ι φ (x.map (evV tm)) (x.map a.eval) := by
  cases x with
  | none => trivial
  | some x => exact ht.ev x
theorem bound_run {k : IntKind} {i : Int} {y : Nat} {code : BoundsCode} (h0 : 0 ≤ i) (h1 : i ≤ y) : (Instr.sliceBound (.int k i) y code).run P w = .ok i.toNat w := by
  simp [Instr.sliceBound, asIntOf, h0, h1]
theorem boundK_sound {o : Option Val} {o' : Option Value} (ho : OptRel ι φ o o') {d : Int} {K : Int → Prog} (h : Does (boundK o d K) H r v u r') :
    ∃ i, Does (K i) H r v u r' ∧ ((o' = none ∧ i = d) ∨ ∃ k, o' = some (.int k i)) := by
  unfold Does boundK at h
  split at h
  · cases o' with
    | none => exact ⟨d, h, .inl ⟨rfl, rfl⟩⟩
    | some _ => exact ho.elim
  · cases o' with
    | none => exact ho.elim
    | some u' => exact ⟨_, h, .inr ⟨_, by rw [Rel.int_ ho]⟩⟩
  · exact h.elim
theorem bounds_run {lo hi : Option Value} {l h : Int} {n cap : Nat} (hl : (lo = none ∧ l = 0) ∨ ∃ k, lo = some (.int k l)) (hh : (hi = none ∧ h = n) ∨ ∃ k, hi = some (.int k h)) (h0 : 0 ≤ l) (h1 : l ≤ h) (h2 : h ≤ n) (h3 : n ≤ cap) (isS : Bool) :
    (Instr.sliceBounds isS n cap lo hi none).run P w = .ok (l.toNat, h.toNat, cap) w := by
  have b1 : ∀ k c, (Instr.sliceBound (.int k h) cap c).run P w = .ok h.toNat w := fun k c => bound_run (by omega) (by omega)
  have b2 : ∀ k c, (Instr.sliceBound (.int k l) h.toNat c).run P w = .ok l.toNat w := fun k c => bound_run (by omega) (by omega)
  have b3 : ∀ k c, h = n → (Instr.sliceBound (.int k l) n c).run P w = .ok l.toNat w := fun k c e => bound_run (by omega) (by omega)
  rcases hl with ⟨rfl, rfl⟩ | ⟨k, rfl⟩ <;> rcases hh with ⟨rfl, rfl⟩ | ⟨k', rfl⟩
  · simp [Instr.sliceBounds]
  · simp [Instr.sliceBounds, b1]
  · simp [Instr.sliceBounds, b3]
  · simp [Instr.sliceBounds, b1, b2]

theorem ext_sub {sz n c : Nat} {get : Nat → List Val} {A : Addr} {vals : Nat → Nat → Value} (hc : n ≤ c) (hl : ∀ i, i < n → (get i).length = sz) (hφ : ∀ i j, i < n → j < sz → φ (A.add (i * sz + j)) = some (vals i j))
    (h1 : ∀ i j, i < n → j < sz → (vals i j).oneCell' = true) (hr : ∀ i j, i < n → j < sz → RelC φ ((get i).getD j .und) (vals i j)) {l h : Nat} (hlh : l ≤ h) (hhn : h ≤ n) :
    Rel ι φ (.ext sz (h - l) fun i => get (i + l)) (.slice (some (if c = l then A else A.add (l * sz))) (h - l) (c - l)) := by
  by_cases hcl : c = l
  · rw [if_pos hcl]
    have : h - l = 0 := by omega
    rw [this]
    exact .c (.ext _ _ _ _ _ (fun _ _ => undef) (Nat.zero_le _) (fun i hi => absurd hi (by omega)) (fun i j hi => absurd hi (by omega)) (fun i j hi => absurd hi (by omega)) (fun i j hi => absurd hi (by omega)))
  · rw [if_neg hcl]
    refine .c (.ext _ _ _ _ _ (fun i j => vals (i + l) j) (by omega) (fun i hi => hl _ (by omega)) (fun i j hi hj => ?_) (fun i j hi hj => h1 _ _ (by omega) hj) (fun i j hi hj => hr _ _ (by omega) hj))
    rw [add_add, show l * sz + (i * sz + j) = (i + l) * sz + j by rw [Nat.add_mul]; omega]
    exact hφ _ _ (by omega) hj

theorem sound_slice {t : TypeId} {x : Operand} {lo hi mx : Option Operand} (hT : TOk P T) (hI : Inv w0 S φ0 ι φ H w) (ht : TmOk ι φ tm a.tmps)
    (h : Does (evK tm x fun x => optK tm lo fun lo => optK tm hi fun hi => optK tm mx fun mx => sliceP (T t) x lo hi mx) H [] v u r') :
    Step P ⟨dst, .slice t x lo hi mx, ty, pos, after, guard⟩ a w w0 S φ0 ι φ H nid v u := by
  rw [evK_eq, optK_eq, optK_eq, optK_eq] at h
  have hx := ht.ev x
  have hlo := ht.opt lo
  have hhi := ht.opt hi
  have hmx := ht.opt mx
  have hex : (execOp a.eval ⟨dst, .slice t x lo hi mx, ty, pos, after, guard⟩).run P w = (do pure (Next.value (← Instr.sliceAt t (a.eval x) (lo.map a.eval) (hi.map a.eval) (mx.map a.eval)))).run P w := rfl
  have sliceT : ∀ {e sz by_}, T t = .slice e sz by_ → P.underlying t = some (.slice e) ∧ ∀ W : World, (sizeOf e).run P W = .ok sz W := fun {e sz by_} he => by
    obtain ⟨hu, i, hi, hs, _⟩ := Good.slice_ hT he
    exact ⟨hu, fun W => by simp [sizeOf, run_info hi, hs]⟩
  generalize evV tm x = vx at h hx
  generalize lo.map (evV tm) = vlo at h hlo
  generalize hi.map (evV tm) = vhi at h hhi
  generalize mx.map (evV tm) = vmx at h hmx
  generalize a.eval x = cx at hx hex
  generalize lo.map a.eval = clo at hlo hex
  generalize hi.map a.eval = chi at hhi hex
  generalize mx.map a.eval = cmx at hmx hex
  unfold Does sliceP at h
  split at h
  · cases cmx with
    | some _ => exact hmx.elim
    | none =>
    clear hmx
    split at h
    · -- a string
      rename_i s
      split at h
      case h_2 => exact h.elim
      rename_i hTt
      obtain ⟨l, h, hl⟩ := boundK_sound hlo h
      obtain ⟨h', h, hh⟩ := boundK_sound hhi h
      obtain ⟨⟨h0, h1, h2⟩, h⟩ := h
      obtain ⟨rfl, rfl⟩ := does_valK h
      have hg : Good P .str t := hTt ▸ hT.good (by rw [hTt]; simp)
      simp only [Good] at hg
      refine Step.pure_ hI (cv := .string (s.extract l.toNat h'.toNat)) ?_ (.c (.str _))
      rw [hex, hx.str_]
      simp [Instr.sliceAt, run_underlying hg.1, Instr.slice, bounds_run hl hh h0 h1 h2 (Nat.le_refl _)]
    · -- outer memory
      rename_i sz n g
      split at h
      case h_2 => exact h.elim
      rename_i e sz' by_ hTt
      obtain ⟨hu, hsz⟩ := sliceT hTt
      split at h
      case h_2 => exact h.elim
      rename_i hs
      rw [beq_iff_eq] at hs; subst hs
      obtain ⟨l, h, hl⟩ := boundK_sound hlo h
      obtain ⟨h', h, hh⟩ := boundK_sound hhi h
      obtain ⟨⟨h0, h1, h2⟩, h⟩ := h
      obtain ⟨rfl, rfl⟩ := does_valK h
      rcases hx.ext_ with ⟨rfl, rfl⟩ | ⟨A, c, vals, rfl, hc, hlen, hφ, hone, hr⟩
      · have e1 : h'.toNat - l.toNat = 0 := by omega
        refine Step.pure_ hI (cv := .slice none 0 0) ?_ (by rw [e1]; exact .c (.extNil _ _))
        rw [hex]
        have e2 : l = 0 := by omega
        have e3 : h' = 0 := by omega
        subst e2; subst e3
        have := bounds_run (P := P) (w := w) (n := 0) (cap := 0) hl hh h0 h1 h2 (Nat.le_refl _) true
        simp [Instr.sliceAt, run_underlying hu, Instr.slice, hsz, this]
      · refine Step.pure_ hI (cv := .slice (some (if c = l.toNat then A else A.add (l.toNat * sz))) (h'.toNat - l.toNat) (c - l.toNat)) ?_ (ext_sub hc hlen hφ hone hr (by omega) (by omega))
        rw [hex]
        have := bounds_run (P := P) (w := w) (n := n) (cap := c) hl hh h0 h1 h2 hc true
        simp only [Instr.sliceAt, Sem.run_bind, run_underlying hu, Instr.slice, Result.andThen_ok, hsz, this, Sem.run_pure, Option.map_some]
        split <;> rfl
    · -- nil
      split at h
      case h_2 => exact h.elim
      rename_i e sz' by_ hTt
      obtain ⟨hu, hsz⟩ := sliceT hTt
      obtain ⟨l, h, hl⟩ := boundK_sound hlo h
      obtain ⟨h', h, hh⟩ := boundK_sound hhi h
      obtain ⟨⟨e1, e2⟩, h5⟩ := h
      obtain ⟨rfl, rfl⟩ := does_valK h5
      subst e1; subst e2
      refine Step.pure_ hI (cv := .slice none 0 0) ?_ (.c .nils)
      rw [hex, hx.nils_]
      have := bounds_run (P := P) (w := w) (n := 0) (cap := 0) hl hh (Int.le_refl _) (Int.le_refl _) (Int.le_refl _) (Nat.le_refl _) true
      simp [Instr.sliceAt, run_underlying hu, Instr.slice, hsz, this]
    · -- a row of the call's own, lent
      rename_i b n
      split at h
      case h_2 => exact h.elim
      rename_i e sz' by_ hTt
      obtain ⟨hu, hsz⟩ := sliceT hTt
      obtain ⟨g, c, hm, hnc, rfl⟩ := hx.row_
      simp only [Prog.run] at h
      split at h
      case h_2 => exact h.elim
      rename_i te sz m get pr hbk
      split at h
      case h_2 => exact h.elim
      rename_i hs
      rw [beq_iff_eq] at hs; subst hs
      obtain ⟨l, h, hl⟩ := boundK_sound hlo h
      obtain ⟨h', h, hh⟩ := boundK_sound hhi h
      obtain ⟨⟨h0, h1, h2, h3⟩, rfl, rfl, _⟩ := h
      have hB := hI.sim.blk b
      rw [hbk] at hB
      obtain ⟨arr, hheap, hz0, hs, hmc, hcm, hpr, hlen, hcell, hone, hf⟩ := blk_row hB hm
      let φ' : Prot := fun q => if q.block = g ∧ q.spot = none ∧ q.off < max pr h'.toNat * sz then some (arr.getD q.off undef) else φ q
      have hmax : max pr h'.toNat ≤ m := by omega
      have hmsz : max pr h'.toNat * sz ≤ c * sz := Nat.mul_le_mul_right _ (by omega)
      have hold : ∀ q z, φ q = some z → q.block = g → q.spot = none ∧ q.off < pr * sz ∧ arr.getD q.off undef = z := fun q z hq hqb => by
        have h4 := hI.sim.prot q z hq
        obtain ⟨qb, qo, qs⟩ := q
        simp only at hqb; subst hqb
        have h5 : qo < pr * sz := by
          rcases Nat.lt_or_ge qo (pr * sz) with h | h
          · exact h
          · rw [hf qo qs h] at hq; cases hq
        simp only [World.cell?, hheap] at h4
        split at h4
        · cases h4
        · rename_i hsp
          refine ⟨by simpa using hsp, h5, ?_⟩
          rw [Array.getD_eq_getD_getElem?, h4]; rfl
      have hle : ProtLe φ φ' := fun q z hq => by
        simp only [φ']
        by_cases hqb : q.block = g
        · obtain ⟨h4, h5, h6⟩ := hold q z hq hqb
          have : pr * sz ≤ max pr h'.toNat * sz := Nat.mul_le_mul_right _ (by omega)
          rw [if_pos ⟨hqb, h4, by omega⟩, h6]
        · rw [if_neg (fun hh => hqb hh.1)]; exact hq
      have hin : ∀ i j, i < h'.toNat → j < sz → φ' ((⟨g, 0, none⟩ : Addr).add (i * sz + j)) = some (arr.getD (i * sz + j) undef) := fun i j hi hj => by
        have : i * sz + j < max pr h'.toNat * sz := by
          calc i * sz + j < i * sz + sz := by omega
            _ = (i + 1) * sz := by rw [Nat.add_mul, Nat.one_mul]
            _ ≤ max pr h'.toNat * sz := Nat.mul_le_mul_right _ (by omega)
        simp only [φ', add_eq, Nat.zero_add]
        rw [if_pos ⟨trivial, trivial, this⟩]
      have hcellφ : ∀ i j, i < h'.toNat → j < sz → RelC φ' ((get i).getD j .und) (arr.getD (i * sz + j) undef) := fun i j hi hj => (hcell i j (by omega) hj).2.2.mono hle
      refine ⟨.value (.slice (some (if c = l.toNat then ⟨g, 0, none⟩ else (⟨g, 0, none⟩ : Addr).add (l.toNat * sz))) (h'.toNat - l.toNat) (c - l.toNat)), _, w, ι, φ', ?_, .inl rfl,
        ext_sub (n := h'.toNat) (by omega) (fun i hi => hlen i (by omega)) hin (fun i j hi hj => (hcell i j (by omega) hj).2.1) hcellφ (by omega) (Nat.le_refl _),
        hI.lend hm (by rw [hbk]; simp) hle (fun q hq => by simp only [φ']; rw [if_neg (fun hh => hq hh.1)]) (fun q z hq hqb => ?_) ?_, .refl _, hle, fun _ _ => rfl⟩
      · rw [hex]
        have := bounds_run (P := P) (w := w) (n := n) (cap := c) hl hh h0 h1 h2 hnc true
        simp only [Instr.sliceAt, Sem.run_bind, run_underlying hu, Instr.slice, Result.andThen_ok, hsz, this, Sem.run_pure, Option.map_some]
        split <;> rfl
      · simp only [φ'] at hq
        split at hq
        · rename_i hh
          obtain ⟨qb, qo, qs⟩ := q
          simp only at hh hqb; obtain ⟨rfl, rfl, hlt⟩ := hh
          injection hq with hq; subst hq
          simp only [World.cell?, hheap]
          rw [Array.getD_eq_getD_getElem?, Array.getElem?_eq_getElem (by omega)]
          simp
        · exact hI.sim.prot q z hq
      · refine ⟨g, c, arr, hm, hheap, hz0, hs, hmc, hcm, hmax, hlen, fun i j hi hj => (hcell i j hi hj).2.2.mono hle, hone, fun off sp ho => ?_⟩
        simp only [φ']
        rw [if_neg (by simp; omega)]
        have : pr * sz ≤ max pr h'.toNat * sz := Nat.mul_le_mul_right _ (by omega)
        exact hf off sp (by omega)
    · -- an array of the call's own
      rename_i b off
      obtain ⟨g, c, hm, rfl⟩ := hx.ptr_
      split at h
      case h_2 => exact h.elim
      rename_i n e hTt
      have hg : Good P (.arr n e) t := hTt ▸ hT.good (by rw [hTt]; simp)
      simp only [Good] at hg
      obtain ⟨⟨el, hu, hge⟩, _⟩ := hg
      split at h
      case h_2 => exact h.elim
      rename_i hs
      rw [beq_iff_eq] at hs
      obtain ⟨l, h, hl⟩ := boundK_sound hlo h
      obtain ⟨h', h, hh⟩ := boundK_sound hhi h
      obtain ⟨⟨h0, hln, h1, h2⟩, h⟩ := h
      obtain ⟨rfl, rfl⟩ := does_valK h
      refine Step.pure_ hI (cv := .slice (some ⟨g, off + l.toNat, none⟩) (h'.toNat - l.toNat) (n - l.toNat)) ?_ (.asl _ _ _ g c _ hm (by omega))
      rw [hex]
      have := bounds_run (P := P) (w := w) (n := n) (cap := n) hl hh h0 h1 h2 (Nat.le_refl _) false
      have hne : ¬ n = l.toNat := by omega
      simp [Instr.sliceAt, run_underlying hu, Instr.sureAddr, this, hge.size_run, hs, hne, add_eq]
    · exact h.elim
  · -- s[:0:0]
    rename_i k
    cases cmx with
    | none => exact hmx.elim
    | some cm =>
    have hmx : Rel ι φ (.int k 0) cm := hmx
    rw [hmx.int_] at hex
    split at h
    case h_2 => exact h.elim
    rename_i k' e sz by_ hTt
    obtain ⟨hu, hsz⟩ := sliceT hTt
    cases clo with
    | some _ => exact hlo.elim
    | none =>
    cases chi with
    | none => exact hhi.elim
    | some ch =>
    have hhi : Rel ι φ (.int k' 0) ch := hhi
    rw [hhi.int_] at hex
    have b1 : ∀ y c, (Instr.sliceBound (.int k 0) y c).run P w = .ok 0 w := fun y c => by rw [bound_run (Int.le_refl _) (by omega)]; rfl
    have b2 : ∀ y c, (Instr.sliceBound (.int k' 0) y c).run P w = .ok 0 w := fun y c => by rw [bound_run (Int.le_refl _) (by omega)]; rfl
    have fin : ∀ {A : Option Addr} {n c : Nat}, cx = .slice A n c → Rel ι φ v (.slice A 0 0) → u = [] → Step P ⟨dst, .slice t x lo hi mx, ty, pos, after, guard⟩ a w w0 S φ0 ι φ H nid v u := by
      intro A n c he hv hu'
      subst hu'
      refine Step.pure_ hI (cv := .slice A 0 0) ?_ hv
      rw [hex, he]
      simp [Instr.sliceAt, run_underlying hu, Instr.slice, Instr.sliceBounds, hsz, b1, b2]
    split at h
    · obtain ⟨rfl, rfl⟩ := does_valK h
      exact fin hx.nils_ (.c .nils) rfl
    · obtain ⟨rfl, rfl⟩ := does_valK h
      obtain ⟨A, e⟩ := hx.emp_
      exact fin e (.c (.emp A)) rfl
    · obtain ⟨rfl, rfl⟩ := does_valK h
      rcases hx.ext_ with ⟨e, _⟩ | ⟨A, c, vals, e, _⟩
      · cases e
      · exact fin e (.c (.emp (some A))) rfl
    · obtain ⟨rfl, rfl⟩ := does_valK h
      obtain ⟨g, c, hm, hnc, e⟩ := hx.row_
      exact fin e (.c (.emp _)) rfl
    · exact h.elim
  · exact h.elim

theorem sound_arrPtr {t : TypeId} {x : Operand} (hT : TOk P T) (hi : Inv w0 S φ0 ι φ H w) (ht : TmOk ι φ tm a.tmps) (h : Does (evK tm x fun x => arrPtrP (T t) x) H [] v u r') :
    Step P ⟨dst, .sliceToArrayPointer t x, ty, pos, after, guard⟩ a w w0 S φ0 ι φ H nid v u := by
  rw [evK_eq] at h
  have hx := ht.ev x
  generalize evV tm x = vx at h hx
  unfold Does arrPtrP at h
  split at h
  case h_2 => exact h.elim
  rename_i n e b off m hTt
  have hg : Good P (.arr n e) t := hTt ▸ hT.good (by rw [hTt]; simp)
  simp only [Good] at hg
  obtain ⟨⟨el, hu, hge⟩, _⟩ := hg
  split at h
  case h_2 => exact h.elim
  obtain ⟨hnm, h⟩ := h
  obtain ⟨rfl, rfl⟩ := does_valK h
  obtain ⟨g, c, cap, hm, hn, hux⟩ := hx.asl_
  have hlt : ¬ m < n := by omega
  refine Step.pure_ hi (cv := .pointer (some ⟨g, off, none⟩)) ?_ (.ptr _ _ _ _ hm)
  simp [execOp, hux, Instr.arrayAt, run_underlying hu, hlt]
end
end
end Go.AM

set_option linter.unusedVariables false
set_option linter.unusedSimpArgs false
set_option maxRecDepth 100000
namespace Go.AM
noncomputable section
open Go.RowKit

section
variable {P : Program} {T : TypeId → TD} {a : Act} {w w0 : World} {S : Nat → Prop} {φ0 : Prot} {ι : Map} {φ : Prot} {H : Nat → Blk} {nid : Nat} {v : Val} {u : Upd} {r r' : List Nat} {tm : List Val}
variable {dst : Option Tmp} {ty : TypeId} {pos : String} {after : Array Edge} {guard : Option (Nat × Bool)}

theorem idx_lt {i j N sz : Nat} (hi : i < N) (hj : j < sz) : i * sz + j < N * sz := by
  calc i * sz + j < i * sz + sz := by omega
    _ = (i + 1) * sz := by rw [Nat.add_mul, Nat.one_mul]
    _ ≤ N * sz := Nat.mul_le_mul_right _ (by omega)
theorem idx_of {k N sz : Nat} (h0 : 0 < sz) (hk : k < N * sz) : ∃ i j, i < N ∧ j < sz ∧ k = i * sz + j :=
  ⟨k / sz, k % sz, by rw [Nat.div_lt_iff_lt_mul h0]; exact hk, Nat.mod_lt _ h0, by rw [Nat.mul_comm, Nat.div_add_mod]⟩

theorem grown_blk {N sz b cap : Nat} {e : TypeId} {G : Nat → List Val} {xs : List Value} {zc : Array Value} {pr : Nat} (h0 : 0 < sz) (hl : xs.length = N * sz) (hG : ∀ i, i < N → (G i).length = sz)
    (hrel : ∀ i j, i < N → j < sz → (xs.getD (i * sz + j) undef).oneCell' = true ∧ RelC φ ((G i).getD j .und) (xs.getD (i * sz + j) undef))
    (hzs : zc.size = sz) (hz : ∀ k, k < sz → (zc.getD k undef).oneCell' = true) (hcap : N ≤ cap) (hm : cap ≤ maxLen) (hpr : pr ≤ N) (hp : ∀ a v, φ a = some v → a.block < w.heap.size) :
    BlkOk (setM ι b (w.heap.size, cap)) φ (w.alloc (.cells (xs.toArray ++ Builtin.zeroCells zc (cap - N)) e)) b (.row e sz N G pr) := by
  have hs : (xs.toArray ++ Builtin.zeroCells zc (cap - N)).size = cap * sz := by
    rw [Array.size_append, List.size_toArray, size_zeroCells, hl, hzs, ← Nat.add_mul]; congr 1; omega
  have e1 : ∀ k, k < N * sz → (xs.toArray ++ Builtin.zeroCells zc (cap - N)).getD k undef = xs.getD k undef := fun k hk => by
    rw [Array.getD_eq_getD_getElem?, Array.getElem?_append_left (by simpa [hl] using hk), List.getD_eq_getElem?_getD]; simp
  have hm' : cap ≤ 9223372036854775807 := by simpa [maxLen] using hm
  refine ⟨w.heap.size, cap, _, by simp [setM], heap_new _ _, h0, hs, hcap, hm', hpr, hG, fun i j hi hj => ?_, fun k hk => ?_, fun off sp _ => ?_⟩
  · rw [e1 _ (idx_lt hi hj)]; exact (hrel i j hi hj).2
  · rcases Nat.lt_or_ge k (N * sz) with h | h
    · rw [e1 _ h]
      obtain ⟨i, j, hi, hj, rfl⟩ := idx_of h0 h
      exact (hrel i j hi hj).1
    · rw [hs] at hk
      rw [Array.getD_eq_getD_getElem?, Array.getElem?_append_right (by simpa [hl] using h)]
      unfold Builtin.zeroCells
      simp only [List.size_toArray, hl, hzs]
      have hq : (k - N * sz) % sz < sz := Nat.mod_lt _ h0
      rw [Array.getElem?_map, Array.getElem?_range, if_pos (by rw [Nat.sub_mul]; omega)]
      simp only [Option.map_some, Option.getD_some]
      have := hz _ hq
      rw [Array.getD_eq_getD_getElem?, Array.getElem?_eq_getElem (by omega)] at this
      rw [getElem!_def, Array.getElem?_eq_getElem (by omega)]
      exact this
  · cases hx : φ ⟨w.heap.size, off, sp⟩ with
    | none => rfl
    | some v => have := hp _ v hx; simp at this

/-- A block under a new name. -/
theorem Inv.rename (h : Inv w0 S φ0 ι φ H w) {b g c : Nat} {x : Blk} (hb : ι b = some (g, c)) (hx : H b = x) (hg : x ≠ .gone) (hn : ι nid = none) :
    Inv w0 S φ0 (setM ι nid (g, c)) φ (setH (setH H b .gone) nid x) w := by
  have hne : nid ≠ b := fun e => by rw [e, hb] at hn; cases hn
  have hm : MapLe ι (setM ι nid (g, c)) := setM_le hn
  have hHn : ∀ y, setH (setH H b .gone) nid x y ≠ .gone → y = nid ∨ (y ≠ nid ∧ y ≠ b ∧ H y ≠ .gone) := fun y hy => by
    unfold setH at hy
    by_cases h1 : y = nid
    · exact .inl h1
    · rw [if_neg h1] at hy
      by_cases h2 : y = b
      · rw [if_pos h2] at hy; exact absurd rfl hy
      · rw [if_neg h2] at hy; exact .inr ⟨h1, h2, hy⟩
  have hmm : ∀ y, y ≠ nid → setM ι nid (g, c) y = ι y := fun y hy => by simp [setM, hy]
  refine ⟨⟨fun y => ?_, fun y y' g1 c1 c2 hy hy' e e' => ?_, h.sim.prot⟩, h.keep, fun y g' c' hy e => ?_, h.new, h.le⟩
  · unfold setH
    by_cases h1 : y = nid
    · subst h1; rw [if_pos rfl]
      have hB := h.sim.blk b
      rw [hx] at hB
      cases x with
      | gone => trivial
      | cells cs =>
        obtain ⟨g1, c1, arr, t, e, hh, hs, hr, hf⟩ := hB
        rw [hb] at e; injection e with e; injection e with e1 e2; subst e1; subst e2
        exact ⟨g, c, arr, t, by simp [setM], hh, hs, fun i hi => ⟨(hr i hi).1, (hr i hi).2.mono hm (.refl _)⟩, hf⟩
      | row t sz n get pr =>
        obtain ⟨g1, c1, arr, e, rest⟩ := hB
        rw [hb] at e; injection e with e; injection e with e1 e2; subst e1; subst e2
        exact ⟨g, c, arr, by simp [setM], rest⟩
      | map kag vag ks es =>
        obtain ⟨g1, c1, arr, clock, e, rest⟩ := hB
        rw [hb] at e; injection e with e; injection e with e1 e2; subst e1; subst e2
        exact ⟨g, c, arr, clock, by simp [setM], rest⟩
      | pmap kag ks es =>
        obtain ⟨g1, c1, arr, clock, e, hh, hr, hst⟩ := hB
        rw [hb] at e; injection e with e; injection e with e1 e2; subst e1; subst e2
        exact ⟨g, c, arr, clock, by simp [setM], hh, hr.mono fun _ _ h => h.mono hm (.refl _), hst⟩
    · rw [if_neg h1]
      by_cases h2 : y = b
      · rw [if_pos h2]; trivial
      · rw [if_neg h2]
        exact (h.sim.blk y).mono hm (.refl _) (fun _ _ _ _ => rfl) (fun _ _ _ _ _ _ h => h)
  · have hb' : H b ≠ .gone := by rw [hx]; exact hg
    rcases hHn y hy with rfl | ⟨h1, h2, h3⟩ <;> rcases hHn y' hy' with rfl | ⟨k1, k2, k3⟩
    · rfl
    · rw [hmm y' k1] at e'
      simp only [setM, if_true, Option.some.injEq, Prod.mk.injEq] at e
      obtain ⟨rfl, rfl⟩ := e
      exact absurd (h.sim.inj y' b _ _ _ k3 hb' e' hb) k2
    · rw [hmm y h1] at e
      simp only [setM, if_true, Option.some.injEq, Prod.mk.injEq] at e'
      obtain ⟨rfl, rfl⟩ := e'
      exact absurd (h.sim.inj y b _ _ _ h3 hb' e hb) h2
    · rw [hmm y h1] at e; rw [hmm y' k1] at e'
      exact h.sim.inj y y' g1 c1 c2 h3 k3 e e'
  · rcases hHn y hy with rfl | ⟨h1, h2, h3⟩
    · simp only [setM, if_true, Option.some.injEq, Prod.mk.injEq] at e
      obtain ⟨rfl, rfl⟩ := e
      exact h.own b _ _ (by rw [hx]; exact hg) hb
    · rw [hmm y h1] at e; exact h.own y g' c' h3 e

theorem range_getD (f : Nat → Value) {n k : Nat} (h : k < n) : ((List.range n).map f).getD k undef = f k := by
  simp [List.getD_eq_getElem?_getD, h]

theorem append_open {t : TypeId} {x y : Operand} {cl : Call} (hcl : cl = ⟨.builtin .append, #[x, y], #[t, t]⟩) (hT : TOk P T) (hi : Inv w0 S φ0 ι φ H w) (hn : (∃ x, (nid, x) ∈ u) → ι nid = none)
    {e : TypeId} {sz by_ b m : Nat} {cs : List Val} (hTt : T t = .slice e sz by_) (h0 : 0 < sz) {vx : Val} (hx : Rel ι φ vx (a.eval x)) (hy : Rel ι φ (.row b m) (a.eval y)) (hbk : H b = .cells cs)
    (h : Does (appendQ T e sz by_ nid vx m cs) H r v u r') : Step P ⟨dst, .call cl, ty, pos, after, guard⟩ a w w0 S φ0 ι φ H nid v u := by
  have hex : (execOp a.eval ⟨dst, .call cl, ty, pos, after, guard⟩).run P w = (do pure (Next.value (← Builtin.append_ #[t, t] ty #[a.eval x, a.eval y]))).run P w := by
    subst hcl
    simp only [execOp, resolve, invoke, builtin, Sem.run_bind, Sem.run_pure, Result.andThen_ok, List.map_toArray, List.map_cons, List.map_nil]
  obtain ⟨hu, ie, hie, hse, hbe⟩ := Good.slice_ hT hTt
  unfold Does appendQ at h
  have hB : a.eval x = .slice none 0 0 := by
    cases vx
    case nils => exact hx.nils_
    all_goals exact h.elim
  split at h
  case h_2 => exact h.elim
  split at h
  · exact h.elim
  · rename_i hbad
    obtain ⟨⟨rfl, hm, hl, hb, h63⟩, rfl, rfl, _⟩ := h
    have hn := hn ⟨_, List.mem_singleton.2 rfl⟩
    have hbad : T e ≠ .bad := fun e1 => hbad e1
    obtain ⟨i, z, hi', hs', hz, hzc, _⟩ := (hT.good hbad).zok
    rw [hie] at hi'; injection hi' with e1; subst e1
    obtain ⟨g, c, hgm, hmc, hyv⟩ := hy.row_
    have hBl := hi.sim.blk b
    rw [hbk] at hBl
    obtain ⟨arr, t', hh, hs, hf, hcell⟩ := blk_cell hBl hgm
    let news : List Value := (List.range m).map fun k => arr.getD k undef
    have hnl : news.length = m * ie.size := by simp [news, hse]
    have hnews : ∀ j u, news[j]? = some u → w.cell? ((⟨g, 0, none⟩ : Addr).add j) = some u := fun j u hj => by
      simp only [news, List.getElem?_map] at hj
      rcases Nat.lt_or_ge j m with hjm | hjm
      · rw [List.getElem?_range hjm] at hj
        simp only [Option.map_some, Option.some.injEq] at hj
        rw [add_eq, Nat.zero_add, ← hj]
        exact (hcell j (by omega)).1
      · rw [List.getElem?_eq_none (by simpa using hjm)] at hj; cases hj
    have hml : m ≤ maxLen := by simp only [maxLen]; omega
    have hrun := run_append_nil (P := P) w t ty e ie z hu hie hz ⟨g, 0, none⟩ m c news hnl hnews hm (by omega) (by rw [hbe]; omega)
    have hget : ∀ k, k < m → (news.toArray ++ Builtin.zeroCells z.cells (grownCap w m 0 e - m)).getD k undef = arr.getD k undef := fun k hk => by
      rw [Array.getD_eq_getD_getElem?, Array.getElem?_append_left (by simpa [news] using hk)]
      simp [news, hk]
    have hblk : BlkOk (setM ι nid (w.heap.size, grownCap w m 0 e)) φ (w.drew.alloc (.cells (news.toArray ++ Builtin.zeroCells z.cells (grownCap w m 0 e - m)) e)) nid (.cells cs) := by
      refine ⟨w.heap.size, grownCap w m 0 e, _, e, by simp [setM], heap_new _ _, by simp [news, hl], fun k hk => ?_, fun off sp => ?_⟩
      · rw [hget k (by omega)]
        exact ⟨(hcell k hk).2.1, (hcell k hk).2.2.mono (setM_le hn) (.refl _)⟩
      · cases hp : φ ⟨w.heap.size, off, sp⟩ with
        | none => rfl
        | some v => have := hi.prot_lt _ v hp; simp at this
    refine ⟨.value (.slice (some ⟨w.heap.size, 0, none⟩) m (grownCap w m 0 e)), .slice (some ⟨w.heap.size, 0, none⟩) m (grownCap w m 0 e), w.drew.alloc (.cells (news.toArray ++ Builtin.zeroCells z.cells (grownCap w m 0 e - m)) e), setM ι nid (w.heap.size, grownCap w m 0 e), φ, ?_, .inl rfl, .row _ _ _ _ (by simp [setM]) (grownCap_ge w m 0 e), ?_, setM_le hn, .refl _, fun b' hb' => ?_⟩
    · rw [hex, hB, hyv]
      simp only [Sem.run_bind, hrun, Result.andThen_ok, Sem.run_pure]
    · have hd : Inv w0 S φ0 ι φ H w.drew := hi.drew _
      exact hd.alloc hn hblk
    · have : b' ≠ nid := fun e => hb' e _ (List.mem_singleton.2 rfl)
      simp [setM, this]
theorem sound_append {t : TypeId} {x y : Operand} {cl : Call} (hcl : cl = ⟨.builtin .append, #[x, y], #[t, t]⟩) (hT : TOk P T) (hi : Inv w0 S φ0 ι φ H w) (ht : TmOk ι φ tm a.tmps) (hn : (∃ x, (nid, x) ∈ u) → ι nid = none)
    (h : Does (appendP T (T t) nid (evV tm x) (evV tm y)) H [] v u r') : Step P ⟨dst, .call cl, ty, pos, after, guard⟩ a w w0 S φ0 ι φ H nid v u := by
  have hx := ht.ev x
  have hy := ht.ev y
  have hex : (execOp a.eval ⟨dst, .call cl, ty, pos, after, guard⟩).run P w = (do pure (Next.value (← Builtin.append_ #[t, t] ty #[a.eval x, a.eval y]))).run P w := by
    subst hcl
    simp only [execOp, resolve, invoke, builtin, Sem.run_bind, Sem.run_pure, Result.andThen_ok, List.map_toArray, List.map_cons, List.map_nil]
  generalize evV tm x = vx at h hx
  generalize evV tm y = vy at h hy
  generalize hcx : a.eval x = cx at hx hex
  generalize hcy : a.eval y = cy at hy hex
  unfold Does appendP at h
  split at h
  case h_2 => exact h.elim
  rename_i e sz by_ hTt
  obtain ⟨hu, ie, hie, hse, hbe⟩ := Good.slice_ hT hTt
  split at h
  case h_2 => exact h.elim
  rename_i h0
  rw [decide_eq_true_eq] at h0
  have hq := seenQ_sound hy hi.sim h
  clear h
  rcases hq with h | ⟨b, m, cs, rfl, hbk, h⟩
  case inr => exact append_open hcl hT hi hn hTt h0 (by rw [hcx]; exact hx) (by rw [hcy]; exact hy) hbk h
  obtain ⟨szy, m, gy, r2, h, A, c, rfl, hmc, hcs⟩ := seen_sound hy hi.sim h
  have zero : T e ≠ .bad → ∃ z, ie.zero = some z ∧ z.cells.size = sz ∧ ∀ k, k < sz → (z.cells.getD k undef).oneCell' = true := fun hb => by
    obtain ⟨i, z, hi', hs', hz, hzc, _⟩ := (hT.good hb).zok
    rw [hie] at hi'; injection hi' with e1; subst e1
    have hsz : z.cells.size = sz := by rw [← Array.length_toList, (hzc φ).1, TD.zero_length, ← hs', hse]
    refine ⟨z, hz, hsz, fun k hk => ?_⟩
    have := ((hzc φ).2 k (by rw [TD.zero_length, ← hs', hse]; exact hk)).1
    rwa [arr_getD] at this
  -- nothing is appended
  have none_ : ∀ {B : Option Addr} {n cap : Nat}, m = 0 → n ≤ cap → cx = .slice B n cap → (Builtin.append_ #[t, t] ty #[cx, .slice A m c]).run P w = .ok (.slice B n cap) w := by
    intro B n cap hm hnc hB
    subst hm; subst hB
    have hf : (Builtin.firstCells ie.size 0 (.slice A 0 c)).run P w = .ok #[] w := by
      cases A with
      | none => simp [Builtin.firstCells]
      | some A =>
        have := run_firstCells_some (P := P) w ie.size 0 A 0 c [] (by simp) (fun j u h => by simp at h)
        simpa using this
    cases B with
    | none => simp [Builtin.append_, run_underlying hu, sizeOf, typeInfo, hie, Builtin.lenOf, hnc, hf]
    | some B => simp [Builtin.append_, run_underlying hu, sizeOf, typeInfo, hie, Builtin.lenOf, hnc, hf, storeCells]
  -- what is appended
  have news_ : szy = sz → 0 < m → ∃ B, A = some B ∧ ∃ news : List Value, news.length = m * sz ∧ (∀ j u, news[j]? = some u → w.cell? (B.add j) = some u) ∧ (∀ i, i < m → (gy i).length = sz) ∧
      ∀ i j, i < m → j < sz → (news.getD (i * sz + j) undef).oneCell' = true ∧ RelC φ ((gy i).getD j .und) (news.getD (i * sz + j) undef) := by
    rintro rfl hm
    rcases hcs with ⟨rfl, _⟩ | ⟨B, rfl, hl, hcell⟩
    · omega
    refine ⟨B, rfl, (List.range (m * szy)).map fun k => (w.cell? (B.add k)).getD undef, by simp, fun j u hj => ?_, hl, fun i j hi hj => ?_⟩
    · rw [List.getElem?_map] at hj
      have hlt : j < m * szy := by
        rcases Nat.lt_or_ge j (m * szy) with h | h
        · exact h
        · rw [List.getElem?_eq_none (by simpa using h)] at hj; cases hj
      rw [List.getElem?_range hlt] at hj
      simp only [Option.map_some, Option.some.injEq] at hj
      obtain ⟨i, k, hi, hk, rfl⟩ := idx_of h0 hlt
      obtain ⟨y, hy, _⟩ := hcell i k hi hk
      rw [hy] at hj ⊢
      simpa using hj
    · rw [range_getD _ (idx_lt hi hj)]
      obtain ⟨y, hy, h1, h2⟩ := hcell i j hi hj
      rw [hy]; exact ⟨h1, h2⟩
  have mem1 : ∀ {l : List Value} {N : Nat}, l.length = N * sz → (∀ i j, i < N → j < sz → (l.getD (i * sz + j) undef).oneCell' = true) → ∀ u ∈ l, u.oneCell' = true := fun {l N} hl h => mem_getD fun k hk => by
    rw [hl] at hk
    obtain ⟨i, j, hi, hj, rfl⟩ := idx_of h0 hk
    exact h i j hi hj
  have fin : ∀ {cv : Value} {w' : World} {ι' : Map}, (Builtin.append_ #[t, t] ty #[cx, .slice A m c]).run P w = .ok cv w' → Rel ι' φ v cv → Inv w0 S φ0 ι' φ (applyF H u) w' → MapLe ι ι' → (∀ b, (b = nid → ∀ x, (nid, x) ∉ u) → ι' b = ι b) →
      Step P ⟨dst, .call cl, ty, pos, after, guard⟩ a w w0 S φ0 ι φ H nid v u := by
    intro cv w' ι' h1 h2 h3 h4 h5
    exact ⟨.value cv, cv, w', ι', φ, by rw [hex]; simp only [Sem.run_bind, h1, Result.andThen_ok, Sem.run_pure], .inl rfl, h2, h3, h4, .refl _, h5⟩
  -- to a row of length 0 that is not the call's own
  have fresh : ∀ {B : Option Addr}, cx = .slice B 0 0 → 0 < m → szy = sz → m * by_ ≤ 140737488355328 → m ≤ 4611686018427387904 → T e ≠ .bad → v = .row nid m → u = [(nid, .row e sz m gy 0)] →
      Step P ⟨dst, .call cl, ty, pos, after, guard⟩ a w w0 S φ0 ι φ H nid v u := by
    intro B hB hm hs hb h63 hbad hv hu'
    subst hv; subst hu'
    have hn := hn ⟨_, List.mem_singleton.2 rfl⟩
    obtain ⟨z, hz, hzs, hz1⟩ := zero hbad
    obtain ⟨D, rfl, news, hl, hnews, hgl, hrel⟩ := news_ hs hm
    have hml : m ≤ maxLen := by simp only [maxLen]; omega
    have hblk := grown_blk (ι := ι) (φ := φ) (w := w.drew) (b := nid) (cap := grownCap w m 0 e) (e := e) (pr := 0) h0 hl hgl hrel hzs hz1 (grownCap_ge w m 0 e) (grownCap_le_maxLen w m 0 e hml) (Nat.zero_le _) hi.prot_lt
    refine fin (cv := .slice (some ⟨w.heap.size, 0, none⟩) m (grownCap w m 0 e)) (ι' := setM ι nid (w.heap.size, grownCap w m 0 e)) (w' := w.drew.alloc (.cells (news.toArray ++ Builtin.zeroCells z.cells (grownCap w m 0 e - m)) e)) ?_
      (.row _ _ _ _ (by simp [setM]) (grownCap_ge w m 0 e)) ((hi.drew _).alloc hn hblk) (setM_le hn) (fun b hb => by
        have : b ≠ nid := fun e => hb e _ (List.mem_singleton.2 rfl)
        simp [setM, this])
    subst hB
    cases B with
    | none => exact run_append_nil (P := P) w t ty e ie z hu hie hz D m c news (by rw [hl, hse]) hnews hm (by omega) (by rw [hbe]; omega)
    | some B =>
      have := run_append_grow (P := P) w t ty e ie z hu hie hz B 0 0 [] (by simp) (fun j u h => by simp at h) D m c news (by rw [hl, hse]) hnews (by omega) (by omega) (by rw [Nat.zero_add]; exact growslice_fits hm (by rw [hbe]; exact hb))
      simpa using this
  split at h
  · -- nil
    have hB := hx.nils_
    split at h
    · obtain ⟨rfl, rfl⟩ := does_valK h
      refine fin (none_ rfl (Nat.le_refl _) hB) (.c .nils) hi (.refl _) fun _ _ => rfl
    · split at h
      · exact h.elim
      · rename_i m hbad
        obtain ⟨⟨hs, hb, h63⟩, hv, hu', _⟩ := h
        exact fresh hB (by omega) hs hb h63 (fun e => hbad e) hv.symm hu'.symm
  · obtain ⟨B, hB⟩ := hx.emp_
    split at h
    · obtain ⟨rfl, rfl⟩ := does_valK h
      exact fin (none_ rfl (Nat.le_refl _) hB) (.c (.emp B)) hi (.refl _) fun _ _ => rfl
    · split at h
      · exact h.elim
      · rename_i m hbad
        obtain ⟨⟨hs, hb, h63⟩, hv, hu', _⟩ := h
        exact fresh hB (by omega) hs hb h63 (fun e => hbad e) hv.symm hu'.symm
  · -- a row of the call's own
    rename_i b n _
    obtain ⟨g, cap, hm, hnc, hB⟩ := hx.row_
    unfold Does at h
    simp only [Prog.run] at h
    split at h
    case h_2 => exact h.elim
    rename_i e' sz' n' gx pr hbk
    split at h
    case h_2 => exact h.elim
    rename_i hb3
    simp only [Bool.and_eq_true, beq_iff_eq] at hb3
    obtain ⟨⟨rfl, rfl⟩, hbad⟩ := hb3
    have hbad : T e ≠ .bad := fun e1 => by rw [e1] at hbad; cases hbad
    obtain ⟨⟨hs, rfl, hb, h63⟩, hv, hu', _⟩ := h
    subst hv; subst hu'
    have hmem : ∀ {x y : Nat × Blk}, y ∈ [x, y] := by simp
    have hnn := hn ⟨_, hmem⟩
    have hBk := hi.sim.blk b
    rw [hbk] at hBk
    obtain ⟨arr, hheap, _, has, _, hcm, hpr, hlen, hcell, hone, hf⟩ := blk_row hBk hm
    have hNm : n + m ≤ maxLen := by simp only [maxLen]; omega
    have hbg : H b ≠ .gone := by rw [hbk]; simp
    have hnid : ι b = some (g, cap) := hm
    -- the old row's cells
    have olds : ∀ i j, i < n → j < sz → (arr.toList.take (n * sz)).getD (i * sz + j) undef = arr.getD (i * sz + j) undef := fun i j hi hj => by
      rw [← arr_getD arr, List.getD_eq_getElem?_getD, List.getElem?_take, if_pos (idx_lt hi hj), List.getD_eq_getElem?_getD]
    have hnsz : n * sz ≤ arr.size := by rw [has]; exact Nat.mul_le_mul_right _ hnc
    have hol : (arr.toList.take (n * sz)).length = n * sz := by rw [List.length_take, Array.length_toList]; omega
    have room : ∀ {w' : World} {arr' : Array Value}, n + m ≤ cap → w'.os = w.os → w'.tape = w.tape → w'.output = w.output → w'.heap.size = w.heap.size → (∀ k, k ≠ g → w'.heap[k]? = w.heap[k]?) →
        w'.heap[g]? = some (.cells arr' e (0, 0)) → arr'.size = cap * sz → (∀ i, i < arr'.size → (arr'.getD i undef).oneCell' = true) → (∀ k, k < n * sz → arr'[k]? = arr[k]?) →
        (∀ i, i < m → (gy i).length = sz) → (∀ i j, i < m → j < sz → RelC φ ((gy i).getD j .und) (arr'.getD ((n + i) * sz + j) undef)) →
        Inv w0 S φ0 (setM ι nid (g, cap)) φ (setH (setH H b .gone) nid (.row e sz (n + m) (fun i => if i < n then gx i else gy (i - n)) pr)) w' := by
      intro w' arr' hroom hos htape hout hsize hold hheap' has' hone' hsame hgl hnew
      have hx : BlkOk ι φ w' b (.row e sz (n + m) (fun i => if i < n then gx i else gy (i - n)) pr) := by
        refine ⟨g, cap, arr', hm, hheap', h0, has', hroom, hcm, by omega, fun i hi => ?_, fun i j hi hj => ?_, hone', hf⟩
        · by_cases hin : i < n
          · simp only [if_pos hin]; exact hlen i hin
          · simp only [if_neg hin]; exact hgl _ (by omega)
        · by_cases hin : i < n
          · simp only [if_pos hin]
            have := (hcell i j hin hj).2.2
            rw [Array.getD_eq_getD_getElem?] at this ⊢
            rw [hsame _ (idx_lt hin hj)]; exact this
          · simp only [if_neg hin]
            have := hnew (i - n) j (by omega) hj
            rwa [show n + (i - n) = i by omega] at this
      have h1 := hi.write hm hbg hos htape hout hsize hold (fun q z hq hqb => ?_) hx
      · have h2 := h1.rename (nid := nid) (x := .row e sz (n + m) (fun i => if i < n then gx i else gy (i - n)) pr) hm (by simp [setH]) (by simp) hnn
        have e1 : setH (setH (setH H b (.row e sz (n + m) (fun i => if i < n then gx i else gy (i - n)) pr)) b .gone) nid (.row e sz (n + m) (fun i => if i < n then gx i else gy (i - n)) pr) =
            setH (setH H b .gone) nid (.row e sz (n + m) (fun i => if i < n then gx i else gy (i - n)) pr) := by
          funext k; unfold setH; split
          · rfl
          · split <;> rfl
        rwa [e1] at h2
      · obtain ⟨qb, qo, qs⟩ := q
        simp only at hqb; subst hqb
        have hlt : qo < pr * sz := by
          rcases Nat.lt_or_ge qo (pr * sz) with h | h
          · exact h
          · rw [hf qo qs h] at hq; cases hq
        have hle : pr * sz ≤ n * sz := Nat.mul_le_mul_right _ hpr
        have hold' := hi.sim.prot _ _ hq
        simp only [World.cell?, hheap] at hold'
        simp only [World.cell?, hheap']
        rw [hsame _ (by omega)]; exact hold'
    rcases Nat.eq_zero_or_pos m with hm0 | hm0
    · subst hm0
      refine fin (none_ rfl hnc hB) (.row _ _ g cap (by simp [setM]) hnc) (room hnc rfl rfl rfl rfl (fun _ _ => rfl) hheap has hone (fun _ _ => rfl) (fun i hi => absurd hi (by omega)) (fun i j hi => absurd hi (by omega))) (setM_le hnn) (fun b hb => by
        have : b ≠ nid := fun e => hb e _ hmem
        simp [setM, this])
    · have hs : szy = sz := hs.resolve_left (by omega)
      obtain ⟨D, rfl, news, hl, hnews, hgl, hrel⟩ := news_ hs hm0
      have hn1 : ∀ u ∈ news, u.oneCell' = true := mem1 hl fun i j hi hj => (hrel i j hi hj).1
      by_cases hroom : n + m ≤ cap
      · have hfit : n * sz + news.length ≤ arr.size := by rw [hl, has, ← Nat.add_mul]; exact Nat.mul_le_mul_right _ hroom
        have hrun := run_append_room (P := P) w t ty e ie hu hie g n cap arr hheap D m c news (by rw [hl, hse]) hnews hn1 hroom (by rw [hse]; exact hfit)
        rw [hse] at hrun
        have hget : ∀ k, (arr.toList.take (n * sz) ++ news ++ arr.toList.drop (n * sz + news.length)).toArray.getD k undef = if n * sz ≤ k ∧ k < n * sz + news.length then news.getD (k - n * sz) undef else arr.getD k undef := fun k => by
          rw [toArr_getD, List.append_assoc, getD_splice undef (by simpa using hfit) k, arr_getD arr k]
        have hsz2 : (arr.toList.take (n * sz) ++ news ++ arr.toList.drop (n * sz + news.length)).toArray.size = arr.size := by
          rw [List.size_toArray, List.append_assoc, length_splice (by simpa using hfit), Array.length_toList]
        rw [← hB] at hrun
        refine fin hrun (.row _ _ g cap (by simp [setM]) hroom) (room hroom rfl rfl rfl (setRow_size _ _ _) (fun k hk => setRow_other w g k _ hk) (setRow_heap w g arr _ e _ hheap) (by rw [hsz2, has]) (fun k hk => ?_) (fun k hk => ?_) hgl (fun i j hi hj => ?_))
          (setM_le hnn) (fun b hb => by
        have : b ≠ nid := fun e => hb e _ hmem
        simp [setM, this])
        · rw [hsz2] at hk
          rw [hget]
          by_cases hk2 : n * sz ≤ k ∧ k < n * sz + news.length
          · rw [if_pos hk2]
            have : news.getD (k - n * sz) undef ∈ news := by
              rw [List.getD_eq_getElem?_getD, List.getElem?_eq_getElem (by omega)]; exact List.getElem_mem _
            exact hn1 _ this
          · rw [if_neg hk2]; exact hone k hk
        · rw [List.getElem?_toArray, List.append_assoc, List.getElem?_append_left (by rw [hol]; exact hk), List.getElem?_take, if_pos hk, Array.getElem?_toList]
        · rw [hget, Nat.add_mul, if_pos ⟨by omega, by rw [hl]; have := idx_lt hi hj; omega⟩, show n * sz + i * sz + j - n * sz = i * sz + j by omega]
          exact (hrel i j hi hj).2
      · have hlen' : (arr.toList.take (n * sz) ++ news).length = (n + m) * sz := by rw [List.length_append, hol, hl, Nat.add_mul]
        have hholds : ∀ j u, (arr.toList.take (n * sz))[j]? = some u → w.cell? ((⟨g, 0, none⟩ : Addr).add j) = some u := fun j u hj => by
          rw [List.getElem?_take] at hj
          split at hj
          · rw [add_eq, Nat.zero_add]
            simp only [World.cell?, hheap]
            simpa using hj
          · cases hj
        obtain ⟨z, hz, hzs, hz1⟩ := zero hbad
        have hrun := run_append_grow (P := P) w t ty e ie z hu hie hz ⟨g, 0, none⟩ n cap (arr.toList.take (n * sz)) (by rw [hol, hse]) hholds D m c news (by rw [hl, hse]) hnews (by omega) (by omega) (growslice_fits (by omega) (by rw [hbe]; exact hb))
        rw [← hB] at hrun
        have e1 : (arr.toList.take (n * sz)).toArray ++ news.toArray = (arr.toList.take (n * sz) ++ news).toArray := by apply Array.ext'; simp
        rw [e1] at hrun
        have hblk := grown_blk (ι := ι) (φ := φ) (w := w.drew) (b := nid) (cap := grownCap w (n + m) cap e) (e := e) (pr := pr) (N := n + m) (G := fun i => if i < n then gx i else gy (i - n)) h0 hlen' (fun i hi => ?_) (fun i j hi hj => ?_) hzs hz1
          (grownCap_ge w (n + m) cap e) (grownCap_le_maxLen w (n + m) cap e hNm) (by omega) hi.prot_lt
        · exact fin hrun (.row _ _ _ _ (by simp [setM]) (grownCap_ge w (n + m) cap e)) (((hi.drew _).forget b).alloc hnn hblk) (setM_le hnn) (fun b hb => by
        have : b ≠ nid := fun e => hb e _ hmem
        simp [setM, this])
        · by_cases hin : i < n
          · simp only [if_pos hin]; exact hlen i hin
          · simp only [if_neg hin]; exact hgl _ (by omega)
        · by_cases hin : i < n
          · simp only [if_pos hin]
            have : (arr.toList.take (n * sz) ++ news).getD (i * sz + j) undef = arr.getD (i * sz + j) undef := by
              rw [← olds i j hin hj, List.getD_eq_getElem?_getD, List.getElem?_append_left (by rw [hol]; exact idx_lt hin hj), List.getD_eq_getElem?_getD]
            rw [this]
            exact ⟨(hcell i j hin hj).2.1, (hcell i j hin hj).2.2⟩
          · simp only [if_neg hin]
            have hle : n * sz ≤ i * sz := Nat.mul_le_mul_right _ (by omega)
            have : (arr.toList.take (n * sz) ++ news).getD (i * sz + j) undef = news.getD ((i - n) * sz + j) undef := by
              rw [List.getD_eq_getElem?_getD, List.getElem?_append_right (by rw [hol]; omega), hol, List.getD_eq_getElem?_getD, Nat.sub_mul]
              congr 2; omega
            rw [this]
            exact hrel (i - n) j (by omega) hj
  · exact h.elim
end
end
end Go.AM

