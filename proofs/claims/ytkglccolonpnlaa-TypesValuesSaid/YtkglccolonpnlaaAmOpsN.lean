/- The operations one by one: maps made, asked, written. -/
import Derived.Test.YtkglccolonpnlaaAmOpsM
set_option linter.unusedVariables false
set_option linter.unusedSimpArgs false
set_option maxRecDepth 100000
namespace Go.AM
noncomputable section
open Go.RowKit Go.MapKept
section
variable {P : Program} {T : TypeId → TD} {a : Act} {w w0 : World} {S : Nat → Prop} {φ0 : Prot} {ι : Map} {φ : Prot} {H : Nat → Blk} {nid : Nat} {v : Val} {u : Upd} {r r' : List Nat} {tm : List Val}
variable {dst : Option Tmp} {ty : TypeId} {pos : String} {after : Array Edge} {guard : Option (Nat × Bool)}
theorem map_type (hT : TOk P T) {t kt et : TypeId} (h : T t = .map kt et) : P.underlying t = some (.map kt et) := by
  have hg : Good P (.map kt et) t := h ▸ hT.good (by rw [h]; simp)
  simp only [Good] at hg
  exact hg.1
theorem sound_makeMap {t : TypeId} {rv : Option Operand} (hT : TOk P T) (hi : Inv w0 S φ0 ι φ H w) (ht : TmOk ι φ tm a.tmps) (hn : (∃ x, (nid, x) ∈ u) → ι nid = none)
    (h : Does (optK tm rv fun rv => makeMapP T (T t) nid rv) H [] v u r') : Step P ⟨dst, .makeMap t rv, ty, pos, after, guard⟩ a w w0 S φ0 ι φ H nid v u := by
  rw [optK_eq] at h
  unfold Does makeMapP at h
  split at h
  case h_2 => exact h.elim
  rename_i kt et hTt
  have hu := map_type hT hTt
  obtain ⟨hbk, h⟩ := does_nb h
  obtain ⟨hbe, h⟩ := does_nb h
  unfold Does at h
  split at h
  case h_2 => exact h.elim
  rename_i kag ks hk
  have fin : (Instr.makeMap t (rv.map a.eval)).run P w = .ok (.map (some w.heap.size)) (w.alloc (.map #[] 0)) → v = .map nid → u = [(nid, .map kag (T et).isAgg ks [])] → Step P ⟨dst, .makeMap t rv, ty, pos, after, guard⟩ a w w0 S φ0 ι φ H nid v u := by
    intro hrun hv hu'
    subst hv; subst hu'
    have hn := hn ⟨_, List.mem_singleton.2 rfl⟩
    exact Step.alloc_ hi hn (c := 0) (cv := .map (some w.heap.size)) (ob := .map #[] 0) (by simp [execOp, hrun]) ⟨w.heap.size, 0, #[], 0, by simp [setM], heap_new _ _, trivial⟩ (.map nid _ 0 (by simp [setM]))
  cases rv with
  | none =>
    simp only [Option.map_none] at h fin
    obtain ⟨hv, hu', _⟩ := h
    exact fin (by simp [Instr.makeMap, newObj]; rfl) hv.symm hu'.symm
  | some x =>
    simp only [Option.map_some] at h fin
    have hx := ht.ev x
    split at h
    · rename_i e; cases e
    · rename_i k n e
      simp only [Option.some.injEq] at e
      rw [e] at hx
      obtain ⟨hv, hu', _⟩ := h
      exact fin (by rw [hx.int_]; simp [Instr.makeMap, run_underlying hu, asInt, asIntOf, newObj]; rfl) hv.symm hu'.symm
    · exact h.elim
/-- what a lookup hands out -/
theorem out_sound {ok vag is : Bool} {cs : List Val} {x : Value} (hc : CellsR φ cs x.cells.toList) (h1 : vag = true → ∃ us, x = .agg us) (h2 : vag = false → x.oneCell' = true) (h : Does (outP ok vag cs is) H r v u r') :
    u = [] ∧ Rel ι φ v (if ok then .tuple #[x, .bool is] else x) := by
  have hbool : Rel ι φ (.bool is) (.bool is) := .c (.bool is)
  have two : ∀ {p : Val}, Rel ι φ p x → Rel ι φ (.tup [p, .bool is]) (.tuple #[x, .bool is]) := fun {p} hp => .tup _ _ rfl fun i hi => by
    match i, hi with
    | 0, _ => exact hp
    | 1, _ => exact hbool
  have agg_ : vag = true → Rel ι φ (.agg cs) x := fun hv => by
    obtain ⟨us, rfl⟩ := h1 hv
    refine .agg _ _ (by simpa [Value.cells] using hc.1) (fun i hi => ?_) (fun i hi => ?_)
    · have := (hc.2 i hi).1; simp only [Value.cells, arr_getD] at this; exact this
    · have := (hc.2 i hi).2; simp only [Value.cells, arr_getD] at this; exact .c this
  unfold Does outP at h
  split at h
  · obtain ⟨rfl, rfl⟩ := does_valK h
    exact ⟨rfl, two (agg_ rfl)⟩
  · obtain ⟨rfl, rfl⟩ := does_valK h
    exact ⟨rfl, agg_ rfl⟩
  · have hone := h2 rfl
    have hcells : x.cells.toList = [x] := by cases x <;> first | rfl | cases hone
    split at h
    · rename_i p
      have hp : Rel ι φ p x := by
        have := (hc.2 0 (by simp)).2
        rw [hcells] at this
        exact .c this
      split at h
      · obtain ⟨rfl, rfl⟩ := does_valK h
        exact ⟨rfl, two hp⟩
      · obtain ⟨rfl, rfl⟩ := does_valK h
        exact ⟨rfl, hp⟩
    · exact h.elim
theorem sound_lookup {t : TypeId} {x y : Operand} {ok : Bool} (hT : TOk P T) (hi : Inv w0 S φ0 ι φ H w) (ht : TmOk ι φ tm a.tmps) (h : Does (evK tm x fun x => evK tm y fun i => lookupP T (T t) x i ok) H [] v u r') :
    Step P ⟨dst, .lookup t x y ok, ty, pos, after, guard⟩ a w w0 S φ0 ι φ H nid v u := by
  rw [evK_eq, evK_eq] at h
  have hx := ht.ev x
  have hy := ht.ev y
  generalize evV tm x = vx at h hx
  generalize evV tm y = vy at h hy
  have hex : (execOp a.eval ⟨dst, .lookup t x y ok, ty, pos, after, guard⟩).run P w = (do pure (Next.value (← Instr.lookup t (a.eval x) (a.eval y) ok)) : Sem Next).run P w := by simp [execOp]
  generalize a.eval x = cx at hx hex
  generalize a.eval y = cy at hy hex
  unfold Does lookupP at h
  split at h
  case h_2 => exact h.elim
  rename_i kt et hTt
  have hu := map_type hT hTt
  obtain ⟨hbk, h⟩ := does_nb h
  obtain ⟨hbe, h⟩ := does_nb h
  unfold Does at h
  split at h
  case h_2 => exact h.elim
  rename_i kag ks hk
  obtain ⟨key, hkey, h⟩ := keyP_ok hy h
  unfold Does at h
  split at h
  case h_2 => exact h.elim
  rename_i hsh
  have hsh := of_decide_eq_true hsh
  obtain ⟨hc1, hc2, _⟩ := key_runs (P := P) (w := w) (φ := φ) hk (hT.good hbk) hkey hsh
  obtain ⟨ie, z, hie, hse, hz, hzc, hza, hzo⟩ := (hT.good hbe).zok
  have hzr : (zeroValue et).run P w = .ok z w := by simp [zeroValue, run_info hie, hz]
  cases vx
  case nilm => -- of none
    have hcx := hx
    cases hcx with
    | c hcx =>
      cases hcx
      obtain ⟨rfl, hv⟩ := out_sound (ι := ι) (hzc φ) hza hzo h
      refine Step.pure_ hi (cv := if ok then .tuple #[z, .bool false] else z) ?_ hv
      have hf := hc2 (vag := true) (ps := []) (es := []) trivial
      rw [hex]
      simp only [Instr.lookup, Sem.run_bind, run_underlying hu, Result.andThen_ok, Sem.run_pure]
      simp [hc1, hf, foundAt, mix, hzr]
  case map b _ _ _ =>
    simp only [Prog.run] at h
    split at h
    case h_2 => exact h.elim
    rename_i kag' vag' ks' es hbk'
    split at h
    case h_2 => exact h.elim
    rename_i hb3
    simp only [Bool.and_eq_true, beq_iff_eq, decide_eq_true_eq] at hb3
    obtain ⟨⟨rfl, hvag⟩, rfl⟩ := hb3
    have hB := hi.sim.blk b
    rw [hbk'] at hB
    obtain ⟨g, c, arr, clock, hm, hheap, hents⟩ := hB
    cases hx with
    | c hcx => cases hcx
    | map _ g' c' hm' =>
      rw [hm] at hm'
      simp only [Option.some.injEq, Prod.mk.injEq] at hm'
      obtain ⟨rfl, rfl⟩ := hm'
      have hf := hc2 hents
      have run : ∀ {y : Value} {is : Bool}, (match foundAt key es arr.toList 0 with | some (_, y) => y = y ∧ is = true | none => is = false) → True := fun _ => trivial
      have hmf := mix_find key es
      cases hmx : mix key es with
      | none =>
        rw [hmx] at hmf
        simp only at hmf
        rw [hmf] at h
        obtain ⟨rfl, hv⟩ := out_sound (ι := ι) (hzc φ) hza hzo h
        refine Step.pure_ hi (cv := if ok then .tuple #[z, .bool false] else z) ?_ hv
        rw [hex]
        simp only [foundAt, hmx] at hf
        simp only [Instr.lookup, Sem.run_bind, run_underlying hu, Result.andThen_ok, Sem.run_pure, Go.MapKept.run_getObj_map hheap, hc1, hf, hzr]
      | some i =>
        rw [hmx] at hmf
        simp only at hmf
        rw [hmf] at h
        simp only at h
        obtain ⟨hil, _⟩ := mix_lt hmx
        have hil' : i < arr.toList.length := by rw [hents.length]; exact hil
        obtain ⟨p, hp, he⟩ := hents.get i arr.toList[i] (List.getElem?_eq_getElem hil')
        have hp' : es.getD i ([], []) = p := by rw [List.getD_eq_getElem?_getD, hp]; rfl
        rw [hp'] at h
        have hev : (arr.toList.getD i default).val = (arr.toList[i]).val := by rw [List.getD_eq_getElem?_getD, List.getElem?_eq_getElem hil']; rfl
        obtain ⟨rfl, hv⟩ := out_sound (ι := ι) he.cells (fun hh => he.agg (by rw [← hvag]; exact hh)) (fun hh => he.one (by rw [← hvag]; exact hh)) h
        refine Step.pure_ hi (cv := if ok then .tuple #[(arr.toList[i]).val, .bool true] else (arr.toList[i]).val) ?_ hv
        rw [hex]
        simp only [foundAt, hmx, hev] at hf
        simp only [Instr.lookup, Sem.run_bind, run_underlying hu, Result.andThen_ok, Sem.run_pure, Go.MapKept.run_getObj_map hheap, hc1, hf]
  all_goals exact h.elim
theorem cellsV_ok {vag : Bool} {x : Val} {cx : Value} {K : List Val → Prog} (hx : Rel ι φ x cx) (h : Does (cellsV vag x K) H r v u r') :
    ∃ cs, Does (K cs) H r v u r' ∧ CellsOk ι φ cs cx.cells.toList ∧ (vag = true → ∃ us, cx = .agg us) ∧ (vag = false → cx.oneCell' = true) := by
  unfold Does cellsV at h
  split at h
  · rename_i cs
    obtain ⟨us, rfl, hs, h1, hr⟩ := hx.agg_
    exact ⟨cs, h, ⟨by simpa [Value.cells] using hs, fun k hk => by simp only [Value.cells, arr_getD]; exact ⟨h1 k hk, hr k hk⟩⟩, (fun _ => ⟨us, rfl⟩), (fun e => (by cases e))⟩
  · exact h.elim
  · exact h.elim
  · exact h.elim
  · rename_i n1 n2 n3
    have ho := hx.one_cell (fun cs e => n1 cs e) (fun cs e => n2 cs e) (fun e => n3 e)
    have hc := hx.cells (fun cs e => n2 cs e) (fun e => n3 e)
    have : cellsOf x = [x] := by cases x <;> first | rfl | exact absurd rfl (n1 _)
    rw [this] at hc
    exact ⟨[x], h, hc, (fun e => (by cases e)), (fun _ => ho)⟩
  · exact h.elim
theorem mapUpdate_core {t : TypeId} (hT : TOk P T) (hi : Inv w0 S φ0 ι φ H w) {vx vy vz : Val} {cx cy cz : Value} (hx : Rel ι φ vx cx) (hy : Rel ι φ vy cy) (hz : Rel ι φ vz cz) {o : Oper}
    (hex : (execOp a.eval o).run P w = (do let _ ← Instr.mapUpdate t cx cy cz; pure Next.skip : Sem Next).run P w) (h : Does (mapUpdateP T (T t) vx vy vz) H [] v u r') : Step P o a w w0 S φ0 ι φ H nid v u := by
  unfold Does mapUpdateP at h
  split at h
  case h_2 => exact h.elim
  rename_i kt et hTt
  have hu := map_type hT hTt
  obtain ⟨hbk, h⟩ := does_nb h
  unfold Does at h
  split at h
  case h_2 => exact h.elim
  rename_i kag ks hk
  obtain ⟨key, hkey, h⟩ := keyP_ok hy h
  unfold Does at h
  split at h
  case h_2 => exact h.elim
  rename_i hsh
  have hsh := of_decide_eq_true hsh
  cases vx
  case map b _ _ =>
    simp only [Prog.run] at h
    split at h
    case h_2 => exact h.elim
    rename_i kag' vag ks' es hbk'
    split at h
    case h_2 => exact h.elim
    rename_i hb3
    simp only [Bool.and_eq_true, beq_iff_eq, decide_eq_true_eq] at hb3
    obtain ⟨rfl, rfl⟩ := hb3
    obtain ⟨cs, h, hcs, hc1, hc2⟩ := cellsV_ok hz h
    unfold Does at h
    split at h
    case h_2 => exact h.elim
    rename_i hcl
    obtain ⟨rfl, rfl, _⟩ := h
    obtain ⟨k1, k2, k3⟩ := key_runs (P := P) (w := w) (φ := φ) hk (hT.good hbk) hkey hsh
    have hB := hi.sim.blk b
    rw [hbk'] at hB
    obtain ⟨g, c, arr, clock, hm, hheap, hents⟩ := hB
    have hcR : CellsR φ cs cz.cells.toList := ⟨hcs.1, fun k hk => ⟨(hcs.2 k hk).1, (hcs.2 k hk).2.closed_ (closedL_get hcl hk)⟩⟩
    have hbg : H b ≠ .gone := by rw [hbk']; simp
    have hcx : cx = .map (some g) := by
      cases hx with
      | c hcx => cases hcx
      | map _ g' c' hm' => rw [hm] at hm'; simp only [Option.some.injEq, Prod.mk.injEq] at hm'; rw [hm'.1]
    subst hcx
    have hf := k2 hents
    have wr : ∀ {arr' : Array MapEntry} {clock' : Nat}, EntsR φ kag vag ks (mput key cs es) arr'.toList → (Instr.mapUpdate t (.map (some g)) cy cz).run P w = .ok () { w with heap := w.heap.setIfInBounds g (.map arr' clock') } →
        Step P o a w w0 S φ0 ι φ H nid (.tup []) [(b, .map kag vag ks (mput key cs es))] := by
      intro arr' clock' hents' hrun
      obtain ⟨s1, s2⟩ := Go.MapKept.heap_set (o' := Obj.map arr' clock') hheap
      have hinv := hi.write (x := .map kag vag ks (mput key cs es)) (w' := { w with heap := w.heap.setIfInBounds g (.map arr' clock') }) hm hbg rfl rfl rfl (by simp) (fun k hk => s2 k hk) (fun q z hq hqb => ?_)
        ⟨g, c, arr', clock', hm, s1, hents'⟩
      · exact ⟨_, undef, _, ι, φ, by rw [hex]; simp only [Sem.run_bind, hrun, Result.andThen_ok, Sem.run_pure], .inr ⟨rfl, rfl⟩, rel_undef ι φ, hinv, .refl _, .refl _, fun _ _ => rfl⟩
      · have := hi.sim.prot q z hq
        obtain ⟨qb, qo, qs⟩ := q
        simp only at hqb; subst hqb
        simp only [World.cell?, hheap] at this
        cases this
    have hent : EntR φ kag vag ks (key, cs) { key := cy, val := cz, born := clock } := ⟨hkey, hsh, hcR, hc1, hc2⟩
    have hmp := mix_put key cs es
    cases hmx : mix key es with
    | none =>
      rw [hmx] at hmp
      simp only at hmp
      simp only [foundAt, hmx] at hf
      refine wr (arr' := arr.push { key := cy, val := cz, born := clock }) (clock' := clock + 1) (by rw [hmp, Array.toList_push]; exact hents.push hent) ?_
      simp only [Instr.mapUpdate, Sem.run_bind, run_underlying hu, Result.andThen_ok, Go.MapKept.run_getObj_map hheap, k1, hf, Go.MapKept.run_setObj_map _ hheap]
    | some i =>
      rw [hmx] at hmp
      simp only at hmp
      obtain ⟨hil, hie⟩ := mix_lt hmx
      have hil' : i < arr.toList.length := by rw [hents.length]; exact hil
      have his : i < arr.size := by simpa using hil'
      obtain ⟨p, hp, he⟩ := hents.get i arr.toList[i] (List.getElem?_eq_getElem hil')
      have hpk : p.1 = key := by rw [← hie, List.getD_eq_getElem?_getD, hp]; rfl
      have hek : (arr.toList[i]).key = cy := by
        have := he.key
        rw [hpk] at this
        unfold keyV at this hkey
        cases kag
        · obtain ⟨l, e1, e2⟩ := this
          obtain ⟨l', e1', e2'⟩ := hkey
          rw [e1] at e1'
          simp only [List.cons.injEq, and_true] at e1'
          rw [e2, e2', e1']
        · exact this.trans hkey.symm
      have hmod : (arr.modify i fun e => { e with key := cy, val := cz }).toList = arr.toList.set i { key := cy, val := cz, born := (arr.toList[i]).born } := by
        rw [Array.toList_modify]
        refine List.ext_getElem? fun j => ?_
        rw [List.getElem?_modify, List.getElem?_set]
        by_cases hj : i = j
        · subst hj
          rw [if_pos rfl, if_pos hil', List.getElem?_eq_getElem hil']
          simp
        · rw [if_neg hj]
          simp [hj]
      simp only [foundAt, hmx] at hf
      refine wr (arr' := arr.modify i fun e => { e with key := cy, val := cz }) (clock' := clock) ?_ ?_
      · rw [hmp, hmod]
        exact hents.set ⟨hkey, hsh, hcR, hc1, hc2⟩
      · simp only [Instr.mapUpdate, Sem.run_bind, run_underlying hu, Result.andThen_ok, Go.MapKept.run_getObj_map hheap, k1, hf]
        have : ((arr[0 + i]?).map (·.key)).getD cy = cy := by
          rw [Nat.zero_add, Array.getElem?_eq_getElem his]
          simpa using hek
        rw [this]
        simp only [k3, Result.andThen_ok, Go.MapKept.run_setObj_map _ hheap, Nat.zero_add]
  all_goals exact h.elim
theorem sound_mapUpdate {t : TypeId} {x y z : Operand} (hT : TOk P T) (hi : Inv w0 S φ0 ι φ H w) (ht : TmOk ι φ tm a.tmps) (h : Does (evK tm x fun m => evK tm y fun k => evK tm z fun v => mapUpdateP T (T t) m k v) H [] v u r') :
    Step P ⟨dst, .mapUpdate t x y z, ty, pos, after, guard⟩ a w w0 S φ0 ι φ H nid v u := by
  rw [evK_eq, evK_eq, evK_eq] at h
  exact mapUpdate_core hT hi (ht.ev x) (ht.ev y) (ht.ev z) (by simp [execOp]) h
theorem sound_insert {t : TypeId} {x y z : Operand} (hT : TOk P T) (hi : Inv w0 S φ0 ι φ H w) (ht : TmOk ι φ tm a.tmps) (h : Does (evK tm x fun m => evK tm y fun k => evK tm z fun v => mapUpdateP T (T t) m k v) H [] v u r') :
    Step P ⟨dst, .insert t x y z, ty, pos, after, guard⟩ a w w0 S φ0 ι φ H nid v u := by
  rw [evK_eq, evK_eq, evK_eq] at h
  exact mapUpdate_core hT hi (ht.ev x) (ht.ev y) (ht.ev z) (by simp [execOp]) h
end
end
end Go.AM
