/- The abstract machine's programs are sound: a function's contract. -/
import Derived.Test.YtkglccolonpnlaaAmSound7
set_option linter.unusedVariables false
set_option linter.unusedSimpArgs false
set_option maxRecDepth 100000
namespace Go.AM
noncomputable section
open Go.RowKit

section
variable {P : Program} {T : TypeId → TD} {w w0 : World} {S : Nat → Prop} {φ0 : Prot} {ι : Map} {φ : Prot} {H : Nat → Blk}
theorem load_ok {t : TypeId} {va : Val} {ca : Value} (hT : TOk P T) (hi : Inv w0 S φ0 ι φ H w) (hx : Rel ι φ va ca) {v : Val} {u : Upd} {r r' : List Nat} (h : Does (nb (T t) fun d => loadP d va) H r v u r') :
    u = [] ∧ ∃ A cv, ca = .pointer (some A) ∧ (loadVar t A).run P w = .ok cv w ∧ Rel ι φ v cv := by
  replace h := does_nb h
  obtain ⟨hb, h⟩ := h
  have hg := hT.good hb
  unfold Does loadP at h
  have fin : ∀ {A : Addr} {cs : List Val} {off : Nat} {r : List Nat}, ca = .pointer (some A) → Does (fromP (T t) cs off) H r v u r' →
      (∀ j, off + j < cs.length → ∃ u, w.cell? (A.add j) = some u ∧ u.oneCell' = true ∧ Rel ι φ (cs.getD (off + j) .und) u) → u = [] ∧ ∃ A cv, ca = .pointer (some A) ∧ (loadVar t A).run P w = .ok cv w ∧ Rel ι φ v cv := by
    intro A cs off r he hd hc
    obtain ⟨rfl, cv, hrun, hv⟩ := load_sound hg hd hc
    exact ⟨rfl, A, cv, he, hrun, hv⟩
  cases va <;> try exact h.elim
  case ptr b off =>
    obtain ⟨g, c, hm, he⟩ := hx.ptr_
    simp only [Prog.run] at h
    split at h
    · rename_i cs hbk
      have hB := hi.sim.blk b
      rw [hbk] at hB
      obtain ⟨arr, t', _, _, _, hcell⟩ := blk_cell hB hm
      exact fin he h (fun j hj => by rw [add_eq]; exact ⟨_, hcell _ hj⟩)
    · exact h.elim
  case ep b sz i j =>
    obtain ⟨g, c, hm, he⟩ := hx.ep_
    simp only [Prog.run] at h
    split at h
    · rename_i te sz' n get pr hbk
      obtain ⟨hin, h⟩ := h
      split at h
      · rename_i hs
        rw [beq_iff_eq] at hs; subst hs
        have hB := hi.sim.blk b
        rw [hbk] at hB
        obtain ⟨arr, _, h0, _, _, _, _, hl, hcell, _⟩ := blk_row hB hm
        refine fin he h (fun k hk => ?_)
        rw [hl i hin] at hk
        obtain ⟨h1, h2, h3⟩ := hcell i (j + k) hin hk
        rw [add_eq, Nat.add_assoc]
        exact ⟨_, h1, h2, .c h3⟩
      · exact h.elim
    · exact h.elim
  case rptr cs =>
    obtain ⟨A, vals, he, hφ, h1, hr⟩ := hx.rptr_
    refine fin he h (fun j hj => ?_)
    rw [Nat.zero_add] at hj ⊢
    exact ⟨vals j, hi.sim.prot _ _ (hφ j hj), h1 j hj, .c (hr j hj)⟩

def resOne (tmps : Array Value) : ResultVar → Sem Value
  | .tmp t => pure (tmps.getD t undef)
  | .cell a t => do loadVar t (← asAddr (tmps.getD a undef))
theorem resK_ok {hp : List Blk} {tm : List Val} {a : Act} (hT : TOk P T) (hi : Inv w0 S φ0 ι φ (getH hp) w) (ht : TmOk ι φ tm a.tmps) : ∀ {rs : List ResultVar} {K : List Val → Prop}, resK T tm hp rs K →
    ∃ vs us, K vs ∧ (rs.mapM (resOne a.tmps)).run P w = .ok us w ∧ us.length = vs.length ∧ ∀ i, i < vs.length → Rel ι φ (vs.getD i .und) (us.getD i undef)
  | [], K, h => ⟨[], [], h, by simp, rfl, fun i hi => absurd hi (by simp)⟩
  | .tmp t :: rs, K, h => by
    simp only [resK, getK_eq] at h
    obtain ⟨vs, us, h1, h2, h3, h4⟩ := resK_ok hT hi ht h
    refine ⟨_, a.tmps.getD t undef :: us, h1, ?_, by simp [h3], fun i hi' => ?_⟩
    · rw [List.mapM_cons]; simp only [resOne, Sem.run_bind, Sem.run_pure, Result.andThen_ok, h2]
    · cases i with
      | zero => exact ht.get t
      | succ i => exact h4 i (by simpa using hi')
  | .cell t ty :: rs, K, h => by
    simp only [resK, getK_eq] at h
    obtain ⟨v, u, r, hd, h⟩ := runL_need (G := fun v u _ => match u with
      | [] => resK T tm hp rs fun vs => K (v :: vs)
      | _ => False) h
    obtain ⟨rfl, A, cv, hA, hrun, hv⟩ := load_ok hT hi (ht.get t) hd
    obtain ⟨vs, us, h1, h2, h3, h4⟩ := resK_ok hT hi ht h
    refine ⟨_, cv :: us, h1, ?_, by simp [h3], fun i hi' => ?_⟩
    · rw [List.mapM_cons]
      have : (resOne a.tmps (.cell t ty)).run P w = .ok cv w := by
        simp [resOne, hA, asAddr, hrun]
      simp only [Sem.run_bind, this, Result.andThen_ok, h2, Sem.run_pure]
    · cases i with
      | zero => exact hv
      | succ i => exact h4 i (by simpa using hi')
theorem results_list (fn : Func) (tmps : Array Value) : results fn tmps = (do
    let vs ← fn.results.toList.mapM (resOne tmps)
    pure (if h : vs.toArray.size = 1 then vs.toArray[0] else .tuple vs.toArray)) := by
  have e : results fn tmps = (do
      let vs ← fn.results.mapM (resOne tmps)
      pure (if h : vs.size = 1 then vs[0] else .tuple vs)) := by
    unfold results
    congr 1
  rw [e, Array.mapM_eq_mapM_toList]
  simp
theorem blankK_eq {α : Type} : ∀ (n : Nat) (K : List Val → α), blankK n K = K (List.replicate n (.tup []))
  | 0, _ => rfl
  | n + 1, K => by simp only [blankK, blankK_eq n]; simp [List.replicate_succ]
theorem padK_eq {α : Type} : ∀ (args : List Val) (n : Nat) (K : List Val → α), padK args n K = K (args ++ List.replicate (n - args.length) (.tup []))
  | [], n, K => by simp [padK, blankK_eq]
  | v :: vs, n, K => by
    simp only [padK, padK_eq vs (n - 1)]
    simp only [List.length_cons, List.cons_append]
    rw [show n - 1 - vs.length = n - (vs.length + 1) by omega]
theorem Rel.closedR_ {ι ι' : Map} {φ : Prot} {v : Val} {u : Value} (h : Rel ι φ v u) (hc : closedR v = true) : Rel ι' φ v u := by
  unfold closedR at hc
  split at hc
  · rename_i vs
    obtain ⟨us, rfl, hs, hr⟩ := h.tup_
    exact .tup _ _ hs fun i hi => (hr i hi).closedA_ (closedAs_get hc hi)
  · exact h.closedA_ hc
end

/-- FROM THE ABSTRACT RUN TO THE CONTRACT. -/
theorem ret_of_body {P : Program} {T : TypeId → TD} {f : FuncId} {fn : Func} {c : Code} {args : List Val} {h : List Blk} {v : Val} {h' : List Blk} (R : Nat → List Oper → Bool) (hT : TOk P T) (hm : P.follows .mixedOrders = true)
    (hf : P.funcs[f]? = some fn) (hn : (fn.name == "runtime.NumGoroutine") = false) (hb : fn.body = some c) {k : Nat} {rs : List ResultVar} (hk : fn.ntmps = k) (hr : fn.results.toList = rs) (hbody : body P T R k rs c args h v h') : Ret P f args h v h' := by
  refine ⟨⟨fn, c, hf, hn, hb⟩, fun ι φ w cargs hnone hsim hargs => ?_⟩
  subst hk; subst hr
  unfold body at hbody
  rw [padK_eq] at hbody
  have hI0 : Inv w (handed ι h) φ ι φ (getH h) w := by
    refine ⟨hsim, .refl _ _, fun b g c hb e => .inl ?_, fun a ha => .inl ha, .refl _⟩
    refine ⟨b, c, ?_, hb, e⟩
    rcases Nat.lt_or_ge b h.length with hl | hl
    · exact hl
    · exact absurd (getH_ge hl) hb
  have htm : TmOk ι φ (args ++ List.replicate (fn.ntmps - args.length) (.tup [])) (cargs ++ Array.replicate (fn.ntmps - cargs.size) undef) := by
    refine hargs.app ⟨by simp [hargs.len], fun i hi => ?_⟩
    rw [List.length_replicate] at hi
    have e1 : (List.replicate (fn.ntmps - args.length) (Val.tup [])).getD i .und = .tup [] := by simp [List.getD_eq_getElem?_getD, hi]
    have e2 : (Array.replicate (fn.ntmps - cargs.size) undef).getD i undef = undef := by
      rw [Array.getD_eq_getD_getElem?, Array.getElem?_replicate]; split <;> rfl
    rw [e1, e2]; exact rel_undef ι φ
  refine calls_of_wp hf hb (wp_sound (w0 := w) (S := handed ι h) (φ0 := φ) (ι0 := ι) (n := h.length) hT hm c none _ h _ hbody _ _ _ ⟨ι, φ, hI0, htm, hnone, fun _ _ => rfl, Nat.le_refl _, rfl⟩ fun e tm hp a w' hk hs => ?_)
  have fin : (resK T tm hp fn.results.toList fun vs => tupK vs fun x => endK h.length x hp v h') → a.defers = [] ∧ ∃ cv, (results fn a.tmps).run P w' = .ok cv w' ∧ ∃ cv' ι' φ', Ending.returned cv = .returned cv' ∧ MapLe ι ι' ∧ Inv w (handed ι h) φ ι' φ' (getH h') w' ∧ Rel ι' φ' v cv' ∧ ∀ b, h'.length ≤ b → ι' b = none := fun hk => by
    obtain ⟨ι1, φ1, hI, ht, hend, h0, hn, hdf⟩ := hs
    obtain ⟨vs, us, h1, h2, h3, h4⟩ := resK_ok hT hI ht hk
    -- the value
    have hval : ∃ x cv, endK h.length x hp v h' ∧ (results fn a.tmps).run P w' = .ok cv w' ∧ Rel ι1 φ1 x cv := by
      rw [results_list]
      simp only [Sem.run_bind, h2, Result.andThen_ok, Sem.run_pure]
      unfold tupK at h1
      split at h1
      · rename_i x
        refine ⟨x, _, h1, rfl, ?_⟩
        have h3' : us.length = 1 := h3
        have hl : us.toArray.size = 1 := h3'
        rw [dif_pos hl]
        have := h4 0 (by simp)
        rw [List.getD_eq_getElem?_getD, List.getD_eq_getElem?_getD, List.getElem?_eq_getElem (by omega : 0 < us.length)] at this
        exact this
      · rename_i hne
        refine ⟨_, _, h1, rfl, ?_⟩
        have hl : ¬ us.toArray.size = 1 := by
          intro hl
          have : vs.length = 1 := by rw [← h3]; simpa using hl
          obtain ⟨x, rfl⟩ := List.length_eq_one_iff.1 this
          exact hne x rfl
        rw [dif_neg hl]
        exact .tup _ _ (by simpa using h3) fun i hi => by rw [toArr_getD]; exact h4 i hi
    obtain ⟨x, cv, he, hrun, hx⟩ := hval
    refine ⟨hdf, cv, hrun, cv, ?_⟩
    unfold endK at he
    split at he
    · rename_i hn0 hcl
      obtain ⟨rfl, rfl⟩ := he
      have := hI.sub (ks := []) List.nodup_nil
      exact ⟨subM [] ι1, φ1, rfl, (fun b p e => by rw [hnone b (by omega)] at e; cases e), by simpa using this, hx.closedR_ hcl, fun b _ => subM_ge (by simp)⟩
    · obtain ⟨ks, hkk, rfl, he⟩ := he
      rw [sel_eq] at he
      subst he
      obtain ⟨hnd, hpre⟩ := keepB_ok hkk
      refine ⟨subM ks ι1, φ1, rfl, fun b p e => ?_, hI.sub hnd, hx.ren subM_under, fun b hb => subM_ge (by simpa using hb)⟩
      rcases Nat.lt_or_ge b h.length with hl | hl
      · simp only [subM, hpre b hl]; rw [h0 b hl]; exact e
      · rw [hnone b hl] at e; cases e
  cases e with
  | normal => exact fin hk
  | ret => exact fin hk
  | exit id => exact hk.elim
  | goto l => exact hk.elim
end
end Go.AM
