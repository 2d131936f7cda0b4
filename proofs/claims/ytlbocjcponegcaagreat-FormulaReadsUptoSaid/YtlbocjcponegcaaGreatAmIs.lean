/- A function's body held against the model piece by piece: some pieces by the abstract machine, some by hand. -/
import Derived.Test.YtlbocjcponegcaaGreatAmHf
import Derived.Test.YtlbocjcponegcaaGreatAmHn
import Derived.Test.YtlbocjcponegcaaGreatAmGV
set_option linter.unusedVariables false
set_option linter.unusedSimpArgs false
set_option maxRecDepth 100000
namespace Go.AM
noncomputable section
open Go.RowKit

/-- What a piece of code does, whoever shows it. -/
structure Holds (P : Program) (n : Nat) (c : Code) (tm : List Val) (hp : List Blk) (K : Kont) : Prop where
  run : ∀ (w0 : World) (S : Nat → Prop) (φ0 : Prot) (ι0 : Map) (Q : Exit → Act → World → Prop) (a : Act) (w : World), St w0 S φ0 ι0 n tm hp a w →
    (∀ e tm hp a w, K e tm hp → St w0 S φ0 ι0 n tm hp a w → Q e.to a w) → c.wp P Q a w
theorem Holds.of_wp {P : Program} {T : TypeId → TD} {R : Nat → List Oper → Bool} {n : Nat} {c : Code} {tm : List Val} {hp : List Blk} {K : Kont} (hT : TOk P T) (hm : P.follows .mixedOrders = true) (h : wp P T R n c none tm hp K) : Holds P n c tm hp K :=
  ⟨fun _ _ _ _ Q a w hs hQ => wp_sound hT hm c none tm hp K h Q a w hs hQ⟩
theorem Holds.seq {P : Program} {n : Nat} {c d : Code} {tm : List Val} {hp : List Blk} {K : Kont} (h : Holds P n c tm hp (thenK (fun tm hp K => Holds P n d tm hp K) K)) : Holds P n (.seq c d) tm hp K := by
  refine ⟨fun w0 S φ0 ι0 Q a w hs hQ => ?_⟩
  refine wp_seq (h.run w0 S φ0 ι0 _ a w hs fun e tm hp a w hk hs => ?_)
  cases e with
  | normal => exact hk.run w0 S φ0 ι0 Q a w hs hQ
  | exit id => exact hQ (.exit id) tm hp a w hk hs
  | goto l => exact hQ (.goto l) tm hp a w hk hs
  | ret => exact hQ .ret tm hp a w hk hs

/-- FROM WHAT THE BODY DOES TO THE CONTRACT. -/
theorem ret_of_holds {P : Program} {T : TypeId → TD} {f : FuncId} {fn : Func} {c : Code} {args : List Val} {h : List Blk} {v : Val} {h' : List Blk} (hT : TOk P T)
    (hf : P.funcs[f]? = some fn) (hn : (fn.name == "runtime.NumGoroutine") = false) (hb : fn.body = some c) {k : Nat} {rs : List ResultVar} (hk : fn.ntmps = k) (hr : fn.results.toList = rs)
    (hbody : padK args k fun tm => Holds P h.length c tm h (finK T rs h.length v h')) : Ret P f args h v h' := by
  refine ⟨⟨fn, c, hf, hn, hb⟩, fun ι φ w cargs hnone hsim hargs => ?_⟩
  subst hk; subst hr
  rw [padK_eq] at hbody
  have hI0 : Inv w (handed ι h) φ ι φ (getH h) w := by
    refine ⟨hsim, .refl _ _, fun b g c hb e => .inl ?_, fun a ha => .inl ha, .refl _⟩
    refine ⟨b, c, ?_, hb, e⟩
    rcases Nat.lt_or_ge b h.length with hl | hl
    · exact hl
    · exact absurd (getH_ge hl) hb
  have htm : TmOk ι φ (args ++ List.replicate (fn.ntmps - args.length) (.tup [])) (cargs ++ Array.replicate (fn.ntmps - cargs.size) undef) := by
    refine hargs.app ⟨by simp [hargs.len], fun i hi => ?_⟩
    rw [List.length_replicate] at hi
    have e1 : (List.replicate (fn.ntmps - args.length) (Val.tup [])).getD i .und = .tup [] := by simp [List.getD_eq_getElem?_getD, hi]
    have e2 : (Array.replicate (fn.ntmps - cargs.size) undef).getD i undef = undef := by
      rw [Array.getD_eq_getD_getElem?, Array.getElem?_replicate]; split <;> rfl
    rw [e1, e2]; exact rel_undef ι φ
  refine calls_of_wp hf hb (hbody.run w (handed ι h) φ ι _ _ _ ⟨ι, φ, hI0, htm, hnone, fun _ _ => rfl, Nat.le_refl _, rfl⟩ fun e tm hp a w' hk hs => ?_)
  have fin : (resK T tm hp fn.results.toList fun vs => tupK vs fun x => endK h.length x hp v h') → a.defers = [] ∧ ∃ cv, (results fn a.tmps).run P w' = .ok cv w' ∧ ∃ cv' ι' φ', Ending.returned cv = .returned cv' ∧ MapLe ι ι' ∧ Inv w (handed ι h) φ ι' φ' (getH h') w' ∧ Rel ι' φ' v cv' ∧ ∀ b, h'.length ≤ b → ι' b = none := fun hk => by
    obtain ⟨ι1, φ1, hI, ht, hend, h0, hn, hdf⟩ := hs
    obtain ⟨vs, us, h1, h2, h3, h4⟩ := resK_ok hT hI ht hk
    -- the value
    have hval : ∃ x cv, endK h.length x hp v h' ∧ (results fn a.tmps).run P w' = .ok cv w' ∧ Rel ι1 φ1 x cv := by
      rw [results_list]
      simp only [Sem.run_bind, h2, Result.andThen_ok, Sem.run_pure]
      unfold tupK at h1
      split at h1
      · rename_i x
        refine ⟨x, _, h1, rfl, ?_⟩
        have h3' : us.length = 1 := h3
        have hl : us.toArray.size = 1 := h3'
        rw [dif_pos hl]
        have := h4 0 (by simp)
        rw [List.getD_eq_getElem?_getD, List.getD_eq_getElem?_getD, List.getElem?_eq_getElem (by omega : 0 < us.length)] at this
        exact this
      · rename_i hne
        refine ⟨_, _, h1, rfl, ?_⟩
        have hl : ¬ us.toArray.size = 1 := by
          intro hl
          have : vs.length = 1 := by rw [← h3]; simpa using hl
          obtain ⟨x, rfl⟩ := List.length_eq_one_iff.1 this
          exact hne x rfl
        rw [dif_neg hl]
        exact .tup _ _ (by simpa using h3) fun i hi => by rw [toArr_getD]; exact h4 i hi
    obtain ⟨x, cv, he, hrun, hx⟩ := hval
    refine ⟨hdf, cv, hrun, cv, ?_⟩
    unfold endK at he
    split at he
    · rename_i hn0 hcl
      obtain ⟨rfl, rfl⟩ := he
      have := hI.sub (ks := []) List.nodup_nil
      exact ⟨subM [] ι1, φ1, rfl, (fun b p e => by rw [hnone b (by omega)] at e; cases e), by simpa using this, hx.closedR_ hcl, fun b _ => subM_ge (by simp)⟩
    · obtain ⟨ks, hkk, rfl, he⟩ := he
      rw [sel_eq] at he
      subst he
      obtain ⟨hnd, hpre⟩ := keepB_ok hkk
      refine ⟨subM ks ι1, φ1, rfl, fun b p e => ?_, hI.sub hnd, hx.ren subM_under, fun b hb => subM_ge (by simpa using hb)⟩
      rcases Nat.lt_or_ge b h.length with hl | hl
      · simp only [subM, hpre b hl]; rw [h0 b hl]; exact e
      · rw [hnone b hl] at e; cases e
  cases e with
  | normal => exact fin hk
  | ret => exact fin hk
  | exit id => exact hk.elim
  | goto l => exact hk.elim
end
end Go.AM

set_option linter.unusedVariables false
set_option linter.unusedSimpArgs false
set_option maxRecDepth 100000
namespace Go.AM
noncomputable section
theorem Holds.gc {P : Program} {n : Nat} {c : Code} {tm : List Val} {hp : List Blk} {K : Kont} (ks : List Nat) (m : List Bool) (hk : keepB n ks = true) (h : gcK ks m tm hp fun tm hp => Holds P n c tm hp K) : Holds P n c tm hp K :=
  ⟨fun w0 S φ0 ι0 Q a w hs hQ => by
    obtain ⟨tm', hp', h1, h2⟩ := hs.gc hk h
    exact h1.run w0 S φ0 ι0 Q a w h2 hQ⟩
/-- The second of two pieces shown ahead. -/
theorem Holds.cut {P : Program} {n : Nat} {c d : Code} {tm : List Val} {hp : List Blk} {K : Kont} (Q : Code → Kont → Prop) (h2 : Q d K) (h1 : ∀ d', Q d' K → Holds P n c tm hp (thenK (fun tm hp K => Holds P n d' tm hp K) K)) : Holds P n (.seq c d) tm hp K := Holds.seq (h1 d h2)
theorem TmOk.setV {ι : Map} {φ : Prot} {tm : List Val} {us : Array Value} (h : TmOk ι φ tm us) {t : Nat} {v : Val} (hv : t < tm.length → Rel ι φ v (us.getD t undef)) : TmOk ι φ (tm.set t v) us :=
  ⟨by rw [List.length_set]; exact h.len, fun i hi => by
    rw [List.length_set] at hi
    rw [List.getD_eq_getElem?_getD, List.getElem?_set]
    by_cases e : t = i
    · subst e; rw [if_pos rfl, if_pos hi]; exact hv hi
    · rw [if_neg e, ← List.getD_eq_getElem?_getD]; exact h.rel i hi⟩
/-- A row of the call's own, from here on memory that is read alone. -/
theorem Holds.lendL {α : Type} {P : Program} {n : Nat} {c : Code} {tm : List Val} {hp : List Blk} {K : Kont} (t b : Nat) {sz m pr : Nat} {e : TypeId} {get : Nat → List Val} {enc : α → List Val} {l : List α}
    (ht : tm.getD t .und = .row b m) (hb : getH hp b = .row e sz m get pr) (hx : ExtL enc m get l) (h : Holds P n c (tm.set t (eL sz enc l)) (hp.map raiseB) K) : Holds P n c tm hp K := by
  refine ⟨fun w0 S φ0 ι0 Q a w hs hQ => ?_⟩
  obtain ⟨ι, φ, hI, htm, hend, h0, hn, hdf⟩ := hs.raise
  have hb' : getH (hp.map raiseB) b = .row e sz m get m := by
    have : getH (hp.map raiseB) b = raiseB (getH hp b) := by
      simp only [getH, List.getD_eq_getElem?_getD, List.getElem?_map]
      cases hp[b]? <;> rfl
    rw [this, hb]; rfl
  by_cases hlt : t < tm.length
  · have hr := htm.rel t hlt
    rw [ht] at hr
    obtain ⟨g, cc, hm, hnc, hv⟩ := hr.row_
    obtain ⟨φ', hle, hI', hr'⟩ := hI.lend_row hm hb' (Nat.le_refl _) hnc
    refine h.run w0 S φ0 ι0 Q a w ⟨ι, φ', hI', (htm.mono (.refl _) hle).setV fun _ => ?_, hend, h0, hn, hdf⟩ hQ
    rw [hv]
    exact le_extL hx _ _ _ hr'
  · rw [List.getD_eq_getElem?_getD, List.getElem?_eq_none (by omega)] at ht; cases ht
end
end Go.AM

