/- Heaps without bound: blocks named by any number; a run in a window of a few of them, all else as it is. -/
import Derived.Test.YtafiechoplbieaaAmIs
set_option linter.unusedVariables false
set_option linter.unusedSimpArgs false
set_option maxRecDepth 100000
namespace Go.AM
noncomputable section
open Go.RowKit

/-! ### values seen from a window -/
mutual
/-- A value under the window's names; what points out of it is the model's own value. -/
def locV (σ : Nat → Option Nat) (ρ : Val → Value) : Val → Val
  | .ptr b off => match σ b with
    | some i => .ptr i off
    | none => .raw (ρ (.ptr b off))
  | .row b n => match σ b with
    | some i => .row i n
    | none => .raw (ρ (.row b n))
  | .map b => match σ b with
    | some i => .map i
    | none => .raw (ρ (.map b))
  | .agg cs => .agg (locL σ ρ cs)
  | .tup vs => .tup (locL σ ρ vs)
  | .raw u => .raw u
  | v => match closed v with
    | true => v
    | false => .und
def locL (σ : Nat → Option Nat) (ρ : Val → Value) : List Val → List Val
  | [] => []
  | v :: vs => locV σ ρ v :: locL σ ρ vs
end
def locE (σ : Nat → Option Nat) (ρ : Val → Value) : List MEnt → List MEnt
  | [] => []
  | p :: es => (p.1, locL σ ρ p.2) :: locE σ ρ es
def locB (σ : Nat → Option Nat) (ρ : Val → Value) : Blk → Blk
  | .cells cs => .cells (locL σ ρ cs)
  | .pmap kag ks es => .pmap kag ks (locE σ ρ es)
  | .row e sz n g pr => .row e sz n g pr
  | .map a b ks es => .map a b ks es
  | .gone => .gone
/-- the model's value of what names a block -/
def valOf (ι : Map) : Val → Value
  | .ptr b off => match ι b with
    | some (g, _) => .pointer (some ⟨g, off, none⟩)
    | none => undef
  | .row b n => match ι b with
    | some (g, c) => .slice (some ⟨g, 0, none⟩) n c
    | none => undef
  | .map b => match ι b with
    | some (g, _) => .map (some g)
    | none => undef
  | _ => undef
theorem locL_length (σ : Nat → Option Nat) (ρ : Val → Value) : ∀ cs : List Val, (locL σ ρ cs).length = cs.length
  | [] => by simp [locL]
  | _ :: cs => by simp [locL, locL_length σ ρ cs]
theorem locL_get (σ : Nat → Option Nat) (ρ : Val → Value) : ∀ (cs : List Val) (i : Nat), (locL σ ρ cs).getD i .und = locV σ ρ (cs.getD i .und)
  | [], i => by simp [locL, locV, closed]
  | c :: cs, 0 => by simp [locL]
  | c :: cs, i + 1 => by simp only [locL, List.getD_cons_succ]; exact locL_get σ ρ cs i
theorem RelC.isClosed {φ : Prot} {v : Val} {u : Value} (h : RelC φ v u) : closed v = true := by
  induction h with
  | ifc t v u h ih => exact ih
  | _ => rfl
theorem RelC.loc {φ : Prot} {v : Val} {u : Value} (h : RelC φ v u) (σ : Nat → Option Nat) (ρ : Val → Value) : locV σ ρ v = v := by
  have hc := h.isClosed
  cases h <;> simp only [locV, closed] at hc ⊢
  rw [hc]
theorem loc_other {σ : Nat → Option Nat} {ρ : Val → Value} {v : Val} (h1 : ∀ b o, v ≠ .ptr b o) (h2 : ∀ b n, v ≠ .row b n) (h3 : ∀ b, v ≠ .map b) (h4 : ∀ cs, v ≠ .agg cs) (h5 : ∀ cs, v ≠ .tup cs) (h6 : ∀ u, v ≠ .raw u) :
    locV σ ρ v = v ∧ closed v = true ∨ locV σ ρ v = .und := by
  cases hc : closed v with
  | true =>
    refine .inl ⟨?_, rfl⟩
    cases v <;> first
      | exact absurd rfl (h1 _ _)
      | exact absurd rfl (h2 _ _)
      | exact absurd rfl (h3 _)
      | exact absurd rfl (h4 _)
      | exact absurd rfl (h5 _)
      | exact absurd rfl (h6 _)
      | (simp only [locV, hc])
  | false =>
    refine .inr ?_
    cases v <;> first
      | exact absurd rfl (h1 _ _)
      | exact absurd rfl (h2 _ _)
      | exact absurd rfl (h3 _)
      | exact absurd rfl (h4 _)
      | exact absurd rfl (h5 _)
      | exact absurd rfl (h6 _)
      | (simp only [locV, hc])
theorem Rel.loc {ι ι' : Map} {φ : Prot} {σ : Nat → Option Nat} (hσ : Under σ ι ι') {v : Val} {u : Value} (h : Rel ι φ v u) : Rel ι' φ (locV σ (valOf ι) v) u := by
  induction h with
  | c h => rw [h.loc]; exact .c h
  | ptr b off g c h =>
    simp only [locV]
    cases hb : σ b with
    | none => simp only [valOf, h]; exact .raw _ rfl
    | some i => exact .ptr i off g c (hσ b i _ hb h)
  | row b n g c h hn =>
    simp only [locV]
    cases hb : σ b with
    | none => simp only [valOf, h]; exact .raw _ rfl
    | some i => exact .row i n g c (hσ b i _ hb h) hn
  | map b g c h =>
    simp only [locV]
    cases hb : σ b with
    | none => simp only [valOf, h]; exact .raw _ rfl
    | some i => exact .map i g c (hσ b i _ hb h)
  | agg cs us h h1 hr ih =>
    simp only [locV]
    exact .agg _ us (by rw [locL_length, h]) (fun i hi => by rw [locL_length] at hi; exact h1 i hi) (fun i hi => by rw [locL_get]; rw [locL_length] at hi; exact ih i hi)
  | tup cs us h hr ih =>
    simp only [locV]
    exact .tup _ us (by rw [locL_length, h]) (fun i hi => by rw [locL_get]; rw [locL_length] at hi; exact ih i hi)
  | raw u h => simp only [locV]; exact .raw u h
  | und u => simp only [locV, closed]; exact .und u
  | ep b sz i j g c h => simp only [locV, closed]; exact .und _
  | asl b off n g c cap h hn => simp only [locV, closed]; exact .und _
  | fn f fs cs us ws h1 h2 r1 r2 _ _ =>
    rcases loc_other (σ := σ) (ρ := valOf ι) (v := .fn f fs cs) (by simp) (by simp) (by simp) (by simp) (by simp) (by simp) with ⟨e, hc⟩ | e
    · rw [e]; exact .c ((Rel.fn f fs cs us ws h1 h2 r1 r2).closed_ hc)
    · rw [e]; exact .und _
  | ifc t v u h _ =>
    rcases loc_other (σ := σ) (ρ := valOf ι) (v := .ifc t v) (by simp) (by simp) (by simp) (by simp) (by simp) (by simp) with ⟨e, hc⟩ | e
    · rw [e]; exact .c ((Rel.ifc t v u h).closed_ hc)
    · rw [e]; exact .und _
mutual
/-- What names blocks in a value; a value that can be told from the window's. -/
def nmV (p : Val → Prop) : Val → Prop
  | .ptr b o => p (.ptr b o)
  | .row b n => p (.row b n)
  | .map b => p (.map b)
  | .agg cs => nmL p cs
  | .tup vs => nmL p vs
  | .raw _ => True
  | .und => True
  | v => closed v = true
def nmL (p : Val → Prop) : List Val → Prop
  | [] => True
  | v :: vs => nmV p v ∧ nmL p vs
end
def nmE (p : Val → Prop) : List MEnt → Prop
  | [] => True
  | q :: es => nmL p q.2 ∧ nmE p es
def nmB (p : Val → Prop) : Blk → Prop
  | .cells cs => nmL p cs
  | .pmap _ _ es => nmE p es
  | _ => True
/-- where a name stands, the window's run being over -/
def outM (σ : Nat → Option Nat) (ι ι1 : Map) : Map := fun b => match σ b with
  | some i => ι1 i
  | none => ι b
/-- a leaf's name -/
def leafN : Val → Option Nat
  | .ptr b _ => some b
  | .row b _ => some b
  | .map b => some b
  | _ => none
def inWin (σ : Nat → Option Nat) (v : Val) : Prop := ∃ b, leafN v = some b ∧ σ b ≠ none
def outWin (ι : Map) (φ : Prot) (v : Val) : Prop := ∃ u, Rel ι φ v u
mutual
theorem glob {ι ι1 : Map} {φ φ1 : Prot} {σ : Nat → Option Nat} : ∀ (v : Val) {u : Value}, Rel ι1 φ1 (locV σ (valOf ι) v) u → nmV (fun v => inWin σ v ∨ outWin ι φ v) v → Rel (outM σ ι ι1) φ1 v u
  | .ptr b off, u, h, hn => by
    simp only [locV] at h
    cases hb : σ b with
    | some i =>
      simp only [hb] at h
      obtain ⟨g, c, e, rfl⟩ := h.ptr_
      exact .ptr b off g c (by simp only [outM, hb]; exact e)
    | none =>
      simp only [hb] at h
      simp only [nmV] at hn
      rcases hn with ⟨b', e, hs⟩ | ⟨u', hu⟩
      · simp only [leafN, Option.some.injEq] at e; subst e; exact absurd hb hs
      · obtain ⟨g, c, hi, rfl⟩ := hu.ptr_
        have e : u = valOf ι (.ptr b off) := by cases h with
          | raw => rfl
          | c h => cases h
        rw [e]; simp only [valOf, hi]
        exact .ptr b off g c (by simp only [outM, hb]; exact hi)
  | .row b n, u, h, hn => by
    simp only [locV] at h
    cases hb : σ b with
    | some i =>
      simp only [hb] at h
      obtain ⟨g, c, e, hnc, rfl⟩ := h.row_
      exact .row b n g c (by simp only [outM, hb]; exact e) hnc
    | none =>
      simp only [hb] at h
      simp only [nmV] at hn
      rcases hn with ⟨b', e, hs⟩ | ⟨u', hu⟩
      · simp only [leafN, Option.some.injEq] at e; subst e; exact absurd hb hs
      · obtain ⟨g, c, hi, hnc, rfl⟩ := hu.row_
        have e : u = valOf ι (.row b n) := by cases h with
          | raw => rfl
          | c h => cases h
        rw [e]; simp only [valOf, hi]
        exact .row b n g c (by simp only [outM, hb]; exact hi) hnc
  | .map b, u, h, hn => by
    simp only [locV] at h
    cases hb : σ b with
    | some i =>
      simp only [hb] at h
      cases h with
      | c h => cases h
      | map _ g c e => exact .map b g c (by simp only [outM, hb]; exact e)
    | none =>
      simp only [hb] at h
      simp only [nmV] at hn
      rcases hn with ⟨b', e, hs⟩ | ⟨u', hu⟩
      · simp only [leafN, Option.some.injEq] at e; subst e; exact absurd hb hs
      · have e : u = valOf ι (.map b) := by cases h with
          | raw => rfl
          | c h => cases h
        cases hu with
        | c h => cases h
        | map _ g c hi =>
          rw [e]; simp only [valOf, hi]
          exact .map b g c (by simp only [outM, hb]; exact hi)
  | .agg cs, u, h, hn => by
    simp only [locV] at h
    simp only [nmV] at hn
    obtain ⟨us, rfl, hs, h1, hr⟩ := h.agg_
    rw [locL_length] at hs
    exact .agg cs us hs (fun i hi => h1 i (by rw [locL_length]; exact hi)) (globL cs (fun i => us.getD i undef) hn fun i hi => by have := hr i (by rw [locL_length]; exact hi); rwa [locL_get] at this)
  | .tup cs, u, h, hn => by
    simp only [locV] at h
    simp only [nmV] at hn
    obtain ⟨us, rfl, hs, hr⟩ := h.tup_
    rw [locL_length] at hs
    exact .tup cs us hs (globL cs (fun i => us.getD i undef) hn fun i hi => by have := hr i (by rw [locL_length]; exact hi); rwa [locL_get] at this)
  | .raw x, u, h, _ => by
    simp only [locV] at h
    cases h with
    | raw _ h1 => exact .raw _ h1
    | c h => cases h
  | .und, u, _, _ => .und u
  | .bool b, u, h, _ => by simp only [locV, closed] at h; exact .c (h.closed_ rfl)
  | .int k n, u, h, _ => by simp only [locV, closed] at h; exact .c (h.closed_ rfl)
  | .str s, u, h, _ => by simp only [locV, closed] at h; exact .c (h.closed_ rfl)
  | .rptr cs, u, h, _ => by simp only [locV, closed] at h; exact .c (h.closed_ rfl)
  | .nilp, u, h, _ => by simp only [locV, closed] at h; exact .c (h.closed_ rfl)
  | .ext sz n g, u, h, _ => by simp only [locV, closed] at h; exact .c (h.closed_ rfl)
  | .nils, u, h, _ => by simp only [locV, closed] at h; exact .c (h.closed_ rfl)
  | .emp, u, h, _ => by simp only [locV, closed] at h; exact .c (h.closed_ rfl)
  | .nilf, u, h, _ => by simp only [locV, closed] at h; exact .c (h.closed_ rfl)
  | .nilm, u, h, _ => by simp only [locV, closed] at h; exact .c (h.closed_ rfl)
  | .nili, u, h, _ => by simp only [locV, closed] at h; exact .c (h.closed_ rfl)
  | .fn f fs cs, u, h, hn => by
    have hn : closed (.fn f fs cs) = true := by simpa only [nmV] using hn
    have e : locV σ (valOf ι) (.fn f fs cs) = .fn f fs cs := by simp only [locV, hn]
    rw [e] at h
    exact .c (h.closed_ hn)
  | .ifc t v, u, h, hn => by
    have hn : closed (.ifc t v) = true := by simpa only [nmV] using hn
    have e : locV σ (valOf ι) (.ifc t v) = .ifc t v := by simp only [locV, hn]
    rw [e] at h
    exact .c (h.closed_ hn)
  | .ep _ _ _ _, _, _, hn => absurd hn (by simp [nmV, closed])
  | .asl _ _ _, _, _, hn => absurd hn (by simp [nmV, closed])
theorem globL {ι ι1 : Map} {φ φ1 : Prot} {σ : Nat → Option Nat} : ∀ (cs : List Val) (us : Nat → Value), nmL (fun v => inWin σ v ∨ outWin ι φ v) cs → (∀ i, i < cs.length → Rel ι1 φ1 (locV σ (valOf ι) (cs.getD i .und)) (us i)) → ∀ i, i < cs.length → Rel (outM σ ι ι1) φ1 (cs.getD i .und) (us i)
  | [], _, _, _, i, hi => absurd hi (by simp)
  | x :: cs, us, hn, h, 0, _ => by simp only [nmL] at hn; exact glob x (h 0 (by simp)) hn.1
  | x :: cs, us, hn, h, i + 1, hi => by
    simp only [nmL] at hn
    exact globL cs (fun i => us (i + 1)) hn.2 (fun j hj => h (j + 1) (by simpa using hj)) i (by simpa using hi)
end
end
end Go.AM

set_option linter.unusedVariables false
set_option linter.unusedSimpArgs false
set_option maxRecDepth 100000
namespace Go.AM
noncomputable section
open Go.RowKit
/-- the window's blocks -/
def winH (ρ : Val → Value) (ks : List Nat) (M : Nat → Blk) : List Blk := ks.map fun k => locB (idx ks) ρ (M k)
theorem locB_gone {σ : Nat → Option Nat} {ρ : Val → Value} {x : Blk} : locB σ ρ x = .gone ↔ x = .gone := by cases x <;> simp [locB]
theorem EntsG.loc {ι ι' : Map} {φ : Prot} {σ : Nat → Option Nat} (hσ : Under σ ι ι') {kag vag : Bool} {ks : List LK} : ∀ {ps : List MEnt} {es : List MapEntry}, EntsG (Rel ι φ) kag vag ks ps es → EntsG (Rel ι' φ) kag vag ks (locE σ (valOf ι) ps) es
  | [], [], _ => trivial
  | p :: ps, e :: es, h => ⟨⟨h.1.key, h.1.shape, ⟨by rw [locL_length]; exact h.1.cells.1, fun k hk => by rw [locL_length] at hk; rw [locL_get]; exact ⟨(h.1.cells.2 k hk).1, (h.1.cells.2 k hk).2.loc hσ⟩⟩, h.1.agg, h.1.one⟩, EntsG.loc hσ h.2⟩
  | [], _ :: _, h => h.elim
  | _ :: _, [], h => h.elim
theorem EntsG.glob {ι ι1 : Map} {φ φ1 : Prot} {σ : Nat → Option Nat} {kag vag : Bool} {ks : List LK} : ∀ {ps : List MEnt} {es : List MapEntry}, nmE (fun v => inWin σ v ∨ outWin ι φ v) ps → EntsG (Rel ι1 φ1) kag vag ks (locE σ (valOf ι) ps) es → EntsG (Rel (outM σ ι ι1) φ1) kag vag ks ps es
  | [], [], _, _ => trivial
  | p :: ps, e :: es, hn, h => by
    have hc := h.1.cells
    have hl : e.val.cells.toList.length = p.2.length := hc.1.trans (locL_length ..)
    have hg := globL p.2 (fun i => e.val.cells.toList.getD i undef) hn.1 (fun k hk => by have := (hc.2 k (by rw [locL_length]; exact hk)).2; rwa [locL_get] at this)
    exact ⟨⟨h.1.key, h.1.shape, ⟨hl, fun k hk => ⟨(hc.2 k (by rw [locL_length]; exact hk)).1, hg k hk⟩⟩, h.1.agg, h.1.one⟩, EntsG.glob hn.2 h.2⟩
  | [], _ :: _, _, h => h.elim
  | _ :: _, [], _, h => h.elim
theorem BlkOk.loc {ι ι' : Map} {φ : Prot} {w : World} {σ : Nat → Option Nat} {b i : Nat} {x : Blk} (hσ : Under σ ι ι') (hi : ι' i = ι b) (h : BlkOk ι φ w b x) : BlkOk ι' φ w i (locB σ (valOf ι) x) := by
  cases x with
  | gone => trivial
  | cells cs =>
    obtain ⟨g, c, arr, t, e, hh, hs, hr, hf⟩ := h
    exact ⟨g, c, arr, t, hi.trans e, hh, by rw [locL_length]; exact hs, fun k hk => by rw [locL_length] at hk; rw [locL_get]; exact ⟨(hr k hk).1, (hr k hk).2.loc hσ⟩, hf⟩
  | row t sz n get pr => exact row_at h hi
  | map kag vag ks es =>
    obtain ⟨g, c, arr, clock, e, rest⟩ := h
    exact ⟨g, c, arr, clock, hi.trans e, rest⟩
  | pmap kag ks es =>
    obtain ⟨g, c, arr, clock, e, hh, hr, hst⟩ := h
    exact ⟨g, c, arr, clock, hi.trans e, hh, hr.loc hσ, hst⟩
theorem BlkOk.glob {ι ι1 : Map} {φ φ1 : Prot} {w : World} {σ : Nat → Option Nat} {b i : Nat} {x : Blk} (hi : σ b = some i) (hn : nmB (fun v => inWin σ v ∨ outWin ι φ v) x) (h : BlkOk ι1 φ1 w i (locB σ (valOf ι) x)) : BlkOk (outM σ ι ι1) φ1 w b x := by
  have ho : outM σ ι ι1 b = ι1 i := by simp only [outM, hi]
  cases x with
  | gone => trivial
  | cells cs =>
    obtain ⟨g, c, arr, t, e, hh, hs, hr, hf⟩ := h
    rw [locL_length] at hs
    have hg := globL cs (fun i => arr.getD i undef) hn (fun k hk => by have := (hr k (by rw [locL_length]; exact hk)).2; rwa [locL_get] at this)
    exact ⟨g, c, arr, t, ho.trans e, hh, hs, fun k hk => ⟨(hr k (by rw [locL_length]; exact hk)).1, hg k hk⟩, hf⟩
  | row t sz n get pr => exact row_at h ho
  | map kag vag ks es =>
    obtain ⟨g, c, arr, clock, e, rest⟩ := h
    exact ⟨g, c, arr, clock, ho.trans e, rest⟩
  | pmap kag ks es =>
    obtain ⟨g, c, arr, clock, e, hh, hr, hst⟩ := h
    exact ⟨g, c, arr, clock, ho.trans e, hh, hr.glob hn, hst⟩
section
variable {w0 w w' : World} {S : Nat → Prop} {φ0 φ φ1 : Prot} {ι ι1 : Map} {M M' : Nat → Blk}
/-- the memory that the window's run may write -/
def winS (ι : Map) (M : Nat → Blk) (ks : List Nat) (g : Nat) : Prop := ∃ k c, k ∈ ks ∧ M k ≠ .gone ∧ ι k = some (g, c)
theorem Inv.enter (hI : Inv w0 S φ0 ι φ M w) {ks : List Nat} (hn : ks.Nodup) : Inv w (winS ι M ks) φ (subM ks ι) φ (getH (winH (valOf ι) ks M)) w := by
  have live : ∀ {i : Nat}, getH (winH (valOf ι) ks M) i ≠ .gone → ∃ k, ks[i]? = some k ∧ M k ≠ .gone := fun {i} hi => by
    unfold winH at hi
    rw [getH_map] at hi
    cases hk : ks[i]? with
    | none => rw [hk] at hi; exact absurd rfl hi
    | some k => rw [hk] at hi; exact ⟨k, rfl, fun e => hi (locB_gone.2 e)⟩
  refine ⟨⟨fun i => ?_, fun i j g c c' hi hj e e' => ?_, hI.sim.prot⟩, .refl _ _, fun i g c hi e => .inl ?_, fun a ha => .inl ha, .refl _⟩
  · unfold winH
    rw [getH_map]
    cases hk : ks[i]? with
    | none => trivial
    | some k => exact (hI.sim.blk k).loc subM_under (by simp only [subM, hk])
  · obtain ⟨k, hk, h1⟩ := live hi
    obtain ⟨k', hk', h2⟩ := live hj
    simp only [subM, hk] at e
    simp only [subM, hk'] at e'
    have := hI.sim.inj k k' g c c' h1 h2 e e'
    subst this
    have a := idx_of_get hn hk
    have b := idx_of_get hn hk'
    rw [a] at b; injection b
  · obtain ⟨k, hk, h1⟩ := live hi
    simp only [subM, hk] at e
    exact ⟨k, c, List.mem_of_getElem? hk, h1, e⟩
theorem Inv.leave (hI : Inv w0 S φ0 ι φ M w) (hnorm : ∀ b, M b = .gone → ι b = none) {ks ns : List Nat} (hn : (ks ++ ns).Nodup) (hlive : ∀ k ∈ ks, M k ≠ .gone) (hnew : ∀ k ∈ ns, M k = .gone)
    (hI1 : Inv w (winS ι M ks) φ ι1 φ1 (getH ((ks ++ ns).map fun k => locB (idx (ks ++ ns)) (valOf ι) (M' k))) w') (hi0 : ∀ i, i < ks.length → ι1 i = subM ks ι i)
    (hframe : ∀ b, b ∉ ks ++ ns → M' b = M b) (hM' : ∀ b ∈ ks ++ ns, M' b ≠ .gone) (hnames : ∀ b ∈ ks ++ ns, nmB (fun v => inWin (idx (ks ++ ns)) v ∨ outWin ι φ v) (M' b)) :
    Inv w0 S φ0 (outM (idx (ks ++ ns)) ι ι1) φ1 M' w' ∧ MapLe ι (outM (idx (ks ++ ns)) ι ι1) ∧ (∀ b, M' b = .gone → outM (idx (ks ++ ns)) ι ι1 b = none) := by
  have hmem : ∀ {b i : Nat}, idx (ks ++ ns) b = some i → b ∈ ks ++ ns ∧ (ks ++ ns)[i]? = some b := fun {b i} h => ⟨List.mem_of_getElem? (idx_get h), idx_get h⟩
  have hnot : ∀ {b : Nat}, idx (ks ++ ns) b = none → b ∉ ks ++ ns := fun {b} h hm => by
    obtain ⟨i, hi, e⟩ := List.mem_iff_getElem.1 hm
    have := idx_of_get hn (show (ks ++ ns)[i]? = some b by rw [List.getElem?_eq_getElem hi, e])
    rw [h] at this; cases this
  -- the window's old blocks stand where they stood
  have hold : ∀ {b i : Nat}, idx (ks ++ ns) b = some i → b ∈ ks → ι1 i = ι b := fun {b i} h hk => by
    obtain ⟨j, hj, e⟩ := List.mem_iff_getElem.1 hk
    have h2 : (ks ++ ns)[j]? = some b := by rw [List.getElem?_append_left hj, List.getElem?_eq_getElem hj, e]
    have h3 := idx_of_get hn h2
    rw [h] at h3; injection h3 with h3; subst h3
    rw [hi0 i hj]
    simp only [subM, List.getElem?_eq_getElem hj, e]
  have hle : MapLe ι (outM (idx (ks ++ ns)) ι ι1) := fun b p e => by
    unfold outM
    cases h : idx (ks ++ ns) b with
    | none => exact e
    | some i =>
      rcases List.mem_append.1 (hmem h).1 with hk | hk
      · simp only; rw [hold h hk]; exact e
      · rw [hnorm b (hnew b hk)] at e; cases e
  have hout : ∀ {b : Nat}, idx (ks ++ ns) b = none → outM (idx (ks ++ ns)) ι ι1 b = ι b := fun {b} h => by simp only [outM, h]
  have hin : ∀ {b i : Nat}, idx (ks ++ ns) b = some i → outM (idx (ks ++ ns)) ι ι1 b = ι1 i := fun {b i} h => by simp only [outM, h]
  have hlt : ∀ {b g c : Nat}, M b ≠ .gone → ι b = some (g, c) → g < w.heap.size := fun {b g c} hb e => by
    obtain ⟨g', c', e', hl⟩ := (hI.sim.blk b).place hb
    rw [e] at e'; injection e' with e'; injection e' with e1 _; omega
  -- what is outside is not the window's
  have hapart : ∀ {b g c : Nat}, idx (ks ++ ns) b = none → M b ≠ .gone → ι b = some (g, c) → ¬ winS ι M ks g := fun {b g c} h hb e => by
    rintro ⟨k, c', hk, hk2, e'⟩
    have := hI.sim.inj b k g c c' hb hk2 e e'
    subst this
    exact hnot h (List.mem_append_left _ hk)
  have hwin : ∀ i, getH ((ks ++ ns).map fun k => locB (idx (ks ++ ns)) (valOf ι) (M' k)) i = match (ks ++ ns)[i]? with | some k => locB (idx (ks ++ ns)) (valOf ι) (M' k) | none => .gone := fun i => getH_map
  have hlivew : ∀ {b i : Nat}, idx (ks ++ ns) b = some i → M' b ≠ .gone → getH ((ks ++ ns).map fun k => locB (idx (ks ++ ns)) (valOf ι) (M' k)) i ≠ .gone := fun {b i} h hb e => by
    rw [hwin, (hmem h).2] at e
    exact hb (locB_gone.1 e)
  have hS : ∀ g, winS ι M ks g → S g ∨ w0.heap.size ≤ g := fun g ⟨k, c, _, hk, e⟩ => hI.own k g c hk e
  have hsz := hI.keep.size
  refine ⟨⟨⟨fun b => ?_, fun b b' g c c' hb hb' e e' => ?_, hI1.sim.prot⟩, ⟨hI1.keep.os.trans hI.keep.os, hI1.keep.tape.trans hI.keep.tape, hI1.keep.output.trans hI.keep.output, Nat.le_trans hsz hI1.keep.size, fun g hg hs => ?_⟩, fun b g c hb e => ?_, fun a ha => ?_, hI.le.trans hI1.le⟩, hle, fun b hb => ?_⟩
  · cases h : idx (ks ++ ns) b with
    | some i =>
      have hB := hI1.sim.blk i
      rw [hwin, (hmem h).2] at hB
      exact hB.glob h (hnames b (hmem h).1)
    | none =>
      rw [hframe b (hnot h)]
      refine (hI.sim.blk b).mono hle hI1.le (fun g c e hx => hI1.keep.block g (hlt hx e) (hapart h hx e)) (fun g c e hx off sp hf => ?_)
      cases hq : φ1 ⟨g, off, sp⟩ with
      | none => rfl
      | some z =>
        rcases hI1.new ⟨g, off, sp⟩ (by rw [hq]; simp) with h1 | h1 | h1
        · exact absurd hf h1
        · exact absurd h1 (hapart h hx e)
        · have h1 : w.heap.size ≤ g := h1
          have := hlt hx e
          omega
  · cases h : idx (ks ++ ns) b with
    | some i =>
      rw [hin h] at e
      cases h' : idx (ks ++ ns) b' with
      | some j =>
        rw [hin h'] at e'
        have := hI1.sim.inj i j g c c' (hlivew h hb) (hlivew h' hb') e e'
        subst this
        have a := (hmem h).2
        rw [(hmem h').2] at a
        injection a with a; exact a.symm
      | none =>
        exfalso
        rw [hout h'] at e'
        rw [hframe b' (hnot h')] at hb'
        rcases hI1.own i g c (hlivew h hb) e with h1 | h1
        · exact hapart h' hb' e' h1
        · have := hlt hb' e'; omega
    | none =>
      rw [hout h] at e
      rw [hframe b (hnot h)] at hb
      cases h' : idx (ks ++ ns) b' with
      | some j =>
        exfalso
        rw [hin h'] at e'
        rcases hI1.own j g c' (hlivew h' hb') e' with h1 | h1
        · exact hapart h hb e h1
        · have := hlt hb e; omega
      | none =>
        rw [hout h'] at e'
        rw [hframe b' (hnot h')] at hb'
        exact hI.sim.inj b b' g c c' hb hb' e e'
  · rw [hI1.keep.block g (by omega) fun hs' => by
      rcases hS g hs' with h1 | h1
      · exact hs h1
      · omega]
    exact hI.keep.block g hg hs
  · cases h : idx (ks ++ ns) b with
    | some i =>
      rw [hin h] at e
      rcases hI1.own i g c (hlivew h hb) e with h1 | h1
      · exact hS g h1
      · exact .inr (by omega)
    | none =>
      rw [hout h] at e
      rw [hframe b (hnot h)] at hb
      exact hI.own b g c hb e
  · rcases hI1.new a ha with h1 | h1 | h1
    · exact hI.new a h1
    · exact .inr (hS _ h1)
    · exact .inr (.inr (by omega))
  · cases h : idx (ks ++ ns) b with
    | some i => exact absurd hb (hM' b (hmem h).1)
    | none =>
      rw [hout h]
      exact hnorm b (by rw [← hframe b (hnot h)]; exact hb)
end
end
end Go.AM

set_option linter.unusedVariables false
set_option linter.unusedSimpArgs false
set_option maxRecDepth 100000
namespace Go.AM
noncomputable section
open Go.RowKit
/-- The state: a heap M whose blocks are named by any number. -/
def GSt (w0 : World) (S : Nat → Prop) (φ0 : Prot) (ι0 : Map) (M : Nat → Blk) (tm : List Val) (a : Act) (w : World) : Prop :=
  ∃ ι φ, Inv w0 S φ0 ι φ M w ∧ TmOk ι φ tm a.tmps ∧ (∀ b, M b = .gone → ι b = none) ∧ a.defers = [] ∧ MapLe ι0 ι
abbrev KontH := Ex → (Nat → Blk) → List Val → Prop
/-- What a piece of code does to such a heap. -/
structure HM (P : Program) (c : Code) (M : Nat → Blk) (tm : List Val) (K : KontH) : Prop where
  run : ∀ (w0 : World) (S : Nat → Prop) (φ0 : Prot) (ι0 : Map) (Q : Exit → Act → World → Prop) (a : Act) (w : World), GSt w0 S φ0 ι0 M tm a w → (∀ e M' tm' a' w', K e M' tm' → GSt w0 S φ0 ι0 M' tm' a' w' → Q e.to a' w') → c.wp P Q a w
/-- What operations do. -/
structure HL (P : Program) (all : Array Oper) (l : List Oper) (M : Nat → Blk) (tm : List Val) (K : (Nat → Blk) → List Val → Prop) : Prop where
  run : ∀ (w0 : World) (S : Nat → Prop) (φ0 : Prot) (ι0 : Map) (Q : Exit → Act → World → Prop) (a : Act) (w : World), GSt w0 S φ0 ι0 M tm a w → (∀ M' tm' a' w', K M' tm' → GSt w0 S φ0 ι0 M' tm' a' w' → Q .normal a' w') → wpList P all Q l a w
/-- What a function does. -/
structure RetH (P : Program) (f : FuncId) (args : List Val) (M : Nat → Blk) (v : Val) (M' : Nat → Blk) : Prop where
  fn : ∃ fn c, P.funcs[f]? = some fn ∧ (fn.name == "runtime.NumGoroutine") = false ∧ fn.body = some c
  run : ∀ (w0 : World) (S : Nat → Prop) (φ0 : Prot) (ι : Map) (φ : Prot) (w : World) (cargs : Array Value), Inv w0 S φ0 ι φ M w → (∀ b, M b = .gone → ι b = none) → TmOk ι φ args cargs →
    Calls P f cargs w fun e w' => ∃ cv ι' φ', e = .returned cv ∧ MapLe ι ι' ∧ ProtLe φ φ' ∧ Inv w0 S φ0 ι' φ' M' w' ∧ (∀ b, M' b = .gone → ι' b = none) ∧ Rel ι' φ' v cv
section
variable {P : Program} {T : TypeId → TD} {R : Nat → List Oper → Bool} {M : Nat → Blk} {tm : List Val}
theorem HM.mono {c : Code} {K K' : KontH} (h : HM P c M tm K) (hk : ∀ e M tm, K e M tm → K' e M tm) : HM P c M tm K' :=
  ⟨fun w0 S φ0 ι0 Q a w hs hQ => h.run w0 S φ0 ι0 Q a w hs fun e M tm a w hk' hs => hQ e M tm a w (hk _ _ _ hk') hs⟩
theorem HM.seq {c d : Code} {K : KontH} (h : HM P c M tm fun e M tm => match e with
    | .normal => HM P d M tm K
    | e => K e M tm) : HM P (.seq c d) M tm K := by
  refine ⟨fun w0 S φ0 ι0 Q a w hs hQ => wp_seq (h.run w0 S φ0 ι0 _ a w hs fun e M tm a w hk hs => ?_)⟩
  cases e with
  | normal => exact hk.run w0 S φ0 ι0 Q a w hs hQ
  | exit id => exact hQ (.exit id) M tm a w hk hs
  | goto l => exact hQ (.goto l) M tm a w hk hs
  | ret => exact hQ .ret M tm a w hk hs
theorem HM.block {id : Nat} {c : Code} {K : KontH} (h : HM P c M tm fun e M tm => K (match e with
    | .exit i => match i == id with
      | true => .normal
      | false => .exit i
    | e => e) M tm) : HM P (.block id c) M tm K := by
  refine ⟨fun w0 S φ0 ι0 Q a w hs hQ => wp_block (h.run w0 S φ0 ι0 _ a w hs fun e M tm a w hk hs => ?_)⟩
  cases e with
  | normal => exact hQ .normal M tm a w hk hs
  | exit i =>
    simp only [Ex.to, Exit.inBlock]
    cases hi : i == id with
    | true =>
      simp only [hi] at hk
      rw [beq_iff_eq] at hi; rw [if_pos hi]; exact hQ .normal M tm a w hk hs
    | false =>
      simp only [hi] at hk
      rw [beq_eq_false_iff_ne] at hi; rw [if_neg hi]; exact hQ (.exit i) M tm a w hk hs
  | goto l => exact hQ (.goto l) M tm a w hk hs
  | ret => exact hQ .ret M tm a w hk hs
theorem HM.loop {c : Code} {K : KontH} {I : Nat → (Nat → Blk) → List Val → Prop} (h : ∀ d M tm, I d M tm → HM P c M tm fun e M' tm' => match e with
    | .normal => ∃ d', d' < d ∧ I d' M' tm'
    | e => K e M' tm') : ∀ d M tm, I d M tm → HM P (.loop c) M tm K := by
  intro d M tm hI
  refine ⟨fun w0 S φ0 ι0 Q a w hs hQ => ?_⟩
  intro b k cs
  have key : ∀ d M tm, I d M tm → ∀ a w, GSt w0 S φ0 ι0 M tm a w → ∃ e a' w', Q e a' w' ∧ Arrives P (lone (b.at a (.code c :: .inLoop c :: k)) cs w) b k cs e a' w' := by
    intro d
    induction d using Nat.strongRecOn with
    | _ d ih =>
      intro M tm hI a w hs
      obtain ⟨e, a₁, w₁, hq, harr⟩ := (h d M tm hI).run w0 S φ0 ι0 (Exit.then (fun a w => ∃ d' M' tm', d' < d ∧ I d' M' tm' ∧ GSt w0 S φ0 ι0 M' tm' a w) Q) a w hs (fun e M' tm' a w hk hs => by
        cases e with
        | normal => obtain ⟨d', h1, h2⟩ := hk; exact ⟨d', M', tm', h1, h2, hs⟩
        | exit id => exact hQ (.exit id) M' tm' a w hk hs
        | goto l => exact hQ (.goto l) M' tm' a w hk hs
        | ret => exact hQ .ret M' tm' a w hk hs) b (.inLoop c :: k) cs
      cases e with
      | normal =>
        obtain ⟨d', M', tm', h1, h2, h3⟩ := hq
        obtain ⟨e₂, a₂, w₂, hq₂, harr₂⟩ := ih d' h1 M' tm' h2 a₁ w₁ h3
        exact ⟨e₂, a₂, w₂, hq₂, .of_steps (Steps.trans harr (.one step_inLoop)) harr₂⟩
      | exit id => exact ⟨_, a₁, w₁, hq, .pass (x := .inLoop c) rfl (fun _ _ => .inl (by simp)) harr⟩
      | goto l => exact ⟨_, a₁, w₁, hq, .pass (x := .inLoop c) rfl (fun _ _ => .inl (by simp)) harr⟩
      | ret => exact ⟨_, a₁, w₁, hq, .pass (x := .inLoop c) rfl (fun _ _ => .inl (by simp)) harr⟩
      | panic ch => exact ⟨_, a₁, w₁, hq, .pass (x := .inLoop c) rfl (fun _ _ => .inl (by simp)) harr⟩
      | outgrown => exact ⟨_, a₁, w₁, hq, .pass (x := .inLoop c) rfl (fun _ _ => .inl (by simp)) harr⟩
  obtain ⟨e, a', w', hq, harr⟩ := key d M tm hI a w hs
  exact ⟨e, a', w', hq, .of_steps (.one step_loop) harr⟩
theorem HM.cond {c : Operand} {x y : Code} {K : KontH} {b : Bool} (hb : evV tm c = .bool b) (h1 : b = true → HM P x M tm K) (h2 : b = false → HM P y M tm K) : HM P (.cond c x y) M tm K := by
  refine ⟨fun w0 S φ0 ι0 Q a w hs hQ => ?_⟩
  obtain ⟨ι, φ, hI, ht, hn, hd, hm0⟩ := hs
  have hv := ht.ev c
  rw [hb] at hv
  cases b with
  | true => exact wp_cond_true hv.bool_ ((h1 rfl).run w0 S φ0 ι0 Q a w ⟨ι, φ, hI, ht, hn, hd, hm0⟩ hQ)
  | false => exact wp_cond_false hv.bool_ ((h2 rfl).run w0 S φ0 ι0 Q a w ⟨ι, φ, hI, ht, hn, hd, hm0⟩ hQ)
theorem HM.skip {K : KontH} (h : K .normal M tm) : HM P .skip M tm K := ⟨fun _ _ _ _ _ a w hs hQ => wp_skip (hQ .normal M tm a w h hs)⟩
theorem HM.ret {K : KontH} (h : K .ret M tm) : HM P .ret M tm K := ⟨fun _ _ _ _ _ a w hs hQ => wp_ret (hQ .ret M tm a w h hs)⟩
theorem HM.exit {id : Nat} {K : KontH} (h : K (.exit id) M tm) : HM P (.exit id) M tm K := ⟨fun _ _ _ _ _ a w hs hQ => wp_exit (hQ (.exit id) M tm a w h hs)⟩
theorem HM.region {id : Nat} {ops : Array Oper} {K : KontH} (h : HL P ops ops.toList M tm (K .normal)) : HM P (.region id ops false) M tm K :=
  ⟨fun w0 S φ0 ι0 Q a w hs hQ => wp_region_list (h.run w0 S φ0 ι0 Q a w hs fun M' tm' a' w' hk hs => hQ .normal M' tm' a' w' hk hs)⟩
/-! ### windows -/
/-- what is known to stand somewhere -/
def stands (M : Nat → Blk) (tm : List Val) (v : Val) : Prop := (∃ b cs i, M b = .cells cs ∧ i < cs.length ∧ cs.getD i .und = v) ∨ ∃ i, i < tm.length ∧ tm.getD i .und = v
theorem stands_out {w0 w : World} {S : Nat → Prop} {φ0 φ : Prot} {ι : Map} {us : Array Value} (hI : Inv w0 S φ0 ι φ M w) (ht : TmOk ι φ tm us) {v : Val} (h : stands M tm v) : outWin ι φ v := by
  rcases h with ⟨b, cs, i, hb, hi, rfl⟩ | ⟨i, hi, rfl⟩
  · have hB := hI.sim.blk b
    rw [hb] at hB
    obtain ⟨g, c, arr, t, _, _, _, hr, _⟩ := hB
    exact ⟨_, (hr i hi).2⟩
  · exact ⟨_, ht.rel i hi⟩
mutual
theorem nmV.imp {p q : Val → Prop} (h : ∀ v, p v → q v) : ∀ v, nmV p v → nmV q v
  | .ptr b o, k => by simp only [nmV] at k ⊢; exact h _ k
  | .row b n, k => by simp only [nmV] at k ⊢; exact h _ k
  | .map b, k => by simp only [nmV] at k ⊢; exact h _ k
  | .agg cs, k => by simp only [nmV] at k ⊢; exact nmL.imp h cs k
  | .tup cs, k => by simp only [nmV] at k ⊢; exact nmL.imp h cs k
  | .raw _, _ => by simp only [nmV]
  | .und, _ => by simp only [nmV]
  | .bool _, k => by simp only [nmV] at k ⊢; exact k
  | .int _ _, k => by simp only [nmV] at k ⊢; exact k
  | .str _, k => by simp only [nmV] at k ⊢; exact k
  | .rptr _, k => by simp only [nmV] at k ⊢; exact k
  | .nilp, k => by simp only [nmV] at k ⊢; exact k
  | .ext _ _ _, k => by simp only [nmV] at k ⊢; exact k
  | .nils, k => by simp only [nmV] at k ⊢; exact k
  | .emp, k => by simp only [nmV] at k ⊢; exact k
  | .nilf, k => by simp only [nmV] at k ⊢; exact k
  | .nilm, k => by simp only [nmV] at k ⊢; exact k
  | .nili, k => by simp only [nmV] at k ⊢; exact k
  | .fn _ _ _, k => by simp only [nmV] at k ⊢; exact k
  | .ifc _ _, k => by simp only [nmV] at k ⊢; exact k
  | .ep _ _ _ _, k => by simp only [nmV] at k ⊢; exact k
  | .asl _ _ _, k => by simp only [nmV] at k ⊢; exact k
theorem nmL.imp {p q : Val → Prop} (h : ∀ v, p v → q v) : ∀ cs, nmL p cs → nmL q cs
  | [], _ => by simp only [nmL]
  | v :: vs, k => by simp only [nmL] at k ⊢; exact ⟨nmV.imp h v k.1, nmL.imp h vs k.2⟩
end
theorem nmE.imp {p q : Val → Prop} (h : ∀ v, p v → q v) : ∀ es, nmE p es → nmE q es
  | [], _ => trivial
  | e :: es, k => ⟨nmL.imp h e.2 k.1, nmE.imp h es k.2⟩
theorem nmB.imp {p q : Val → Prop} (h : ∀ v, p v → q v) : ∀ x, nmB p x → nmB q x
  | .cells cs, k => nmL.imp h cs k
  | .row .., _ => trivial
  | .map .., _ => trivial
  | .pmap _ _ es, k => nmE.imp h es k
  | .gone, _ => trivial
/-- How a window's run ends. -/
structure WOut (ρ : Val → Value) (ks ns : List Nat) (M : Nat → Blk) (tm tm' : List Val) (hp' : List Blk) (M' : Nat → Blk) (tmX : List Val) : Prop where
  tm_ : tm' = locL (idx (ks ++ ns)) ρ tmX
  hp_ : hp' = (ks ++ ns).map fun k => locB (idx (ks ++ ns)) ρ (M' k)
  nodup : (ks ++ ns).Nodup
  new : ∀ k ∈ ns, M k = .gone
  frame : ∀ b, b ∉ ks ++ ns → M' b = M b
  live : ∀ b ∈ ks ++ ns, M' b ≠ .gone
  names : ∀ b ∈ ks ++ ns, nmB (fun v => inWin (idx (ks ++ ns)) v ∨ stands M tm v) (M' b)
  nmt : nmL (fun v => inWin (idx (ks ++ ns)) v ∨ stands M tm v) tmX
theorem GSt.begin {w0 w : World} {S : Nat → Prop} {φ0 : Prot} {a : Act} {ι : Map} {φ : Prot} (hI : Inv w0 S φ0 ι φ M w) (ht : TmOk ι φ tm a.tmps) (hd : a.defers = []) {ks : List Nat} (hk : ks.Nodup) :
    St w (winS ι M ks) φ (subM ks ι) ks.length (locL (idx ks) (valOf ι) tm) (winH (valOf ι) ks M) a w :=
  ⟨subM ks ι, φ, hI.enter hk, ⟨ht.len.trans (locL_length ..).symm, fun i hi => by rw [locL_length] at hi; rw [locL_get]; exact (ht.rel i hi).loc subM_under⟩, fun b hb => subM_ge (by simpa [winH] using hb), fun _ _ => rfl, by simp [winH], hd⟩
theorem GSt.finish {w0 w w' : World} {S : Nat → Prop} {φ0 : Prot} {ι0 : Map} {a a' : Act} {ι : Map} {φ : Prot} (hI : Inv w0 S φ0 ι φ M w) (ht : TmOk ι φ tm a.tmps) (hn : ∀ b, M b = .gone → ι b = none) (hm0 : MapLe ι0 ι) {ks ns : List Nat} (hlive : ∀ k ∈ ks, M k ≠ .gone)
    {tm' tmX : List Val} {hp' : List Blk} {M' : Nat → Blk} (hO : WOut (valOf ι) ks ns M tm tm' hp' M' tmX) (hs : St w (winS ι M ks) φ (subM ks ι) ks.length tm' hp' a' w') : GSt w0 S φ0 ι0 M' tmX a' w' := by
  obtain ⟨ι1, φ1, hI1, ht1, _, h0, _, hd1⟩ := hs
  obtain ⟨rfl, rfl, hnd, hnew, hfr, hlv, hnm, hnt⟩ := hO
  have imp : ∀ v, (inWin (idx (ks ++ ns)) v ∨ stands M tm v) → (inWin (idx (ks ++ ns)) v ∨ outWin ι φ v) := fun v h => h.imp id fun h => stands_out hI ht h
  obtain ⟨k1, k2, k3⟩ := hI.leave hn hnd hlive hnew hI1 h0 hfr hlv (fun b hb => nmB.imp imp _ (hnm b hb))
  refine ⟨_, φ1, k1, ⟨ht1.len.trans (locL_length ..), fun i hi => ?_⟩, k3, hd1, hm0.trans k2⟩
  exact globL tmX (fun i => a'.tmps.getD i undef) (nmL.imp imp _ hnt) (fun i hi => by have := ht1.rel i (by rw [locL_length]; exact hi); rwa [locL_get] at this) i hi
end
end
end Go.AM

