/- The abstract machine's programs are sound: lists in continuation form, blocks under other names. -/
import Derived.Test.YtafiechoplbieaaAmHd
set_option linter.unusedVariables false
set_option linter.unusedSimpArgs false
set_option maxRecDepth 100000
namespace Go.AM
noncomputable section
open Go.RowKit

/-! ### the continuation forms -/
theorem getBK_eq {α : Type} : ∀ (l : List Blk) (n : Nat) (K : Blk → α), getBK l n K = K (getH l n)
  | [], _, _ => rfl
  | _ :: _, 0, _ => rfl
  | _ :: l, n + 1, K => by simp only [getBK, getBK_eq l n, getH, List.getD_cons_succ]
theorem getH_ge {l : List Blk} {n : Nat} (h : l.length ≤ n) : getH l n = .gone := by simp [getH, List.getD_eq_getElem?_getD, List.getElem?_eq_none h]
theorem setBK_eq : ∀ (l : List Blk) (n : Nat) (x : Blk) (K : List Blk → Prop), setBK l n x K → n ≤ l.length ∧ ∃ l', K l' ∧ (∀ b, getH l' b = setH (getH l) n x b) ∧ l'.length = max l.length (n + 1)
  | [], 0, x, K, h => ⟨Nat.le_refl _, [x], h, fun b => by
      cases b with
      | zero => rfl
      | succ b => simp [getH, setH], rfl⟩
  | [], _ + 1, _, _, h => h.elim
  | y :: l, 0, x, K, h => ⟨Nat.zero_le _, x :: l, h, fun b => by
      cases b with
      | zero => rfl
      | succ b => simp [getH, setH], by simp only [List.length_cons]; omega⟩
  | y :: l, n + 1, x, K, h => by
    obtain ⟨h1, l', h2, h3, h4⟩ := setBK_eq l n x _ h
    refine ⟨by simpa using h1, y :: l', h2, fun b => ?_, by simp only [List.length_cons, h4]; omega⟩
    cases b with
    | zero => simp [getH, setH]
    | succ b =>
      have := h3 b
      simp only [getH, setH, List.getD_cons_succ] at this ⊢
      rw [this]; simp
theorem setH_ext {H H' : Nat → Blk} (h : ∀ b, H b = H' b) (i : Nat) (x : Blk) : ∀ b, setH H i x b = setH H' i x b := fun b => by unfold setH; rw [h]
theorem applyF_ext : ∀ (u : Upd) {H H' : Nat → Blk}, (∀ b, H b = H' b) → ∀ b, applyF H u b = applyF H' u b
  | [], _, _, h => h
  | (i, x) :: u, _, _, h => applyF_ext u (setH_ext h i x)
theorem updK_eq : ∀ (u : Upd) (hp : List Blk) (K : List Blk → Prop), updK hp u K → ∃ hp', K hp' ∧ (∀ b, getH hp' b = applyF (getH hp) u b) ∧ hp.length ≤ hp'.length ∧ (∀ b x, (b, x) ∈ u → b < hp'.length)
  | [], hp, K, h => ⟨hp, h, fun _ => rfl, Nat.le_refl _, fun b x hx => by simp at hx⟩
  | (b, x) :: u, hp, K, h => by
    obtain ⟨h1, l', h2, h3, h4⟩ := setBK_eq hp b x _ h
    obtain ⟨hp', k1, k2, k3, k4⟩ := updK_eq u l' K h2
    refine ⟨hp', k1, fun c => by rw [k2 c]; exact applyF_ext u h3 c, by omega, fun c y hc => ?_⟩
    rcases List.mem_cons.1 hc with e | hc
    · injection e with e1 _; subst e1; omega
    · exact k4 c y hc
def optP : Option Prop → Prop
  | none => True
  | some p => p
theorem more_ok {o : Option Prop} {p : Prop} (h : optP (more o p)) : optP o ∧ p := by cases o <;> simpa [more, optP] using h
theorem needC_ok {o : Option Prop} {A G : Prop} (h : needC o A G) : (optP o ∧ G) ∨ A := by
  unfold needC at h
  split at h
  · exact .inl ⟨trivial, h⟩
  · rcases h with ⟨h1, h2⟩ | h
    · exact .inl ⟨h1, h2⟩
    · exact .inr h
theorem needK_ok {o : Option Prop} {G : Prop} (h : needK o G) : optP o ∧ G := by
  cases o with
  | none => exact ⟨trivial, h⟩
  | some p => exact ⟨h.here, h.rest⟩
theorem runL_ok : ∀ (p : Prog) (hp : List Blk) (r : List Nat) (o : Option Prop) (K : Val → Upd → List Nat → Option Prop → Prop), p.runL hp r o K →
    ∃ v u r' o', K v u r' o' ∧ (optP o' → optP o ∧ p.run (getH hp) r fun v' u' r'' => v' = v ∧ u' = u ∧ r'' = r')
  | .ret v u, _, r, o, _, h => ⟨v, u, r, o, h, fun ho => ⟨ho, rfl, rfl, rfl⟩⟩
  | .get b k, hp, r, o, K, h => by
    simp only [Prog.runL, getBK_eq] at h
    exact runL_ok (k (getH hp b)) hp (b :: r) o K h
  | @Prog.need p _ k, hp, r, o, K, h => by
    obtain ⟨v, u, r', o', h1, h2⟩ := runL_ok k hp r (more o p) K h
    exact ⟨v, u, r', o', h1, fun ho => ⟨(more_ok (h2 ho).1).1, (more_ok (h2 ho).1).2, (h2 ho).2⟩⟩
  | .fail, _, _, _, _, h => h.elim
theorem runL_need {p : Prog} {hp : List Blk} {G : Val → Upd → List Nat → Prop} (h : p.runL hp [] none fun v u r o => needK o (G v u r)) :
    ∃ v u r, (p.run (getH hp) [] fun v' u' r'' => v' = v ∧ u' = u ∧ r'' = r) ∧ G v u r := by
  obtain ⟨v, u, r, o, h1, h2⟩ := runL_ok _ _ _ _ _ h
  obtain ⟨h3, h4⟩ := needK_ok h1
  exact ⟨v, u, r, (h2 h3).2, h4⟩
theorem ids_eq : ids = List.range' 0 100 := rfl
theorem lenK_aux : ∀ (l : List Blk) (m s : Nat) (K : Nat → Prop), lenK l (List.range' s m) K → K (s + l.length)
  | [], 0, _, _, h => h.elim
  | [], m + 1, s, K, h => h
  | _ :: l, 0, _, _, h => h.elim
  | _ :: l, m + 1, s, K, h => by
    have := lenK_aux l m (s + 1) K h
    rwa [show s + 1 + l.length = s + (l.length + 1) by omega] at this
theorem lenK_eq {l : List Blk} {K : Nat → Prop} (h : lenK l ids K) : K l.length := by
  rw [ids_eq] at h
  have := lenK_aux l 100 0 K h
  rwa [Nat.zero_add] at this

/-! ### blocks under other names -/
theorem renL_length (σ : Nat → Option Nat) : ∀ cs : List Val, (renL σ cs).length = cs.length
  | [] => rfl
  | _ :: cs => by simp [renL, renL_length σ cs]
theorem renL_get (σ : Nat → Option Nat) : ∀ (cs : List Val) (i : Nat), (renL σ cs).getD i .und = renV σ (cs.getD i .und)
  | [], i => by simp [renL, renV]
  | c :: cs, 0 => rfl
  | c :: cs, i + 1 => by simp only [renL, List.getD_cons_succ]; exact renL_get σ cs i

def Under (σ : Nat → Option Nat) (ι ι' : Map) : Prop := ∀ b i p, σ b = some i → ι b = some p → ι' i = some p
section
variable {σ : Nat → Option Nat} {ι ι' : Map} {φ : Prot}
theorem RelC.ren {v : Val} {u : Value} (h : RelC φ v u) : RelC φ (renV σ v) u := by
  induction h with
  | bool b => exact .bool b
  | int k n => exact .int k n
  | str s => exact .str s
  | nilp => exact .nilp
  | rptr cs a vals hφ h1 hr ih => exact .rptr cs a vals hφ h1 hr
  | ext sz n get a c vals hc hl hφ h1 hr ih => exact .ext sz n get a c vals hc hl hφ h1 hr
  | extNil sz get => exact .extNil sz get
  | nils => exact .nils
  | emp a => exact .emp a
  | fn f => exact .fn f
  | nilf => exact .nilf
  | nilm => exact .nilm
  | ifc t v u h ih => exact .ifc t _ u ih
  | nili => exact .nili
theorem Rel.ren (hσ : Under σ ι ι') {v : Val} {u : Value} (h : Rel ι φ v u) : Rel ι' φ (renV σ v) u := by
  induction h with
  | c h => exact .c h.ren
  | ptr b off g c h =>
    simp only [renV]
    cases hb : σ b with
    | none => exact .und _
    | some i => exact .ptr i off g c (hσ b i _ hb h)
  | ep b sz i j g c h =>
    simp only [renV]
    cases hb : σ b with
    | none => exact .und _
    | some k => exact .ep k sz i j g c (hσ b k _ hb h)
  | row b n g c h hn =>
    simp only [renV]
    cases hb : σ b with
    | none => exact .und _
    | some k => exact .row k n g c (hσ b k _ hb h) hn
  | asl b off n g c cap h hn =>
    simp only [renV]
    cases hb : σ b with
    | none => exact .und _
    | some k => exact .asl k off n g c cap (hσ b k _ hb h) hn
  | map b g c h =>
    simp only [renV]
    cases hb : σ b with
    | none => exact .und _
    | some k => exact .map k g c (hσ b k _ hb h)
  | fn f fs cs us ws h1 h2 r1 r2 i1 i2 =>
    simp only [renV]
    exact .fn f _ _ us ws (by rw [renL_length, h1]) (by rw [renL_length, h2]) (fun i hi => by rw [renL_get]; rw [renL_length] at hi; exact i1 i hi) (fun i hi => by rw [renL_get]; rw [renL_length] at hi; exact i2 i hi)
  | ifc t v u h ih => exact .ifc t _ u ih
  | agg cs us h h1 hr ih =>
    simp only [renV]
    exact .agg _ us (by rw [renL_length, h]) (fun i hi => by rw [renL_length] at hi; exact h1 i hi) (fun i hi => by rw [renL_get]; rw [renL_length] at hi; exact ih i hi)
  | tup cs us h hr ih =>
    simp only [renV]
    exact .tup _ us (by rw [renL_length, h]) (fun i hi => by rw [renL_get]; rw [renL_length] at hi; exact ih i hi)
  | und u => exact .und u
  | raw u h => exact .raw u h
theorem EntsG.ren (hσ : Under σ ι ι') {kag vag : Bool} {ks : List LK} : ∀ {ps : List MEnt} {es : List MapEntry}, EntsG (Rel ι φ) kag vag ks ps es → EntsG (Rel ι' φ) kag vag ks (renE σ ps) es
  | [], [], _ => trivial
  | p :: ps, e :: es, h => ⟨⟨h.1.key, h.1.shape, ⟨by rw [renL_length]; exact h.1.cells.1, fun k hk => by rw [renL_length] at hk; rw [renL_get]; exact ⟨(h.1.cells.2 k hk).1, (h.1.cells.2 k hk).2.ren hσ⟩⟩, h.1.agg, h.1.one⟩, EntsG.ren hσ h.2⟩
  | [], _ :: _, h => h.elim
  | _ :: _, [], h => h.elim
theorem BlkOk.ren (hσ : Under σ ι ι') {w : World} {b i : Nat} {x : Blk} (hb : ∀ p, ι b = some p → ι' i = some p) (h : BlkOk ι φ w b x) : BlkOk ι' φ w i (renB σ x) := by
  cases x with
  | gone => trivial
  | cells cs =>
    obtain ⟨g, c, arr, t, e, hh, hs, hr, hf⟩ := h
    exact ⟨g, c, arr, t, hb _ e, hh, by rw [renL_length]; exact hs, fun k hk => by rw [renL_length] at hk; rw [renL_get]; exact ⟨(hr k hk).1, (hr k hk).2.ren hσ⟩, hf⟩
  | row t sz n get pr =>
    obtain ⟨g, c, arr, e, rest⟩ := h
    exact ⟨g, c, arr, hb _ e, rest⟩
  | map kag vag ks es =>
    obtain ⟨g, c, arr, clock, e, rest⟩ := h
    exact ⟨g, c, arr, clock, hb _ e, rest⟩
  | pmap kag ks es =>
    obtain ⟨g, c, arr, clock, e, hh, hr, hst⟩ := h
    exact ⟨g, c, arr, clock, hb _ e, hh, hr.ren hσ, hst⟩
end
theorem renB_gone {σ : Nat → Option Nat} {x : Blk} : renB σ x = .gone ↔ x = .gone := by cases x <;> simp [renB]

/-! ### places in a list -/
theorem idx_get : ∀ {ks : List Nat} {k i : Nat}, idx ks k = some i → ks[i]? = some k
  | [], _, _, h => by cases h
  | x :: l, k, i, h => by
    simp only [idx] at h
    split at h
    · rename_i e; rw [beq_iff_eq] at e; subst e; injection h with h; subst h; rfl
    · split at h
      · rename_i j hj; injection h with h; subst h; exact (idx_get hj : l[j]? = some k)
      · cases h
theorem nodup_of : ∀ {ks : List Nat}, nodupB ks = true → ks.Nodup
  | [], _ => List.nodup_nil
  | x :: l, h => by
    simp only [nodupB, Bool.and_eq_true, Bool.not_eq_true', List.elem_eq_contains, List.contains_eq_mem, decide_eq_false_iff_not] at h
    exact List.nodup_cons.2 ⟨h.1, nodup_of h.2⟩
theorem idx_of_get : ∀ {ks : List Nat} {k i : Nat}, ks.Nodup → ks[i]? = some k → idx ks k = some i
  | [], _, _, _, h => by simp at h
  | x :: l, k, 0, _, h => by simp only [List.getElem?_cons_zero, Option.some.injEq] at h; subst h; simp [idx]
  | x :: l, k, i + 1, hn, h => by
    have hn := List.nodup_cons.1 hn
    simp only [List.getElem?_cons_succ] at h
    have hm : k ∈ l := List.mem_of_getElem? h
    have : (x == k) = false := by
      rw [beq_eq_false_iff_ne]; intro e; subst e; exact hn.1 hm
    simp only [idx, this, idx_of_get hn.2 h]
theorem nodup_inj {ks : List Nat} (h : ks.Nodup) {i j k : Nat} (hi : ks[i]? = some k) (hj : ks[j]? = some k) : i = j := by
  have a := idx_of_get h hi
  have b := idx_of_get h hj
  rw [a] at b; injection b
theorem pickK_eq (σ : Nat → Option Nat) (hp : List Blk) : ∀ (ks : List Nat) (K : List Blk → Prop), pickK σ hp ks K = K (ks.map fun k => renB σ (getH hp k))
  | [], _ => rfl
  | k :: ks, K => by simp only [pickK, getBK_eq, pickK_eq σ hp ks, List.map_cons]
theorem sel_eq (ks : List Nat) (hp : List Blk) : sel ks hp = ks.map fun k => renB (idx ks) (getH hp k) := by simp only [sel, getBK_eq, id]
def subM (ks : List Nat) (ι : Map) : Map := fun i => match ks[i]? with
  | some k => ι k
  | none => none
theorem subM_under {ks : List Nat} {ι : Map} : Under (idx ks) ι (subM ks ι) := fun b i p h e => by simp only [subM, idx_get h]; exact e
theorem getH_map {ks : List Nat} {f : Nat → Blk} {i : Nat} : getH (ks.map f) i = match ks[i]? with | some k => f k | none => .gone := by
  simp only [getH, List.getD_eq_getElem?_getD, List.getElem?_map]
  cases ks[i]? <;> rfl
theorem maskK_ok {σ : Nat → Option Nat} {ι ι' : Map} {φ : Prot} (hσ : Under σ ι ι') : ∀ {tm : List Val} {m : List Bool} {K : List Val → Prop}, maskK σ tm m K → ∃ tm', K tm' ∧ tm'.length = tm.length ∧
    ∀ (us : Nat → Value), (∀ i, i < tm.length → Rel ι φ (tm.getD i .und) (us i)) → ∀ i, i < tm.length → Rel ι' φ (tm'.getD i .und) (us i)
  | [], m, K, h => ⟨[], by cases m <;> exact h, rfl, fun _ _ i hi => absurd hi (by simp)⟩
  | v :: tm, [], K, h => by
    obtain ⟨tm', h1, h2, h3⟩ := maskK_ok (tm := tm) (m := []) hσ h
    refine ⟨.und :: tm', h1, by simp [h2], fun us hr i hi => ?_⟩
    cases i with
    | zero => exact .und _
    | succ i => exact h3 (fun i => us (i + 1)) (fun i hi => hr (i + 1) (by simpa using hi)) i (by simpa using hi)
  | v :: tm, false :: m, K, h => by
    obtain ⟨tm', h1, h2, h3⟩ := maskK_ok (tm := tm) (m := m) hσ h
    refine ⟨.und :: tm', h1, by simp [h2], fun us hr i hi => ?_⟩
    cases i with
    | zero => exact .und _
    | succ i => exact h3 (fun i => us (i + 1)) (fun i hi => hr (i + 1) (by simpa using hi)) i (by simpa using hi)
  | v :: tm, true :: m, K, h => by
    obtain ⟨tm', h1, h2, h3⟩ := maskK_ok (tm := tm) (m := m) hσ h
    refine ⟨renV σ v :: tm', h1, by simp [h2], fun us hr i hi => ?_⟩
    cases i with
    | zero => exact (hr 0 (by simp)).ren hσ
    | succ i => exact h3 (fun i => us (i + 1)) (fun i hi => hr (i + 1) (by simpa using hi)) i (by simpa using hi)

/-- The blocks ks alone. -/
theorem Inv.sub {w0 : World} {S : Nat → Prop} {φ0 : Prot} {ι : Map} {φ : Prot} {hp : List Blk} {w : World} (h : Inv w0 S φ0 ι φ (getH hp) w) {ks : List Nat} (hn : ks.Nodup) :
    Inv w0 S φ0 (subM ks ι) φ (getH (ks.map fun k => renB (idx ks) (getH hp k))) w := by
  have live : ∀ {i : Nat}, getH (ks.map fun k => renB (idx ks) (getH hp k)) i ≠ .gone → ∃ k, ks[i]? = some k ∧ getH hp k ≠ .gone := fun {i} hi => by
    rw [getH_map] at hi
    cases hk : ks[i]? with
    | none => rw [hk] at hi; exact absurd rfl hi
    | some k => rw [hk] at hi; exact ⟨k, rfl, fun e => hi (renB_gone.2 e)⟩
  refine ⟨⟨fun i => ?_, fun i j g c c' hi hj e e' => ?_, h.sim.prot⟩, h.keep, fun i g c hi e => ?_, h.new, h.le⟩
  · rw [getH_map]
    cases hk : ks[i]? with
    | none => trivial
    | some k => exact (h.sim.blk k).ren subM_under (fun p e => by simp only [subM, hk]; exact e)
  · obtain ⟨k, hk, hkg⟩ := live hi
    obtain ⟨l, hl, hlg⟩ := live hj
    simp only [subM, hk] at e
    simp only [subM, hl] at e'
    have := h.sim.inj k l g c c' hkg hlg e e'
    subst this
    exact nodup_inj hn hk hl
  · obtain ⟨k, hk, hkg⟩ := live hi
    simp only [subM, hk] at e
    exact h.own k g c hkg e
theorem subM_ge {ks : List Nat} {ι : Map} {b : Nat} (h : ks.length ≤ b) : subM ks ι b = none := by simp [subM, List.getElem?_eq_none h]
theorem keepB_ok {n : Nat} {ks : List Nat} (h : keepB n ks = true) : ks.Nodup ∧ ∀ i, i < n → ks[i]? = some i := by
  unfold keepB at h
  rw [Bool.and_eq_true] at h
  refine ⟨nodup_of h.1, fun i hi => ?_⟩
  obtain ⟨t, rfl⟩ := List.isPrefixOf_iff_prefix.1 h.2
  rw [List.getElem?_append_left (by simpa using hi)]
  simp [hi]
end
end Go.AM

set_option linter.unusedVariables false
set_option linter.unusedSimpArgs false
set_option maxRecDepth 100000
namespace Go.AM
noncomputable section
open Go.RowKit

/-! ### an operation looks at its operands alone -/
theorem fillK_congr {place : Nat → Option (Nat × Nat)} {tm tm' : List Val} : ∀ {parts : List (Nat × Operand)} (z : List Val) (K : List Val → Prog), (∀ p ∈ parts, evV tm' p.2 = evV tm p.2) → fillK place tm' z parts K = fillK place tm z parts K
  | [], _, _, _ => rfl
  | (i, x) :: parts, z, K, h => by
    have hx : evV tm' x = evV tm x := h (i, x) (by simp)
    have ih : ∀ z, fillK place tm' z parts K = fillK place tm z parts K := fun z => fillK_congr z K fun p hp => h p (by simp [hp])
    simp only [fillK, evK_eq, hx, ih]
theorem evs_congr {tm tm' : List Val} {xs : List Operand} (h : ∀ x ∈ xs, evV tm' x = evV tm x) : xs.map (evV tm') = xs.map (evV tm) := List.map_congr_left h
theorem opP_congr (T : TypeId → TD) {o : Oper} {tm tm' : List Val} (nid : Nat) (h : ∀ x ∈ o.op.operands, evV tm' x = evV tm x) : opP T o tm' nid = opP T o tm nid := by
  obtain ⟨dst, op, ty, pos, after, guard⟩ := o
  have one : ∀ x, x ∈ op.operands → evV tm' x = evV tm x := h
  cases op <;> simp only [opP]
  case build t parts =>
    have hp : ∀ p ∈ parts.toList, evV tm' p.2 = evV tm p.2 := fun p hp => one _ (by simp only [Op.operands, List.mem_toArray, List.mem_map]; exact ⟨p, hp, rfl⟩)
    congr 1; funext d
    unfold buildP
    split <;> simp only [fillK_congr _ _ hp]
  case buildSlice t len parts =>
    have hp : ∀ p ∈ parts.toList, evV tm' p.2 = evV tm p.2 := fun p hp => one _ (by simp only [Op.operands, List.mem_toArray, List.mem_map]; exact ⟨p, hp, rfl⟩)
    unfold buildSliceP
    split
    · congr 1; funext d; simp only [fillK_congr _ _ hp]
    · rfl
  case makeFunc f x y =>
    cases f <;> simp only [evsK_eq]
    rw [evs_congr (tm := tm) (tm' := tm') fun z hz => one z (by simp only [Op.operands, Array.mem_append]; exact .inl (by simpa using hz)), evs_congr (tm := tm) (tm' := tm') fun z hz => one z (by simp only [Op.operands, Array.mem_append]; exact .inr (by simpa using hz))]
  case call c =>
    cases hc : c.callee with
    | builtin b =>
      simp only [evsK_eq]
      rw [evs_congr (tm := tm) (tm' := tm') fun z hz => one z (by simp only [Op.operands, Call.operands, hc]; simpa using hz)]
    | _ => rfl
  case slice t x lo hi mx =>
    simp only [evK_eq, optK_eq]
    have e : ∀ z : Option Operand, (∀ q, z = some q → evV tm' q = evV tm q) → z.map (evV tm') = z.map (evV tm) := fun z hz => by
      cases z with
      | none => rfl
      | some q => simp [hz q rfl]
    rw [one x (by simp [Op.operands]), e lo (fun q hq => one q (by simp [Op.operands, hq])), e hi (fun q hq => one q (by simp [Op.operands, hq])), e mx (fun q hq => one q (by simp [Op.operands, hq]))]
  case makeMap t rv =>
    simp only [optK_eq]
    have e : rv.map (evV tm') = rv.map (evV tm) := by
      cases rv with
      | none => rfl
      | some q => simp [one q (by simp [Op.operands])]
    rw [e]
  all_goals simp only [evK_eq]
  case mapUpdate t x y z => rw [one x (by simp [Op.operands]), one y (by simp [Op.operands]), one z (by simp [Op.operands])]
  case insert t x y z => rw [one x (by simp [Op.operands]), one y (by simp [Op.operands]), one z (by simp [Op.operands])]
  case lookup t x y ok => rw [one x (by simp [Op.operands]), one y (by simp [Op.operands])]
  case pick c x y => rw [one c (by simp [Op.operands]), one x (by simp [Op.operands]), one y (by simp [Op.operands])]
  case store t x y => rw [one x (by simp [Op.operands]), one y (by simp [Op.operands])]
  case binOp op t x y t2 => rw [one x (by simp [Op.operands]), one y (by simp [Op.operands])]
  case makeSlice t x y => rw [one x (by simp [Op.operands]), one y (by simp [Op.operands])]
  case indexAddr t x y => rw [one x (by simp [Op.operands]), one y (by simp [Op.operands])]
  case index t x y => rw [one x (by simp [Op.operands]), one y (by simp [Op.operands])]
  all_goals first
    | rfl
    | (rename_i x; rw [one x (by simp [Op.operands])]; done)
    | (rename_i x y; rw [one x (by simp [Op.operands])]; done)
    | (rename_i x y z; rw [one x (by simp [Op.operands])]; done)

/-- What is known of an operation that was carried out in the abstract: it does the same in every state that looks alike to it. -/
def Fact (P : Program) (o : Oper) (tm : List Val) (H : Nat → Blk) (n n' : Nat) (v : Val) (u : Upd) (r : List Nat) : Prop :=
  ∀ (a : Act) (w w0 : World) (S : Nat → Prop) (φ0 : Prot) (ι : Map) (φ : Prot) (H' : Nat → Blk) (tm' : List Val) (next : Act → World → Prop) (Q : Exit → Act → World → Prop),
    Inv w0 S φ0 ι φ H' w → TmOk ι φ tm' a.tmps → (∀ x ∈ o.op.operands, evV tm' x = evV tm x) → (∀ b ∈ r, H' b = H b) → (∀ b, n ≤ b → b < n' → ι b = none) →
    (∀ cv w' ι' φ', Rel ι' φ' v cv → Inv w0 S φ0 ι' φ' (applyF H' u) w' → MapLe ι ι' → ProtLe φ φ' → (∀ b, b < n ∨ n' ≤ b → ι' b = ι b) → next (a.put o.dst cv) w') → o.wp P a w next Q

theorem plain_fact {P : Program} {T : TypeId → TD} (hT : TOk P T) {o : Oper} {tm : List Val} {hp : List Blk} {v : Val} {u : Upd} {r : List Nat} (h : Does (opP T o tm hp.length) (getH hp) [] v u r) {n' : Nat} (hn' : ∀ b x, (b, x) ∈ u → b < n') :
    Fact P o tm (getH hp) hp.length n' v u r := by
  intro a w w0 S φ0 ι φ H' tm' next Q hI ht hop hr hfree hnext
  have h' : Does (opP T o tm' hp.length) H' [] v u r := by
    unfold Does at h ⊢
    rw [opP_congr T _ hop]
    exact Prog.run_local _ _ _ _ _ _ _ hr h
  obtain ⟨nx, cv, w', ι', φ', hrun, hnx, hv, hI', hm, hp', hf⟩ := (op_sound hT hI ht (fun ⟨x, hx⟩ => hfree _ (Nat.le_refl _) (hn' _ x hx)) h').ex
  have := hnext cv w' ι' φ' hv hI' hm hp' fun b hb => hf b fun e x hx => by
    subst e
    have := hn' _ x hx
    omega
  unfold Oper.wp
  rw [hrun]
  rcases hnx with rfl | ⟨rfl, rfl⟩
  · exact this
  · exact this

/-! ### rows lent -/
section
variable {w0 w : World} {S : Nat → Prop} {φ0 : Prot} {ι : Map} {φ : Prot} {H : Nat → Blk}
theorem setH_self (H : Nat → Blk) (b : Nat) : setH H b (H b) = H := by
  funext k; unfold setH; split
  · rename_i e; rw [e]
  · rfl
theorem Inv.lend_row (hI : Inv w0 S φ0 ι φ H w) {b g c n m sz pr : Nat} {e : TypeId} {get : Nat → List Val} (hm : ι b = some (g, c)) (hbk : H b = .row e sz m get pr) (hnp : n ≤ pr) (hnc : n ≤ c) :
    ∃ φ', ProtLe φ φ' ∧ Inv w0 S φ0 ι φ' H w ∧ Rel ι φ' (.ext sz n get) (.slice (some ⟨g, 0, none⟩) n c) := by
  have hB := hI.sim.blk b
  rw [hbk] at hB
  obtain ⟨arr, hheap, hz0, hs, hmc, hcm, hpr, hlen, hcell, hone, hf⟩ := blk_row hB hm
  let φ' : Prot := fun q => if q.block = g ∧ q.spot = none ∧ q.off < n * sz then some (arr.getD q.off undef) else φ q
  have hmsz : n * sz ≤ c * sz := Nat.mul_le_mul_right _ (by omega)
  have hold : ∀ q z, φ q = some z → q.block = g → q.spot = none ∧ arr.getD q.off undef = z := fun q z hq hqb => by
    have h4 := hI.sim.prot q z hq
    obtain ⟨qb, qo, qs⟩ := q
    simp only at hqb; subst hqb
    simp only [World.cell?, hheap] at h4
    split at h4
    · cases h4
    · rename_i hsp
      refine ⟨by simpa using hsp, ?_⟩
      rw [Array.getD_eq_getD_getElem?, h4]; rfl
  have hle : ProtLe φ φ' := fun q z hq => by
    simp only [φ']
    by_cases hc : q.block = g ∧ q.spot = none ∧ q.off < n * sz
    · rw [if_pos hc, (hold q z hq hc.1).2]
    · rw [if_neg hc]; exact hq
  have hin : ∀ i j, i < n → j < sz → φ' ((⟨g, 0, none⟩ : Addr).add (i * sz + j)) = some (arr.getD (i * sz + j) undef) := fun i j hi hj => by
    simp only [φ', add_eq, Nat.zero_add]
    rw [if_pos ⟨trivial, trivial, idx_lt hi hj⟩]
  refine ⟨φ', hle, ?_, .c (.ext _ _ _ _ _ (fun i j => arr.getD (i * sz + j) undef) hnc (fun i hi => hlen i (by omega)) hin (fun i j hi hj => (hcell i j (by omega) hj).2.1) fun i j hi hj => (hcell i j (by omega) hj).2.2.mono hle)⟩
  have hl := hI.lend (x := H b) hm (by rw [hbk]; simp) hle (fun q hq => by simp only [φ']; rw [if_neg (fun hh => hq hh.1)]) (fun q z hq hqb => ?_) ?_
  · rwa [setH_self] at hl
  · simp only [φ'] at hq
    split at hq
    · rename_i hh
      obtain ⟨qb, qo, qs⟩ := q
      simp only at hh hqb; obtain ⟨rfl, rfl, hlt⟩ := hh
      injection hq with hq; subst hq
      simp only [World.cell?, hheap]
      rw [Array.getD_eq_getD_getElem?, Array.getElem?_eq_getElem (by omega)]
      simp
    · exact hI.sim.prot q z hq
  · rw [hbk]
    refine ⟨g, c, arr, hm, hheap, hz0, hs, hmc, hcm, hpr, hlen, fun i j hi hj => (hcell i j hi hj).2.2.mono hle, hone, fun off sp ho => ?_⟩
    have : n * sz ≤ pr * sz := Nat.mul_le_mul_right _ hnp
    simp only [φ']
    rw [if_neg (by simp; omega)]
    exact hf off sp ho
end

/-- Rows given up to be read alone. -/
theorem Inv.raise {w0 w : World} {S : Nat → Prop} {φ0 : Prot} {ι : Map} {φ : Prot} {H H' : Nat → Blk} (hI : Inv w0 S φ0 ι φ H w) (hg : ∀ b, H' b = H b ∨ H' b = raiseB (H b)) : Inv w0 S φ0 ι φ H' w := by
  have hgone : ∀ b, H' b ≠ .gone → H b ≠ .gone := fun b hb e => by
    rcases hg b with h | h
    · rw [h] at hb; exact hb e
    · rw [h, e] at hb; exact hb rfl
  refine ⟨⟨fun b => ?_, fun b b' g c c' hb hb' e e' => hI.sim.inj b b' g c c' (hgone b hb) (hgone b' hb') e e', hI.sim.prot⟩, hI.keep, fun b g c hb e => hI.own b g c (hgone b hb) e, hI.new, hI.le⟩
  have hB := hI.sim.blk b
  rcases hg b with h | h
  · rw [h]; exact hB
  rw [h]
  cases hx : H b with
  | row e sz m g pr =>
    rw [hx] at hB
    obtain ⟨gg, c, arr, e1, hh, hz, hs, hnc, hc, hpr, hl, hr, h1, hf⟩ := hB
    refine ⟨gg, c, arr, e1, hh, hz, hs, hnc, hc, Nat.le_refl _, hl, hr, h1, fun off sp ho => hf off sp ?_⟩
    have : pr * sz ≤ m * sz := Nat.mul_le_mul_right _ hpr
    omega
  | _ => rw [hx] at hB; exact hB
def raiseU (fl : Bool) : Upd → Upd
  | [] => []
  | (b, x) :: u => (b, match fl with | true => raiseB x | false => x) :: raiseU fl u
theorem raiseC_eq {α : Type} (x : Blk) (k : Blk → α) : raiseC x k = k (raiseB x) := by cases x <;> rfl
theorem raiseUK_eq {α : Type} (fl : Bool) : ∀ (u : Upd) (K : Upd → α), raiseUK fl u K = K (raiseU fl u)
  | [], _ => rfl
  | (b, x) :: u, K => by
    cases fl
    · simp only [raiseUK, raiseU, raiseUK_eq false u]
    · simp only [raiseUK, raiseU, raiseC_eq, raiseUK_eq true u]
theorem applyF_raise (fl : Bool) : ∀ (u : Upd) (H1 H2 : Nat → Blk), (∀ b, H2 b = H1 b ∨ H2 b = raiseB (H1 b)) → ∀ b, applyF H2 (raiseU fl u) b = applyF H1 u b ∨ applyF H2 (raiseU fl u) b = raiseB (applyF H1 u b)
  | [], _, _, h, b => h b
  | (i, x) :: u, H1, H2, h, b => by
    refine applyF_raise fl u _ _ (fun b => ?_) b
    unfold setH
    split
    · cases fl
      · exact .inl rfl
      · exact .inr rfl
    · exact h b
theorem Fact.raise {P : Program} {o : Oper} {tm : List Val} {H : Nat → Blk} {n n' : Nat} {v : Val} {u : Upd} {r : List Nat} (h : Fact P o tm H n n' v u r) (fl : Bool) : Fact P o tm H n n' v (raiseU fl u) r := by
  intro a w w0 S φ0 ι φ H' tm' next Q hI ht hop hr hfree hnext
  exact h a w w0 S φ0 ι φ H' tm' next Q hI ht hop hr hfree fun cv w' ι' φ' hv hI' => hnext cv w' ι' φ' hv (hI'.raise fun b => applyF_raise fl u H' H' (fun _ => .inl rfl) b)
theorem raiseU_mem {fl : Bool} {b : Nat} : ∀ {u : Upd}, (∃ x, (b, x) ∈ u) → ∃ x, (b, x) ∈ raiseU fl u
  | [], ⟨x, h⟩ => by simp at h
  | (i, y) :: u, ⟨x, h⟩ => by
    rcases List.mem_cons.1 h with e | h
    · injection e with e1 _; subst e1; exact ⟨_, List.mem_cons_self ..⟩
    · obtain ⟨z, hz⟩ := raiseU_mem (fl := fl) ⟨x, h⟩
      exact ⟨z, List.mem_cons_of_mem _ hz⟩

/-- What is known of values that are lent. -/
def Lends (hp : List Blk) (r : List Nat) (v v' : Val) : Prop :=
  ∀ (w0 w : World) (S : Nat → Prop) (φ0 : Prot) (ι : Map) (φ : Prot) (H : Nat → Blk) (u : Value), (∀ b ∈ r, H b = getH hp b) → Inv w0 S φ0 ι φ H w → Rel ι φ v u → ∃ φ', ProtLe φ φ' ∧ Inv w0 S φ0 ι φ' H w ∧ Rel ι φ' v' u
def LendsL (hp : List Blk) (r : List Nat) (vs vs' : List Val) : Prop :=
  vs'.length = vs.length ∧ ∀ (w0 w : World) (S : Nat → Prop) (φ0 : Prot) (ι : Map) (φ : Prot) (H : Nat → Blk) (us : Nat → Value), (∀ b ∈ r, H b = getH hp b) → Inv w0 S φ0 ι φ H w → (∀ i, i < vs.length → Rel ι φ (vs.getD i .und) (us i)) →
    ∃ φ', ProtLe φ φ' ∧ Inv w0 S φ0 ι φ' H w ∧ ∀ i, i < vs.length → Rel ι φ' (vs'.getD i .und) (us i)
theorem Lends.same (hp : List Blk) (r : List Nat) (v : Val) : Lends hp r v v := fun _ _ _ _ _ φ _ _ _ hI hr => ⟨φ, .refl _, hI, hr⟩
theorem Lends.wider {hp : List Blk} {r r' : List Nat} {v v' : Val} (h : Lends hp r v v') (hr : ∀ b ∈ r, b ∈ r') : Lends hp r' v v' := fun w0 w S φ0 ι φ H u hb hI hv => h w0 w S φ0 ι φ H u (fun b hb' => hb b (hr b hb')) hI hv
theorem lentK_ok {hp : List Blk} {r : List Nat} {o : Option Prop} {v : Val} {K : Val → List Nat → Option Prop → Prop} (h : lentK hp r o v K) : ∃ v' r' o', K v' r' o' ∧ (∀ b ∈ r, b ∈ r') ∧ (optP o' → optP o ∧ Lends hp r' v v') := by
  unfold lentK at h
  split at h
  · rename_i b n
    rw [getBK_eq] at h
    split at h
    case h_2 => exact h.elim
    rename_i e sz m g pr hbk
    refine ⟨_, _, _, h, fun b hb => List.mem_cons_of_mem _ hb, fun ho => ⟨(more_ok ho).1, ?_⟩⟩
    intro w0 w S φ0 ι φ H u hb hI hv
    obtain ⟨gg, c, hm, hnc, rfl⟩ := hv.row_
    exact hI.lend_row hm (by rw [hb b (by simp), hbk]) (more_ok ho).2.2 hnc
  · exact ⟨_, _, _, h, fun _ hb => hb, fun ho => ⟨ho, .same _ _ _⟩⟩
theorem lendsL_cons {hp : List Blk} {r : List Nat} {v v' : Val} {vs vs' : List Val} (h : Lends hp r v v') (hs : LendsL hp r vs vs') : LendsL hp r (v :: vs) (v' :: vs') := by
  refine ⟨by simp [hs.1], fun w0 w S φ0 ι φ H us hb hI hr => ?_⟩
  obtain ⟨φ1, hp1, hI1, hr1⟩ := h w0 w S φ0 ι φ H (us 0) hb hI (hr 0 (by simp))
  obtain ⟨φ2, hp2, hI2, hr2⟩ := hs.2 w0 w S φ0 ι φ1 H (fun i => us (i + 1)) hb hI1 (fun i hi => (hr (i + 1) (by simpa using hi)).mono (.refl _) hp1)
  refine ⟨φ2, hp1.trans hp2, hI2, fun i hi => ?_⟩
  cases i with
  | zero => exact hr1.mono (.refl _) hp2
  | succ i => exact hr2 i (by simpa using hi)
theorem lentLK_ok {hp : List Blk} : ∀ {vs : List Val} {r : List Nat} {o : Option Prop} {K : List Val → List Nat → Option Prop → Prop}, lentLK hp r o vs K → ∃ vs' r' o', K vs' r' o' ∧ (∀ b ∈ r, b ∈ r') ∧ (optP o' → optP o ∧ LendsL hp r' vs vs')
  | [], r, o, K, h => ⟨[], r, o, h, fun _ hb => hb, fun ho => ⟨ho, rfl, fun _ _ _ _ _ φ _ _ _ hI _ => ⟨φ, .refl _, hI, fun i hi => absurd hi (by simp)⟩⟩⟩
  | v :: vs, r, o, K, h => by
    obtain ⟨v', r1, o1, h1, hr1, hl1⟩ := lentK_ok h
    obtain ⟨vs', r2, o2, h2, hr2, hl2⟩ := lentLK_ok h1
    exact ⟨_, _, _, h2, fun b hb => hr2 b (hr1 b hb), fun ho => ⟨(hl1 (hl2 ho).1).1, lendsL_cons ((hl1 (hl2 ho).1).2.wider hr2) (hl2 ho).2⟩⟩
theorem lentAK_ok {hp : List Blk} {r : List Nat} {o : Option Prop} {v : Val} {K : Val → List Nat → Option Prop → Prop} (h : lentAK hp r o v K) : ∃ v' r' o', K v' r' o' ∧ (∀ b ∈ r, b ∈ r') ∧ (optP o' → optP o ∧ Lends hp r' v v') := by
  unfold lentAK at h
  split at h
  · rename_i cs
    obtain ⟨cs', r1, o1, h1, hr1, hl1⟩ := lentLK_ok h
    refine ⟨_, _, _, h1, hr1, fun ho => ⟨(hl1 ho).1, fun w0 w S φ0 ι φ H u hb hI hv => ?_⟩⟩
    have hl1 := (hl1 ho).2
    obtain ⟨us, rfl, hs, hone, hr⟩ := hv.agg_
    obtain ⟨φ', k1, k2, k3⟩ := hl1.2 w0 w S φ0 ι φ H (fun i => us.getD i undef) hb hI hr
    exact ⟨φ', k1, k2, .agg _ _ (by rw [hl1.1, hs]) (fun i hi => hone i (by rwa [hl1.1] at hi)) (fun i hi => k3 i (by rwa [hl1.1] at hi))⟩
  · exact lentK_ok h
theorem lentAsK_ok {hp : List Blk} : ∀ {vs : List Val} {r : List Nat} {o : Option Prop} {K : List Val → List Nat → Option Prop → Prop}, lentAsK hp r o vs K → ∃ vs' r' o', K vs' r' o' ∧ (∀ b ∈ r, b ∈ r') ∧ (optP o' → optP o ∧ LendsL hp r' vs vs')
  | [], r, o, K, h => ⟨[], r, o, h, fun _ hb => hb, fun ho => ⟨ho, rfl, fun _ _ _ _ _ φ _ _ _ hI _ => ⟨φ, .refl _, hI, fun i hi => absurd hi (by simp)⟩⟩⟩
  | v :: vs, r, o, K, h => by
    obtain ⟨v', r1, o1, h1, hr1, hl1⟩ := lentAK_ok h
    obtain ⟨vs', r2, o2, h2, hr2, hl2⟩ := lentAsK_ok h1
    exact ⟨_, _, _, h2, fun b hb => hr2 b (hr1 b hb), fun ho => ⟨(hl1 (hl2 ho).1).1, lendsL_cons ((hl1 (hl2 ho).1).2.wider hr2) (hl2 ho).2⟩⟩
theorem Rel.closedA_ {ι ι' : Map} {φ : Prot} {v : Val} {u : Value} (h : Rel ι φ v u) (hc : closedA v = true) : Rel ι' φ v u := by
  unfold closedA at hc
  split at hc
  · rename_i cs
    obtain ⟨us, rfl, hs, hone, hr⟩ := h.agg_
    exact .agg _ _ hs hone fun i hi => .c ((hr i hi).closed_ (closedL_get hc hi))
  · exact .c (h.closed_ hc)
theorem closedAs_get : ∀ {l : List Val} {k : Nat}, closedAs l = true → k < l.length → closedA (l.getD k .und) = true
  | [], _, _, h => absurd h (by simp)
  | x :: l, 0, h, _ => by simp only [closedAs, Bool.and_eq_true] at h; exact h.1
  | x :: l, k + 1, h, hk => by
    simp only [closedAs, Bool.and_eq_true] at h
    rw [List.getD_cons_succ]
    exact closedAs_get h.2 (by simpa using hk)

/-! ### the blocks that a call made -/
theorem newUpd_get (σ : Nat → Option Nat) : ∀ (l : List Blk) (n : Nat) (H : Nat → Blk) (b : Nat), applyF H (newUpd σ n l) b = if n ≤ b ∧ b < n + l.length then renB σ (getH l (b - n)) else H b
  | [], n, H, b => by rw [if_neg (by simp)]; rfl
  | x :: l, n, H, b => by
    show applyF (setH H n (renB σ x)) (newUpd σ (n + 1) l) b = _
    rw [newUpd_get σ l (n + 1)]
    by_cases hb : b = n
    · subst hb
      rw [if_neg (by omega), if_pos ⟨Nat.le_refl _, by simp⟩]
      simp [setH, getH]
    · by_cases h1 : n + 1 ≤ b ∧ b < n + 1 + l.length
      · rw [if_pos h1, if_pos ⟨by omega, by simp; omega⟩]
        have : b - n = (b - (n + 1)) + 1 := by omega
        rw [this]
        simp [getH]
      · rw [if_neg h1, if_neg (by simp; omega)]
        simp [setH, hb]
theorem newUpd_last {σ : Nat → Option Nat} : ∀ {l : List Blk} {n b : Nat}, n ≤ b → b < n + l.length → ∃ x, (b, x) ∈ newUpd σ n l
  | [], n, b, h1, h2 => by simp at h2; omega
  | y :: l, n, b, h1, h2 => by
    by_cases hb : b = n
    · subst hb; exact ⟨_, List.mem_cons_self ..⟩
    · obtain ⟨x, hx⟩ := newUpd_last (σ := σ) (l := l) (n := n + 1) (b := b) (by omega) (by simp at h2; omega)
      exact ⟨x, List.mem_cons_of_mem _ hx⟩

def joinM (ι : Map) (n k : Nat) (ιc : Map) : Map := fun b => if n ≤ b ∧ b < n + k then ιc (b - n) else ι b
theorem Inv.call {w0 w w' : World} {S : Nat → Prop} {φ0 φ φ' : Prot} {ι ιc : Map} {H : Nat → Blk} {h1 : List Blk} {n : Nat} (hI : Inv w0 S φ0 ι φ H w) (hc : Inv w (fun _ => False) φ ιc φ' (getH h1) w')
    (hfree : ∀ b, n ≤ b → b < n + h1.length → ι b = none) (hend : ∀ b, h1.length ≤ b → ιc b = none) : Inv w0 S φ0 (joinM ι n h1.length ιc) φ' (applyF H (newUpd (shift n) n h1)) w' := by
  have hm : MapLe ι (joinM ι n h1.length ιc) := fun b p hb => by
    unfold joinM
    by_cases hr : n ≤ b ∧ b < n + h1.length
    · rw [hfree b hr.1 hr.2] at hb; cases hb
    · rw [if_neg hr]; exact hb
  have hlt : ∀ b g c, H b ≠ .gone → ι b = some (g, c) → g < w.heap.size := fun b g c hb e => by
    obtain ⟨g', c', e', hl⟩ := (hI.sim.blk b).place hb
    rw [e] at e'; injection e' with e'; injection e' with e1 _; omega
  have hnew : ∀ b g c, getH h1 b ≠ .gone → ιc b = some (g, c) → w.heap.size ≤ g := fun b g c hb e => (hc.own b g c hb e).resolve_left id
  have hsplit : ∀ b, applyF H (newUpd (shift n) n h1) b ≠ .gone → (n ≤ b ∧ b < n + h1.length ∧ getH h1 (b - n) ≠ .gone) ∨ (¬ (n ≤ b ∧ b < n + h1.length) ∧ H b ≠ .gone) := fun b hb => by
    rw [newUpd_get] at hb
    by_cases hr : n ≤ b ∧ b < n + h1.length
    · rw [if_pos hr] at hb; exact .inl ⟨hr.1, hr.2, fun e => hb (renB_gone.2 e)⟩
    · rw [if_neg hr] at hb; exact .inr ⟨hr, hb⟩
  refine ⟨⟨fun b => ?_, fun b b' g c c' hb hb' e e' => ?_, hc.sim.prot⟩, ⟨hc.keep.os.trans hI.keep.os, hc.keep.tape.trans hI.keep.tape, hc.keep.output.trans hI.keep.output, Nat.le_trans hI.keep.size hc.keep.size, fun g hg hs => ?_⟩,
    fun b g c hb e => ?_, fun a ha => ?_, hI.le.trans hc.le⟩
  · rw [newUpd_get]
    by_cases hr : n ≤ b ∧ b < n + h1.length
    · rw [if_pos hr]
      have hu : Under (shift n) ιc (joinM ι n h1.length ιc) := fun k i p hk e => by
        simp only [shift, Option.some.injEq] at hk; subst hk
        unfold joinM
        by_cases hk2 : n ≤ n + k ∧ n + k < n + h1.length
        · rw [if_pos hk2, Nat.add_sub_cancel_left]; exact e
        · rw [hend k (by omega)] at e; cases e
      exact (hc.sim.blk (b - n)).ren hu (fun p e => by unfold joinM; rw [if_pos hr]; exact e)
    · rw [if_neg hr]
      refine (hI.sim.blk b).mono hm hc.le (fun g c e hg => hc.keep.block g (hlt b g c hg e) id) (fun g c e hg off sp hφ => ?_)
      cases hx : φ' ⟨g, off, sp⟩ with
      | none => rfl
      | some z =>
        rcases hc.new ⟨g, off, sp⟩ (by rw [hx]; simp) with h1 | h1 | h1
        · exact absurd hφ h1
        · exact h1.elim
        · have := hlt b g c hg e; simp only at h1; omega
  · rcases hsplit b hb with ⟨h1, h2, h3⟩ | ⟨h1, h3⟩ <;> rcases hsplit b' hb' with ⟨k1, k2, k3⟩ | ⟨k1, k3⟩
    · unfold joinM at e e'
      rw [if_pos ⟨h1, h2⟩] at e; rw [if_pos ⟨k1, k2⟩] at e'
      have := hc.sim.inj _ _ g c c' h3 k3 e e'
      omega
    · unfold joinM at e e'
      rw [if_pos ⟨h1, h2⟩] at e; rw [if_neg k1] at e'
      have a1 := hnew _ g c h3 e
      have a2 := hlt _ g c' k3 e'
      omega
    · unfold joinM at e e'
      rw [if_neg h1] at e; rw [if_pos ⟨k1, k2⟩] at e'
      have a1 := hnew _ g c' k3 e'
      have a2 := hlt _ g c h3 e
      omega
    · unfold joinM at e e'
      rw [if_neg h1] at e; rw [if_neg k1] at e'
      exact hI.sim.inj b b' g c c' h3 k3 e e'
  · rw [hc.keep.block g (by have := hI.keep.size; omega) id]
    exact hI.keep.block g hg hs
  · unfold joinM at e
    rcases hsplit b hb with ⟨h1, h2, h3⟩ | ⟨h1, h3⟩
    · rw [if_pos ⟨h1, h2⟩] at e
      exact .inr (by have := hnew _ g c h3 e; have := hI.keep.size; omega)
    · rw [if_neg h1] at e; exact hI.own b g c h3 e
  · rcases hc.new a ha with h1 | h1 | h1
    · exact hI.new a h1
    · exact h1.elim
    · exact .inr (.inr (by have := hI.keep.size; omega))

/-! ### calls to which blocks are handed -/
theorem idx_none : ∀ {ks : List Nat} {k : Nat}, idx ks k = none → k ∉ ks
  | [], _, _ => by simp
  | x :: l, k, h => by
    simp only [idx] at h
    split at h
    · cases h
    · rename_i e
      split at h
      · cases h
      · rename_i h2
        rw [beq_eq_false_iff_ne] at e
        exact fun hm => (List.mem_cons.1 hm).elim (fun e2 => e e2.symm) (idx_none h2)
theorem backUpd_nil (σ : Nat → Option Nat) : ∀ (l : List Blk) (n : Nat), backUpd σ [] n l = newUpd σ n l
  | [], _ => rfl
  | x :: l, n => by simp only [backUpd, newUpd, backUpd_nil σ l]
theorem backUpd_get (σ : Nat → Option Nat) : ∀ (ks : List Nat) (n : Nat) (l : List Blk) (H : Nat → Blk) (b : Nat), ks.Nodup → (∀ k ∈ ks, k < n) → ks.length ≤ l.length →
    applyF H (backUpd σ ks n l) b = match idx ks b with
      | some j => renB σ (getH l j)
      | none => if n ≤ b ∧ b < n + (l.length - ks.length) then renB σ (getH l (ks.length + (b - n))) else H b
  | [], n, l, H, b, _, _, _ => by
    rw [backUpd_nil, newUpd_get]
    simp [idx]
  | k :: ks, n, [], H, b, _, _, h => by simp at h
  | k :: ks, n, x :: l, H, b, hn, hk, h => by
    have hnd := List.nodup_cons.1 hn
    simp only [backUpd, applyF]
    rw [backUpd_get σ ks n l (setH H k (renB σ x)) b hnd.2 (fun i hi => hk i (List.mem_cons_of_mem _ hi)) (by simpa using h)]
    have hkn := hk k (by simp)
    cases hj : idx ks b with
    | some j =>
      have hb : b ∈ ks := List.mem_of_getElem? (idx_get hj)
      have : (k == b) = false := by rw [beq_eq_false_iff_ne]; intro e; subst e; exact hnd.1 hb
      simp only [idx, this, hj, getH, List.getD_cons_succ]
    | none =>
      by_cases hkb : k = b
      · subst hkb
        simp only [idx, beq_self_eq_true, getH, List.getD_cons_zero, setH, if_true]
        rw [if_neg (by omega)]
      · have : (k == b) = false := by rw [beq_eq_false_iff_ne]; exact hkb
        simp only [idx, this, hj, List.length_cons]
        by_cases hr : n ≤ b ∧ b < n + (l.length - ks.length)
        · rw [if_pos hr, if_pos (by omega)]
          have : ks.length + 1 + (b - n) = (ks.length + (b - n)) + 1 := by omega
          simp only [this, getH, List.getD_cons_succ]
        · rw [if_neg hr, if_neg (by omega)]
          unfold setH; rw [if_neg (fun e => hkb e.symm)]
theorem backUpd_last {σ : Nat → Option Nat} : ∀ {ks : List Nat} {l : List Blk} {n b : Nat}, ks.length ≤ l.length → n ≤ b → b < n + (l.length - ks.length) → ∃ x, (b, x) ∈ backUpd σ ks n l
  | [], l, n, b, _, h1, h2 => by rw [backUpd_nil]; exact newUpd_last h1 (by simpa using h2)
  | k :: ks, [], n, b, h, _, _ => by simp at h
  | k :: ks, x :: l, n, b, h, h1, h2 => by
    obtain ⟨y, hy⟩ := backUpd_last (σ := σ) (ks := ks) (l := l) (n := n) (b := b) (by simpa using h) h1 (by simpa using h2)
    exact ⟨y, List.mem_cons_of_mem _ hy⟩
def joinH (ι : Map) (ks : List Nat) (n m : Nat) (ιc : Map) : Map := fun b => if n ≤ b ∧ b < n + (m - ks.length) then ιc (ks.length + (b - n)) else ι b
def Lent (ι : Map) (ks : List Nat) (g : Nat) : Prop := ∃ k c, k ∈ ks ∧ ι k = some (g, c)
section
variable {w0 w w' : World} {S : Nat → Prop} {φ0 φ φ' : Prot} {ι ιc : Map} {H : Nat → Blk} {h1 : List Blk} {n : Nat} {ks : List Nat}
def bk (ks : List Nat) (n j : Nat) : Nat := match ks[j]? with
  | some k => k
  | none => n + (j - ks.length)
theorem back_bk (ks : List Nat) (n j : Nat) : back ks n j = some (bk ks n j) := by unfold back bk; cases ks[j]? <;> rfl
theorem joinH_bk (hlt : ∀ k ∈ ks, k < n) (hm : ∀ j k, ks[j]? = some k → ιc j = ι k) {j : Nat} (hj : j < h1.length) : joinH ι ks n h1.length ιc (bk ks n j) = ιc j := by
  unfold bk joinH
  cases hk : ks[j]? with
  | some k =>
    have := hlt k (List.mem_of_getElem? hk)
    simp only
    rw [if_neg (by omega)]; exact (hm j k hk).symm
  | none =>
    have := List.getElem?_eq_none_iff.1 hk
    simp only
    rw [if_pos (by omega), show ks.length + (n + (j - ks.length) - n) = j by omega]
theorem joinH_under (hlt : ∀ k ∈ ks, k < n) (hm : ∀ j k, ks[j]? = some k → ιc j = ι k) (hend : ∀ b, h1.length ≤ b → ιc b = none) : Under (back ks n) ιc (joinH ι ks n h1.length ιc) := fun j i p hj e => by
  rw [back_bk] at hj; injection hj with hj; subst hj
  rcases Nat.lt_or_ge j h1.length with h | h
  · rw [joinH_bk hlt hm h]; exact e
  · rw [hend j h] at e; cases e
theorem joinH_le (hfree : ∀ b, n ≤ b → b < n + (h1.length - ks.length) → ι b = none) : MapLe ι (joinH ι ks n h1.length ιc) := fun b p hb => by
  unfold joinH
  by_cases hr : n ≤ b ∧ b < n + (h1.length - ks.length)
  · rw [hfree b hr.1 hr.2] at hb; cases hb
  · rw [if_neg hr]; exact hb
theorem Inv.callH (hI : Inv w0 S φ0 ι φ H w) (hnd : ks.Nodup) (hlt : ∀ k ∈ ks, k < n) (hlive : ∀ k ∈ ks, H k ≠ .gone) (hlen : ks.length ≤ h1.length)
    (hc : Inv w (Lent ι ks) φ ιc φ' (getH h1) w') (hm : ∀ j k, ks[j]? = some k → ιc j = ι k)
    (hfree : ∀ b, n ≤ b → b < n + (h1.length - ks.length) → ι b = none) (hend : ∀ b, h1.length ≤ b → ιc b = none) :
    Inv w0 S φ0 (joinH ι ks n h1.length ιc) φ' (applyF H (backUpd (back ks n) ks n h1)) w' := by
  have hmle : MapLe ι (joinH ι ks n h1.length ιc) := joinH_le hfree
  have hu := joinH_under (h1 := h1) hlt hm hend
  have hplace : ∀ b g c, H b ≠ .gone → ι b = some (g, c) → g < w.heap.size := fun b g c hb e => by
    obtain ⟨g', c', e', hl⟩ := (hI.sim.blk b).place hb
    rw [e] at e'; injection e' with e'; injection e' with e1 _; omega
  have hsplit : ∀ b, (∃ j, j < h1.length ∧ bk ks n j = b ∧ applyF H (backUpd (back ks n) ks n h1) b = renB (back ks n) (getH h1 j)) ∨
      (applyF H (backUpd (back ks n) ks n h1) b = H b ∧ b ∉ ks ∧ joinH ι ks n h1.length ιc b = ι b) := fun b => by
    rw [backUpd_get _ ks n h1 H b hnd hlt hlen]
    cases hj : idx ks b with
    | some j =>
      have hg := idx_get hj
      have hjl := (List.getElem?_eq_some_iff.1 hg).1
      exact .inl ⟨j, by omega, by simp [bk, hg], rfl⟩
    | none =>
      by_cases hr : n ≤ b ∧ b < n + (h1.length - ks.length)
      · refine .inl ⟨ks.length + (b - n), by omega, ?_, by simp only [hr, and_self, if_true]⟩
        unfold bk
        rw [List.getElem?_eq_none (by omega)]
        simp only; omega
      · exact .inr ⟨by simp only [hr, if_false], idx_none hj, by unfold joinH; rw [if_neg hr]⟩
  have hlent : ∀ g, Lent ι ks g → S g ∨ w0.heap.size ≤ g := fun g ⟨k, c, hk, e⟩ => hI.own k g c (hlive k hk) e
  have hapart : ∀ b g c, b ∉ ks → H b ≠ .gone → ι b = some (g, c) → ¬ Lent ι ks g := fun b g c hb hg e ⟨k, c', hk, e'⟩ => by
    have := hI.sim.inj b k g c c' hg (hlive k hk) e e'
    subst this; exact hb hk
  refine ⟨⟨fun b => ?_, fun b b' g c c' hb hb' e e' => ?_, hc.sim.prot⟩, ⟨hc.keep.os.trans hI.keep.os, hc.keep.tape.trans hI.keep.tape, hc.keep.output.trans hI.keep.output, Nat.le_trans hI.keep.size hc.keep.size, fun g hg hs => ?_⟩,
    fun b g c hb e => ?_, fun a ha => ?_, hI.le.trans hc.le⟩
  · rcases hsplit b with ⟨j, hj, hbk, hA⟩ | ⟨hA, hbks, hjn⟩
    · rw [hA]
      exact (hc.sim.blk j).ren hu fun p e => by rw [← hbk, joinH_bk hlt hm hj]; exact e
    · rw [hA]
      refine (hI.sim.blk b).mono hmle hc.le (fun g c e hg => hc.keep.block g (hplace b g c hg e) (hapart b g c hbks hg e)) (fun g c e hg off sp hφ => ?_)
      cases hx : φ' ⟨g, off, sp⟩ with
      | none => rfl
      | some z =>
        rcases hc.new ⟨g, off, sp⟩ (by rw [hx]; simp) with h1 | h1 | h1
        · exact absurd hφ h1
        · exact absurd h1 (hapart b g c hbks hg e)
        · have := hplace b g c hg e; simp only at h1; omega
  · rcases hsplit b with ⟨j, hj, hbk, hA⟩ | ⟨hA, hbks, hjn⟩ <;> rcases hsplit b' with ⟨j', hj', hbk', hA'⟩ | ⟨hA', hbks', hjn'⟩
    · rw [← hbk, joinH_bk hlt hm hj] at e
      rw [← hbk', joinH_bk hlt hm hj'] at e'
      rw [hA] at hb; rw [hA'] at hb'
      have := hc.sim.inj j j' g c c' (fun h => hb (renB_gone.2 h)) (fun h => hb' (renB_gone.2 h)) e e'
      rw [← hbk, ← hbk', this]
    · rw [← hbk, joinH_bk hlt hm hj] at e
      rw [hjn'] at e'
      rw [hA] at hb; rw [hA'] at hb'
      rcases hc.own j g c (fun h => hb (renB_gone.2 h)) e with h | h
      · exact absurd h (hapart b' g c' hbks' hb' e')
      · have := hplace b' g c' hb' e'; omega
    · rw [← hbk', joinH_bk hlt hm hj'] at e'
      rw [hjn] at e
      rw [hA] at hb; rw [hA'] at hb'
      rcases hc.own j' g c' (fun h => hb' (renB_gone.2 h)) e' with h | h
      · exact absurd h (hapart b g c hbks hb e)
      · have := hplace b g c hb e; omega
    · rw [hjn] at e; rw [hjn'] at e'
      rw [hA] at hb; rw [hA'] at hb'
      exact hI.sim.inj b b' g c c' hb hb' e e'
  · rw [hc.keep.block g (by have := hI.keep.size; omega) fun h => by rcases hlent g h with h | h; exact hs h; omega]
    exact hI.keep.block g hg hs
  · rcases hsplit b with ⟨j, hj, hbk, hA⟩ | ⟨hA, hbks, hjn⟩
    · rw [← hbk, joinH_bk hlt hm hj] at e
      rw [hA] at hb
      rcases hc.own j g c (fun h => hb (renB_gone.2 h)) e with h | h
      · exact hlent g h
      · exact .inr (by have := hI.keep.size; omega)
    · rw [hjn] at e; rw [hA] at hb
      exact hI.own b g c hb e
  · rcases hc.new a ha with h | h | h
    · exact hI.new a h
    · rcases hlent _ h with h | h
      · exact .inr (.inl h)
      · exact .inr (.inr h)
    · exact .inr (.inr (by have := hI.keep.size; omega))
end
theorem handB_ok {hp : List Blk} {n : Nat} {ks : List Nat} (h : handB hp n ks = true) : ks.Nodup ∧ (∀ k ∈ ks, k < n) ∧ ∀ k ∈ ks, getH hp k ≠ .gone := by
  unfold handB at h
  rw [Bool.and_eq_true, List.all_eq_true] at h
  refine ⟨nodup_of h.1, fun k hk => ?_, fun k hk e => ?_⟩
  · have := h.2 k hk
    rw [Bool.and_eq_true, decide_eq_true_eq] at this; exact this.1
  · have := h.2 k hk
    rw [Bool.and_eq_true, getBK_eq, e] at this; cases this.2
end
end Go.AM

set_option linter.unusedVariables false
set_option linter.unusedSimpArgs false
set_option maxRecDepth 100000
namespace Go.AM
noncomputable section
open Go.RowKit

theorem TmOk.evs {ι : Map} {φ : Prot} {tm : List Val} {a : Act} (h : TmOk ι φ tm a.tmps) (xs : Array Operand) : TmOk ι φ (xs.toList.map (evV tm)) (xs.map a.eval) := by
  refine ⟨by simp, fun i hi => ?_⟩
  rw [List.length_map] at hi
  have e1 : (xs.toList.map (evV tm)).getD i .und = evV tm xs.toList[i] := by
    rw [List.getD_eq_getElem?_getD, List.getElem?_map, List.getElem?_eq_getElem hi]; rfl
  have e2 : (xs.map a.eval).getD i undef = a.eval xs.toList[i] := by
    rw [Array.getD_eq_getD_getElem?, Array.getElem?_map, Array.getElem?_eq_getElem (by simpa using hi)]; simp
  rw [e1, e2]
  exact h.ev _
theorem TmOk.app {ι : Map} {φ : Prot} {xs ys : List Val} {us ws : Array Value} (h1 : TmOk ι φ xs us) (h2 : TmOk ι φ ys ws) : TmOk ι φ (xs ++ ys) (us ++ ws) := by
  refine ⟨by simp [h1.len, h2.len], fun i hi => ?_⟩
  rw [List.length_append] at hi
  rcases Nat.lt_or_ge i xs.length with h | h
  · have e1 : (xs ++ ys).getD i .und = xs.getD i .und := by rw [List.getD_eq_getElem?_getD, List.getElem?_append_left h, List.getD_eq_getElem?_getD]
    have e2 : (us ++ ws).getD i undef = us.getD i undef := by rw [Array.getD_eq_getD_getElem?, Array.getElem?_append_left (by rw [h1.len]; exact h), Array.getD_eq_getD_getElem?]
    rw [e1, e2]; exact h1.rel i h
  · have e1 : (xs ++ ys).getD i .und = ys.getD (i - xs.length) .und := by rw [List.getD_eq_getElem?_getD, List.getElem?_append_right h, List.getD_eq_getElem?_getD]
    have e2 : (us ++ ws).getD i undef = ws.getD (i - xs.length) undef := by rw [Array.getD_eq_getD_getElem?, Array.getElem?_append_right (by rw [h1.len]; exact h), Array.getD_eq_getD_getElem?, h1.len]
    rw [e1, e2]; exact h2.rel _ (by omega)

theorem leaf_any {ι ι' : Map} {φ φ' : Prot} {v : Val} {u : Value} (h : Rel ι φ v u) (hv : plain1 v = true) : Rel ι' φ' v u := by
  cases v
  case bool => rw [h.bool_]; exact .c (.bool _)
  case int => rw [h.int_]; exact .c (.int _ _)
  case str => rw [h.str_]; exact .c (.str _)
  case nilp =>
    have := h.closed_ rfl
    cases this
    exact .c .nilp
  case nils => rw [h.nils_]; exact .c .nils
  all_goals cases hv
theorem plainL_get : ∀ {l : List Val} {k : Nat}, plainL l = true → k < l.length → plain1 (l.getD k .und) = true
  | [], k, _, hk => by simp at hk
  | v :: vs, 0, h, _ => by
    unfold plainL at h
    rw [Bool.and_eq_true] at h
    exact h.1
  | v :: vs, k + 1, h, hk => by
    unfold plainL at h
    rw [Bool.and_eq_true] at h
    exact plainL_get (l := vs) (k := k) h.2 (by simpa using hk)
theorem plain_any {ι ι' : Map} {φ φ' : Prot} {v : Val} {u : Value} (h : Rel ι φ v u) (hv : plainV v = true) : Rel ι' φ' v u := by
  cases v
  case agg cs =>
    obtain ⟨us, rfl, hs, h1, hr⟩ := h.agg_
    exact .agg _ _ hs h1 fun i hi => leaf_any (hr i hi) (plainL_get hv hi)
  case tup cs =>
    obtain ⟨us, rfl, hs, hr⟩ := h.tup_
    exact .tup _ _ hs fun i hi => leaf_any (hr i hi) (plainL_get hv hi)
  all_goals exact leaf_any h hv
/-- The world went on, nothing of the old being touched. -/
theorem Inv.idle {w0 w w' : World} {S : Nat → Prop} {φ0 φ : Prot} {ι : Map} {H : Nat → Blk} (h : Inv w0 S φ0 ι φ H w) (k : Keeps (fun _ => False) w w') : Inv w0 S φ0 ι φ H w' := by
  have same : ∀ g, g < w.heap.size → w'.heap[g]? = w.heap[g]? := fun g hg => k.block g hg id
  refine ⟨⟨fun b => ?_, h.sim.inj, fun a v e => ?_⟩, ⟨k.os.trans h.keep.os, k.tape.trans h.keep.tape, k.output.trans h.keep.output, Nat.le_trans h.keep.size k.size, fun g hg hs => (same g (Nat.lt_of_lt_of_le hg h.keep.size)).trans (h.keep.block g hg hs)⟩, h.own, h.new, h.le⟩
  · refine (h.sim.blk b).mono (.refl _) (.refl _) (fun g c e hx => ?_) (fun _ _ _ _ _ _ h => h)
    obtain ⟨g', c', e', hl⟩ := (h.sim.blk b).place hx
    rw [e] at e'; injection e' with e'; injection e' with e1 _; subst e1
    exact same g hl
  · have := h.sim.prot a v e
    have hl := cell_lt this
    unfold World.cell? at this ⊢
    rw [same _ hl]; exact this
/-- what is read alone, seen by who may write nothing -/
theorem readC_ok {ι : Map} {φ : Prot} {H' : Nat → Blk} {w : World} {hp : List Blk} {v v' : Val} {r : List Nat} {u : Value} (hs : Sim ι φ H' w) (h : readC hp v = some (v', r)) (hH : ∀ b ∈ r, H' b = getH hp b) (hr : Rel ι φ v u) : RelC w.cell? v' u := by
  have other : ∀ {v}, closed v = true → Rel ι φ v u → RelC w.cell? v u := fun hc hr => (hr.closed_ hc).mono fun a x e => hs.prot a x e
  cases v
  case row b n =>
    simp only [readC, getBK_eq] at h
    split at h
    · rename_i e sz m g pr hbk
      split at h
      · rename_i hd
        have hd := of_decide_eq_true hd
        simp only [Option.some.injEq, Prod.mk.injEq] at h
        obtain ⟨rfl, rfl⟩ := h
        have hb : H' b = .row e sz m g pr := by rw [hH b (by simp), hbk]
        obtain ⟨gb, c, hm, hn, rfl⟩ := hr.row_
        have hB := hs.blk b
        rw [hb] at hB
        obtain ⟨arr, _, _, _, hmc, _, _, hl, hcell, _⟩ := blk_row hB hm
        exact .ext sz n g ⟨gb, 0, none⟩ c (fun i j => arr.getD (i * sz + j) undef) hn (fun i hi => hl i (by omega)) (fun i j hi hj => by rw [add_eq, Nat.zero_add]; exact (hcell i j (by omega) hj).1) (fun i j hi hj => (hcell i j (by omega) hj).2.1)
          fun i j hi hj => (hcell i j (by omega) hj).2.2.mono fun a x e => hs.prot a x e
      · cases h
    · cases h
  all_goals
    simp only [readC] at h
    split at h
    · rename_i hc
      simp only [Option.some.injEq, Prod.mk.injEq] at h
      obtain ⟨rfl, rfl⟩ := h
      exact other hc hr
    · cases h
theorem preC_ok {ι : Map} {φ : Prot} {H' : Nat → Blk} {w : World} {hp : List Blk} (hs : Sim ι φ H' w) : ∀ {cs : List Val} {us : Nat → Value}, (∀ b ∈ (preC hp cs).2, H' b = getH hp b) → (∀ i, i < cs.length → Rel ι φ (cs.getD i .und) (us i)) →
    (preC hp cs).1.length ≤ cs.length ∧ ∀ i, i < (preC hp cs).1.length → RelC w.cell? ((preC hp cs).1.getD i .und) (us i)
  | [], us, _, _ => ⟨Nat.le_refl _, fun i hi => absurd hi (by simp [preC])⟩
  | v :: vs, us, hH, hr => by
    unfold preC at hH ⊢
    cases hp' : readC hp v with
    | none => exact ⟨by simp, fun i hi => absurd hi (by simp)⟩
    | some p =>
      rw [hp'] at hH
      simp only at hH ⊢
      have ih := preC_ok hs (cs := vs) (us := fun i => us (i + 1)) (fun b hb => hH b (List.mem_append_right _ hb)) (fun i hi => by have := hr (i + 1) (by simpa using hi); simpa using this)
      refine ⟨by simpa using ih.1, fun i hi => ?_⟩
      cases i with
      | zero =>
        have := hr 0 (by simp)
        simp only [List.getD_cons_zero] at this ⊢
        exact readC_ok hs (r := p.2) (by rw [hp']) (fun b hb => hH b (List.mem_append_left _ hb)) this
      | succ i => simpa using ih.2 i (by simpa using hi)
theorem readV_ok {ι : Map} {φ : Prot} {H' : Nat → Blk} {w : World} {hp : List Blk} {v : Val} {u : Value} (hs : Sim ι φ H' w) (hH : ∀ b ∈ (readV hp v).2, H' b = getH hp b) (hr : Rel ι φ v u) : Rel (fun _ => none) w.cell? (readV hp v).1 u := by
  have other : ∀ {v}, (∀ b ∈ (match readC hp v with | some p => p | none => (.und, [])).2, H' b = getH hp b) → Rel ι φ v u → Rel (fun _ => none) w.cell? (match readC hp v with | some p => p | none => (.und, [])).1 u := fun {v} hH hr => by
    cases hp' : readC hp v with
    | none => exact .und _
    | some p =>
      rw [hp'] at hH
      exact .c (readC_ok hs (r := p.2) (by rw [hp']) hH hr)
  unfold readV at hH ⊢
  split at hH
  · rename_i b
    rw [getBK_eq] at hH ⊢
    split at hH
    · rename_i cs hbk
      have hb : H' b = .cells cs := by rw [hH b (by simp), hbk]
      obtain ⟨g, c, hm, rfl⟩ := hr.ptr_
      have hB := hs.blk b
      rw [hb] at hB
      obtain ⟨arr, t, hh, hsz, hf, hcell⟩ := blk_cell hB hm
      obtain ⟨k1, k2⟩ := preC_ok (hp := hp) hs (cs := cs) (us := fun i => arr.getD i undef) (fun x hx => hH x (List.mem_cons_of_mem _ hx)) (fun i hi => (hcell i hi).2.2)
      exact .c (.rptr _ ⟨g, 0, none⟩ (fun j => arr.getD j undef) (fun j hj => by rw [add_eq, Nat.zero_add]; exact (hcell j (by omega)).1) (fun j hj => (hcell j (by omega)).2.1) k2)
    · exact .und _
  · exact other hH hr
theorem readAs_ok {ι : Map} {φ : Prot} {H' : Nat → Blk} {w : World} {hp : List Blk} (hs : Sim ι φ H' w) : ∀ {vs : List Val} {us : Nat → Value}, (∀ b ∈ (readAs hp vs).2, H' b = getH hp b) → (∀ i, i < vs.length → Rel ι φ (vs.getD i .und) (us i)) →
    (readAs hp vs).1.length = vs.length ∧ ∀ i, i < vs.length → Rel (fun _ => none) w.cell? ((readAs hp vs).1.getD i .und) (us i)
  | [], us, _, _ => ⟨rfl, fun i hi => absurd hi (by simp)⟩
  | v :: vs, us, hH, hr => by
    unfold readAs at hH ⊢
    have ih := readAs_ok hs (vs := vs) (us := fun i => us (i + 1)) (fun b hb => hH b (List.mem_append_right _ hb)) (fun i hi => by have := hr (i + 1) (by simpa using hi); simpa using this)
    refine ⟨by simpa using ih.1, fun i hi => ?_⟩
    cases i with
    | zero =>
      have := hr 0 (by simp)
      simp only [List.getD_cons_zero] at this ⊢
      exact readV_ok hs (fun b hb => hH b (List.mem_append_left _ hb)) this
    | succ i => simpa using ih.2 i (by simpa using hi)
/-- A call: what is known of it. -/
theorem call_fact {P : Program} {o : Oper} {c : Call} {x : Operand} (ho : o.op = .call c) (hc : c.callee = .value x) {tm : List Val} {hp : List Blk} {K : Val → Upd → List Nat → Prop}
    (h : evK tm x fun fv => evsK tm c.args.toList fun xs => callRun P fv xs hp hp.length K) :
    ∃ v u r, K v u r ∧ ∀ n', (∀ b x, (b, x) ∈ u → b < n') → hp.length ≤ n' → Fact P o tm (getH hp) hp.length n' v u r := by
  rw [evK_eq, evsK_eq] at h
  unfold callRun at h
  split at h
  case h_2 => exact h.elim
  rename_i f fs cs hfv
  rw [appK_eq, appK_eq] at h
  obtain ⟨as', r, o', h, _, hl⟩ := lentAsK_ok h
  have callH : ∀ (as' : List Val) (r : List Nat) (G : Val → Upd → List Nat → Prop), (∀ (a : Act) (w w0 : World) (S : Nat → Prop) (φ0 : Prot) (ι : Map) (φ : Prot) (H' : Nat → Blk) (tm' : List Val), Inv w0 S φ0 ι φ H' w → TmOk ι φ tm' a.tmps → (∀ x ∈ o.op.operands, evV tm' x = evV tm x) → (∀ b ∈ r, H' b = getH hp b) →
      (∃ fn c, P.funcs[f]? = some fn ∧ (fn.name == "runtime.NumGoroutine") = false ∧ fn.body = some c) →
      ∃ cargs φ', ProtLe φ φ' ∧ Inv w0 S φ0 ι φ' H' w ∧ TmOk ι φ' as' cargs ∧ (execOp a.eval o).run P w = .ok (.enter f cargs) w) →
      CalledH P f as' hp hp.length G → (∀ v u ks, G v u ks → K v u (ks ++ r)) →
      ∃ v u r, K v u r ∧ ∀ n', (∀ b x, (b, x) ∈ u → b < n') → hp.length ≤ n' → Fact P o tm (getH hp) hp.length n' v u r := by
    intro as' r G enter h hG
    rcases h with ⟨ks, v, h1, hb, hlen, hret, h⟩ | ⟨v, hret, hv, h⟩
    case read =>
      refine ⟨_, _, _, hG _ _ _ h, fun n' hu hn' => ?_⟩
      intro a w w0 S φ0 ι φ H' tm' next Q hI ht hop hr hfree hnext
      obtain ⟨hfun, hcall⟩ := hret
      obtain ⟨cargs, φ', hpp, hI', hargs, hrun⟩ := enter a w w0 S φ0 ι φ H' tm' hI ht hop (fun b hb => hr b (List.mem_append_right _ hb)) hfun
      obtain ⟨k1, k2⟩ := readAs_ok (hp := hp) hI'.sim (vs := as') (us := fun i => cargs.getD i undef) (fun b hb => hr b (List.mem_append_left _ hb)) hargs.rel
      have hsim : Sim (fun _ => none) w.cell? (getH []) w := ⟨fun i => by rw [show getH [] i = .gone from getH_ge (by simp)]; trivial, fun i j g c c' hi => absurd (show getH [] i = .gone from getH_ge (by simp)) hi, fun _ _ e => e⟩
      have hC := hcall (fun _ => none) w.cell? w cargs (fun _ _ => rfl) hsim ⟨by rw [hargs.len, k1], fun i hi => k2 i (by rwa [k1] at hi)⟩
      unfold Oper.wp
      rw [hrun, Oper.upon_enter]
      refine hC.mono fun e w' ⟨cv, ιc, φ'', he, hmc, hIc, hvc, hend⟩ => ?_
      subst he
      have hk : Keeps (fun _ => False) w w' := ⟨hIc.keep.os, hIc.keep.tape, hIc.keep.output, hIc.keep.size, fun g hg _ => hIc.keep.block g hg fun ⟨b, c, hb, _⟩ => absurd hb (by simp)⟩
      exact hnext cv w' ι φ' (plain_any hvc hv) (hI'.idle hk) (.refl _) hpp fun b _ => rfl
    obtain ⟨hnd, hlt, hlive⟩ := handB_ok hb
    refine ⟨_, _, _, hG _ _ _ h, fun n' hu hn' => ?_⟩
    intro a w w0 S φ0 ι φ H' tm' next Q hI ht hop hr hfree hnext
    obtain ⟨hfun, hcall⟩ := hret
    obtain ⟨cargs, φ', hpp, hI', hargs, hrun⟩ := enter a w w0 S φ0 ι φ H' tm' hI ht hop (fun b hb => hr b (List.mem_append_right _ hb)) hfun
    have hH : ∀ k ∈ ks, H' k = getH hp k := fun k hk => hr k (List.mem_append_left _ hk)
    have hlive' : ∀ k ∈ ks, H' k ≠ .gone := fun k hk => by rw [hH k hk]; exact hlive k hk
    have hsel : ∀ i, getH (sel ks hp) i = match ks[i]? with | some k => renB (idx ks) (H' k) | none => .gone := fun i => by
      rw [sel_eq, getH_map]
      cases hk : ks[i]? with
      | none => rfl
      | some k => simp only; rw [hH k (List.mem_of_getElem? hk)]
    have live : ∀ {i : Nat}, getH (sel ks hp) i ≠ .gone → ∃ k, ks[i]? = some k ∧ H' k ≠ .gone := fun {i} hi => by
      rw [hsel] at hi
      cases hk : ks[i]? with
      | none => rw [hk] at hi; exact absurd rfl hi
      | some k => exact ⟨k, rfl, hlive' k (List.mem_of_getElem? hk)⟩
    have hsim : Sim (subM ks ι) φ' (getH (sel ks hp)) w := by
      refine ⟨fun i => ?_, fun i j g c c' hi hj e e' => ?_, hI'.sim.prot⟩
      · rw [hsel]
        cases hk : ks[i]? with
        | none => trivial
        | some k => exact (hI'.sim.blk k).ren subM_under (fun p e => by simp only [subM, hk]; exact e)
      · obtain ⟨k, hk, hkg⟩ := live hi
        obtain ⟨l, hl, hlg⟩ := live hj
        simp only [subM, hk] at e
        simp only [subM, hl] at e'
        have := hI'.sim.inj k l g c c' hkg hlg e e'
        subst this
        exact nodup_inj hnd hk hl
    have htm : TmOk (subM ks ι) φ' (renL (idx ks) as') cargs := ⟨by rw [renL_length, hargs.len], fun i hi => by rw [renL_length] at hi; rw [renL_get]; exact (hargs.rel i hi).ren subM_under⟩
    have hC := hcall (subM ks ι) φ' w _ (fun b hb => subM_ge (by simpa [sel] using hb)) hsim htm
    unfold Oper.wp
    rw [hrun, Oper.upon_enter]
    refine hC.mono fun e w' ⟨cv, ιc, φ'', he, hmc, hIc, hvc, hend⟩ => ?_
    subst he
    have toLent : ∀ g, handed (subM ks ι) (sel ks hp) g → Lent ι ks g := fun g ⟨b, c, _, hbg, e⟩ => by
      obtain ⟨k, hk, _⟩ := live hbg
      simp only [subM, hk] at e
      exact ⟨k, c, List.mem_of_getElem? hk, e⟩
    have hIc' : Inv w (Lent ι ks) φ' ιc φ'' (getH h1) w' := by
      refine ⟨hIc.sim, ⟨hIc.keep.os, hIc.keep.tape, hIc.keep.output, hIc.keep.size, fun g hg hs => hIc.keep.block g hg fun h => hs (toLent g h)⟩, fun b g c hb e => ?_, fun a ha => ?_, hIc.le⟩
      · exact (hIc.own b g c hb e).imp (toLent g) id
      · rcases hIc.new a ha with h | h | h
        · exact .inl h
        · exact .inr (.inl (toLent _ h))
        · exact .inr (.inr h)
    have hm : ∀ j k, ks[j]? = some k → ιc j = ι k := fun j k hk => by
      obtain ⟨g, c, e, _⟩ := (hI'.sim.blk k).place (hlive' k (List.mem_of_getElem? hk))
      rw [e]; exact hmc j (g, c) (by simp only [subM, hk]; exact e)
    have hbound : hp.length + (h1.length - ks.length) ≤ n' := by
      rcases Nat.eq_zero_or_pos (h1.length - ks.length) with h0 | h0
      · omega
      · obtain ⟨x, hx⟩ := backUpd_last (σ := back ks hp.length) (ks := ks) (l := h1) (n := hp.length) (b := hp.length + (h1.length - ks.length) - 1) hlen (by omega) (by omega)
        have := hu _ x hx
        omega
    have hfr : ∀ b, hp.length ≤ b → b < hp.length + (h1.length - ks.length) → ι b = none := fun b k1 k2 => hfree b k1 (by omega)
    refine hnext cv w' (joinH ι ks hp.length h1.length ιc) φ'' (hvc.ren (joinH_under hlt hm hend)) (hI'.callH hnd hlt hlive' hlen hIc' hm hfr hend) (joinH_le hfr) (hpp.trans hIc.le) fun b hb => ?_
    unfold joinH; rw [if_neg (by omega)]
  have ownC : CalledH P f (fs ++ c.args.toList.map (evV tm) ++ cs) hp hp.length K → ∃ v u r, K v u r ∧ ∀ n', (∀ b x, (b, x) ∈ u → b < n') → hp.length ≤ n' → Fact P o tm (getH hp) hp.length n' v u r := fun h => by
    refine callH _ [] _ ?_ h (fun v u ks h => by rw [List.append_nil]; exact h)
    intro a w w0 S φ0 ι φ H' tm' hI ht hop hr ⟨fn, code, hfn, hnm, hbody⟩
    have hx : evV tm' x = evV tm x := hop x (by rw [ho]; simp [Op.operands, Call.operands, hc])
    have hxs : c.args.toList.map (evV tm') = c.args.toList.map (evV tm) := evs_congr fun z hz => hop z (by rw [ho]; simp only [Op.operands, Call.operands, hc]; simp at hz ⊢; exact .inr hz)
    have hf := ht.ev x
    rw [hx, hfv] at hf
    obtain ⟨us, ws, hfe, hus, hws, hr1, hr2⟩ := hf.fn_
    have hargs : TmOk ι φ (fs ++ c.args.toList.map (evV tm) ++ cs) (us ++ c.args.map a.eval ++ ws) := by
      refine TmOk.app (TmOk.app ⟨hus, hr1⟩ ?_) ⟨hws, hr2⟩
      rw [← hxs]; exact ht.evs c.args
    refine ⟨us ++ c.args.map a.eval ++ ws, φ, .refl _, hI, hargs, ?_⟩
    unfold execOp
    simp only [ho, resolve, hc, hfe, Deferred.ofValue, Sem.run_bind, Sem.run_pure, Result.andThen_ok, invoke, callFunc, program, Sem.run, hfn, hnm]
    simp [hbody]
  rcases needC_ok h with ⟨ho', h⟩ | h
  case inr => exact ownC h
  have hl := (hl ho').2
  have enter : ∀ (a : Act) (w w0 : World) (S : Nat → Prop) (φ0 : Prot) (ι : Map) (φ : Prot) (H' : Nat → Blk) (tm' : List Val), Inv w0 S φ0 ι φ H' w → TmOk ι φ tm' a.tmps → (∀ x ∈ o.op.operands, evV tm' x = evV tm x) → (∀ b ∈ r, H' b = getH hp b) →
      (∃ fn c, P.funcs[f]? = some fn ∧ (fn.name == "runtime.NumGoroutine") = false ∧ fn.body = some c) →
      ∃ cargs φ', ProtLe φ φ' ∧ Inv w0 S φ0 ι φ' H' w ∧ TmOk ι φ' as' cargs ∧ (execOp a.eval o).run P w = .ok (.enter f cargs) w := by
    intro a w w0 S φ0 ι φ H' tm' hI ht hop hr ⟨fn, code, hfn, hnm, hbody⟩
    have hx : evV tm' x = evV tm x := hop x (by rw [ho]; simp [Op.operands, Call.operands, hc])
    have hxs : c.args.toList.map (evV tm') = c.args.toList.map (evV tm) := evs_congr fun z hz => hop z (by rw [ho]; simp only [Op.operands, Call.operands, hc]; simp at hz ⊢; exact .inr hz)
    have hf := ht.ev x
    rw [hx, hfv] at hf
    obtain ⟨us, ws, hfe, hus, hws, hr1, hr2⟩ := hf.fn_
    have hargs : TmOk ι φ (fs ++ c.args.toList.map (evV tm) ++ cs) (us ++ c.args.map a.eval ++ ws) := by
      refine TmOk.app (TmOk.app ⟨hus, hr1⟩ ?_) ⟨hws, hr2⟩
      rw [← hxs]; exact ht.evs c.args
    obtain ⟨φ', hpp, hI', hr'⟩ := hl.2 w0 w S φ0 ι φ H' (fun i => (us ++ c.args.map a.eval ++ ws).getD i undef) (fun b hb => hr b hb) hI hargs.rel
    refine ⟨us ++ c.args.map a.eval ++ ws, φ', hpp, hI', ⟨by rw [hargs.len, hl.1], fun i hi => hr' i (by rwa [hl.1] at hi)⟩, ?_⟩
    unfold execOp
    simp only [ho, resolve, hc, hfe, Deferred.ofValue, Sem.run_bind, Sem.run_pure, Result.andThen_ok, invoke, callFunc, program, Sem.run, hfn, hnm]
    simp [hbody]
  split at h
  case h_1 =>
    rename_i hcl
    rcases h with ⟨v, h1, hret, h⟩ | h
    case own => exact ownC h
    -- the one thing to show, whichever way the result is named
    have key : ∀ (v' : Val) (u : Upd) (n' : Nat), (∀ H : Nat → Blk, ∀ b, applyF H u b = applyF H (newUpd (shift hp.length) hp.length h1) b) → hp.length + h1.length ≤ n' →
        (∀ (ι ιc : Map) (φ : Prot) (cv : Value), (∀ b, h1.length ≤ b → ιc b = none) → Rel ιc φ v cv → Rel (joinM ι hp.length h1.length ιc) φ v' cv ∨ (h1 = [] ∧ v' = v)) → Fact P o tm (getH hp) hp.length n' v' u r := by
      intro v' u n' hu hn' hv' a w w0 S φ0 ι φ H' tm' next Q hI ht hop hr hfree hnext
      obtain ⟨hfun, hcall⟩ := hret
      obtain ⟨cargs, φ', hpp, hI', hargs, hrun⟩ := enter a w w0 S φ0 ι φ H' tm' hI ht hop hr hfun
      have hsim : Sim (fun _ => none) φ' (getH []) w := ⟨fun b => by rw [getH_ge (by simp)]; trivial, fun b b' g c c' _ _ e => (by cases e), hI'.sim.prot⟩
      have htm : TmOk (fun _ => none) φ' as' cargs := ⟨hargs.len, fun i hi => (hargs.rel i hi).closedA_ (closedAs_get hcl hi)⟩
      have hC := hcall (fun _ => none) φ' w _ (fun _ _ => rfl) hsim htm
      unfold Oper.wp
      rw [hrun, Oper.upon_enter]
      refine hC.mono fun e w' ⟨cv, ιc, φ'', he, _, hIc, hvc, hend⟩ => ?_
      subst he
      have hIc' : Inv w (fun _ => False) φ' ιc φ'' (getH h1) w' := by
        refine ⟨hIc.sim, ⟨hIc.keep.os, hIc.keep.tape, hIc.keep.output, hIc.keep.size, fun g hg _ => hIc.keep.block g hg ?_⟩, fun b g c hb e => ?_, fun a ha => ?_, hIc.le⟩
        · rintro ⟨b, c, hb, _⟩; simp at hb
        · rcases hIc.own b g c hb e with ⟨b', c', hb', _⟩ | h
          · simp at hb'
          · exact .inr h
        · rcases hIc.new a ha with h | ⟨b', c', hb', _⟩ | h
          · exact .inl h
          · simp at hb'
          · exact .inr (.inr h)
      have hfr : ∀ b, hp.length ≤ b → b < hp.length + h1.length → ι b = none := fun b k1 k2 => hfree b k1 (by omega)
      have hJ := hI'.call hIc' hfr hend
      have hm : MapLe ι (joinM ι hp.length h1.length ιc) := fun b p hb => by
        unfold joinM
        by_cases hr : hp.length ≤ b ∧ b < hp.length + h1.length
        · rw [hfr b hr.1 hr.2] at hb; cases hb
        · rw [if_neg hr]; exact hb
      have he : applyF H' u = applyF H' (newUpd (shift hp.length) hp.length h1) := funext (hu H')
      refine hnext cv w' (joinM ι hp.length h1.length ιc) φ'' ?_ (by rw [he]; exact hJ) hm (hpp.trans hIc.le) fun b hb => ?_
      · rcases hv' ι ιc φ'' cv hend hvc with h3 | ⟨h3, h4⟩
        · exact h3
        · rw [h4]
          exact hvc.mono (fun b p e => by rw [hend b (by rw [h3]; simp)] at e; cases e) (.refl _)
      · unfold joinM; rw [if_neg (by omega)]
    unfold newsK at h
    cases h1 with
    | nil => exact ⟨v, [], r, h, fun n' _ hn' => key v [] n' (fun _ _ => rfl) (by simpa using hn') fun _ _ _ _ _ _ => .inr ⟨rfl, rfl⟩⟩
    | cons y l =>
      refine ⟨_, _, r, h, fun n' hu _ => key _ _ n' (fun _ _ => rfl) ?_ fun ι ιc φ cv hend hv => .inl (hv.ren fun b i p hb e => ?_)⟩
      · obtain ⟨z, hz⟩ := newUpd_last (σ := shift hp.length) (l := y :: l) (n := hp.length) (b := hp.length + l.length) (by omega) (by simp)
        have := hu _ z hz
        simp only [List.length_cons]; omega
      · simp only [shift, Option.some.injEq] at hb; subst hb
        have : b < (y :: l).length := by
          rcases Nat.lt_or_ge b (y :: l).length with h | h
          · exact h
          · rw [hend b h] at e; cases e
        unfold joinM
        rw [if_pos ⟨by omega, by omega⟩, Nat.add_sub_cancel_left]; exact e
  case h_2 => exact callH as' r _ enter h fun _ _ _ h => h

theorem Prog.run_from : ∀ (p : Prog) (H : Nat → Blk) (r : List Nat) (v : Val) (u : Upd) (r' : List Nat), p.run H r (fun v' u' r'' => v' = v ∧ u' = u ∧ r'' = r') → ∃ s, r' = s ++ r ∧ ∀ r2, p.run H r2 (fun v' u' r'' => v' = v ∧ u' = u ∧ r'' = s ++ r2)
  | .ret v0 u0, _, r, v, u, r', ⟨h1, h2, h3⟩ => ⟨[], h3.symm, fun r2 => ⟨h1, h2, rfl⟩⟩
  | .get b k, H, r, v, u, r', h => by
    obtain ⟨s, h1, h2⟩ := Prog.run_from (k (H b)) H (b :: r) v u r' h
    refine ⟨s ++ [b], by simp [h1], fun r2 => ?_⟩
    show (k (H b)).run H (b :: r2) _
    have := h2 (b :: r2)
    simpa using this
  | @Prog.need p _ k, H, r, v, u, r', h => by
    obtain ⟨s, h1, h2⟩ := Prog.run_from k H r v u r' h.2
    exact ⟨s, h1, fun r2 => ⟨h.1, h2 r2⟩⟩
  | .fail, _, _, _, _, _, h => h.elim
/-- Operands lent: what is known of them. -/
def LendT (hp : List Blk) (r : List Nat) (xs : List Operand) (tm tm' : List Val) : Prop :=
  ∀ (w0 w : World) (S : Nat → Prop) (φ0 : Prot) (ι : Map) (φ : Prot) (H : Nat → Blk) (tx : List Val) (us : Array Value), (∀ b ∈ r, H b = getH hp b) → Inv w0 S φ0 ι φ H w → TmOk ι φ tx us → (∀ x ∈ xs, evV tx x = evV tm x) →
    ∃ φ' tx', ProtLe φ φ' ∧ Inv w0 S φ0 ι φ' H w ∧ TmOk ι φ' tx' us ∧ ∀ x, evV tx x = evV tm x → evV tx' x = evV tm' x
theorem evV_tmp (tm : List Val) (t : Nat) : evV tm (.tmp t) = tm.getD t (.tup []) := by
  show getK tm t id = _
  rw [getK_eq]; rfl
theorem getD_set (tm : List Val) (t s : Nat) (v : Val) : (tm.set t v).getD s (.tup []) = if t = s ∧ s < tm.length then v else tm.getD s (.tup []) := by
  simp only [List.getD_eq_getElem?_getD]
  rw [List.getElem?_set]
  by_cases h : t = s
  · subst h
    by_cases hl : t < tm.length
    · simp [hl]
    · simp [hl]
  · simp [h]
theorem lentAK_ok' {hp : List Blk} {r : List Nat} {o : Option Prop} {v : Val} {K : Val → List Nat → Option Prop → Prop} (h : lentAK hp r o v K) : ∃ v' r' o', K v' r' o' ∧ (∀ b ∈ r, b ∈ r') ∧ (optP o' → optP o ∧ Lends hp r' v v') ∧ (v = .tup [] → v' = .tup []) := by
  by_cases hv : v = .tup []
  · subst hv
    exact ⟨.tup [], r, o, h, fun _ hb => hb, fun ho => ⟨ho, .same _ _ _⟩, fun _ => rfl⟩
  · obtain ⟨v', r', o', h1, h2, h3⟩ := lentAK_ok h
    exact ⟨v', r', o', h1, h2, h3, fun e => absurd e hv⟩
theorem lentTK_ok {hp : List Blk} : ∀ {xs : List Operand} {r : List Nat} {o : Option Prop} {tm : List Val} {K : List Val → List Nat → Option Prop → Prop}, lentTK hp xs r o tm K →
    ∃ tm' r' o', K tm' r' o' ∧ (∀ b ∈ r, b ∈ r') ∧ (optP o' → optP o ∧ LendT hp r' xs tm tm')
  | [], r, o, tm, K, h => ⟨tm, r, o, h, fun _ hb => hb, fun ho => ⟨ho, fun _ _ _ _ _ φ _ tx _ _ hI ht _ => ⟨φ, tx, .refl _, hI, ht, fun _ h => h⟩⟩⟩
  | .tmp t :: xs, r, o, tm, K, h => by
    unfold lentTK at h
    rw [getK_eq] at h
    obtain ⟨v', r1, o1, h1, hr1, hl1, htup⟩ := lentAK_ok' h
    rw [putK_eq] at h1
    obtain ⟨tm', r2, o2, h2, hr2, hl2⟩ := lentTK_ok h1
    refine ⟨tm', r2, o2, h2, fun b hb => hr2 b (hr1 b hb), fun ho => ?_⟩
    obtain ⟨ho1, hL2⟩ := hl2 ho
    obtain ⟨ho0, hL1⟩ := hl1 ho1
    refine ⟨ho0, fun w0 w S φ0 ι φ H tx us hb hI ht hop => ?_⟩
    have ht0 := hop (.tmp t) (by simp)
    rw [evV_tmp, evV_tmp] at ht0
    have hrel := ht.get t
    rw [ht0] at hrel
    obtain ⟨φ1, p1, I1, R1⟩ := hL1 w0 w S φ0 ι φ H _ (fun b hb' => hb b (hr2 b hb')) hI hrel
    have ht1 : TmOk ι φ1 (tx.set t v') us := by
      refine ⟨by rw [List.length_set]; exact ht.len, fun i hi => ?_⟩
      rw [List.length_set] at hi
      by_cases e : t = i
      · subst e
        have : (tx.set t v').getD t .und = v' := by simp [List.getD_eq_getElem?_getD, List.getElem?_set, hi]
        rw [this]; exact R1
      · have : (tx.set t v').getD i .und = tx.getD i .und := by simp [List.getD_eq_getElem?_getD, List.getElem?_set, e]
        rw [this]; exact (ht.rel i hi).mono (.refl _) p1
    have step : ∀ x, evV tx x = evV tm x → evV (tx.set t v') x = evV (tm.set t v') x := fun x hx => by
      cases x with
      | tmp s =>
        rw [evV_tmp, evV_tmp] at hx ⊢
        rw [getD_set, getD_set]
        by_cases e : t = s
        · subst e
          by_cases l1 : t < tx.length <;> by_cases l2 : t < tm.length
          · simp [l1, l2]
          · have hz : tm.getD t (.tup []) = .tup [] := by simp [List.getD_eq_getElem?_getD, List.getElem?_eq_none (Nat.le_of_not_lt l2)]
            simp only [l1, l2, and_true, and_false, if_true, if_false, hz]
            exact htup hz
          · have hz : tx.getD t (.tup []) = .tup [] := by simp [List.getD_eq_getElem?_getD, List.getElem?_eq_none (Nat.le_of_not_lt l1)]
            rw [hz] at ht0
            simp only [l1, l2, and_true, and_false, if_true, if_false, hz]
            exact (htup ht0.symm).symm
          · simp only [l1, l2, and_false, if_false]; exact hx
        · simp only [e, false_and, if_false]; exact hx
      | _ => rfl
    obtain ⟨φ2, tx2, p2, I2, T2, hev⟩ := hL2 w0 w S φ0 ι φ1 H (tx.set t v') us hb I1 ht1 fun x hx => step x (hop x (List.mem_cons_of_mem _ hx))
    exact ⟨φ2, tx2, p1.trans p2, I2, T2, fun x hx => hev x (step x hx)⟩
  | .const c :: xs, r, o, tm, K, h => by
    obtain ⟨tm', r', o', h1, h2, h3⟩ := lentTK_ok (xs := xs) h
    exact ⟨tm', r', o', h1, h2, fun ho => ⟨(h3 ho).1, fun w0 w S φ0 ι φ H tx us hb hI ht hop => (h3 ho).2 w0 w S φ0 ι φ H tx us hb hI ht fun x hx => hop x (List.mem_cons_of_mem _ hx)⟩⟩
  | .global c :: xs, r, o, tm, K, h => by
    obtain ⟨tm', r', o', h1, h2, h3⟩ := lentTK_ok (xs := xs) h
    exact ⟨tm', r', o', h1, h2, fun ho => ⟨(h3 ho).1, fun w0 w S φ0 ι φ H tx us hb hI ht hop => (h3 ho).2 w0 w S φ0 ι φ H tx us hb hI ht fun x hx => hop x (List.mem_cons_of_mem _ hx)⟩⟩
  | .func c :: xs, r, o, tm, K, h => by
    obtain ⟨tm', r', o', h1, h2, h3⟩ := lentTK_ok (xs := xs) h
    exact ⟨tm', r', o', h1, h2, fun ho => ⟨(h3 ho).1, fun w0 w S φ0 ι φ H tx us hb hI ht hop => (h3 ho).2 w0 w S φ0 ι φ H tx us hb hI ht fun x hx => hop x (List.mem_cons_of_mem _ hx)⟩⟩
theorem puts_sub (o : Oper) : ∀ x ∈ putsOf o.op, x ∈ o.op.operands := by
  obtain ⟨dst, op, ty, pos, after, guard⟩ := o
  cases op <;> simp only [putsOf, List.not_mem_nil, false_implies, implies_true]
  · intro x hx
    simp only [Op.operands, List.mem_toArray]
    exact hx
  · intro x hx; simp only [List.mem_singleton] at hx; subst hx; simp [Op.operands]
  · intro x hx; simp only [List.mem_singleton] at hx; subst hx; simp [Op.operands]
theorem lent_fact {P : Program} {T : TypeId → TD} (hT : TOk P T) {o : Oper} {tm tm' : List Val} {hp : List Blk} {r0 : List Nat} (hL : LendT hp r0 (putsOf o.op) tm tm') {v : Val} {u : Upd} {r : List Nat}
    (h : (opP T o tm' hp.length).run (getH hp) r0 fun v' u' r'' => v' = v ∧ u' = u ∧ r'' = r) {n' : Nat} (hn' : ∀ b x, (b, x) ∈ u → b < n') : Fact P o tm (getH hp) hp.length n' v u r := by
  intro a w w0 S φ0 ι φ H' tx next Q hI ht hop hr hfree hnext
  obtain ⟨s, hs, h0⟩ := Prog.run_from _ _ _ _ _ _ h
  obtain ⟨φ1, tx', p1, I1, T1, hev⟩ := hL w0 w S φ0 ι φ H' tx a.tmps (fun b hb => hr b (by rw [hs]; exact List.mem_append_right _ hb)) hI ht fun x hx => hop x (puts_sub o x hx)
  have h1 := h0 []
  rw [List.append_nil] at h1
  have h' : Does (opP T o tx' hp.length) H' [] v u s := by
    unfold Does
    rw [opP_congr T (tm := tm') (tm' := tx') _ fun x hx => hev x (hop x hx)]
    exact Prog.run_local _ _ _ _ _ _ _ (fun b hb => hr b (by rw [hs]; exact List.mem_append_left _ hb)) h1
  obtain ⟨nx, cv, w', ι', φ', hrun, hnx, hv, hI', hm, hp', hf⟩ := (op_sound hT I1 T1 (fun ⟨x, hx⟩ => hfree _ (Nat.le_refl _) (hn' _ x hx)) h').ex
  have := hnext cv w' ι' φ' hv hI' hm (p1.trans hp') fun b hb => hf b fun e x hx => by
    subst e
    have := hn' _ x hx
    omega
  unfold Oper.wp
  rw [hrun]
  rcases hnx with rfl | ⟨rfl, rfl⟩
  · exact this
  · exact this
/-- One operation, carried out in the abstract. -/
theorem opRun_fact {P : Program} {T : TypeId → TD} (hT : TOk P T) {o : Oper} {tm : List Val} {hp : List Blk} {K : Val → Upd → List Nat → Prop} (h : opRun P T o tm hp K) :
    ∃ v u r, K v u r ∧ ∀ n', (∀ b x, (b, x) ∈ u → b < n') → hp.length ≤ n' → Fact P o tm (getH hp) hp.length n' v u r := by
  have h := lenK_eq h
  have plain : ((opP T o tm hp.length).runL hp [] none fun v u r o => needK o (K v u r)) → ∃ v u r, K v u r ∧ ∀ n', (∀ b x, (b, x) ∈ u → b < n') → hp.length ≤ n' → Fact P o tm (getH hp) hp.length n' v u r := fun h => by
    obtain ⟨v, u, r, h1, h2⟩ := runL_need h
    exact ⟨v, u, r, h2, fun n' hn' _ => plain_fact hT h1 hn'⟩
  split at h
  · rename_i c ho
    split at h
    · rename_i x hc
      exact call_fact ho hc h
    · exact plain h
  · obtain ⟨tm', r0, o0, h1, _, hl⟩ := lentTK_ok h
    obtain ⟨v, u, r, o1, h2, h3⟩ := runL_ok _ _ _ _ _ h1
    obtain ⟨h4, h5⟩ := needK_ok h2
    obtain ⟨h6, h7⟩ := h3 h4
    exact ⟨v, u, r, h5, fun n' hn' _ => lent_fact hT (hl h6).2 h7 hn'⟩

/-! ### is an operation wanted -/
theorem dstK_eq {α : Type} : ∀ (all : List Oper) (j : Nat) (K : Option Tmp → α), dstK all j K = K ((all[j]?).bind (·.dst))
  | [], _, _ => by simp [dstK]
  | _ :: _, 0, _ => by simp [dstK]
  | _ :: l, j + 1, K => by simp only [dstK, dstK_eq l j, List.getElem?_cons_succ]
theorem set_same {tm : List Val} {d : Nat} {b : Bool} (h : tm.getD d (.tup []) = .bool b) : tm.set d (.bool b) = tm := by
  apply List.ext_getElem?
  intro i
  rw [List.getElem?_set]
  split
  · rename_i e
    subst e
    rw [List.getD_eq_getElem?_getD] at h
    cases hx : tm[d]? with
    | none => rw [hx] at h; cases h
    | some x => rw [hx] at h; rw [if_pos (List.getElem?_eq_some_iff.1 hx).1]; exact congrArg some h.symm
  · rfl
theorem wantK_ok {all : List Oper} {o : Oper} {tm : List Val} {K : Bool → List Val → Prop} (h : wantK all o tm K) :
    ∃ b, K b tm ∧ ∀ (ι : Map) (φ : Prot) (a : Act) (tm' : List Val), TmOk ι φ tm' a.tmps → (∀ g want d, o.guard = some (g, want) → ((all[g]?).bind (·.dst)) = some d → tm'.getD d (.tup []) = tm.getD d (.tup [])) →
      Region.wanted o (yielded all.toArray a.tmps) = b := by
  unfold wantK at h
  split at h
  · rename_i hg
    exact ⟨true, h, fun _ _ _ _ _ _ => by simp [Region.wanted, hg]⟩
  · rename_i j want hg
    rw [dstK_eq] at h
    have hw : ∀ a : Act, Region.wanted o (yielded all.toArray a.tmps) = (yielded all.toArray a.tmps j == some want) := fun a => by simp [Region.wanted, hg]
    cases hd : (all[j]?).bind (·.dst) with
    | none =>
      rw [hd] at h
      refine ⟨false, h, fun ι φ a tm' ht _ => ?_⟩
      rw [hw]
      have : yielded all.toArray a.tmps j = none := by simp [yielded, hd]
      rw [this]; rfl
    | some d =>
      rw [hd] at h
      simp only [getK_eq] at h
      have fin : ∀ (ι : Map) (φ : Prot) (a : Act) (tm' : List Val), TmOk ι φ tm' a.tmps → (∀ g want d, o.guard = some (g, want) → ((all[g]?).bind (·.dst)) = some d → tm'.getD d (.tup []) = tm.getD d (.tup [])) →
          ∀ v, tm.getD d (.tup []) = v → Rel ι φ v (a.tmps.getD d undef) := fun ι φ a tm' ht hl v hv => by
        rw [← hv, ← hl j want d hg hd]; exact ht.get d
      have yi : ∀ (a : Act) (u : Value), a.tmps.getD d undef = u → yielded all.toArray a.tmps j = match u with | .bool b => some b | _ => none := fun a u hu => by
        unfold yielded
        simp only [List.getElem?_toArray, hd, Option.bind_some]
        rw [Array.getD_eq_getD_getElem?] at hu
        cases hx : a.tmps[d]? with
        | none => rw [hx] at hu; simp only [Option.getD_none] at hu; subst hu; rfl
        | some y => rw [hx] at hu; simp only [Option.getD_some] at hu; subst hu; cases y <;> rfl
      split at h
      · rename_i b hb
        refine ⟨b == want, ?_, fun ι φ a tm' ht hl => ?_⟩
        · cases b
          · have h := h.no rfl
            rwa [putK_eq, set_same hb] at h
          · have h := h.yes rfl
            rwa [putK_eq, set_same hb] at h
        · have hr := (fin ι φ a tm' ht hl _ hb).bool_
          rw [hw, yi a _ hr]
          cases want <;> cases b <;> rfl
      · rename_i hb
        refine ⟨false, h, fun ι φ a tm' ht hl => ?_⟩
        obtain ⟨us, hu, hs, _⟩ := (fin ι φ a tm' ht hl _ hb).tup_
        rw [hw, yi a _ hu]; rfl
      · exact h.elim
end
end Go.AM

set_option linter.unusedVariables false
set_option linter.unusedSimpArgs false
set_option maxRecDepth 100000
namespace Go.AM
noncomputable section
open Go.RowKit

/-- The state of a frame, held against the abstract one. -/
def St (w0 : World) (S : Nat → Prop) (φ0 : Prot) (ι0 : Map) (n : Nat) (tm : List Val) (hp : List Blk) (a : Act) (w : World) : Prop :=
  ∃ ι φ, Inv w0 S φ0 ι φ (getH hp) w ∧ TmOk ι φ tm a.tmps ∧ (∀ b, hp.length ≤ b → ι b = none) ∧ (∀ b, b < n → ι b = ι0 b) ∧ n ≤ hp.length ∧ a.defers = []

def putD (tm : List Val) (d : Option Tmp) (v : Val) : List Val := match d with
  | none => tm
  | some t => tm.set t v
theorem putDK_eq {α : Type} (tm : List Val) (d : Option Tmp) (v : Val) (K : List Val → α) : putDK tm d v K = K (putD tm d v) := by
  cases d <;> simp [putDK, putD, putK_eq]
theorem TmOk.put {ι : Map} {φ : Prot} {tm : List Val} {a : Act} (h : TmOk ι φ tm a.tmps) (d : Option Tmp) {v : Val} {cv : Value} (hv : Rel ι φ v cv) : TmOk ι φ (putD tm d v) (a.put d cv).tmps := by
  cases d with
  | none => exact h
  | some t =>
    refine ⟨by simp [putD, Act.put, h.len], fun i hi => ?_⟩
    simp only [putD, List.length_set] at hi
    simp only [putD, Act.put]
    by_cases hit : t = i
    · subst hit
      have hi' : t < a.tmps.size := by rw [h.len]; exact hi
      rw [List.getD_eq_getElem?_getD, List.getElem?_set_self hi, Array.getD_eq_getD_getElem?, Array.getElem?_setIfInBounds]
      simp [hi', hv]
    · rw [List.getD_eq_getElem?_getD, List.getElem?_set_ne hit, Array.getD_eq_getD_getElem?, Array.getElem?_setIfInBounds, if_neg hit]
      have := h.rel i hi
      rwa [List.getD_eq_getElem?_getD, Array.getD_eq_getD_getElem?] at this
theorem put_defers (a : Act) (d : Option Tmp) (v : Value) : (a.put d v).defers = a.defers := by cases d <;> rfl
theorem domK_eq {α : Type} : ∀ (u : Upd) (K : List Nat → α), domK u K = K (u.map Prod.fst)
  | [], _ => rfl
  | (b, x) :: u, K => by simp only [domK, domK_eq u, List.map_cons]

theorem regK_sound {P : Program} {T : TypeId → TD} (hT : TOk P T) {fl : Bool} {all : List Oper} {w0 : World} {S : Nat → Prop} {φ0 : Prot} {ι0 : Map} {n : Nat} {Q : Exit → Act → World → Prop} :
    ∀ {l : List Oper} {tm : List Val} {hp : List Blk} {K : List Val → List Blk → Prop} {a : Act} {w : World}, regK P T fl all l tm hp K → St w0 S φ0 ι0 n tm hp a w →
      (∀ tm hp a w, K tm hp → St w0 S φ0 ι0 n tm hp a w → Q .normal a w) → wpList P all.toArray Q l a w
  | [], tm, hp, K, a, w, h, hs, hK => hK tm hp a w h hs
  | o :: rest, tm, hp, K, a, w, h, hs, hK => by
    unfold regK at h
    obtain ⟨b, h, hw⟩ := wantK_ok h
    unfold stepK at h
    obtain ⟨ι, φ, hI, ht, hend, h0, hn, hdf⟩ := hs
    have hw := hw ι φ a tm ht (fun _ _ _ _ _ => rfl)
    unfold wpList
    rw [hw]
    cases b with
    | true =>
      obtain ⟨v, u, r, h, hf⟩ := opRun_fact hT h
      rw [raiseUK_eq] at h
      obtain ⟨hp', h, hH, hlen, hu⟩ := updK_eq (raiseU fl u) hp _ h
      have hu' : ∀ b x, (b, x) ∈ u → b < hp'.length := fun b x hx => by obtain ⟨y, hy⟩ := raiseU_mem (fl := fl) ⟨x, hx⟩; exact hu b y hy
      rw [putDK_eq] at h
      rw [if_pos rfl]
      refine .inl ((hf hp'.length hu' hlen).raise fl a w w0 S φ0 ι φ (getH hp) tm _ _ hI ht (fun _ _ => rfl) (fun _ _ => rfl) (fun b hb _ => hend b hb) fun cv w' ι' φ' hv hI' hm hp2 hfr => ?_)
      have e : applyF (getH hp) (raiseU fl u) = getH hp' := (funext hH).symm
      rw [e] at hI'
      refine regK_sound hT h ⟨ι', φ', hI', (ht.mono hm hp2).put o.dst hv, fun b hb => ?_, fun b hb => ?_, by omega, by rw [put_defers, hdf]⟩ hK
      · rw [hfr b (.inr hb)]; exact hend b (by omega)
      · rw [hfr b (.inl (by omega))]; exact h0 b hb
    | false =>
      rw [putDK_eq] at h
      rw [if_neg (by simp)]
      exact regK_sound hT h ⟨ι, φ, hI, ht.put o.dst (rel_undef ι φ), hend, h0, hn, by rw [put_defers, hdf]⟩ hK

/-! ### regions whose order is drawn: what was done, operation by operation -/
structure Ent where
  o : Oper
  on : Bool
  v : Val
  u : Upd
  r : List Nat
  n : Nat
  n' : Nat
def Ent.tm (e : Ent) (tm : List Val) : List Val := putD tm e.o.dst e.v
def Ent.H (e : Ent) (H : Nat → Blk) : Nat → Blk := applyF H e.u
def Ent.log (e : Ent) : Log := (e.r, e.u.map Prod.fst)
def EntOk (P : Program) (all : List Oper) (e : Ent) (tm : List Val) (H : Nat → Blk) : Prop :=
  (e.on = true → Fact P e.o tm H e.n e.n' e.v e.u e.r) ∧ (e.on = false → e.v = .tup [] ∧ e.u = []) ∧ e.n ≤ e.n' ∧
  ∀ (ι : Map) (φ : Prot) (a : Act) (tm' : List Val), TmOk ι φ tm' a.tmps → (∀ g want d, e.o.guard = some (g, want) → ((all[g]?).bind (·.dst)) = some d → tm'.getD d (.tup []) = tm.getD d (.tup [])) →
      Region.wanted e.o (yielded all.toArray a.tmps) = e.on
def Chain (P : Program) (all : List Oper) : List Ent → List Val → (Nat → Blk) → Nat → Prop
  | [], _, _, _ => True
  | e :: l, tm, H, n => EntOk P all e tm H ∧ e.n = n ∧ Chain P all l (e.tm tm) (e.H H) e.n'
def endTm : List Ent → List Val → List Val
  | [], tm => tm
  | e :: l, tm => endTm l (e.tm tm)
def endH : List Ent → (Nat → Blk) → (Nat → Blk)
  | [], H => H
  | e :: l, H => endH l (e.H H)
def endN : List Ent → Nat → Nat
  | [], n => n
  | e :: l, _ => endN l e.n'
theorem drawK_ok {P : Program} {T : TypeId → TD} (hT : TOk P T) {fl : Bool} {all : List Oper} : ∀ {l : List Oper} {tm : List Val} {hp : List Blk} {lg : List Log} {K : List Val → List Blk → List Log → Prop}, drawK P T fl all l tm hp lg K →
    ∃ es : List Ent, es.map (·.o) = l ∧ Chain P all es tm (getH hp) hp.length ∧ ∃ hp', K (endTm es tm) hp' ((es.map (·.log)).reverse ++ lg) ∧ getH hp' = endH es (getH hp) ∧ hp'.length = endN es hp.length ∧ hp.length ≤ hp'.length
  | [], tm, hp, lg, K, h => ⟨[], rfl, trivial, hp, h, rfl, rfl, Nat.le_refl _⟩
  | o :: rest, tm, hp, lg, K, h => by
    unfold drawK at h
    obtain ⟨b, h, hw⟩ := wantK_ok h
    unfold stepDK at h
    cases b with
    | true =>
      obtain ⟨v, u, r, h, hf⟩ := opRun_fact hT h
      rw [raiseUK_eq] at h
      obtain ⟨hp1, h, hH, hlen, hu⟩ := updK_eq (raiseU fl u) hp _ h
      have hu' : ∀ b x, (b, x) ∈ u → b < hp1.length := fun b x hx => by obtain ⟨y, hy⟩ := raiseU_mem (fl := fl) ⟨x, hx⟩; exact hu b y hy
      rw [putDK_eq] at h
      rw [domK_eq] at h
      obtain ⟨es, h1, h2, hp', h3, h4, h5, h6⟩ := drawK_ok hT h
      have e : applyF (getH hp) (raiseU fl u) = getH hp1 := (funext hH).symm
      refine ⟨⟨o, true, v, raiseU fl u, r, hp.length, hp1.length⟩ :: es, by simp [h1], ⟨⟨fun _ => (hf hp1.length hu' hlen).raise fl, (fun h => by cases h), hlen, hw⟩, rfl, ?_⟩, hp', ?_, ?_, h5, by omega⟩
      · simp only [Ent.tm, Ent.H]; rw [e]; exact h2
      · simpa [Ent.log, endTm, Ent.tm] using h3
      · simp only [endH, Ent.H]; rw [e]; exact h4
    | false =>
      rw [putDK_eq] at h
      obtain ⟨es, h1, h2, hp', h3, h4, h5, h6⟩ := drawK_ok hT h
      refine ⟨⟨o, false, .tup [], [], [], hp.length, hp.length⟩ :: es, by simp [h1], ⟨⟨(fun h => by cases h), fun _ => ⟨rfl, rfl⟩, Nat.le_refl _, hw⟩, rfl, ?_⟩, hp', ?_, ?_, h5, h6⟩
      · simpa [Ent.tm, Ent.H, applyF] using h2
      · simpa [Ent.log, endTm, Ent.tm] using h3
      · simpa [endH, Ent.H, applyF] using h4
end
end Go.AM

