/- The abstract machine's programs are sound: lists in continuation form, blocks under other names. -/
import Derived.Test.YtkglccolonpnlaaAmWp
set_option linter.unusedVariables false
set_option linter.unusedSimpArgs false
set_option maxRecDepth 100000
namespace Go.AM
noncomputable section
open Go.RowKit

/-! ### the continuation forms -/
theorem getBK_eq {α : Type} : ∀ (l : List Blk) (n : Nat) (K : Blk → α), getBK l n K = K (getH l n)
  | [], _, _ => rfl
  | _ :: _, 0, _ => rfl
  | _ :: l, n + 1, K => by simp only [getBK, getBK_eq l n, getH, List.getD_cons_succ]
theorem getH_ge {l : List Blk} {n : Nat} (h : l.length ≤ n) : getH l n = .gone := by simp [getH, List.getD_eq_getElem?_getD, List.getElem?_eq_none h]
theorem setBK_eq : ∀ (l : List Blk) (n : Nat) (x : Blk) (K : List Blk → Prop), setBK l n x K → n ≤ l.length ∧ ∃ l', K l' ∧ (∀ b, getH l' b = setH (getH l) n x b) ∧ l'.length = max l.length (n + 1)
  | [], 0, x, K, h => ⟨Nat.le_refl _, [x], h, fun b => by
      cases b with
      | zero => rfl
      | succ b => simp [getH, setH], rfl⟩
  | [], _ + 1, _, _, h => h.elim
  | y :: l, 0, x, K, h => ⟨Nat.zero_le _, x :: l, h, fun b => by
      cases b with
      | zero => rfl
      | succ b => simp [getH, setH], by simp only [List.length_cons]; omega⟩
  | y :: l, n + 1, x, K, h => by
    obtain ⟨h1, l', h2, h3, h4⟩ := setBK_eq l n x _ h
    refine ⟨by simpa using h1, y :: l', h2, fun b => ?_, by simp only [List.length_cons, h4]; omega⟩
    cases b with
    | zero => simp [getH, setH]
    | succ b =>
      have := h3 b
      simp only [getH, setH, List.getD_cons_succ] at this ⊢
      rw [this]; simp
theorem setH_ext {H H' : Nat → Blk} (h : ∀ b, H b = H' b) (i : Nat) (x : Blk) : ∀ b, setH H i x b = setH H' i x b := fun b => by unfold setH; rw [h]
theorem applyF_ext : ∀ (u : Upd) {H H' : Nat → Blk}, (∀ b, H b = H' b) → ∀ b, applyF H u b = applyF H' u b
  | [], _, _, h => h
  | (i, x) :: u, _, _, h => applyF_ext u (setH_ext h i x)
theorem updK_eq : ∀ (u : Upd) (hp : List Blk) (K : List Blk → Prop), updK hp u K → ∃ hp', K hp' ∧ (∀ b, getH hp' b = applyF (getH hp) u b) ∧ hp.length ≤ hp'.length ∧ (∀ b x, (b, x) ∈ u → b < hp'.length)
  | [], hp, K, h => ⟨hp, h, fun _ => rfl, Nat.le_refl _, fun b x hx => by simp at hx⟩
  | (b, x) :: u, hp, K, h => by
    obtain ⟨h1, l', h2, h3, h4⟩ := setBK_eq hp b x _ h
    obtain ⟨hp', k1, k2, k3, k4⟩ := updK_eq u l' K h2
    refine ⟨hp', k1, fun c => by rw [k2 c]; exact applyF_ext u h3 c, by omega, fun c y hc => ?_⟩
    rcases List.mem_cons.1 hc with e | hc
    · injection e with e1 _; subst e1; omega
    · exact k4 c y hc
def optP : Option Prop → Prop
  | none => True
  | some p => p
theorem more_ok {o : Option Prop} {p : Prop} (h : optP (more o p)) : optP o ∧ p := by cases o <;> simpa [more, optP] using h
theorem needK_ok {o : Option Prop} {G : Prop} (h : needK o G) : optP o ∧ G := by
  cases o with
  | none => exact ⟨trivial, h⟩
  | some p => exact ⟨h.here, h.rest⟩
theorem runL_ok : ∀ (p : Prog) (hp : List Blk) (r : List Nat) (o : Option Prop) (K : Val → Upd → List Nat → Option Prop → Prop), p.runL hp r o K →
    ∃ v u r' o', K v u r' o' ∧ (optP o' → optP o ∧ p.run (getH hp) r fun v' u' r'' => v' = v ∧ u' = u ∧ r'' = r')
  | .ret v u, _, r, o, _, h => ⟨v, u, r, o, h, fun ho => ⟨ho, rfl, rfl, rfl⟩⟩
  | .get b k, hp, r, o, K, h => by
    simp only [Prog.runL, getBK_eq] at h
    exact runL_ok (k (getH hp b)) hp (b :: r) o K h
  | @Prog.need p _ k, hp, r, o, K, h => by
    obtain ⟨v, u, r', o', h1, h2⟩ := runL_ok k hp r (more o p) K h
    exact ⟨v, u, r', o', h1, fun ho => ⟨(more_ok (h2 ho).1).1, (more_ok (h2 ho).1).2, (h2 ho).2⟩⟩
  | .fail, _, _, _, _, h => h.elim
theorem runL_need {p : Prog} {hp : List Blk} {G : Val → Upd → List Nat → Prop} (h : p.runL hp [] none fun v u r o => needK o (G v u r)) :
    ∃ v u r, (p.run (getH hp) [] fun v' u' r'' => v' = v ∧ u' = u ∧ r'' = r) ∧ G v u r := by
  obtain ⟨v, u, r, o, h1, h2⟩ := runL_ok _ _ _ _ _ h
  obtain ⟨h3, h4⟩ := needK_ok h1
  exact ⟨v, u, r, (h2 h3).2, h4⟩
theorem ids_eq : ids = List.range' 0 100 := rfl
theorem lenK_aux : ∀ (l : List Blk) (m s : Nat) (K : Nat → Prop), lenK l (List.range' s m) K → K (s + l.length)
  | [], 0, _, _, h => h.elim
  | [], m + 1, s, K, h => h
  | _ :: l, 0, _, _, h => h.elim
  | _ :: l, m + 1, s, K, h => by
    have := lenK_aux l m (s + 1) K h
    rwa [show s + 1 + l.length = s + (l.length + 1) by omega] at this
theorem lenK_eq {l : List Blk} {K : Nat → Prop} (h : lenK l ids K) : K l.length := by
  rw [ids_eq] at h
  have := lenK_aux l 100 0 K h
  rwa [Nat.zero_add] at this

/-! ### blocks under other names -/
theorem renL_length (σ : Nat → Option Nat) : ∀ cs : List Val, (renL σ cs).length = cs.length
  | [] => rfl
  | _ :: cs => by simp [renL, renL_length σ cs]
theorem renL_get (σ : Nat → Option Nat) : ∀ (cs : List Val) (i : Nat), (renL σ cs).getD i .und = renV σ (cs.getD i .und)
  | [], i => by simp [renL, renV]
  | c :: cs, 0 => rfl
  | c :: cs, i + 1 => by simp only [renL, List.getD_cons_succ]; exact renL_get σ cs i

def Under (σ : Nat → Option Nat) (ι ι' : Map) : Prop := ∀ b i p, σ b = some i → ι b = some p → ι' i = some p
section
variable {σ : Nat → Option Nat} {ι ι' : Map} {φ : Prot}
theorem RelC.ren {v : Val} {u : Value} (h : RelC φ v u) : RelC φ (renV σ v) u := by
  induction h with
  | bool b => exact .bool b
  | int k n => exact .int k n
  | str s => exact .str s
  | nilp => exact .nilp
  | rptr cs a vals hφ h1 hr ih => exact .rptr cs a vals hφ h1 hr
  | ext sz n get a c vals hc hl hφ h1 hr ih => exact .ext sz n get a c vals hc hl hφ h1 hr
  | extNil sz get => exact .extNil sz get
  | nils => exact .nils
  | emp a => exact .emp a
  | fn f => exact .fn f
  | nilf => exact .nilf
  | nilm => exact .nilm
  | ifc t v u h ih => exact .ifc t _ u ih
  | nili => exact .nili
theorem Rel.ren (hσ : Under σ ι ι') {v : Val} {u : Value} (h : Rel ι φ v u) : Rel ι' φ (renV σ v) u := by
  induction h with
  | c h => exact .c h.ren
  | ptr b off g c h =>
    simp only [renV]
    cases hb : σ b with
    | none => exact .und _
    | some i => exact .ptr i off g c (hσ b i _ hb h)
  | ep b sz i j g c h =>
    simp only [renV]
    cases hb : σ b with
    | none => exact .und _
    | some k => exact .ep k sz i j g c (hσ b k _ hb h)
  | row b n g c h hn =>
    simp only [renV]
    cases hb : σ b with
    | none => exact .und _
    | some k => exact .row k n g c (hσ b k _ hb h) hn
  | asl b off n g c cap h hn =>
    simp only [renV]
    cases hb : σ b with
    | none => exact .und _
    | some k => exact .asl k off n g c cap (hσ b k _ hb h) hn
  | map b g c h =>
    simp only [renV]
    cases hb : σ b with
    | none => exact .und _
    | some k => exact .map k g c (hσ b k _ hb h)
  | fn f fs cs us ws h1 h2 r1 r2 i1 i2 =>
    simp only [renV]
    exact .fn f _ _ us ws (by rw [renL_length, h1]) (by rw [renL_length, h2]) (fun i hi => by rw [renL_get]; rw [renL_length] at hi; exact i1 i hi) (fun i hi => by rw [renL_get]; rw [renL_length] at hi; exact i2 i hi)
  | ifc t v u h ih => exact .ifc t _ u ih
  | agg cs us h h1 hr ih =>
    simp only [renV]
    exact .agg _ us (by rw [renL_length, h]) (fun i hi => by rw [renL_length] at hi; exact h1 i hi) (fun i hi => by rw [renL_get]; rw [renL_length] at hi; exact ih i hi)
  | tup cs us h hr ih =>
    simp only [renV]
    exact .tup _ us (by rw [renL_length, h]) (fun i hi => by rw [renL_get]; rw [renL_length] at hi; exact ih i hi)
  | und u => exact .und u
theorem BlkOk.ren (hσ : Under σ ι ι') {w : World} {b i : Nat} {x : Blk} (hb : ∀ p, ι b = some p → ι' i = some p) (h : BlkOk ι φ w b x) : BlkOk ι' φ w i (renB σ x) := by
  cases x with
  | gone => trivial
  | cells cs =>
    obtain ⟨g, c, arr, t, e, hh, hs, hr, hf⟩ := h
    exact ⟨g, c, arr, t, hb _ e, hh, by rw [renL_length, hs], fun k hk => by rw [renL_length] at hk; rw [renL_get]; exact ⟨(hr k hk).1, (hr k hk).2.ren hσ⟩, hf⟩
  | row t sz n get pr =>
    obtain ⟨g, c, arr, e, rest⟩ := h
    exact ⟨g, c, arr, hb _ e, rest⟩
  | map kag vag ks es =>
    obtain ⟨g, c, arr, clock, e, rest⟩ := h
    exact ⟨g, c, arr, clock, hb _ e, rest⟩
end
theorem renB_gone {σ : Nat → Option Nat} {x : Blk} : renB σ x = .gone ↔ x = .gone := by cases x <;> simp [renB]

/-! ### places in a list -/
theorem idx_get : ∀ {ks : List Nat} {k i : Nat}, idx ks k = some i → ks[i]? = some k
  | [], _, _, h => by cases h
  | x :: l, k, i, h => by
    simp only [idx] at h
    split at h
    · rename_i e; rw [beq_iff_eq] at e; subst e; injection h with h; subst h; rfl
    · split at h
      · rename_i j hj; injection h with h; subst h; exact (idx_get hj : l[j]? = some k)
      · cases h
theorem nodup_of : ∀ {ks : List Nat}, nodupB ks = true → ks.Nodup
  | [], _ => List.nodup_nil
  | x :: l, h => by
    simp only [nodupB, Bool.and_eq_true, Bool.not_eq_true', List.elem_eq_contains, List.contains_eq_mem, decide_eq_false_iff_not] at h
    exact List.nodup_cons.2 ⟨h.1, nodup_of h.2⟩
theorem idx_of_get : ∀ {ks : List Nat} {k i : Nat}, ks.Nodup → ks[i]? = some k → idx ks k = some i
  | [], _, _, _, h => by simp at h
  | x :: l, k, 0, _, h => by simp only [List.getElem?_cons_zero, Option.some.injEq] at h; subst h; simp [idx]
  | x :: l, k, i + 1, hn, h => by
    have hn := List.nodup_cons.1 hn
    simp only [List.getElem?_cons_succ] at h
    have hm : k ∈ l := List.mem_of_getElem? h
    have : (x == k) = false := by
      rw [beq_eq_false_iff_ne]; intro e; subst e; exact hn.1 hm
    simp only [idx, this, idx_of_get hn.2 h]
theorem nodup_inj {ks : List Nat} (h : ks.Nodup) {i j k : Nat} (hi : ks[i]? = some k) (hj : ks[j]? = some k) : i = j := by
  have a := idx_of_get h hi
  have b := idx_of_get h hj
  rw [a] at b; injection b
theorem pickK_eq (σ : Nat → Option Nat) (hp : List Blk) : ∀ (ks : List Nat) (K : List Blk → Prop), pickK σ hp ks K = K (ks.map fun k => renB σ (getH hp k))
  | [], _ => rfl
  | k :: ks, K => by simp only [pickK, getBK_eq, pickK_eq σ hp ks, List.map_cons]
theorem sel_eq (ks : List Nat) (hp : List Blk) : sel ks hp = ks.map fun k => renB (idx ks) (getH hp k) := by simp only [sel, getBK_eq, id]
def subM (ks : List Nat) (ι : Map) : Map := fun i => match ks[i]? with
  | some k => ι k
  | none => none
theorem subM_under {ks : List Nat} {ι : Map} : Under (idx ks) ι (subM ks ι) := fun b i p h e => by simp only [subM, idx_get h]; exact e
theorem getH_map {ks : List Nat} {f : Nat → Blk} {i : Nat} : getH (ks.map f) i = match ks[i]? with | some k => f k | none => .gone := by
  simp only [getH, List.getD_eq_getElem?_getD, List.getElem?_map]
  cases ks[i]? <;> rfl
theorem maskK_ok {σ : Nat → Option Nat} {ι ι' : Map} {φ : Prot} (hσ : Under σ ι ι') : ∀ {tm : List Val} {m : List Bool} {K : List Val → Prop}, maskK σ tm m K → ∃ tm', K tm' ∧ tm'.length = tm.length ∧
    ∀ (us : Nat → Value), (∀ i, i < tm.length → Rel ι φ (tm.getD i .und) (us i)) → ∀ i, i < tm.length → Rel ι' φ (tm'.getD i .und) (us i)
  | [], m, K, h => ⟨[], by cases m <;> exact h, rfl, fun _ _ i hi => absurd hi (by simp)⟩
  | v :: tm, [], K, h => by
    obtain ⟨tm', h1, h2, h3⟩ := maskK_ok (tm := tm) (m := []) hσ h
    refine ⟨.und :: tm', h1, by simp [h2], fun us hr i hi => ?_⟩
    cases i with
    | zero => exact .und _
    | succ i => exact h3 (fun i => us (i + 1)) (fun i hi => hr (i + 1) (by simpa using hi)) i (by simpa using hi)
  | v :: tm, false :: m, K, h => by
    obtain ⟨tm', h1, h2, h3⟩ := maskK_ok (tm := tm) (m := m) hσ h
    refine ⟨.und :: tm', h1, by simp [h2], fun us hr i hi => ?_⟩
    cases i with
    | zero => exact .und _
    | succ i => exact h3 (fun i => us (i + 1)) (fun i hi => hr (i + 1) (by simpa using hi)) i (by simpa using hi)
  | v :: tm, true :: m, K, h => by
    obtain ⟨tm', h1, h2, h3⟩ := maskK_ok (tm := tm) (m := m) hσ h
    refine ⟨renV σ v :: tm', h1, by simp [h2], fun us hr i hi => ?_⟩
    cases i with
    | zero => exact (hr 0 (by simp)).ren hσ
    | succ i => exact h3 (fun i => us (i + 1)) (fun i hi => hr (i + 1) (by simpa using hi)) i (by simpa using hi)

/-- The blocks ks alone. -/
theorem Inv.sub {w0 : World} {S : Nat → Prop} {φ0 : Prot} {ι : Map} {φ : Prot} {hp : List Blk} {w : World} (h : Inv w0 S φ0 ι φ (getH hp) w) {ks : List Nat} (hn : ks.Nodup) :
    Inv w0 S φ0 (subM ks ι) φ (getH (ks.map fun k => renB (idx ks) (getH hp k))) w := by
  have live : ∀ {i : Nat}, getH (ks.map fun k => renB (idx ks) (getH hp k)) i ≠ .gone → ∃ k, ks[i]? = some k ∧ getH hp k ≠ .gone := fun {i} hi => by
    rw [getH_map] at hi
    cases hk : ks[i]? with
    | none => rw [hk] at hi; exact absurd rfl hi
    | some k => rw [hk] at hi; exact ⟨k, rfl, fun e => hi (renB_gone.2 e)⟩
  refine ⟨⟨fun i => ?_, fun i j g c c' hi hj e e' => ?_, h.sim.prot⟩, h.keep, fun i g c hi e => ?_, h.new, h.le⟩
  · rw [getH_map]
    cases hk : ks[i]? with
    | none => trivial
    | some k => exact (h.sim.blk k).ren subM_under (fun p e => by simp only [subM, hk]; exact e)
  · obtain ⟨k, hk, hkg⟩ := live hi
    obtain ⟨l, hl, hlg⟩ := live hj
    simp only [subM, hk] at e
    simp only [subM, hl] at e'
    have := h.sim.inj k l g c c' hkg hlg e e'
    subst this
    exact nodup_inj hn hk hl
  · obtain ⟨k, hk, hkg⟩ := live hi
    simp only [subM, hk] at e
    exact h.own k g c hkg e
theorem subM_ge {ks : List Nat} {ι : Map} {b : Nat} (h : ks.length ≤ b) : subM ks ι b = none := by simp [subM, List.getElem?_eq_none h]
theorem keepB_ok {n : Nat} {ks : List Nat} (h : keepB n ks = true) : ks.Nodup ∧ ∀ i, i < n → ks[i]? = some i := by
  unfold keepB at h
  rw [Bool.and_eq_true] at h
  refine ⟨nodup_of h.1, fun i hi => ?_⟩
  obtain ⟨t, rfl⟩ := List.isPrefixOf_iff_prefix.1 h.2
  rw [List.getElem?_append_left (by simpa using hi)]
  simp [hi]
end
end Go.AM
