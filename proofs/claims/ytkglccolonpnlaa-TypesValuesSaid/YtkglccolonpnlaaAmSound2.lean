/- The abstract machine's programs are sound: one operation, one call. -/
import Derived.Test.YtkglccolonpnlaaAmSound1
set_option linter.unusedVariables false
set_option linter.unusedSimpArgs false
set_option maxRecDepth 100000
namespace Go.AM
noncomputable section
open Go.RowKit

/-! ### an operation looks at its operands alone -/
theorem fillK_congr {place : Nat → Option (Nat × Nat)} {tm tm' : List Val} : ∀ {parts : List (Nat × Operand)} (z : List Val) (K : List Val → Prog), (∀ p ∈ parts, evV tm' p.2 = evV tm p.2) → fillK place tm' z parts K = fillK place tm z parts K
  | [], _, _, _ => rfl
  | (i, x) :: parts, z, K, h => by
    have hx : evV tm' x = evV tm x := h (i, x) (by simp)
    have ih : ∀ z, fillK place tm' z parts K = fillK place tm z parts K := fun z => fillK_congr z K fun p hp => h p (by simp [hp])
    simp only [fillK, evK_eq, hx, ih]
theorem evs_congr {tm tm' : List Val} {xs : List Operand} (h : ∀ x ∈ xs, evV tm' x = evV tm x) : xs.map (evV tm') = xs.map (evV tm) := List.map_congr_left h
theorem opP_congr (T : TypeId → TD) {o : Oper} {tm tm' : List Val} (nid : Nat) (h : ∀ x ∈ o.op.operands, evV tm' x = evV tm x) : opP T o tm' nid = opP T o tm nid := by
  obtain ⟨dst, op, ty, pos, after, guard⟩ := o
  have one : ∀ x, x ∈ op.operands → evV tm' x = evV tm x := h
  cases op <;> simp only [opP]
  case build t parts =>
    have hp : ∀ p ∈ parts.toList, evV tm' p.2 = evV tm p.2 := fun p hp => one _ (by simp only [Op.operands, List.mem_toArray, List.mem_map]; exact ⟨p, hp, rfl⟩)
    congr 1; funext d
    unfold buildP
    split <;> simp only [fillK_congr _ _ hp]
  case buildSlice t len parts =>
    have hp : ∀ p ∈ parts.toList, evV tm' p.2 = evV tm p.2 := fun p hp => one _ (by simp only [Op.operands, List.mem_toArray, List.mem_map]; exact ⟨p, hp, rfl⟩)
    unfold buildSliceP
    split
    · congr 1; funext d; simp only [fillK_congr _ _ hp]
    · rfl
  case makeFunc f x y =>
    cases f <;> simp only [evsK_eq]
    rw [evs_congr (tm := tm) (tm' := tm') fun z hz => one z (by simp only [Op.operands, Array.mem_append]; exact .inl (by simpa using hz)), evs_congr (tm := tm) (tm' := tm') fun z hz => one z (by simp only [Op.operands, Array.mem_append]; exact .inr (by simpa using hz))]
  case call c =>
    cases hc : c.callee with
    | builtin b =>
      simp only [evsK_eq]
      rw [evs_congr (tm := tm) (tm' := tm') fun z hz => one z (by simp only [Op.operands, Call.operands, hc]; simpa using hz)]
    | _ => rfl
  case slice t x lo hi mx =>
    simp only [evK_eq, optK_eq]
    have e : ∀ z : Option Operand, (∀ q, z = some q → evV tm' q = evV tm q) → z.map (evV tm') = z.map (evV tm) := fun z hz => by
      cases z with
      | none => rfl
      | some q => simp [hz q rfl]
    rw [one x (by simp [Op.operands]), e lo (fun q hq => one q (by simp [Op.operands, hq])), e hi (fun q hq => one q (by simp [Op.operands, hq])), e mx (fun q hq => one q (by simp [Op.operands, hq]))]
  case makeMap t rv =>
    simp only [optK_eq]
    have e : rv.map (evV tm') = rv.map (evV tm) := by
      cases rv with
      | none => rfl
      | some q => simp [one q (by simp [Op.operands])]
    rw [e]
  all_goals simp only [evK_eq]
  case mapUpdate t x y z => rw [one x (by simp [Op.operands]), one y (by simp [Op.operands]), one z (by simp [Op.operands])]
  case insert t x y z => rw [one x (by simp [Op.operands]), one y (by simp [Op.operands]), one z (by simp [Op.operands])]
  case lookup t x y ok => rw [one x (by simp [Op.operands]), one y (by simp [Op.operands])]
  case pick c x y => rw [one c (by simp [Op.operands]), one x (by simp [Op.operands]), one y (by simp [Op.operands])]
  case store t x y => rw [one x (by simp [Op.operands]), one y (by simp [Op.operands])]
  case binOp op t x y t2 => rw [one x (by simp [Op.operands]), one y (by simp [Op.operands])]
  case makeSlice t x y => rw [one x (by simp [Op.operands]), one y (by simp [Op.operands])]
  case indexAddr t x y => rw [one x (by simp [Op.operands]), one y (by simp [Op.operands])]
  case index t x y => rw [one x (by simp [Op.operands]), one y (by simp [Op.operands])]
  all_goals first
    | rfl
    | (rename_i x; rw [one x (by simp [Op.operands])]; done)
    | (rename_i x y; rw [one x (by simp [Op.operands])]; done)
    | (rename_i x y z; rw [one x (by simp [Op.operands])]; done)

/-- What is known of an operation that was carried out in the abstract: it does the same in every state that looks alike to it. -/
def Fact (P : Program) (o : Oper) (tm : List Val) (H : Nat → Blk) (n n' : Nat) (v : Val) (u : Upd) (r : List Nat) : Prop :=
  ∀ (a : Act) (w w0 : World) (S : Nat → Prop) (φ0 : Prot) (ι : Map) (φ : Prot) (H' : Nat → Blk) (tm' : List Val) (next : Act → World → Prop) (Q : Exit → Act → World → Prop),
    Inv w0 S φ0 ι φ H' w → TmOk ι φ tm' a.tmps → (∀ x ∈ o.op.operands, evV tm' x = evV tm x) → (∀ b ∈ r, H' b = H b) → (∀ b, n ≤ b → b < n' → ι b = none) →
    (∀ cv w' ι' φ', Rel ι' φ' v cv → Inv w0 S φ0 ι' φ' (applyF H' u) w' → MapLe ι ι' → ProtLe φ φ' → (∀ b, b < n ∨ n' ≤ b → ι' b = ι b) → next (a.put o.dst cv) w') → o.wp P a w next Q

theorem plain_fact {P : Program} {T : TypeId → TD} (hT : TOk P T) {o : Oper} {tm : List Val} {hp : List Blk} {v : Val} {u : Upd} {r : List Nat} (h : Does (opP T o tm hp.length) (getH hp) [] v u r) {n' : Nat} (hn' : ∀ b x, (b, x) ∈ u → b < n') :
    Fact P o tm (getH hp) hp.length n' v u r := by
  intro a w w0 S φ0 ι φ H' tm' next Q hI ht hop hr hfree hnext
  have h' : Does (opP T o tm' hp.length) H' [] v u r := by
    unfold Does at h ⊢
    rw [opP_congr T _ hop]
    exact Prog.run_local _ _ _ _ _ _ _ hr h
  obtain ⟨nx, cv, w', ι', φ', hrun, hnx, hv, hI', hm, hp', hf⟩ := (op_sound hT hI ht (fun ⟨x, hx⟩ => hfree _ (Nat.le_refl _) (hn' _ x hx)) h').ex
  have := hnext cv w' ι' φ' hv hI' hm hp' fun b hb => hf b fun e x hx => by
    subst e
    have := hn' _ x hx
    omega
  unfold Oper.wp
  rw [hrun]
  rcases hnx with rfl | ⟨rfl, rfl⟩
  · exact this
  · exact this

/-! ### rows lent -/
section
variable {w0 w : World} {S : Nat → Prop} {φ0 : Prot} {ι : Map} {φ : Prot} {H : Nat → Blk}
theorem setH_self (H : Nat → Blk) (b : Nat) : setH H b (H b) = H := by
  funext k; unfold setH; split
  · rename_i e; rw [e]
  · rfl
theorem Inv.lend_row (hI : Inv w0 S φ0 ι φ H w) {b g c n m sz pr : Nat} {e : TypeId} {get : Nat → List Val} (hm : ι b = some (g, c)) (hbk : H b = .row e sz m get pr) (hnp : n ≤ pr) (hnc : n ≤ c) :
    ∃ φ', ProtLe φ φ' ∧ Inv w0 S φ0 ι φ' H w ∧ Rel ι φ' (.ext sz n get) (.slice (some ⟨g, 0, none⟩) n c) := by
  have hB := hI.sim.blk b
  rw [hbk] at hB
  obtain ⟨arr, hheap, hz0, hs, hmc, hcm, hpr, hlen, hcell, hone, hf⟩ := blk_row hB hm
  let φ' : Prot := fun q => if q.block = g ∧ q.spot = none ∧ q.off < n * sz then some (arr.getD q.off undef) else φ q
  have hmsz : n * sz ≤ c * sz := Nat.mul_le_mul_right _ (by omega)
  have hold : ∀ q z, φ q = some z → q.block = g → q.spot = none ∧ arr.getD q.off undef = z := fun q z hq hqb => by
    have h4 := hI.sim.prot q z hq
    obtain ⟨qb, qo, qs⟩ := q
    simp only at hqb; subst hqb
    simp only [World.cell?, hheap] at h4
    split at h4
    · cases h4
    · rename_i hsp
      refine ⟨by simpa using hsp, ?_⟩
      rw [Array.getD_eq_getD_getElem?, h4]; rfl
  have hle : ProtLe φ φ' := fun q z hq => by
    simp only [φ']
    by_cases hc : q.block = g ∧ q.spot = none ∧ q.off < n * sz
    · rw [if_pos hc, (hold q z hq hc.1).2]
    · rw [if_neg hc]; exact hq
  have hin : ∀ i j, i < n → j < sz → φ' ((⟨g, 0, none⟩ : Addr).add (i * sz + j)) = some (arr.getD (i * sz + j) undef) := fun i j hi hj => by
    simp only [φ', add_eq, Nat.zero_add]
    rw [if_pos ⟨trivial, trivial, idx_lt hi hj⟩]
  refine ⟨φ', hle, ?_, .c (.ext _ _ _ _ _ (fun i j => arr.getD (i * sz + j) undef) hnc (fun i hi => hlen i (by omega)) hin (fun i j hi hj => (hcell i j (by omega) hj).2.1) fun i j hi hj => (hcell i j (by omega) hj).2.2.mono hle)⟩
  have hl := hI.lend (x := H b) hm (by rw [hbk]; simp) hle (fun q hq => by simp only [φ']; rw [if_neg (fun hh => hq hh.1)]) (fun q z hq hqb => ?_) ?_
  · rwa [setH_self] at hl
  · simp only [φ'] at hq
    split at hq
    · rename_i hh
      obtain ⟨qb, qo, qs⟩ := q
      simp only at hh hqb; obtain ⟨rfl, rfl, hlt⟩ := hh
      injection hq with hq; subst hq
      simp only [World.cell?, hheap]
      rw [Array.getD_eq_getD_getElem?, Array.getElem?_eq_getElem (by omega)]
      simp
    · exact hI.sim.prot q z hq
  · rw [hbk]
    refine ⟨g, c, arr, hm, hheap, hz0, hs, hmc, hcm, hpr, hlen, fun i j hi hj => (hcell i j hi hj).2.2.mono hle, hone, fun off sp ho => ?_⟩
    have : n * sz ≤ pr * sz := Nat.mul_le_mul_right _ hnp
    simp only [φ']
    rw [if_neg (by simp; omega)]
    exact hf off sp ho
end

/-- Rows given up to be read alone. -/
theorem Inv.raise {w0 w : World} {S : Nat → Prop} {φ0 : Prot} {ι : Map} {φ : Prot} {H H' : Nat → Blk} (hI : Inv w0 S φ0 ι φ H w) (hg : ∀ b, H' b = H b ∨ H' b = raiseB (H b)) : Inv w0 S φ0 ι φ H' w := by
  have hgone : ∀ b, H' b ≠ .gone → H b ≠ .gone := fun b hb e => by
    rcases hg b with h | h
    · rw [h] at hb; exact hb e
    · rw [h, e] at hb; exact hb rfl
  refine ⟨⟨fun b => ?_, fun b b' g c c' hb hb' e e' => hI.sim.inj b b' g c c' (hgone b hb) (hgone b' hb') e e', hI.sim.prot⟩, hI.keep, fun b g c hb e => hI.own b g c (hgone b hb) e, hI.new, hI.le⟩
  have hB := hI.sim.blk b
  rcases hg b with h | h
  · rw [h]; exact hB
  rw [h]
  cases hx : H b with
  | row e sz m g pr =>
    rw [hx] at hB
    obtain ⟨gg, c, arr, e1, hh, hz, hs, hnc, hc, hpr, hl, hr, h1, hf⟩ := hB
    refine ⟨gg, c, arr, e1, hh, hz, hs, hnc, hc, Nat.le_refl _, hl, hr, h1, fun off sp ho => hf off sp ?_⟩
    have : pr * sz ≤ m * sz := Nat.mul_le_mul_right _ hpr
    omega
  | _ => rw [hx] at hB; exact hB
def raiseU (fl : Bool) : Upd → Upd
  | [] => []
  | (b, x) :: u => (b, match fl with | true => raiseB x | false => x) :: raiseU fl u
theorem raiseC_eq {α : Type} (x : Blk) (k : Blk → α) : raiseC x k = k (raiseB x) := by cases x <;> rfl
theorem raiseUK_eq {α : Type} (fl : Bool) : ∀ (u : Upd) (K : Upd → α), raiseUK fl u K = K (raiseU fl u)
  | [], _ => rfl
  | (b, x) :: u, K => by
    cases fl
    · simp only [raiseUK, raiseU, raiseUK_eq false u]
    · simp only [raiseUK, raiseU, raiseC_eq, raiseUK_eq true u]
theorem raiseU_dom (fl : Bool) : ∀ u : Upd, (raiseU fl u).map Prod.fst = u.map Prod.fst
  | [] => rfl
  | (b, x) :: u => by simp only [raiseU, List.map_cons, raiseU_dom fl u]
theorem raiseB_idem (x : Blk) : raiseB (raiseB x) = raiseB x := by cases x <;> rfl
theorem applyF_raise (fl : Bool) : ∀ (u : Upd) (H1 H2 : Nat → Blk), (∀ b, H2 b = H1 b ∨ H2 b = raiseB (H1 b)) → ∀ b, applyF H2 (raiseU fl u) b = applyF H1 u b ∨ applyF H2 (raiseU fl u) b = raiseB (applyF H1 u b)
  | [], _, _, h, b => h b
  | (i, x) :: u, H1, H2, h, b => by
    refine applyF_raise fl u _ _ (fun b => ?_) b
    unfold setH
    split
    · cases fl
      · exact .inl rfl
      · exact .inr rfl
    · exact h b
theorem Fact.raise {P : Program} {o : Oper} {tm : List Val} {H : Nat → Blk} {n n' : Nat} {v : Val} {u : Upd} {r : List Nat} (h : Fact P o tm H n n' v u r) (fl : Bool) : Fact P o tm H n n' v (raiseU fl u) r := by
  intro a w w0 S φ0 ι φ H' tm' next Q hI ht hop hr hfree hnext
  exact h a w w0 S φ0 ι φ H' tm' next Q hI ht hop hr hfree fun cv w' ι' φ' hv hI' => hnext cv w' ι' φ' hv (hI'.raise fun b => applyF_raise fl u H' H' (fun _ => .inl rfl) b)
theorem raiseU_mem {fl : Bool} {b : Nat} : ∀ {u : Upd}, (∃ x, (b, x) ∈ u) → ∃ x, (b, x) ∈ raiseU fl u
  | [], ⟨x, h⟩ => by simp at h
  | (i, y) :: u, ⟨x, h⟩ => by
    rcases List.mem_cons.1 h with e | h
    · injection e with e1 _; subst e1; exact ⟨_, List.mem_cons_self ..⟩
    · obtain ⟨z, hz⟩ := raiseU_mem (fl := fl) ⟨x, h⟩
      exact ⟨z, List.mem_cons_of_mem _ hz⟩

/-- What is known of values that are lent. -/
def Lends (hp : List Blk) (r : List Nat) (v v' : Val) : Prop :=
  ∀ (w0 w : World) (S : Nat → Prop) (φ0 : Prot) (ι : Map) (φ : Prot) (H : Nat → Blk) (u : Value), (∀ b ∈ r, H b = getH hp b) → Inv w0 S φ0 ι φ H w → Rel ι φ v u → ∃ φ', ProtLe φ φ' ∧ Inv w0 S φ0 ι φ' H w ∧ Rel ι φ' v' u
def LendsL (hp : List Blk) (r : List Nat) (vs vs' : List Val) : Prop :=
  vs'.length = vs.length ∧ ∀ (w0 w : World) (S : Nat → Prop) (φ0 : Prot) (ι : Map) (φ : Prot) (H : Nat → Blk) (us : Nat → Value), (∀ b ∈ r, H b = getH hp b) → Inv w0 S φ0 ι φ H w → (∀ i, i < vs.length → Rel ι φ (vs.getD i .und) (us i)) →
    ∃ φ', ProtLe φ φ' ∧ Inv w0 S φ0 ι φ' H w ∧ ∀ i, i < vs.length → Rel ι φ' (vs'.getD i .und) (us i)
theorem Lends.same (hp : List Blk) (r : List Nat) (v : Val) : Lends hp r v v := fun _ _ _ _ _ φ _ _ _ hI hr => ⟨φ, .refl _, hI, hr⟩
theorem Lends.wider {hp : List Blk} {r r' : List Nat} {v v' : Val} (h : Lends hp r v v') (hr : ∀ b ∈ r, b ∈ r') : Lends hp r' v v' := fun w0 w S φ0 ι φ H u hb hI hv => h w0 w S φ0 ι φ H u (fun b hb' => hb b (hr b hb')) hI hv
theorem lentK_ok {hp : List Blk} {r : List Nat} {o : Option Prop} {v : Val} {K : Val → List Nat → Option Prop → Prop} (h : lentK hp r o v K) : ∃ v' r' o', K v' r' o' ∧ (∀ b ∈ r, b ∈ r') ∧ (optP o' → optP o ∧ Lends hp r' v v') := by
  unfold lentK at h
  split at h
  · rename_i b n
    rw [getBK_eq] at h
    split at h
    case h_2 => exact h.elim
    rename_i e sz m g pr hbk
    refine ⟨_, _, _, h, fun b hb => List.mem_cons_of_mem _ hb, fun ho => ⟨(more_ok ho).1, ?_⟩⟩
    intro w0 w S φ0 ι φ H u hb hI hv
    obtain ⟨gg, c, hm, hnc, rfl⟩ := hv.row_
    exact hI.lend_row hm (by rw [hb b (by simp), hbk]) (more_ok ho).2.2 hnc
  · exact ⟨_, _, _, h, fun _ hb => hb, fun ho => ⟨ho, .same _ _ _⟩⟩
theorem lendsL_cons {hp : List Blk} {r : List Nat} {v v' : Val} {vs vs' : List Val} (h : Lends hp r v v') (hs : LendsL hp r vs vs') : LendsL hp r (v :: vs) (v' :: vs') := by
  refine ⟨by simp [hs.1], fun w0 w S φ0 ι φ H us hb hI hr => ?_⟩
  obtain ⟨φ1, hp1, hI1, hr1⟩ := h w0 w S φ0 ι φ H (us 0) hb hI (hr 0 (by simp))
  obtain ⟨φ2, hp2, hI2, hr2⟩ := hs.2 w0 w S φ0 ι φ1 H (fun i => us (i + 1)) hb hI1 (fun i hi => (hr (i + 1) (by simpa using hi)).mono (.refl _) hp1)
  refine ⟨φ2, hp1.trans hp2, hI2, fun i hi => ?_⟩
  cases i with
  | zero => exact hr1.mono (.refl _) hp2
  | succ i => exact hr2 i (by simpa using hi)
theorem lentLK_ok {hp : List Blk} : ∀ {vs : List Val} {r : List Nat} {o : Option Prop} {K : List Val → List Nat → Option Prop → Prop}, lentLK hp r o vs K → ∃ vs' r' o', K vs' r' o' ∧ (∀ b ∈ r, b ∈ r') ∧ (optP o' → optP o ∧ LendsL hp r' vs vs')
  | [], r, o, K, h => ⟨[], r, o, h, fun _ hb => hb, fun ho => ⟨ho, rfl, fun _ _ _ _ _ φ _ _ _ hI _ => ⟨φ, .refl _, hI, fun i hi => absurd hi (by simp)⟩⟩⟩
  | v :: vs, r, o, K, h => by
    obtain ⟨v', r1, o1, h1, hr1, hl1⟩ := lentK_ok h
    obtain ⟨vs', r2, o2, h2, hr2, hl2⟩ := lentLK_ok h1
    exact ⟨_, _, _, h2, fun b hb => hr2 b (hr1 b hb), fun ho => ⟨(hl1 (hl2 ho).1).1, lendsL_cons ((hl1 (hl2 ho).1).2.wider hr2) (hl2 ho).2⟩⟩
theorem lentAK_ok {hp : List Blk} {r : List Nat} {o : Option Prop} {v : Val} {K : Val → List Nat → Option Prop → Prop} (h : lentAK hp r o v K) : ∃ v' r' o', K v' r' o' ∧ (∀ b ∈ r, b ∈ r') ∧ (optP o' → optP o ∧ Lends hp r' v v') := by
  unfold lentAK at h
  split at h
  · rename_i cs
    obtain ⟨cs', r1, o1, h1, hr1, hl1⟩ := lentLK_ok h
    refine ⟨_, _, _, h1, hr1, fun ho => ⟨(hl1 ho).1, fun w0 w S φ0 ι φ H u hb hI hv => ?_⟩⟩
    have hl1 := (hl1 ho).2
    obtain ⟨us, rfl, hs, hone, hr⟩ := hv.agg_
    obtain ⟨φ', k1, k2, k3⟩ := hl1.2 w0 w S φ0 ι φ H (fun i => us.getD i undef) hb hI hr
    exact ⟨φ', k1, k2, .agg _ _ (by rw [hl1.1, hs]) (fun i hi => hone i (by rwa [hl1.1] at hi)) (fun i hi => k3 i (by rwa [hl1.1] at hi))⟩
  · exact lentK_ok h
theorem lentAsK_ok {hp : List Blk} : ∀ {vs : List Val} {r : List Nat} {o : Option Prop} {K : List Val → List Nat → Option Prop → Prop}, lentAsK hp r o vs K → ∃ vs' r' o', K vs' r' o' ∧ (∀ b ∈ r, b ∈ r') ∧ (optP o' → optP o ∧ LendsL hp r' vs vs')
  | [], r, o, K, h => ⟨[], r, o, h, fun _ hb => hb, fun ho => ⟨ho, rfl, fun _ _ _ _ _ φ _ _ _ hI _ => ⟨φ, .refl _, hI, fun i hi => absurd hi (by simp)⟩⟩⟩
  | v :: vs, r, o, K, h => by
    obtain ⟨v', r1, o1, h1, hr1, hl1⟩ := lentAK_ok h
    obtain ⟨vs', r2, o2, h2, hr2, hl2⟩ := lentAsK_ok h1
    exact ⟨_, _, _, h2, fun b hb => hr2 b (hr1 b hb), fun ho => ⟨(hl1 (hl2 ho).1).1, lendsL_cons ((hl1 (hl2 ho).1).2.wider hr2) (hl2 ho).2⟩⟩
theorem Rel.closedA_ {ι ι' : Map} {φ : Prot} {v : Val} {u : Value} (h : Rel ι φ v u) (hc : closedA v = true) : Rel ι' φ v u := by
  unfold closedA at hc
  split at hc
  · rename_i cs
    obtain ⟨us, rfl, hs, hone, hr⟩ := h.agg_
    exact .agg _ _ hs hone fun i hi => .c ((hr i hi).closed_ (closedL_get hc hi))
  · exact .c (h.closed_ hc)
theorem closedAs_get : ∀ {l : List Val} {k : Nat}, closedAs l = true → k < l.length → closedA (l.getD k .und) = true
  | [], _, _, h => absurd h (by simp)
  | x :: l, 0, h, _ => by simp only [closedAs, Bool.and_eq_true] at h; exact h.1
  | x :: l, k + 1, h, hk => by
    simp only [closedAs, Bool.and_eq_true] at h
    rw [List.getD_cons_succ]
    exact closedAs_get h.2 (by simpa using hk)

/-! ### the blocks that a call made -/
theorem newUpd_get (σ : Nat → Option Nat) : ∀ (l : List Blk) (n : Nat) (H : Nat → Blk) (b : Nat), applyF H (newUpd σ n l) b = if n ≤ b ∧ b < n + l.length then renB σ (getH l (b - n)) else H b
  | [], n, H, b => by rw [if_neg (by simp)]; rfl
  | x :: l, n, H, b => by
    show applyF (setH H n (renB σ x)) (newUpd σ (n + 1) l) b = _
    rw [newUpd_get σ l (n + 1)]
    by_cases hb : b = n
    · subst hb
      rw [if_neg (by omega), if_pos ⟨Nat.le_refl _, by simp⟩]
      simp [setH, getH]
    · by_cases h1 : n + 1 ≤ b ∧ b < n + 1 + l.length
      · rw [if_pos h1, if_pos ⟨by omega, by simp; omega⟩]
        have : b - n = (b - (n + 1)) + 1 := by omega
        rw [this]
        simp [getH]
      · rw [if_neg h1, if_neg (by simp; omega)]
        simp [setH, hb]
theorem newUpd_mem {σ : Nat → Option Nat} : ∀ {l : List Blk} {n b : Nat} {x : Blk}, (b, x) ∈ newUpd σ n l → n ≤ b ∧ b < n + l.length
  | [], _, _, _, h => by simp [newUpd] at h
  | y :: l, n, b, x, h => by
    rcases List.mem_cons.1 h with e | h
    · injection e with e1 _; subst e1; simp
    · have := newUpd_mem h; simp only [List.length_cons]; omega
theorem newUpd_last {σ : Nat → Option Nat} : ∀ {l : List Blk} {n b : Nat}, n ≤ b → b < n + l.length → ∃ x, (b, x) ∈ newUpd σ n l
  | [], n, b, h1, h2 => by simp at h2; omega
  | y :: l, n, b, h1, h2 => by
    by_cases hb : b = n
    · subst hb; exact ⟨_, List.mem_cons_self ..⟩
    · obtain ⟨x, hx⟩ := newUpd_last (σ := σ) (l := l) (n := n + 1) (b := b) (by omega) (by simp at h2; omega)
      exact ⟨x, List.mem_cons_of_mem _ hx⟩

def joinM (ι : Map) (n k : Nat) (ιc : Map) : Map := fun b => if n ≤ b ∧ b < n + k then ιc (b - n) else ι b
theorem Inv.call {w0 w w' : World} {S : Nat → Prop} {φ0 φ φ' : Prot} {ι ιc : Map} {H : Nat → Blk} {h1 : List Blk} {n : Nat} (hI : Inv w0 S φ0 ι φ H w) (hc : Inv w (fun _ => False) φ ιc φ' (getH h1) w')
    (hfree : ∀ b, n ≤ b → b < n + h1.length → ι b = none) (hend : ∀ b, h1.length ≤ b → ιc b = none) : Inv w0 S φ0 (joinM ι n h1.length ιc) φ' (applyF H (newUpd (shift n) n h1)) w' := by
  have hm : MapLe ι (joinM ι n h1.length ιc) := fun b p hb => by
    unfold joinM
    by_cases hr : n ≤ b ∧ b < n + h1.length
    · rw [hfree b hr.1 hr.2] at hb; cases hb
    · rw [if_neg hr]; exact hb
  have hlt : ∀ b g c, H b ≠ .gone → ι b = some (g, c) → g < w.heap.size := fun b g c hb e => by
    obtain ⟨g', c', e', hl⟩ := (hI.sim.blk b).place hb
    rw [e] at e'; injection e' with e'; injection e' with e1 _; omega
  have hnew : ∀ b g c, getH h1 b ≠ .gone → ιc b = some (g, c) → w.heap.size ≤ g := fun b g c hb e => (hc.own b g c hb e).resolve_left id
  have hsplit : ∀ b, applyF H (newUpd (shift n) n h1) b ≠ .gone → (n ≤ b ∧ b < n + h1.length ∧ getH h1 (b - n) ≠ .gone) ∨ (¬ (n ≤ b ∧ b < n + h1.length) ∧ H b ≠ .gone) := fun b hb => by
    rw [newUpd_get] at hb
    by_cases hr : n ≤ b ∧ b < n + h1.length
    · rw [if_pos hr] at hb; exact .inl ⟨hr.1, hr.2, fun e => hb (renB_gone.2 e)⟩
    · rw [if_neg hr] at hb; exact .inr ⟨hr, hb⟩
  refine ⟨⟨fun b => ?_, fun b b' g c c' hb hb' e e' => ?_, hc.sim.prot⟩, ⟨hc.keep.os.trans hI.keep.os, hc.keep.tape.trans hI.keep.tape, hc.keep.output.trans hI.keep.output, Nat.le_trans hI.keep.size hc.keep.size, fun g hg hs => ?_⟩,
    fun b g c hb e => ?_, fun a ha => ?_, hI.le.trans hc.le⟩
  · rw [newUpd_get]
    by_cases hr : n ≤ b ∧ b < n + h1.length
    · rw [if_pos hr]
      have hu : Under (shift n) ιc (joinM ι n h1.length ιc) := fun k i p hk e => by
        simp only [shift, Option.some.injEq] at hk; subst hk
        unfold joinM
        by_cases hk2 : n ≤ n + k ∧ n + k < n + h1.length
        · rw [if_pos hk2, Nat.add_sub_cancel_left]; exact e
        · rw [hend k (by omega)] at e; cases e
      exact (hc.sim.blk (b - n)).ren hu (fun p e => by unfold joinM; rw [if_pos hr]; exact e)
    · rw [if_neg hr]
      refine (hI.sim.blk b).mono hm hc.le (fun g c e hg => hc.keep.block g (hlt b g c hg e) id) (fun g c e hg off sp hφ => ?_)
      cases hx : φ' ⟨g, off, sp⟩ with
      | none => rfl
      | some z =>
        rcases hc.new ⟨g, off, sp⟩ (by rw [hx]; simp) with h1 | h1 | h1
        · exact absurd hφ h1
        · exact h1.elim
        · have := hlt b g c hg e; simp only at h1; omega
  · rcases hsplit b hb with ⟨h1, h2, h3⟩ | ⟨h1, h3⟩ <;> rcases hsplit b' hb' with ⟨k1, k2, k3⟩ | ⟨k1, k3⟩
    · unfold joinM at e e'
      rw [if_pos ⟨h1, h2⟩] at e; rw [if_pos ⟨k1, k2⟩] at e'
      have := hc.sim.inj _ _ g c c' h3 k3 e e'
      omega
    · unfold joinM at e e'
      rw [if_pos ⟨h1, h2⟩] at e; rw [if_neg k1] at e'
      have a1 := hnew _ g c h3 e
      have a2 := hlt _ g c' k3 e'
      omega
    · unfold joinM at e e'
      rw [if_neg h1] at e; rw [if_pos ⟨k1, k2⟩] at e'
      have a1 := hnew _ g c' k3 e'
      have a2 := hlt _ g c h3 e
      omega
    · unfold joinM at e e'
      rw [if_neg h1] at e; rw [if_neg k1] at e'
      exact hI.sim.inj b b' g c c' h3 k3 e e'
  · rw [hc.keep.block g (by have := hI.keep.size; omega) id]
    exact hI.keep.block g hg hs
  · unfold joinM at e
    rcases hsplit b hb with ⟨h1, h2, h3⟩ | ⟨h1, h3⟩
    · rw [if_pos ⟨h1, h2⟩] at e
      exact .inr (by have := hnew _ g c h3 e; have := hI.keep.size; omega)
    · rw [if_neg h1] at e; exact hI.own b g c h3 e
  · rcases hc.new a ha with h1 | h1 | h1
    · exact hI.new a h1
    · exact h1.elim
    · exact .inr (.inr (by have := hI.keep.size; omega))

/-! ### calls to which blocks are handed -/
theorem idx_none : ∀ {ks : List Nat} {k : Nat}, idx ks k = none → k ∉ ks
  | [], _, _ => by simp
  | x :: l, k, h => by
    simp only [idx] at h
    split at h
    · cases h
    · rename_i e
      split at h
      · cases h
      · rename_i h2
        rw [beq_eq_false_iff_ne] at e
        exact fun hm => (List.mem_cons.1 hm).elim (fun e2 => e e2.symm) (idx_none h2)
theorem backUpd_nil (σ : Nat → Option Nat) : ∀ (l : List Blk) (n : Nat), backUpd σ [] n l = newUpd σ n l
  | [], _ => rfl
  | x :: l, n => by simp only [backUpd, newUpd, backUpd_nil σ l]
theorem backUpd_get (σ : Nat → Option Nat) : ∀ (ks : List Nat) (n : Nat) (l : List Blk) (H : Nat → Blk) (b : Nat), ks.Nodup → (∀ k ∈ ks, k < n) → ks.length ≤ l.length →
    applyF H (backUpd σ ks n l) b = match idx ks b with
      | some j => renB σ (getH l j)
      | none => if n ≤ b ∧ b < n + (l.length - ks.length) then renB σ (getH l (ks.length + (b - n))) else H b
  | [], n, l, H, b, _, _, _ => by
    rw [backUpd_nil, newUpd_get]
    simp [idx]
  | k :: ks, n, [], H, b, _, _, h => by simp at h
  | k :: ks, n, x :: l, H, b, hn, hk, h => by
    have hnd := List.nodup_cons.1 hn
    simp only [backUpd, applyF]
    rw [backUpd_get σ ks n l (setH H k (renB σ x)) b hnd.2 (fun i hi => hk i (List.mem_cons_of_mem _ hi)) (by simpa using h)]
    have hkn := hk k (by simp)
    cases hj : idx ks b with
    | some j =>
      have hb : b ∈ ks := List.mem_of_getElem? (idx_get hj)
      have : (k == b) = false := by rw [beq_eq_false_iff_ne]; intro e; subst e; exact hnd.1 hb
      simp only [idx, this, hj, getH, List.getD_cons_succ]
    | none =>
      by_cases hkb : k = b
      · subst hkb
        simp only [idx, beq_self_eq_true, getH, List.getD_cons_zero, setH, if_true]
        rw [if_neg (by omega)]
      · have : (k == b) = false := by rw [beq_eq_false_iff_ne]; exact hkb
        simp only [idx, this, hj, List.length_cons]
        by_cases hr : n ≤ b ∧ b < n + (l.length - ks.length)
        · rw [if_pos hr, if_pos (by omega)]
          have : ks.length + 1 + (b - n) = (ks.length + (b - n)) + 1 := by omega
          simp only [this, getH, List.getD_cons_succ]
        · rw [if_neg hr, if_neg (by omega)]
          unfold setH; rw [if_neg (fun e => hkb e.symm)]
theorem backUpd_last {σ : Nat → Option Nat} : ∀ {ks : List Nat} {l : List Blk} {n b : Nat}, ks.length ≤ l.length → n ≤ b → b < n + (l.length - ks.length) → ∃ x, (b, x) ∈ backUpd σ ks n l
  | [], l, n, b, _, h1, h2 => by rw [backUpd_nil]; exact newUpd_last h1 (by simpa using h2)
  | k :: ks, [], n, b, h, _, _ => by simp at h
  | k :: ks, x :: l, n, b, h, h1, h2 => by
    obtain ⟨y, hy⟩ := backUpd_last (σ := σ) (ks := ks) (l := l) (n := n) (b := b) (by simpa using h) h1 (by simpa using h2)
    exact ⟨y, List.mem_cons_of_mem _ hy⟩
def joinH (ι : Map) (ks : List Nat) (n m : Nat) (ιc : Map) : Map := fun b => if n ≤ b ∧ b < n + (m - ks.length) then ιc (ks.length + (b - n)) else ι b
def Lent (ι : Map) (ks : List Nat) (g : Nat) : Prop := ∃ k c, k ∈ ks ∧ ι k = some (g, c)
section
variable {w0 w w' : World} {S : Nat → Prop} {φ0 φ φ' : Prot} {ι ιc : Map} {H : Nat → Blk} {h1 : List Blk} {n : Nat} {ks : List Nat}
def bk (ks : List Nat) (n j : Nat) : Nat := match ks[j]? with
  | some k => k
  | none => n + (j - ks.length)
theorem back_bk (ks : List Nat) (n j : Nat) : back ks n j = some (bk ks n j) := by unfold back bk; cases ks[j]? <;> rfl
theorem joinH_bk (hlt : ∀ k ∈ ks, k < n) (hm : ∀ j k, ks[j]? = some k → ιc j = ι k) {j : Nat} (hj : j < h1.length) : joinH ι ks n h1.length ιc (bk ks n j) = ιc j := by
  unfold bk joinH
  cases hk : ks[j]? with
  | some k =>
    have := hlt k (List.mem_of_getElem? hk)
    simp only
    rw [if_neg (by omega)]; exact (hm j k hk).symm
  | none =>
    have := List.getElem?_eq_none_iff.1 hk
    simp only
    rw [if_pos (by omega), show ks.length + (n + (j - ks.length) - n) = j by omega]
theorem joinH_under (hlt : ∀ k ∈ ks, k < n) (hm : ∀ j k, ks[j]? = some k → ιc j = ι k) (hend : ∀ b, h1.length ≤ b → ιc b = none) : Under (back ks n) ιc (joinH ι ks n h1.length ιc) := fun j i p hj e => by
  rw [back_bk] at hj; injection hj with hj; subst hj
  rcases Nat.lt_or_ge j h1.length with h | h
  · rw [joinH_bk hlt hm h]; exact e
  · rw [hend j h] at e; cases e
theorem joinH_le (hfree : ∀ b, n ≤ b → b < n + (h1.length - ks.length) → ι b = none) : MapLe ι (joinH ι ks n h1.length ιc) := fun b p hb => by
  unfold joinH
  by_cases hr : n ≤ b ∧ b < n + (h1.length - ks.length)
  · rw [hfree b hr.1 hr.2] at hb; cases hb
  · rw [if_neg hr]; exact hb
theorem Inv.callH (hI : Inv w0 S φ0 ι φ H w) (hnd : ks.Nodup) (hlt : ∀ k ∈ ks, k < n) (hlive : ∀ k ∈ ks, H k ≠ .gone) (hlen : ks.length ≤ h1.length)
    (hc : Inv w (Lent ι ks) φ ιc φ' (getH h1) w') (hm : ∀ j k, ks[j]? = some k → ιc j = ι k)
    (hfree : ∀ b, n ≤ b → b < n + (h1.length - ks.length) → ι b = none) (hend : ∀ b, h1.length ≤ b → ιc b = none) :
    Inv w0 S φ0 (joinH ι ks n h1.length ιc) φ' (applyF H (backUpd (back ks n) ks n h1)) w' := by
  have hmle : MapLe ι (joinH ι ks n h1.length ιc) := joinH_le hfree
  have hu := joinH_under (h1 := h1) hlt hm hend
  have hplace : ∀ b g c, H b ≠ .gone → ι b = some (g, c) → g < w.heap.size := fun b g c hb e => by
    obtain ⟨g', c', e', hl⟩ := (hI.sim.blk b).place hb
    rw [e] at e'; injection e' with e'; injection e' with e1 _; omega
  have hsplit : ∀ b, (∃ j, j < h1.length ∧ bk ks n j = b ∧ applyF H (backUpd (back ks n) ks n h1) b = renB (back ks n) (getH h1 j)) ∨
      (applyF H (backUpd (back ks n) ks n h1) b = H b ∧ b ∉ ks ∧ joinH ι ks n h1.length ιc b = ι b) := fun b => by
    rw [backUpd_get _ ks n h1 H b hnd hlt hlen]
    cases hj : idx ks b with
    | some j =>
      have hg := idx_get hj
      have hjl := (List.getElem?_eq_some_iff.1 hg).1
      exact .inl ⟨j, by omega, by simp [bk, hg], rfl⟩
    | none =>
      by_cases hr : n ≤ b ∧ b < n + (h1.length - ks.length)
      · refine .inl ⟨ks.length + (b - n), by omega, ?_, by simp only [hr, and_self, if_true]⟩
        unfold bk
        rw [List.getElem?_eq_none (by omega)]
        simp only; omega
      · exact .inr ⟨by simp only [hr, if_false], idx_none hj, by unfold joinH; rw [if_neg hr]⟩
  have hlent : ∀ g, Lent ι ks g → S g ∨ w0.heap.size ≤ g := fun g ⟨k, c, hk, e⟩ => hI.own k g c (hlive k hk) e
  have hapart : ∀ b g c, b ∉ ks → H b ≠ .gone → ι b = some (g, c) → ¬ Lent ι ks g := fun b g c hb hg e ⟨k, c', hk, e'⟩ => by
    have := hI.sim.inj b k g c c' hg (hlive k hk) e e'
    subst this; exact hb hk
  refine ⟨⟨fun b => ?_, fun b b' g c c' hb hb' e e' => ?_, hc.sim.prot⟩, ⟨hc.keep.os.trans hI.keep.os, hc.keep.tape.trans hI.keep.tape, hc.keep.output.trans hI.keep.output, Nat.le_trans hI.keep.size hc.keep.size, fun g hg hs => ?_⟩,
    fun b g c hb e => ?_, fun a ha => ?_, hI.le.trans hc.le⟩
  · rcases hsplit b with ⟨j, hj, hbk, hA⟩ | ⟨hA, hbks, hjn⟩
    · rw [hA]
      exact (hc.sim.blk j).ren hu fun p e => by rw [← hbk, joinH_bk hlt hm hj]; exact e
    · rw [hA]
      refine (hI.sim.blk b).mono hmle hc.le (fun g c e hg => hc.keep.block g (hplace b g c hg e) (hapart b g c hbks hg e)) (fun g c e hg off sp hφ => ?_)
      cases hx : φ' ⟨g, off, sp⟩ with
      | none => rfl
      | some z =>
        rcases hc.new ⟨g, off, sp⟩ (by rw [hx]; simp) with h1 | h1 | h1
        · exact absurd hφ h1
        · exact absurd h1 (hapart b g c hbks hg e)
        · have := hplace b g c hg e; simp only at h1; omega
  · rcases hsplit b with ⟨j, hj, hbk, hA⟩ | ⟨hA, hbks, hjn⟩ <;> rcases hsplit b' with ⟨j', hj', hbk', hA'⟩ | ⟨hA', hbks', hjn'⟩
    · rw [← hbk, joinH_bk hlt hm hj] at e
      rw [← hbk', joinH_bk hlt hm hj'] at e'
      rw [hA] at hb; rw [hA'] at hb'
      have := hc.sim.inj j j' g c c' (fun h => hb (renB_gone.2 h)) (fun h => hb' (renB_gone.2 h)) e e'
      rw [← hbk, ← hbk', this]
    · rw [← hbk, joinH_bk hlt hm hj] at e
      rw [hjn'] at e'
      rw [hA] at hb; rw [hA'] at hb'
      rcases hc.own j g c (fun h => hb (renB_gone.2 h)) e with h | h
      · exact absurd h (hapart b' g c' hbks' hb' e')
      · have := hplace b' g c' hb' e'; omega
    · rw [← hbk', joinH_bk hlt hm hj'] at e'
      rw [hjn] at e
      rw [hA] at hb; rw [hA'] at hb'
      rcases hc.own j' g c' (fun h => hb' (renB_gone.2 h)) e' with h | h
      · exact absurd h (hapart b g c hbks hb e)
      · have := hplace b g c hb e; omega
    · rw [hjn] at e; rw [hjn'] at e'
      rw [hA] at hb; rw [hA'] at hb'
      exact hI.sim.inj b b' g c c' hb hb' e e'
  · rw [hc.keep.block g (by have := hI.keep.size; omega) fun h => by rcases hlent g h with h | h; exact hs h; omega]
    exact hI.keep.block g hg hs
  · rcases hsplit b with ⟨j, hj, hbk, hA⟩ | ⟨hA, hbks, hjn⟩
    · rw [← hbk, joinH_bk hlt hm hj] at e
      rw [hA] at hb
      rcases hc.own j g c (fun h => hb (renB_gone.2 h)) e with h | h
      · exact hlent g h
      · exact .inr (by have := hI.keep.size; omega)
    · rw [hjn] at e; rw [hA] at hb
      exact hI.own b g c hb e
  · rcases hc.new a ha with h | h | h
    · exact hI.new a h
    · rcases hlent _ h with h | h
      · exact .inr (.inl h)
      · exact .inr (.inr h)
    · exact .inr (.inr (by have := hI.keep.size; omega))
end
theorem handB_ok {hp : List Blk} {n : Nat} {ks : List Nat} (h : handB hp n ks = true) : ks.Nodup ∧ (∀ k ∈ ks, k < n) ∧ ∀ k ∈ ks, getH hp k ≠ .gone := by
  unfold handB at h
  rw [Bool.and_eq_true, List.all_eq_true] at h
  refine ⟨nodup_of h.1, fun k hk => ?_, fun k hk e => ?_⟩
  · have := h.2 k hk
    rw [Bool.and_eq_true, decide_eq_true_eq] at this; exact this.1
  · have := h.2 k hk
    rw [Bool.and_eq_true, getBK_eq, e] at this; cases this.2
end
end Go.AM
