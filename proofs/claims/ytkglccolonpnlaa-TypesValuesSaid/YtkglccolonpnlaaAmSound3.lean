/- The abstract machine's programs are sound: calls; regions in order. -/
import Derived.Test.YtkglccolonpnlaaAmSound2
set_option linter.unusedVariables false
set_option linter.unusedSimpArgs false
set_option maxRecDepth 100000
namespace Go.AM
noncomputable section
open Go.RowKit

theorem noMap_le (ι : Map) : MapLe (fun _ => none) ι := fun _ _ h => by cases h
theorem list_arr (l : List Operand) (f : Operand → Value) (i : Nat) (hi : i < l.length) : ((l.toArray.map f).getD i undef) = f l[i] := by
  rw [Array.getD_eq_getD_getElem?, Array.getElem?_map]; simp [hi]

theorem TmOk.evs {ι : Map} {φ : Prot} {tm : List Val} {a : Act} (h : TmOk ι φ tm a.tmps) (xs : Array Operand) : TmOk ι φ (xs.toList.map (evV tm)) (xs.map a.eval) := by
  refine ⟨by simp, fun i hi => ?_⟩
  rw [List.length_map] at hi
  have e1 : (xs.toList.map (evV tm)).getD i .und = evV tm xs.toList[i] := by
    rw [List.getD_eq_getElem?_getD, List.getElem?_map, List.getElem?_eq_getElem hi]; rfl
  have e2 : (xs.map a.eval).getD i undef = a.eval xs.toList[i] := by
    rw [Array.getD_eq_getD_getElem?, Array.getElem?_map, Array.getElem?_eq_getElem (by simpa using hi)]; simp
  rw [e1, e2]
  exact h.ev _
theorem TmOk.app {ι : Map} {φ : Prot} {xs ys : List Val} {us ws : Array Value} (h1 : TmOk ι φ xs us) (h2 : TmOk ι φ ys ws) : TmOk ι φ (xs ++ ys) (us ++ ws) := by
  refine ⟨by simp [h1.len, h2.len], fun i hi => ?_⟩
  rw [List.length_append] at hi
  rcases Nat.lt_or_ge i xs.length with h | h
  · have e1 : (xs ++ ys).getD i .und = xs.getD i .und := by rw [List.getD_eq_getElem?_getD, List.getElem?_append_left h, List.getD_eq_getElem?_getD]
    have e2 : (us ++ ws).getD i undef = us.getD i undef := by rw [Array.getD_eq_getD_getElem?, Array.getElem?_append_left (by rw [h1.len]; exact h), Array.getD_eq_getD_getElem?]
    rw [e1, e2]; exact h1.rel i h
  · have e1 : (xs ++ ys).getD i .und = ys.getD (i - xs.length) .und := by rw [List.getD_eq_getElem?_getD, List.getElem?_append_right h, List.getD_eq_getElem?_getD]
    have e2 : (us ++ ws).getD i undef = ws.getD (i - xs.length) undef := by rw [Array.getD_eq_getD_getElem?, Array.getElem?_append_right (by rw [h1.len]; exact h), Array.getD_eq_getD_getElem?, h1.len]
    rw [e1, e2]; exact h2.rel _ (by omega)

/-- A call: what is known of it. -/
theorem call_fact {P : Program} {o : Oper} {c : Call} {x : Operand} (ho : o.op = .call c) (hc : c.callee = .value x) {tm : List Val} {hp : List Blk} {K : Val → Upd → List Nat → Prop}
    (h : evK tm x fun fv => evsK tm c.args.toList fun xs => callRun P fv xs hp hp.length K) :
    ∃ v u r, K v u r ∧ ∀ n', (∀ b x, (b, x) ∈ u → b < n') → hp.length ≤ n' → Fact P o tm (getH hp) hp.length n' v u r := by
  rw [evK_eq, evsK_eq] at h
  unfold callRun at h
  split at h
  case h_2 => exact h.elim
  rename_i f fs cs hfv
  rw [appK_eq, appK_eq] at h
  obtain ⟨as', r, o', h, _, hl⟩ := lentAsK_ok h
  obtain ⟨ho', h⟩ := needK_ok h
  have hl := (hl ho').2
  have enter : ∀ (a : Act) (w w0 : World) (S : Nat → Prop) (φ0 : Prot) (ι : Map) (φ : Prot) (H' : Nat → Blk) (tm' : List Val), Inv w0 S φ0 ι φ H' w → TmOk ι φ tm' a.tmps → (∀ x ∈ o.op.operands, evV tm' x = evV tm x) → (∀ b ∈ r, H' b = getH hp b) →
      (∃ fn c, P.funcs[f]? = some fn ∧ (fn.name == "runtime.NumGoroutine") = false ∧ fn.body = some c) →
      ∃ cargs φ', ProtLe φ φ' ∧ Inv w0 S φ0 ι φ' H' w ∧ TmOk ι φ' as' cargs ∧ (execOp a.eval o).run P w = .ok (.enter f cargs) w := by
    intro a w w0 S φ0 ι φ H' tm' hI ht hop hr ⟨fn, code, hfn, hnm, hbody⟩
    have hx : evV tm' x = evV tm x := hop x (by rw [ho]; simp [Op.operands, Call.operands, hc])
    have hxs : c.args.toList.map (evV tm') = c.args.toList.map (evV tm) := evs_congr fun z hz => hop z (by rw [ho]; simp only [Op.operands, Call.operands, hc]; simp at hz ⊢; exact .inr hz)
    have hf := ht.ev x
    rw [hx, hfv] at hf
    obtain ⟨us, ws, hfe, hus, hws, hr1, hr2⟩ := hf.fn_
    have hargs : TmOk ι φ (fs ++ c.args.toList.map (evV tm) ++ cs) (us ++ c.args.map a.eval ++ ws) := by
      refine TmOk.app (TmOk.app ⟨hus, hr1⟩ ?_) ⟨hws, hr2⟩
      rw [← hxs]; exact ht.evs c.args
    obtain ⟨φ', hpp, hI', hr'⟩ := hl.2 w0 w S φ0 ι φ H' (fun i => (us ++ c.args.map a.eval ++ ws).getD i undef) (fun b hb => hr b hb) hI hargs.rel
    refine ⟨us ++ c.args.map a.eval ++ ws, φ', hpp, hI', ⟨by rw [hargs.len, hl.1], fun i hi => hr' i (by rwa [hl.1] at hi)⟩, ?_⟩
    unfold execOp
    simp only [ho, resolve, hc, hfe, Deferred.ofValue, Sem.run_bind, Sem.run_pure, Result.andThen_ok, invoke, callFunc, program, Sem.run, hfn, hnm]
    simp [hbody]
  split at h
  case h_1 =>
    rename_i hcl
    obtain ⟨v, h1, hret, h⟩ := h
    -- the one thing to show, whichever way the result is named
    have key : ∀ (v' : Val) (u : Upd) (n' : Nat), (∀ H : Nat → Blk, ∀ b, applyF H u b = applyF H (newUpd (shift hp.length) hp.length h1) b) → hp.length + h1.length ≤ n' →
        (∀ (ι ιc : Map) (φ : Prot) (cv : Value), (∀ b, h1.length ≤ b → ιc b = none) → Rel ιc φ v cv → Rel (joinM ι hp.length h1.length ιc) φ v' cv ∨ (h1 = [] ∧ v' = v)) → Fact P o tm (getH hp) hp.length n' v' u r := by
      intro v' u n' hu hn' hv' a w w0 S φ0 ι φ H' tm' next Q hI ht hop hr hfree hnext
      obtain ⟨hfun, hcall⟩ := hret
      obtain ⟨cargs, φ', hpp, hI', hargs, hrun⟩ := enter a w w0 S φ0 ι φ H' tm' hI ht hop hr hfun
      have hsim : Sim (fun _ => none) φ' (getH []) w := ⟨fun b => by rw [getH_ge (by simp)]; trivial, fun b b' g c c' _ _ e => (by cases e), hI'.sim.prot⟩
      have htm : TmOk (fun _ => none) φ' as' cargs := ⟨hargs.len, fun i hi => (hargs.rel i hi).closedA_ (closedAs_get hcl hi)⟩
      have hC := hcall (fun _ => none) φ' w _ (fun _ _ => rfl) hsim htm
      unfold Oper.wp
      rw [hrun, Oper.upon_enter]
      refine hC.mono fun e w' ⟨cv, ιc, φ'', he, _, hIc, hvc, hend⟩ => ?_
      subst he
      have hIc' : Inv w (fun _ => False) φ' ιc φ'' (getH h1) w' := by
        refine ⟨hIc.sim, ⟨hIc.keep.os, hIc.keep.tape, hIc.keep.output, hIc.keep.size, fun g hg _ => hIc.keep.block g hg ?_⟩, fun b g c hb e => ?_, fun a ha => ?_, hIc.le⟩
        · rintro ⟨b, c, hb, _⟩; simp at hb
        · rcases hIc.own b g c hb e with ⟨b', c', hb', _⟩ | h
          · simp at hb'
          · exact .inr h
        · rcases hIc.new a ha with h | ⟨b', c', hb', _⟩ | h
          · exact .inl h
          · simp at hb'
          · exact .inr (.inr h)
      have hfr : ∀ b, hp.length ≤ b → b < hp.length + h1.length → ι b = none := fun b k1 k2 => hfree b k1 (by omega)
      have hJ := hI'.call hIc' hfr hend
      have hm : MapLe ι (joinM ι hp.length h1.length ιc) := fun b p hb => by
        unfold joinM
        by_cases hr : hp.length ≤ b ∧ b < hp.length + h1.length
        · rw [hfr b hr.1 hr.2] at hb; cases hb
        · rw [if_neg hr]; exact hb
      have he : applyF H' u = applyF H' (newUpd (shift hp.length) hp.length h1) := funext (hu H')
      refine hnext cv w' (joinM ι hp.length h1.length ιc) φ'' ?_ (by rw [he]; exact hJ) hm (hpp.trans hIc.le) fun b hb => ?_
      · rcases hv' ι ιc φ'' cv hend hvc with h3 | ⟨h3, h4⟩
        · exact h3
        · rw [h4]
          exact hvc.mono (fun b p e => by rw [hend b (by rw [h3]; simp)] at e; cases e) (.refl _)
      · unfold joinM; rw [if_neg (by omega)]
    unfold newsK at h
    cases h1 with
    | nil => exact ⟨v, [], r, h, fun n' _ hn' => key v [] n' (fun _ _ => rfl) (by simpa using hn') fun _ _ _ _ _ _ => .inr ⟨rfl, rfl⟩⟩
    | cons y l =>
      refine ⟨_, _, r, h, fun n' hu _ => key _ _ n' (fun _ _ => rfl) ?_ fun ι ιc φ cv hend hv => .inl (hv.ren fun b i p hb e => ?_)⟩
      · obtain ⟨z, hz⟩ := newUpd_last (σ := shift hp.length) (l := y :: l) (n := hp.length) (b := hp.length + l.length) (by omega) (by simp)
        have := hu _ z hz
        simp only [List.length_cons]; omega
      · simp only [shift, Option.some.injEq] at hb; subst hb
        have : b < (y :: l).length := by
          rcases Nat.lt_or_ge b (y :: l).length with h | h
          · exact h
          · rw [hend b h] at e; cases e
        unfold joinM
        rw [if_pos ⟨by omega, by omega⟩, Nat.add_sub_cancel_left]; exact e
  case h_2 =>
    obtain ⟨ks, v, h1, hb, hlen, hret, h⟩ := h
    obtain ⟨hnd, hlt, hlive⟩ := handB_ok hb
    refine ⟨_, _, _, h, fun n' hu hn' => ?_⟩
    intro a w w0 S φ0 ι φ H' tm' next Q hI ht hop hr hfree hnext
    obtain ⟨hfun, hcall⟩ := hret
    obtain ⟨cargs, φ', hpp, hI', hargs, hrun⟩ := enter a w w0 S φ0 ι φ H' tm' hI ht hop (fun b hb => hr b (List.mem_append_right _ hb)) hfun
    have hH : ∀ k ∈ ks, H' k = getH hp k := fun k hk => hr k (List.mem_append_left _ hk)
    have hlive' : ∀ k ∈ ks, H' k ≠ .gone := fun k hk => by rw [hH k hk]; exact hlive k hk
    have hsel : ∀ i, getH (sel ks hp) i = match ks[i]? with | some k => renB (idx ks) (H' k) | none => .gone := fun i => by
      rw [sel_eq, getH_map]
      cases hk : ks[i]? with
      | none => rfl
      | some k => simp only; rw [hH k (List.mem_of_getElem? hk)]
    have live : ∀ {i : Nat}, getH (sel ks hp) i ≠ .gone → ∃ k, ks[i]? = some k ∧ H' k ≠ .gone := fun {i} hi => by
      rw [hsel] at hi
      cases hk : ks[i]? with
      | none => rw [hk] at hi; exact absurd rfl hi
      | some k => exact ⟨k, rfl, hlive' k (List.mem_of_getElem? hk)⟩
    have hsim : Sim (subM ks ι) φ' (getH (sel ks hp)) w := by
      refine ⟨fun i => ?_, fun i j g c c' hi hj e e' => ?_, hI'.sim.prot⟩
      · rw [hsel]
        cases hk : ks[i]? with
        | none => trivial
        | some k => exact (hI'.sim.blk k).ren subM_under (fun p e => by simp only [subM, hk]; exact e)
      · obtain ⟨k, hk, hkg⟩ := live hi
        obtain ⟨l, hl, hlg⟩ := live hj
        simp only [subM, hk] at e
        simp only [subM, hl] at e'
        have := hI'.sim.inj k l g c c' hkg hlg e e'
        subst this
        exact nodup_inj hnd hk hl
    have htm : TmOk (subM ks ι) φ' (renL (idx ks) as') cargs := ⟨by rw [renL_length, hargs.len], fun i hi => by rw [renL_length] at hi; rw [renL_get]; exact (hargs.rel i hi).ren subM_under⟩
    have hC := hcall (subM ks ι) φ' w _ (fun b hb => subM_ge (by simpa [sel] using hb)) hsim htm
    unfold Oper.wp
    rw [hrun, Oper.upon_enter]
    refine hC.mono fun e w' ⟨cv, ιc, φ'', he, hmc, hIc, hvc, hend⟩ => ?_
    subst he
    have toLent : ∀ g, handed (subM ks ι) (sel ks hp) g → Lent ι ks g := fun g ⟨b, c, _, hbg, e⟩ => by
      obtain ⟨k, hk, _⟩ := live hbg
      simp only [subM, hk] at e
      exact ⟨k, c, List.mem_of_getElem? hk, e⟩
    have hIc' : Inv w (Lent ι ks) φ' ιc φ'' (getH h1) w' := by
      refine ⟨hIc.sim, ⟨hIc.keep.os, hIc.keep.tape, hIc.keep.output, hIc.keep.size, fun g hg hs => hIc.keep.block g hg fun h => hs (toLent g h)⟩, fun b g c hb e => ?_, fun a ha => ?_, hIc.le⟩
      · exact (hIc.own b g c hb e).imp (toLent g) id
      · rcases hIc.new a ha with h | h | h
        · exact .inl h
        · exact .inr (.inl (toLent _ h))
        · exact .inr (.inr h)
    have hm : ∀ j k, ks[j]? = some k → ιc j = ι k := fun j k hk => by
      obtain ⟨g, c, e, _⟩ := (hI'.sim.blk k).place (hlive' k (List.mem_of_getElem? hk))
      rw [e]; exact hmc j (g, c) (by simp only [subM, hk]; exact e)
    have hbound : hp.length + (h1.length - ks.length) ≤ n' := by
      rcases Nat.eq_zero_or_pos (h1.length - ks.length) with h0 | h0
      · omega
      · obtain ⟨x, hx⟩ := backUpd_last (σ := back ks hp.length) (ks := ks) (l := h1) (n := hp.length) (b := hp.length + (h1.length - ks.length) - 1) hlen (by omega) (by omega)
        have := hu _ x hx
        omega
    have hfr : ∀ b, hp.length ≤ b → b < hp.length + (h1.length - ks.length) → ι b = none := fun b k1 k2 => hfree b k1 (by omega)
    refine hnext cv w' (joinH ι ks hp.length h1.length ιc) φ'' (hvc.ren (joinH_under hlt hm hend)) (hI'.callH hnd hlt hlive' hlen hIc' hm hfr hend) (joinH_le hfr) (hpp.trans hIc.le) fun b hb => ?_
    unfold joinH; rw [if_neg (by omega)]

theorem Prog.run_from : ∀ (p : Prog) (H : Nat → Blk) (r : List Nat) (v : Val) (u : Upd) (r' : List Nat), p.run H r (fun v' u' r'' => v' = v ∧ u' = u ∧ r'' = r') → ∃ s, r' = s ++ r ∧ ∀ r2, p.run H r2 (fun v' u' r'' => v' = v ∧ u' = u ∧ r'' = s ++ r2)
  | .ret v0 u0, _, r, v, u, r', ⟨h1, h2, h3⟩ => ⟨[], h3.symm, fun r2 => ⟨h1, h2, rfl⟩⟩
  | .get b k, H, r, v, u, r', h => by
    obtain ⟨s, h1, h2⟩ := Prog.run_from (k (H b)) H (b :: r) v u r' h
    refine ⟨s ++ [b], by simp [h1], fun r2 => ?_⟩
    show (k (H b)).run H (b :: r2) _
    have := h2 (b :: r2)
    simpa using this
  | @Prog.need p _ k, H, r, v, u, r', h => by
    obtain ⟨s, h1, h2⟩ := Prog.run_from k H r v u r' h.2
    exact ⟨s, h1, fun r2 => ⟨h.1, h2 r2⟩⟩
  | .fail, _, _, _, _, _, h => h.elim
/-- Operands lent: what is known of them. -/
def LendT (hp : List Blk) (r : List Nat) (xs : List Operand) (tm tm' : List Val) : Prop :=
  ∀ (w0 w : World) (S : Nat → Prop) (φ0 : Prot) (ι : Map) (φ : Prot) (H : Nat → Blk) (tx : List Val) (us : Array Value), (∀ b ∈ r, H b = getH hp b) → Inv w0 S φ0 ι φ H w → TmOk ι φ tx us → (∀ x ∈ xs, evV tx x = evV tm x) →
    ∃ φ' tx', ProtLe φ φ' ∧ Inv w0 S φ0 ι φ' H w ∧ TmOk ι φ' tx' us ∧ ∀ x, evV tx x = evV tm x → evV tx' x = evV tm' x
theorem evV_tmp (tm : List Val) (t : Nat) : evV tm (.tmp t) = tm.getD t (.tup []) := by
  show getK tm t id = _
  rw [getK_eq]; rfl
theorem getD_set (tm : List Val) (t s : Nat) (v : Val) : (tm.set t v).getD s (.tup []) = if t = s ∧ s < tm.length then v else tm.getD s (.tup []) := by
  simp only [List.getD_eq_getElem?_getD]
  rw [List.getElem?_set]
  by_cases h : t = s
  · subst h
    by_cases hl : t < tm.length
    · simp [hl]
    · simp [hl]
  · simp [h]
theorem evV_const (tm tm' : List Val) (x : Operand) (h : ∀ t, x ≠ .tmp t) : evV tm x = evV tm' x := by
  cases x with
  | tmp t => exact absurd rfl (h t)
  | _ => rfl
theorem lentAK_ok' {hp : List Blk} {r : List Nat} {o : Option Prop} {v : Val} {K : Val → List Nat → Option Prop → Prop} (h : lentAK hp r o v K) : ∃ v' r' o', K v' r' o' ∧ (∀ b ∈ r, b ∈ r') ∧ (optP o' → optP o ∧ Lends hp r' v v') ∧ (v = .tup [] → v' = .tup []) := by
  by_cases hv : v = .tup []
  · subst hv
    exact ⟨.tup [], r, o, h, fun _ hb => hb, fun ho => ⟨ho, .same _ _ _⟩, fun _ => rfl⟩
  · obtain ⟨v', r', o', h1, h2, h3⟩ := lentAK_ok h
    exact ⟨v', r', o', h1, h2, h3, fun e => absurd e hv⟩
theorem lentTK_ok {hp : List Blk} : ∀ {xs : List Operand} {r : List Nat} {o : Option Prop} {tm : List Val} {K : List Val → List Nat → Option Prop → Prop}, lentTK hp xs r o tm K →
    ∃ tm' r' o', K tm' r' o' ∧ (∀ b ∈ r, b ∈ r') ∧ (optP o' → optP o ∧ LendT hp r' xs tm tm')
  | [], r, o, tm, K, h => ⟨tm, r, o, h, fun _ hb => hb, fun ho => ⟨ho, fun _ _ _ _ _ φ _ tx _ _ hI ht _ => ⟨φ, tx, .refl _, hI, ht, fun _ h => h⟩⟩⟩
  | .tmp t :: xs, r, o, tm, K, h => by
    unfold lentTK at h
    rw [getK_eq] at h
    obtain ⟨v', r1, o1, h1, hr1, hl1, htup⟩ := lentAK_ok' h
    rw [putK_eq] at h1
    obtain ⟨tm', r2, o2, h2, hr2, hl2⟩ := lentTK_ok h1
    refine ⟨tm', r2, o2, h2, fun b hb => hr2 b (hr1 b hb), fun ho => ?_⟩
    obtain ⟨ho1, hL2⟩ := hl2 ho
    obtain ⟨ho0, hL1⟩ := hl1 ho1
    refine ⟨ho0, fun w0 w S φ0 ι φ H tx us hb hI ht hop => ?_⟩
    have ht0 := hop (.tmp t) (by simp)
    rw [evV_tmp, evV_tmp] at ht0
    have hrel := ht.get t
    rw [ht0] at hrel
    obtain ⟨φ1, p1, I1, R1⟩ := hL1 w0 w S φ0 ι φ H _ (fun b hb' => hb b (hr2 b hb')) hI hrel
    have ht1 : TmOk ι φ1 (tx.set t v') us := by
      refine ⟨by rw [List.length_set]; exact ht.len, fun i hi => ?_⟩
      rw [List.length_set] at hi
      by_cases e : t = i
      · subst e
        have : (tx.set t v').getD t .und = v' := by simp [List.getD_eq_getElem?_getD, List.getElem?_set, hi]
        rw [this]; exact R1
      · have : (tx.set t v').getD i .und = tx.getD i .und := by simp [List.getD_eq_getElem?_getD, List.getElem?_set, e]
        rw [this]; exact (ht.rel i hi).mono (.refl _) p1
    have step : ∀ x, evV tx x = evV tm x → evV (tx.set t v') x = evV (tm.set t v') x := fun x hx => by
      cases x with
      | tmp s =>
        rw [evV_tmp, evV_tmp] at hx ⊢
        rw [getD_set, getD_set]
        by_cases e : t = s
        · subst e
          by_cases l1 : t < tx.length <;> by_cases l2 : t < tm.length
          · simp [l1, l2]
          · have hz : tm.getD t (.tup []) = .tup [] := by simp [List.getD_eq_getElem?_getD, List.getElem?_eq_none (Nat.le_of_not_lt l2)]
            simp only [l1, l2, and_true, and_false, if_true, if_false, hz]
            exact htup hz
          · have hz : tx.getD t (.tup []) = .tup [] := by simp [List.getD_eq_getElem?_getD, List.getElem?_eq_none (Nat.le_of_not_lt l1)]
            rw [hz] at ht0
            simp only [l1, l2, and_true, and_false, if_true, if_false, hz]
            exact (htup ht0.symm).symm
          · simp only [l1, l2, and_false, if_false]; exact hx
        · simp only [e, false_and, if_false]; exact hx
      | _ => rfl
    obtain ⟨φ2, tx2, p2, I2, T2, hev⟩ := hL2 w0 w S φ0 ι φ1 H (tx.set t v') us hb I1 ht1 fun x hx => step x (hop x (List.mem_cons_of_mem _ hx))
    exact ⟨φ2, tx2, p1.trans p2, I2, T2, fun x hx => hev x (step x hx)⟩
  | .const c :: xs, r, o, tm, K, h => by
    obtain ⟨tm', r', o', h1, h2, h3⟩ := lentTK_ok (xs := xs) h
    exact ⟨tm', r', o', h1, h2, fun ho => ⟨(h3 ho).1, fun w0 w S φ0 ι φ H tx us hb hI ht hop => (h3 ho).2 w0 w S φ0 ι φ H tx us hb hI ht fun x hx => hop x (List.mem_cons_of_mem _ hx)⟩⟩
  | .global c :: xs, r, o, tm, K, h => by
    obtain ⟨tm', r', o', h1, h2, h3⟩ := lentTK_ok (xs := xs) h
    exact ⟨tm', r', o', h1, h2, fun ho => ⟨(h3 ho).1, fun w0 w S φ0 ι φ H tx us hb hI ht hop => (h3 ho).2 w0 w S φ0 ι φ H tx us hb hI ht fun x hx => hop x (List.mem_cons_of_mem _ hx)⟩⟩
  | .func c :: xs, r, o, tm, K, h => by
    obtain ⟨tm', r', o', h1, h2, h3⟩ := lentTK_ok (xs := xs) h
    exact ⟨tm', r', o', h1, h2, fun ho => ⟨(h3 ho).1, fun w0 w S φ0 ι φ H tx us hb hI ht hop => (h3 ho).2 w0 w S φ0 ι φ H tx us hb hI ht fun x hx => hop x (List.mem_cons_of_mem _ hx)⟩⟩
theorem puts_sub (o : Oper) : ∀ x ∈ putsOf o.op, x ∈ o.op.operands := by
  obtain ⟨dst, op, ty, pos, after, guard⟩ := o
  cases op <;> simp only [putsOf, List.not_mem_nil, false_implies, implies_true]
  · intro x hx
    simp only [Op.operands, List.mem_toArray]
    exact hx
  · intro x hx; simp only [List.mem_singleton] at hx; subst hx; simp [Op.operands]
  · intro x hx; simp only [List.mem_singleton] at hx; subst hx; simp [Op.operands]
theorem lent_fact {P : Program} {T : TypeId → TD} (hT : TOk P T) {o : Oper} {tm tm' : List Val} {hp : List Blk} {r0 : List Nat} (hL : LendT hp r0 (putsOf o.op) tm tm') {v : Val} {u : Upd} {r : List Nat}
    (h : (opP T o tm' hp.length).run (getH hp) r0 fun v' u' r'' => v' = v ∧ u' = u ∧ r'' = r) {n' : Nat} (hn' : ∀ b x, (b, x) ∈ u → b < n') : Fact P o tm (getH hp) hp.length n' v u r := by
  intro a w w0 S φ0 ι φ H' tx next Q hI ht hop hr hfree hnext
  obtain ⟨s, hs, h0⟩ := Prog.run_from _ _ _ _ _ _ h
  obtain ⟨φ1, tx', p1, I1, T1, hev⟩ := hL w0 w S φ0 ι φ H' tx a.tmps (fun b hb => hr b (by rw [hs]; exact List.mem_append_right _ hb)) hI ht fun x hx => hop x (puts_sub o x hx)
  have h1 := h0 []
  rw [List.append_nil] at h1
  have h' : Does (opP T o tx' hp.length) H' [] v u s := by
    unfold Does
    rw [opP_congr T (tm := tm') (tm' := tx') _ fun x hx => hev x (hop x hx)]
    exact Prog.run_local _ _ _ _ _ _ _ (fun b hb => hr b (by rw [hs]; exact List.mem_append_left _ hb)) h1
  obtain ⟨nx, cv, w', ι', φ', hrun, hnx, hv, hI', hm, hp', hf⟩ := (op_sound hT I1 T1 (fun ⟨x, hx⟩ => hfree _ (Nat.le_refl _) (hn' _ x hx)) h').ex
  have := hnext cv w' ι' φ' hv hI' hm (p1.trans hp') fun b hb => hf b fun e x hx => by
    subst e
    have := hn' _ x hx
    omega
  unfold Oper.wp
  rw [hrun]
  rcases hnx with rfl | ⟨rfl, rfl⟩
  · exact this
  · exact this
/-- One operation, carried out in the abstract. -/
theorem opRun_fact {P : Program} {T : TypeId → TD} (hT : TOk P T) {o : Oper} {tm : List Val} {hp : List Blk} {K : Val → Upd → List Nat → Prop} (h : opRun P T o tm hp K) :
    ∃ v u r, K v u r ∧ ∀ n', (∀ b x, (b, x) ∈ u → b < n') → hp.length ≤ n' → Fact P o tm (getH hp) hp.length n' v u r := by
  have h := lenK_eq h
  have plain : ((opP T o tm hp.length).runL hp [] none fun v u r o => needK o (K v u r)) → ∃ v u r, K v u r ∧ ∀ n', (∀ b x, (b, x) ∈ u → b < n') → hp.length ≤ n' → Fact P o tm (getH hp) hp.length n' v u r := fun h => by
    obtain ⟨v, u, r, h1, h2⟩ := runL_need h
    exact ⟨v, u, r, h2, fun n' hn' _ => plain_fact hT h1 hn'⟩
  split at h
  · rename_i c ho
    split at h
    · rename_i x hc
      exact call_fact ho hc h
    · exact plain h
  · obtain ⟨tm', r0, o0, h1, _, hl⟩ := lentTK_ok h
    obtain ⟨v, u, r, o1, h2, h3⟩ := runL_ok _ _ _ _ _ h1
    obtain ⟨h4, h5⟩ := needK_ok h2
    obtain ⟨h6, h7⟩ := h3 h4
    exact ⟨v, u, r, h5, fun n' hn' _ => lent_fact hT (hl h6).2 h7 hn'⟩

/-! ### is an operation wanted -/
theorem dstK_eq {α : Type} : ∀ (all : List Oper) (j : Nat) (K : Option Tmp → α), dstK all j K = K ((all[j]?).bind (·.dst))
  | [], _, _ => by simp [dstK]
  | _ :: _, 0, _ => by simp [dstK]
  | _ :: l, j + 1, K => by simp only [dstK, dstK_eq l j, List.getElem?_cons_succ]
theorem set_same {tm : List Val} {d : Nat} {b : Bool} (h : tm.getD d (.tup []) = .bool b) : tm.set d (.bool b) = tm := by
  apply List.ext_getElem?
  intro i
  rw [List.getElem?_set]
  split
  · rename_i e
    subst e
    rw [List.getD_eq_getElem?_getD] at h
    cases hx : tm[d]? with
    | none => rw [hx] at h; cases h
    | some x => rw [hx] at h; rw [if_pos (List.getElem?_eq_some_iff.1 hx).1]; exact congrArg some h.symm
  · rfl
theorem wantK_ok {all : List Oper} {o : Oper} {tm : List Val} {K : Bool → List Val → Prop} (h : wantK all o tm K) :
    ∃ b, K b tm ∧ ∀ (ι : Map) (φ : Prot) (a : Act) (tm' : List Val), TmOk ι φ tm' a.tmps → (∀ g want d, o.guard = some (g, want) → ((all[g]?).bind (·.dst)) = some d → tm'.getD d (.tup []) = tm.getD d (.tup [])) →
      Region.wanted o (yielded all.toArray a.tmps) = b := by
  unfold wantK at h
  split at h
  · rename_i hg
    exact ⟨true, h, fun _ _ _ _ _ _ => by simp [Region.wanted, hg]⟩
  · rename_i j want hg
    rw [dstK_eq] at h
    have hw : ∀ a : Act, Region.wanted o (yielded all.toArray a.tmps) = (yielded all.toArray a.tmps j == some want) := fun a => by simp [Region.wanted, hg]
    cases hd : (all[j]?).bind (·.dst) with
    | none =>
      rw [hd] at h
      refine ⟨false, h, fun ι φ a tm' ht _ => ?_⟩
      rw [hw]
      have : yielded all.toArray a.tmps j = none := by simp [yielded, hd]
      rw [this]; rfl
    | some d =>
      rw [hd] at h
      simp only [getK_eq] at h
      have fin : ∀ (ι : Map) (φ : Prot) (a : Act) (tm' : List Val), TmOk ι φ tm' a.tmps → (∀ g want d, o.guard = some (g, want) → ((all[g]?).bind (·.dst)) = some d → tm'.getD d (.tup []) = tm.getD d (.tup [])) →
          ∀ v, tm.getD d (.tup []) = v → Rel ι φ v (a.tmps.getD d undef) := fun ι φ a tm' ht hl v hv => by
        rw [← hv, ← hl j want d hg hd]; exact ht.get d
      have yi : ∀ (a : Act) (u : Value), a.tmps.getD d undef = u → yielded all.toArray a.tmps j = match u with | .bool b => some b | _ => none := fun a u hu => by
        unfold yielded
        simp only [List.getElem?_toArray, hd, Option.bind_some]
        rw [Array.getD_eq_getD_getElem?] at hu
        cases hx : a.tmps[d]? with
        | none => rw [hx] at hu; simp only [Option.getD_none] at hu; subst hu; rfl
        | some y => rw [hx] at hu; simp only [Option.getD_some] at hu; subst hu; cases y <;> rfl
      split at h
      · rename_i b hb
        refine ⟨b == want, ?_, fun ι φ a tm' ht hl => ?_⟩
        · cases b
          · have h := h.no rfl
            rwa [putK_eq, set_same hb] at h
          · have h := h.yes rfl
            rwa [putK_eq, set_same hb] at h
        · have hr := (fin ι φ a tm' ht hl _ hb).bool_
          rw [hw, yi a _ hr]
          cases want <;> cases b <;> rfl
      · rename_i hb
        refine ⟨false, h, fun ι φ a tm' ht hl => ?_⟩
        obtain ⟨us, hu, hs, _⟩ := (fin ι φ a tm' ht hl _ hb).tup_
        rw [hw, yi a _ hu]; rfl
      · exact h.elim
end
end Go.AM
