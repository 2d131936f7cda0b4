/- Operations, calls and functions over heaps without bound. -/
import Derived.Test.YtafiechoplbieaaAmJc
set_option linter.unusedVariables false
set_option linter.unusedSimpArgs false
set_option maxRecDepth 100000
namespace Go.AM
noncomputable section
open Go.RowKit
section
variable {P : Program} {T : TypeId → TD} {M : Nat → Blk} {tm : List Val} {all : List Oper}
theorem HL.nil {K : (Nat → Blk) → List Val → Prop} (h : K M tm) : HL P all.toArray [] M tm K := ⟨fun _ _ _ _ _ a w hs hQ => hQ M tm a w h hs⟩
/-- A call. -/
theorem HL.call {o : Oper} {rest : List Oper} {K : (Nat → Blk) → List Val → Prop} {c : Call} {f : FuncId} {v : Val} {M' : Nat → Blk} (ho : o.op = .call c) (hc : c.callee = .value (.func f)) (hg : o.guard = none)
    (hr : RetH P f (c.args.toList.map (evV tm)) M v M') (h : HL P all.toArray rest M' (putD tm o.dst v) K) : HL P all.toArray (o :: rest) M tm K := by
  refine ⟨fun w0 S φ0 ι0 Q a w ⟨ι, φ, hI, ht, hn, hd, hm0⟩ hQ => ?_⟩
  obtain ⟨fn, code, hfn, hnm, hbody⟩ := hr.fn
  have hrun : (execOp a.eval o).run P w = .ok (.enter f (c.args.map a.eval)) w := by
    unfold execOp
    simp only [ho, resolve, hc, Act.eval, Deferred.ofValue, Sem.run_bind, Sem.run_pure, Result.andThen_ok, invoke, callFunc, program, Sem.run, hfn, hnm]
    simp [hbody]
  have hw : Region.wanted o (yielded all.toArray a.tmps) = true := by unfold Region.wanted; rw [hg]
  unfold wpList
  rw [hw, if_pos rfl]
  refine .inl ?_
  unfold Oper.wp
  rw [hrun, Oper.upon_enter]
  refine (hr.run w0 S φ0 ι φ w _ hI hn (ht.evs c.args)).mono fun e w' ⟨cv, ι', φ', he, hm, hp, hI', hn', hv⟩ => ?_
  subst he
  exact h.run w0 S φ0 ι0 Q (a.put o.dst cv) w' ⟨ι', φ', hI', (ht.mono hm hp).put o.dst hv, hn', by rw [put_defers, hd], hm0.trans hm⟩ hQ
end
/-! ### functions -/
/-- A contract over a few blocks, with whatever is about. -/
theorem RetH.of_ret {P : Program} {f : FuncId} {args : List Val} {M M' : Nat → Blk} {v : Val} (ks ns : List Nat) (hnd : (ks ++ ns).Nodup) (hlive : ∀ k ∈ ks, M k ≠ .gone) (hnew : ∀ k ∈ ns, M k = .gone) (hfr : ∀ b, b ∉ ks ++ ns → M' b = M b) (hlv : ∀ b ∈ ks ++ ns, M' b ≠ .gone)
    (hnm : ∀ b ∈ ks ++ ns, nmB (fun v => inWin (idx (ks ++ ns)) v ∨ stands M args v) (M' b)) (hnv : nmV (fun v => inWin (idx (ks ++ ns)) v ∨ stands M args v) v)
    (h : ∀ ρ, Ret P f (locL (idx ks) ρ args) (winH ρ ks M) (locV (idx (ks ++ ns)) ρ v) ((ks ++ ns).map fun k => locB (idx (ks ++ ns)) ρ (M' k))) : RetH P f args M v M' := by
  have hk : ks.Nodup := (List.nodup_append.1 hnd).1
  refine ⟨(h fun _ => undef).1, fun w0 S φ0 ι φ w cargs hI hn ht => ?_⟩
  have htm : TmOk (subM ks ι) φ (locL (idx ks) (valOf ι) args) cargs := ⟨ht.len.trans (locL_length ..).symm, fun i hi => by rw [locL_length] at hi; rw [locL_get]; exact (ht.rel i hi).loc subM_under⟩
  have hE := hI.enter hk
  refine ((h (valOf ι)).2 (subM ks ι) φ w cargs (fun b hb => subM_ge (by simpa [winH] using hb)) hE.sim htm).mono fun e w' ⟨cv, ι1, φ1, he, hm, hI1, hv, _⟩ => ?_
  have hsame : ∀ g, handed (subM ks ι) (winH (valOf ι) ks M) g → winS ι M ks g := fun g ⟨b, c, hb, hx, e⟩ => hE.own b g c hx e |>.elim id fun hge => by
    obtain ⟨g', c', e', hl⟩ := (hE.sim.blk b).place hx
    rw [e] at e'; injection e' with e'; injection e' with e1 _; omega
  have hI1' : Inv w (winS ι M ks) φ ι1 φ1 (getH ((ks ++ ns).map fun k => locB (idx (ks ++ ns)) (valOf ι) (M' k))) w' :=
    ⟨hI1.sim, ⟨hI1.keep.os, hI1.keep.tape, hI1.keep.output, hI1.keep.size, fun g hg hs => hI1.keep.block g hg fun h => hs (hsame g h)⟩, fun b g c hb e => (hI1.own b g c hb e).imp (hsame g) id, fun a ha => (hI1.new a ha).imp id (Or.imp (hsame _) id), hI1.le⟩
  have h0 : ∀ i, i < ks.length → ι1 i = subM ks ι i := fun i hi => by
    obtain ⟨g, c, e, _⟩ := (hI.sim.blk ks[i]).place (hlive _ (List.getElem_mem hi))
    have e2 : subM ks ι i = some (g, c) := by simp only [subM, List.getElem?_eq_getElem hi, e]
    rw [e2]; exact hm i _ e2
  have imp : ∀ v, (inWin (idx (ks ++ ns)) v ∨ stands M args v) → (inWin (idx (ks ++ ns)) v ∨ outWin ι φ v) := fun v h => h.imp id fun h => stands_out hI ht h
  obtain ⟨k1, k2, k3⟩ := hI.leave hn hnd hlive hnew hI1' h0 hfr hlv (fun b hb => nmB.imp imp _ (hnm b hb))
  exact ⟨cv, _, φ1, he, k2, hI1.le, k1, k3, glob v hv (nmV.imp imp v hnv)⟩
/-- What the results are. -/
def resH (rs : List ResultVar) (tm : List Val) (v : Val) : Prop := match rs with
  | [] => v = .tup []
  | [.tmp t] => tm.getD t (.tup []) = v
  | [.tmp t, .tmp s] => v = .tup [tm.getD t (.tup []), tm.getD s (.tup [])]
  | _ => False
/-- how a body ends -/
def finH (rs : List ResultVar) (v : Val) (M' : Nat → Blk) : KontH := fun e M tm => (e = .normal ∨ e = .ret) ∧ M = M' ∧ resH rs tm v
theorem RetH.of_body {P : Program} {f : FuncId} {fn : Func} {c : Code} {args : List Val} {M M' : Nat → Blk} {v : Val} (hf : P.funcs[f]? = some fn) (hn : (fn.name == "runtime.NumGoroutine") = false) (hb : fn.body = some c) {k : Nat} {rs : List ResultVar} (hk : fn.ntmps = k) (hr : fn.results.toList = rs)
    (hbody : padK args k fun tm => HM P c M tm (finH rs v M')) : RetH P f args M v M' := by
  refine ⟨⟨fn, c, hf, hn, hb⟩, fun w0 S φ0 ι φ w cargs hI hnorm ht => ?_⟩
  subst hk; subst hr
  rw [padK_eq] at hbody
  have htm : TmOk ι φ (args ++ List.replicate (fn.ntmps - args.length) (.tup [])) (cargs ++ Array.replicate (fn.ntmps - cargs.size) undef) := by
    refine ht.app ⟨by simp [ht.len], fun i hi => ?_⟩
    rw [List.length_replicate] at hi
    have e1 : (List.replicate (fn.ntmps - args.length) (Val.tup [])).getD i .und = .tup [] := by simp [List.getD_eq_getElem?_getD, hi]
    have e2 : (Array.replicate (fn.ntmps - cargs.size) undef).getD i undef = undef := by
      rw [Array.getD_eq_getD_getElem?, Array.getElem?_replicate]; split <;> rfl
    rw [e1, e2]; exact rel_undef ι φ
  have hI0 : Inv w (fun g => S g ∨ w0.heap.size ≤ g) φ ι φ M w := ⟨hI.sim, .refl _ _, fun b g c hb e => .inl (hI.own b g c hb e), fun a ha => .inl ha, .refl _⟩
  refine calls_of_wp hf hb (hbody.run w (fun g => S g ∨ w0.heap.size ≤ g) φ ι _ _ w ⟨ι, φ, hI0, htm, hnorm, rfl, .refl _⟩ fun e M1 tm1 a w' hk hs => ?_)
  obtain ⟨he, rfl, hres⟩ := hk
  obtain ⟨ι1, φ1, hI1, ht1, hn1, hd1, hm1⟩ := hs
  have hfin : a.defers = [] ∧ ∃ cv, (results fn a.tmps).run P w' = .ok cv w' ∧ ∃ cv' ι' φ', Ending.returned cv = .returned cv' ∧ MapLe ι ι' ∧ ProtLe φ φ' ∧ Inv w0 S φ0 ι' φ' M1 w' ∧ (∀ b, M1 b = .gone → ι' b = none) ∧ Rel ι' φ' v cv' := by
    have hval : ∃ cv, (results fn a.tmps).run P w' = .ok cv w' ∧ Rel ι1 φ1 v cv := by
      rw [results_list]
      unfold resH at hres
      split at hres
      · rename_i e0
        subst hres
        rw [e0]
        exact ⟨.tuple #[], by simp, rel_undef ι1 φ1⟩
      · rename_i t e0
        subst hres
        rw [e0]
        exact ⟨_, by simp [resOne], ht1.get t⟩
      · rename_i t s e0
        subst hres
        rw [e0]
        refine ⟨.tuple #[a.tmps.getD t undef, a.tmps.getD s undef], by simp [resOne], .tup _ _ rfl fun i hi => ?_⟩
        match i, hi with
        | 0, _ => exact ht1.get t
        | 1, _ => exact ht1.get s
      · exact hres.elim
    obtain ⟨cv, h1, h2⟩ := hval
    exact ⟨hd1, cv, h1, cv, ι1, φ1, rfl, hm1, hI1.le, hI.next hI1 (fun g h => h), hn1, h2⟩
  rcases he with rfl | rfl
  · exact hfin
  · exact hfin
end
end Go.AM

set_option linter.unusedVariables false
set_option linter.unusedSimpArgs false
set_option maxRecDepth 100000
namespace Go.AM
noncomputable section
open Go.RowKit
/-- names no block -/
structure Mute (x : Val) : Prop where
  ren : ∀ σ : Nat → Option Nat, renV σ x = x
  loc : ∀ (σ : Nat → Option Nat) (ρ : Val → Value), locV σ ρ x = x
  nm : ∀ p, nmV p x
theorem Mute.raw (u : Value) : Mute (.raw u) := ⟨fun _ => by simp [renV], fun _ _ => by simp [locV], fun _ => by simp [nmV]⟩
theorem Mute.nilp : Mute .nilp := ⟨fun _ => by simp [renV], fun _ _ => by simp [locV, closed], fun _ => by simp [nmV, closed]⟩
theorem Mute.ext (sz n : Nat) (g : Nat → List Val) : Mute (.ext sz n g) := ⟨fun _ => by simp [renV], fun _ _ => by simp [locV, closed], fun _ => by simp [nmV, closed]⟩
/-- from heaps to lists of blocks -/
theorem Ret.of_heap {P : Program} {f : FuncId} {args : List Val} {L L' : List Blk} {v : Val} (hL : ∀ b, b < L.length → getH L b ≠ .gone) (h : RetH P f args (getH L) v (getH L')) : Ret P f args L v L' := by
  refine ⟨h.fn, fun ι φ w cargs hnone hsim hargs => ?_⟩
  have hI0 : Inv w (handed ι L) φ ι φ (getH L) w := by
    refine ⟨hsim, .refl _ _, fun b g c hb e => .inl ?_, fun a ha => .inl ha, .refl _⟩
    refine ⟨b, c, ?_, hb, e⟩
    rcases Nat.lt_or_ge b L.length with hl | hl
    · exact hl
    · exact absurd (getH_ge hl) hb
  refine (h.run w (handed ι L) φ ι φ w cargs hI0 (fun b hb => ?_) hargs).mono fun e w' ⟨cv, ι', φ', he, hm, _, hI', hn, hv⟩ => ?_
  · rcases Nat.lt_or_ge b L.length with hl | hl
    · exact absurd hb (hL b hl)
    · exact hnone b hl
  · exact ⟨cv, ι', φ', he, hm, hI', hv, fun b hb => hn b (getH_ge hb)⟩
/-- A contract over the blocks ks of a list, all of the list about. -/
theorem Ret.frame {P : Program} {f : FuncId} {args : List Val} {L L' : List Blk} {v : Val} (ks : List Nat) (hk : nodupB ks = true) (hlen : L'.length = L.length) (hlt : ∀ k ∈ ks, k < L.length) (hL : ∀ b, b < L.length → getH L b ≠ .gone) (hL' : ∀ b, b < L.length → getH L' b ≠ .gone)
    (hfr : ∀ b, b ∉ ks → getH L' b = getH L b) (hnm : ∀ b ∈ ks, nmB (fun v => inWin (idx ks) v ∨ stands (getH L) args v) (getH L' b)) (hnv : nmV (fun v => inWin (idx ks) v ∨ stands (getH L) args v) v)
    (h : ∀ ρ, Ret P f (locL (idx ks) ρ args) (winH ρ ks (getH L)) (locV (idx ks) ρ v) (winH ρ ks (getH L'))) : Ret P f args L v L' := by
  refine Ret.of_heap hL (RetH.of_ret ks [] (by rw [List.append_nil]; exact nodup_of hk) (fun k hk => hL k (hlt k hk)) (fun k hk => absurd hk (by simp)) (fun b hb => hfr b (by simpa using hb)) (fun b hb => hL' b (hlt b (by simpa using hb))) (fun b hb => ?_) (by simpa using hnv) fun ρ => ?_)
  · have := hnm b (by simpa using hb)
    simpa using this
  · have := h ρ
    simpa [winH] using this
end
end Go.AM

set_option linter.unusedVariables false
set_option linter.unusedSimpArgs false
set_option maxRecDepth 100000
namespace Go.AM
noncomputable section
theorem closed_ren (σ : Nat → Option Nat) : ∀ v : Val, closed v = true → renV σ v = v
  | .bool _, _ | .int .., _ | .str _, _ | .rptr _, _ | .nilp, _ | .ext .., _ | .nils, _ | .emp, _ | .nilf, _ | .nilm, _ | .nili, _ => by simp [renV]
  | .fn f [] [], _ => by simp [renV, renL]
  | .fn f (_ :: _) _, h => by simp [closed] at h
  | .fn f [] (_ :: _), h => by simp [closed] at h
  | .ifc t v, h => by simp only [renV]; rw [closed_ren σ v (by simpa [closed] using h)]
  | .ptr .., h => by simp [closed] at h
  | .ep .., h => by simp [closed] at h
  | .row .., h => by simp [closed] at h
  | .asl .., h => by simp [closed] at h
  | .map _, h => by simp [closed] at h
  | .agg _, h => by simp [closed] at h
  | .tup _, h => by simp [closed] at h
  | .und, h => by simp [closed] at h
  | .raw _, h => by simp [closed] at h
/-- names below m -/
def within (m : Nat) (σ : Nat → Option Nat) : Prop := ∀ b i, σ b = some i → i < m
/-- names kept -/
def keeps (m : Nat) (τ : Nat → Option Nat) : Prop := ∀ i, i < m → τ i = some i
mutual
theorem loc_fix {m : Nat} {σ τ : Nat → Option Nat} {ρ : Val → Value} (hσ : within m σ) (hτ : keeps m τ) : ∀ x : Val, renV τ (locV σ ρ x) = locV σ ρ x
  | .ptr b off => by
    simp only [locV]
    cases h : σ b with
    | none => simp only [renV]
    | some i => simp only [renV, hτ i (hσ b i h)]
  | .row b n => by
    simp only [locV]
    cases h : σ b with
    | none => simp only [renV]
    | some i => simp only [renV, hτ i (hσ b i h)]
  | .map b => by
    simp only [locV]
    cases h : σ b with
    | none => simp only [renV]
    | some i => simp only [renV, hτ i (hσ b i h)]
  | .agg cs => by simp only [locV, renV, loc_fixL hσ hτ cs]
  | .tup cs => by simp only [locV, renV, loc_fixL hσ hτ cs]
  | .raw u => by simp only [locV, renV]
  | .und => by simp only [locV, closed, renV]
  | .bool _ => by simp only [locV, closed, renV]
  | .int _ _ => by simp only [locV, closed, renV]
  | .str _ => by simp only [locV, closed, renV]
  | .rptr _ => by simp only [locV, closed, renV]
  | .nilp => by simp only [locV, closed, renV]
  | .ext _ _ _ => by simp only [locV, closed, renV]
  | .nils => by simp only [locV, closed, renV]
  | .emp => by simp only [locV, closed, renV]
  | .nilf => by simp only [locV, closed, renV]
  | .nilm => by simp only [locV, closed, renV]
  | .nili => by simp only [locV, closed, renV]
  | .ep _ _ _ _ => by simp only [locV, closed, renV]
  | .asl _ _ _ => by simp only [locV, closed, renV]
  | .fn f fs cs => by
    rcases loc_other (σ := σ) (ρ := ρ) (v := .fn f fs cs) (by simp) (by simp) (by simp) (by simp) (by simp) (by simp) with ⟨e, hc⟩ | e
    · rw [e]; exact closed_ren τ _ hc
    · rw [e]; simp only [renV]
  | .ifc t v => by
    rcases loc_other (σ := σ) (ρ := ρ) (v := .ifc t v) (by simp) (by simp) (by simp) (by simp) (by simp) (by simp) with ⟨e, hc⟩ | e
    · rw [e]; exact closed_ren τ _ hc
    · rw [e]; simp only [renV]
theorem loc_fixL {m : Nat} {σ τ : Nat → Option Nat} {ρ : Val → Value} (hσ : within m σ) (hτ : keeps m τ) : ∀ cs : List Val, renL τ (locL σ ρ cs) = locL σ ρ cs
  | [] => by simp only [locL, renL]
  | x :: cs => by simp only [locL, renL, loc_fix hσ hτ x, loc_fixL hσ hτ cs]
end
/-- what a cell may hold: a name, the model's own value, or what names nothing -/
def LeafV (x : Val) : Prop := (∃ b, leafN x = some b) ∨ closed x = true ∨ (∃ u, x = .raw u) ∨ x = .und
theorem LeafV.nm {x : Val} (h : LeafV x) {p : Val → Prop} (hp : p x) : nmV p x := by
  rcases h with ⟨b, h⟩ | h | ⟨u, rfl⟩ | rfl
  · cases x <;> simp [leafN] at h <;> simp only [nmV] <;> exact hp
  · cases x <;> simp only [nmV] <;> first | exact hp | exact h | (simp [closed] at h)
  · simp only [nmV]
  · simp only [nmV]
end
end Go.AM

