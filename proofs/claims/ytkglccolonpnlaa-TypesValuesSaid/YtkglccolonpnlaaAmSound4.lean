/- The abstract machine's programs are sound: regions in their order. -/
import Derived.Test.YtkglccolonpnlaaAmSound3
set_option linter.unusedVariables false
set_option linter.unusedSimpArgs false
set_option maxRecDepth 100000
namespace Go.AM
noncomputable section
open Go.RowKit

/-- The state of a frame, held against the abstract one. -/
def St (w0 : World) (S : Nat → Prop) (φ0 : Prot) (ι0 : Map) (n : Nat) (tm : List Val) (hp : List Blk) (a : Act) (w : World) : Prop :=
  ∃ ι φ, Inv w0 S φ0 ι φ (getH hp) w ∧ TmOk ι φ tm a.tmps ∧ (∀ b, hp.length ≤ b → ι b = none) ∧ (∀ b, b < n → ι b = ι0 b) ∧ n ≤ hp.length ∧ a.defers = []

def putD (tm : List Val) (d : Option Tmp) (v : Val) : List Val := match d with
  | none => tm
  | some t => tm.set t v
theorem putDK_eq {α : Type} (tm : List Val) (d : Option Tmp) (v : Val) (K : List Val → α) : putDK tm d v K = K (putD tm d v) := by
  cases d <;> simp [putDK, putD, putK_eq]
theorem TmOk.put {ι : Map} {φ : Prot} {tm : List Val} {a : Act} (h : TmOk ι φ tm a.tmps) (d : Option Tmp) {v : Val} {cv : Value} (hv : Rel ι φ v cv) : TmOk ι φ (putD tm d v) (a.put d cv).tmps := by
  cases d with
  | none => exact h
  | some t =>
    refine ⟨by simp [putD, Act.put, h.len], fun i hi => ?_⟩
    simp only [putD, List.length_set] at hi
    simp only [putD, Act.put]
    by_cases hit : t = i
    · subst hit
      have hi' : t < a.tmps.size := by rw [h.len]; exact hi
      rw [List.getD_eq_getElem?_getD, List.getElem?_set_self hi, Array.getD_eq_getD_getElem?, Array.getElem?_setIfInBounds]
      simp [hi', hv]
    · rw [List.getD_eq_getElem?_getD, List.getElem?_set_ne hit, Array.getD_eq_getD_getElem?, Array.getElem?_setIfInBounds, if_neg hit]
      have := h.rel i hi
      rwa [List.getD_eq_getElem?_getD, Array.getD_eq_getD_getElem?] at this
theorem put_defers (a : Act) (d : Option Tmp) (v : Value) : (a.put d v).defers = a.defers := by cases d <;> rfl
theorem domK_eq {α : Type} : ∀ (u : Upd) (K : List Nat → α), domK u K = K (u.map Prod.fst)
  | [], _ => rfl
  | (b, x) :: u, K => by simp only [domK, domK_eq u, List.map_cons]

theorem regK_sound {P : Program} {T : TypeId → TD} (hT : TOk P T) {fl : Bool} {all : List Oper} {w0 : World} {S : Nat → Prop} {φ0 : Prot} {ι0 : Map} {n : Nat} {Q : Exit → Act → World → Prop} :
    ∀ {l : List Oper} {tm : List Val} {hp : List Blk} {K : List Val → List Blk → Prop} {a : Act} {w : World}, regK P T fl all l tm hp K → St w0 S φ0 ι0 n tm hp a w →
      (∀ tm hp a w, K tm hp → St w0 S φ0 ι0 n tm hp a w → Q .normal a w) → wpList P all.toArray Q l a w
  | [], tm, hp, K, a, w, h, hs, hK => hK tm hp a w h hs
  | o :: rest, tm, hp, K, a, w, h, hs, hK => by
    unfold regK at h
    obtain ⟨b, h, hw⟩ := wantK_ok h
    unfold stepK at h
    obtain ⟨ι, φ, hI, ht, hend, h0, hn, hdf⟩ := hs
    have hw := hw ι φ a tm ht (fun _ _ _ _ _ => rfl)
    unfold wpList
    rw [hw]
    cases b with
    | true =>
      obtain ⟨v, u, r, h, hf⟩ := opRun_fact hT h
      rw [raiseUK_eq] at h
      obtain ⟨hp', h, hH, hlen, hu⟩ := updK_eq (raiseU fl u) hp _ h
      have hu' : ∀ b x, (b, x) ∈ u → b < hp'.length := fun b x hx => by obtain ⟨y, hy⟩ := raiseU_mem (fl := fl) ⟨x, hx⟩; exact hu b y hy
      rw [putDK_eq] at h
      rw [if_pos rfl]
      refine .inl ((hf hp'.length hu' hlen).raise fl a w w0 S φ0 ι φ (getH hp) tm _ _ hI ht (fun _ _ => rfl) (fun _ _ => rfl) (fun b hb _ => hend b hb) fun cv w' ι' φ' hv hI' hm hp2 hfr => ?_)
      have e : applyF (getH hp) (raiseU fl u) = getH hp' := (funext hH).symm
      rw [e] at hI'
      refine regK_sound hT h ⟨ι', φ', hI', (ht.mono hm hp2).put o.dst hv, fun b hb => ?_, fun b hb => ?_, by omega, by rw [put_defers, hdf]⟩ hK
      · rw [hfr b (.inr hb)]; exact hend b (by omega)
      · rw [hfr b (.inl (by omega))]; exact h0 b hb
    | false =>
      rw [putDK_eq] at h
      rw [if_neg (by simp)]
      exact regK_sound hT h ⟨ι, φ, hI, ht.put o.dst (rel_undef ι φ), hend, h0, hn, by rw [put_defers, hdf]⟩ hK

/-! ### regions whose order is drawn: what was done, operation by operation -/
structure Ent where
  o : Oper
  on : Bool
  v : Val
  u : Upd
  r : List Nat
  n : Nat
  n' : Nat
def Ent.tm (e : Ent) (tm : List Val) : List Val := putD tm e.o.dst e.v
def Ent.H (e : Ent) (H : Nat → Blk) : Nat → Blk := applyF H e.u
def Ent.log (e : Ent) : Log := (e.r, e.u.map Prod.fst)
def EntOk (P : Program) (all : List Oper) (e : Ent) (tm : List Val) (H : Nat → Blk) : Prop :=
  (e.on = true → Fact P e.o tm H e.n e.n' e.v e.u e.r) ∧ (e.on = false → e.v = .tup [] ∧ e.u = []) ∧ e.n ≤ e.n' ∧
  ∀ (ι : Map) (φ : Prot) (a : Act) (tm' : List Val), TmOk ι φ tm' a.tmps → (∀ g want d, e.o.guard = some (g, want) → ((all[g]?).bind (·.dst)) = some d → tm'.getD d (.tup []) = tm.getD d (.tup [])) →
      Region.wanted e.o (yielded all.toArray a.tmps) = e.on
def Chain (P : Program) (all : List Oper) : List Ent → List Val → (Nat → Blk) → Nat → Prop
  | [], _, _, _ => True
  | e :: l, tm, H, n => EntOk P all e tm H ∧ e.n = n ∧ Chain P all l (e.tm tm) (e.H H) e.n'
def endTm : List Ent → List Val → List Val
  | [], tm => tm
  | e :: l, tm => endTm l (e.tm tm)
def endH : List Ent → (Nat → Blk) → (Nat → Blk)
  | [], H => H
  | e :: l, H => endH l (e.H H)
def endN : List Ent → Nat → Nat
  | [], n => n
  | e :: l, _ => endN l e.n'
theorem drawK_ok {P : Program} {T : TypeId → TD} (hT : TOk P T) {fl : Bool} {all : List Oper} : ∀ {l : List Oper} {tm : List Val} {hp : List Blk} {lg : List Log} {K : List Val → List Blk → List Log → Prop}, drawK P T fl all l tm hp lg K →
    ∃ es : List Ent, es.map (·.o) = l ∧ Chain P all es tm (getH hp) hp.length ∧ ∃ hp', K (endTm es tm) hp' ((es.map (·.log)).reverse ++ lg) ∧ getH hp' = endH es (getH hp) ∧ hp'.length = endN es hp.length ∧ hp.length ≤ hp'.length
  | [], tm, hp, lg, K, h => ⟨[], rfl, trivial, hp, h, rfl, rfl, Nat.le_refl _⟩
  | o :: rest, tm, hp, lg, K, h => by
    unfold drawK at h
    obtain ⟨b, h, hw⟩ := wantK_ok h
    unfold stepDK at h
    cases b with
    | true =>
      obtain ⟨v, u, r, h, hf⟩ := opRun_fact hT h
      rw [raiseUK_eq] at h
      obtain ⟨hp1, h, hH, hlen, hu⟩ := updK_eq (raiseU fl u) hp _ h
      have hu' : ∀ b x, (b, x) ∈ u → b < hp1.length := fun b x hx => by obtain ⟨y, hy⟩ := raiseU_mem (fl := fl) ⟨x, hx⟩; exact hu b y hy
      rw [putDK_eq] at h
      rw [domK_eq] at h
      obtain ⟨es, h1, h2, hp', h3, h4, h5, h6⟩ := drawK_ok hT h
      have e : applyF (getH hp) (raiseU fl u) = getH hp1 := (funext hH).symm
      refine ⟨⟨o, true, v, raiseU fl u, r, hp.length, hp1.length⟩ :: es, by simp [h1], ⟨⟨fun _ => (hf hp1.length hu' hlen).raise fl, (fun h => by cases h), hlen, hw⟩, rfl, ?_⟩, hp', ?_, ?_, h5, by omega⟩
      · simp only [Ent.tm, Ent.H]; rw [e]; exact h2
      · simpa [Ent.log, endTm, Ent.tm] using h3
      · simp only [endH, Ent.H]; rw [e]; exact h4
    | false =>
      rw [putDK_eq] at h
      obtain ⟨es, h1, h2, hp', h3, h4, h5, h6⟩ := drawK_ok hT h
      refine ⟨⟨o, false, .tup [], [], [], hp.length, hp.length⟩ :: es, by simp [h1], ⟨⟨(fun h => by cases h), fun _ => ⟨rfl, rfl⟩, Nat.le_refl _, hw⟩, rfl, ?_⟩, hp', ?_, ?_, h5, h6⟩
      · simpa [Ent.tm, Ent.H, applyF] using h2
      · simpa [Ent.log, endTm, Ent.tm] using h3
      · simpa [endH, Ent.H, applyF] using h4
end
end Go.AM
