/- The row's reading of arguments: from a contract to the row's call. -/
import Derived.Test.YtkglccolonpnlaaAmRow2
import Derived.Below
set_option linter.unusedVariables false
set_option linter.unusedSimpArgs false
set_option maxRecDepth 100000
namespace Go.AM
open Go.RowKit

theorem ret_true {P : Program} {f : FuncId} {args : List Val} {cargs : Array Value} {W : World} (h : Ret P f args [] (.bool true) []) (hr : TmOk (fun _ => none) W.cell? args cargs) :
    Calls P f cargs W fun e W' => e = .returned (.bool true) ∧ Below W.heap.size W W' := by
  have hs : Sim (fun _ => none) W.cell? (getH []) W := ⟨fun b => by rw [getH_ge (by simp)]; trivial, fun b b' g c c' _ _ e => (by cases e), fun a v e => e⟩
  refine (h.2 (fun _ => none) W.cell? W cargs (fun _ _ => rfl) hs hr).mono fun e W' ⟨cv, ι', φ', he, _, hI, hv, _⟩ => ?_
  have := hv.bool_
  subst this
  exact ⟨he, hI.keep.os, hI.keep.tape, hI.keep.output, hI.keep.size, fun k hk => hI.keep.block k hk fun ⟨b, c, hb, _⟩ => by simp at hb⟩
def closedTB (l : List (TypeId × TD)) : Bool := l.all fun p => match p.2.sls with
  | none => true
  | some es => es.all fun e => (match tableOf l e with | .bad => false | _ => true) && ((tableOf l e).sls).isSome
theorem tableOf_mem : ∀ (l : List (TypeId × TD)) (t : TypeId), tableOf l t = .bad ∨ ∃ p ∈ l, tableOf l t = p.2
  | [], _ => .inl rfl
  | (u, d) :: l, t => by
    unfold tableOf
    split
    · exact .inr ⟨_, List.mem_cons_self .., rfl⟩
    · rcases tableOf_mem l t with h | ⟨p, h1, h2⟩
      · exact .inl h
      · exact .inr ⟨p, List.mem_cons_of_mem _ h1, h2⟩
theorem closedTB_ok {l : List (TypeId × TD)} (h : closedTB l = true) : Closed (tableOf l) := by
  intro t es hes e he
  rcases tableOf_mem l t with hb | ⟨p, hp, hb⟩
  · rw [hb] at hes; cases hes
  · have := List.all_eq_true.1 h p hp
    rw [hb] at hes
    rw [hes] at this
    have := List.all_eq_true.1 this e he
    rw [Bool.and_eq_true] at this
    refine ⟨fun hbad => ?_, Option.isSome_iff_exists.1 this.2⟩
    rw [hbad] at this; exact absurd this.1 (by simp)
section
variable {P : Program} {W : World} {ι : Map} {t : TypeId} {base : Nat} {u : Value} {vs : List Val} {r : Reach}
theorem arg_agg {d : TD} (hg : Good P d t) (hd : d.isAgg = true) (hval : Value.okWide P W r base t u) (hc : CellsRel W.cell? vs u.cells.toList) : Rel ι W.cell? (.agg vs) u := by
  have : ∃ cs, u = .agg cs := by
    cases d <;> simp only [TD.isAgg] at hd <;> try (cases hd; done)
    case struct ds =>
      simp only [Good] at hg
      obtain ⟨⟨fields, hu, _⟩, _⟩ := hg
      simp only [Value.okWide, hu] at hval
      obtain ⟨cs, e, _⟩ := hval; exact ⟨cs, e⟩
    case arr n e =>
      simp only [Good] at hg
      obtain ⟨⟨el, hu, _⟩, _⟩ := hg
      simp only [Value.okWide, hu] at hval
      obtain ⟨cs, e, _⟩ := hval; exact ⟨cs, e⟩
  obtain ⟨cs, rfl⟩ := this
  exact agg_rel ⟨hc.1, fun k hk => ⟨(hc.2 k hk).1, .c (hc.2 k hk).2⟩⟩
end
end Go.AM
