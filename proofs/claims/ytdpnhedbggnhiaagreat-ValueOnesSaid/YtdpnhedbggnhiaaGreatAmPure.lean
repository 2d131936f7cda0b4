/- Contracts out of what is known of calls that make nothing that the caller sees. -/
import Derived.Test.YtdpnhedbggnhiaaGreatAmHn
set_option linter.unusedVariables false
set_option linter.unusedSimpArgs false
set_option maxRecDepth 100000
namespace Go.AM
open Go.RowKit
theorem Ret.of_calls {P : Program} {F : FuncId} {args : List Val} {cargs : Array Value} {v : Val} {cv : Value} (hfn : ∃ fn c, P.funcs[F]? = some fn ∧ (fn.name == "runtime.NumGoroutine") = false ∧ fn.body = some c)
    (ha : ∀ ι φ cs, TmOk ι φ args cs → cs = cargs) (hv : ∀ ι φ, Rel ι φ v cv) (h : ∀ w, Calls P F cargs w fun e w' => e = .returned cv ∧ Below w.heap.size w w') : Ret P F args [] v [] := by
  refine ⟨hfn, fun ι φ w cs hn hs ht => ?_⟩
  rw [ha ι φ cs ht]
  refine (h w).mono fun e w' ⟨he, hb⟩ => ?_
  exact ⟨cv, ι, φ, he, .refl _, Inv.below hs hb (.refl _) (fun a v ha => .inl ha), hv ι φ, hn⟩
theorem args_str {s : ByteArray} : ∀ (ι : AM.Map) (φ : Prot) (cs : Array Value), TmOk ι φ [.str s] cs → cs = #[.string s] := fun ι φ cs h => by
  have hl : cs.size = 1 := by simpa using h.len
  have h0 := (h.rel 0 (by simp)).str_
  refine Array.ext (by simpa using hl) fun i hi hi' => ?_
  obtain rfl : i = 0 := by omega
  rw [Array.getD_eq_getD_getElem?, Array.getElem?_eq_getElem hi] at h0
  simpa using h0
theorem args_str_int {s : ByteArray} {k : IntKind} {n : Int} : ∀ (ι : AM.Map) (φ : Prot) (cs : Array Value), TmOk ι φ [.str s, .int k n] cs → cs = #[.string s, .int k n] := fun ι φ cs h => by
  have hl : cs.size = 2 := by simpa using h.len
  have h0 := (h.rel 0 (by simp)).str_
  have h1 := Rel.int_ (h.rel 1 (by simp))
  refine Array.ext (by simpa using hl) fun i hi hi' => ?_
  rcases Nat.lt_or_ge i 1 with h2 | h2
  · obtain rfl : i = 0 := by omega
    rw [Array.getD_eq_getD_getElem?, Array.getElem?_eq_getElem hi] at h0
    simpa using h0
  · obtain rfl : i = 1 := by omega
    rw [Array.getD_eq_getD_getElem?, Array.getElem?_eq_getElem hi] at h1
    simpa using h1
end Go.AM

