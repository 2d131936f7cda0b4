/- A row is what it holds below its length: a contract may be read with another function that agrees there. -/
import Derived.Test.YthjgnmpnagmeoaaAmHd
set_option linter.unusedVariables false
set_option linter.unusedSimpArgs false
set_option maxRecDepth 100000
namespace Go.AM
open Go
theorem BlkOk.row_get {ι : Map} {φ : Prot} {w : World} {b : Nat} {t : TypeId} {sz n pr : Nat} {g g' : Nat → List Val} (hg : ∀ i, i < n → g' i = g i) (h : BlkOk ι φ w b (.row t sz n g pr)) : BlkOk ι φ w b (.row t sz n g' pr) := by
  obtain ⟨k, c, arr, e, hh, h0, hs, hnc, hc, hpr, hl, hr, h1, hf⟩ := h
  exact ⟨k, c, arr, e, hh, h0, hs, hnc, hc, hpr, fun i hi => by rw [hg i hi]; exact hl i hi, fun i j hi hj => by rw [hg i hi]; exact hr i j hi hj, h1, hf⟩
theorem Ret.inG {P : Program} {f : FuncId} {as' : List Val} {t : TypeId} {sz n pr : Nat} {g g' : Nat → List Val} {h h' : List Blk} {v : Val} (hr : Ret P f as' (.row t sz n g pr :: h) v h') (hg : ∀ i, i < n → g' i = g i) : Ret P f as' (.row t sz n g' pr :: h) v h' := by
  have e : ∀ ι k, handed ι (Blk.row t sz n g pr :: h) k ↔ handed ι (Blk.row t sz n g' pr :: h) k := fun ι k => by
    constructor
    · rintro ⟨b, c, h1, h2, h3⟩
      refine ⟨b, c, by simpa using h1, ?_, h3⟩
      cases b with
      | zero => simp [getH]
      | succ b => simpa [getH] using h2
    · rintro ⟨b, c, h1, h2, h3⟩
      refine ⟨b, c, by simpa using h1, ?_, h3⟩
      cases b with
      | zero => simp [getH]
      | succ b => simpa [getH] using h2
  have e' : ∀ ι, handed ι (Blk.row t sz n g pr :: h) = handed ι (Blk.row t sz n g' pr :: h) := fun ι => funext fun k => propext (e ι k)
  refine ⟨hr.1, fun ι φ w cargs h1 h2 h3 => ?_⟩
  have := hr.2 ι φ w cargs (by simpa using h1) ⟨fun b => ?_, fun b b' k c c' hb hb' => ?_, h2.prot⟩ h3
  · rw [e'] at this
    exact this
  · cases b with
    | zero => exact BlkOk.row_get (fun i hi => (hg i hi).symm) (h2.blk 0)
    | succ b => exact h2.blk (b + 1)
  · refine h2.inj b b' k c c' ?_ ?_
    · cases b with
      | zero => simp [getH]
      | succ b => simpa [getH] using hb
    · cases b' with
      | zero => simp [getH]
      | succ b' => simpa [getH] using hb'
end Go.AM

