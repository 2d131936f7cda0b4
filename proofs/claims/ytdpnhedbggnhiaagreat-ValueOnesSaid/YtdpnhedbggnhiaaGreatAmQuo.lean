/- A text in quotes, as it is specified. -/
import Derived.Test.YtdpnhedbggnhiaaGreatAmGL
set_option linter.unusedVariables false
set_option linter.unusedSimpArgs false
set_option maxRecDepth 100000
namespace Go.AM
def hexD (n : Nat) : UInt8 := if n < 10 then UInt8.ofNat (48 + n) else UInt8.ofNat (87 + n)
def quo1 (c : UInt8) : List UInt8 := if c.toNat < 32 ∨ 126 < c.toNat then [92, 120, hexD (c.toNat / 16), hexD (c.toNat % 16)] else if c.toNat = 34 ∨ c.toNat = 92 then [92, c] else [c]
def quoL (s : List UInt8) : List UInt8 := 34 :: (s.flatMap quo1 ++ [34])
theorem quo1_len (c : UInt8) : (quo1 c).length ≤ 4 := by
  unfold quo1
  split
  · simp
  · split <;> simp
theorem quoL_len : ∀ s : List UInt8, (s.flatMap quo1).length ≤ 4 * s.length
  | [] => by simp
  | c :: s => by
    rw [List.flatMap_cons, List.length_append, List.length_cons]
    have := quo1_len c
    have := quoL_len s
    omega
theorem take_quo {s : List UInt8} {k : Nat} {c : UInt8} (h : s[k]? = some c) : (s.take (k + 1)).flatMap quo1 = (s.take k).flatMap quo1 ++ quo1 c := by
  have hk : k < s.length := by
    rcases Nat.lt_or_ge k s.length with h1 | h1
    · exact h1
    · rw [List.getElem?_eq_none h1] at h; cases h
  have e : s[k] = c := by rw [List.getElem?_eq_getElem hk] at h; simpa using h
  rw [List.take_succ_eq_append_getElem hk, List.flatMap_append, e]
  simp
end Go.AM

