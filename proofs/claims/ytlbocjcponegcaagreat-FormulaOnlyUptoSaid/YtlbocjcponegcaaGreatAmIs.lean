/- A function's body held against the model piece by piece: some pieces by the abstract machine, some by hand. -/
import Derived.Test.YtlbocjcponegcaaGreatAmHf
import Derived.Test.YtlbocjcponegcaaGreatAmHn
import Derived.Test.YtlbocjcponegcaaGreatAmGV
set_option linter.unusedVariables false
set_option linter.unusedSimpArgs false
set_option maxRecDepth 100000
namespace Go.AM
noncomputable section
open Go.RowKit

/-- What a piece of code does, whoever shows it. -/
structure Holds (P : Program) (n : Nat) (c : Code) (tm : List Val) (hp : List Blk) (K : Kont) : Prop where
  run : ∀ (w0 : World) (S : Nat → Prop) (φ0 : Prot) (ι0 : Map) (Q : Exit → Act → World → Prop) (a : Act) (w : World), St w0 S φ0 ι0 n tm hp a w →
    (∀ e tm hp a w, K e tm hp → St w0 S φ0 ι0 n tm hp a w → Q e.to a w) → c.wp P Q a w
theorem Holds.seq {P : Program} {n : Nat} {c d : Code} {tm : List Val} {hp : List Blk} {K : Kont} (h : Holds P n c tm hp (thenK (fun tm hp K => Holds P n d tm hp K) K)) : Holds P n (.seq c d) tm hp K := by
  refine ⟨fun w0 S φ0 ι0 Q a w hs hQ => ?_⟩
  refine wp_seq (h.run w0 S φ0 ι0 _ a w hs fun e tm hp a w hk hs => ?_)
  cases e with
  | normal => exact hk.run w0 S φ0 ι0 Q a w hs hQ
  | exit id => exact hQ (.exit id) tm hp a w hk hs
  | goto l => exact hQ (.goto l) tm hp a w hk hs
  | ret => exact hQ .ret tm hp a w hk hs

end
end Go.AM

set_option linter.unusedVariables false
set_option linter.unusedSimpArgs false
set_option maxRecDepth 100000
namespace Go.AM
noncomputable section
theorem Holds.gc {P : Program} {n : Nat} {c : Code} {tm : List Val} {hp : List Blk} {K : Kont} (ks : List Nat) (m : List Bool) (hk : keepB n ks = true) (h : gcK ks m tm hp fun tm hp => Holds P n c tm hp K) : Holds P n c tm hp K :=
  ⟨fun w0 S φ0 ι0 Q a w hs hQ => by
    obtain ⟨tm', hp', h1, h2⟩ := hs.gc hk h
    exact h1.run w0 S φ0 ι0 Q a w h2 hQ⟩
/-- The second of two pieces shown ahead. -/
theorem Holds.cut {P : Program} {n : Nat} {c d : Code} {tm : List Val} {hp : List Blk} {K : Kont} (Q : Code → Kont → Prop) (h2 : Q d K) (h1 : ∀ d', Q d' K → Holds P n c tm hp (thenK (fun tm hp K => Holds P n d' tm hp K) K)) : Holds P n (.seq c d) tm hp K := Holds.seq (h1 d h2)
end
end Go.AM

