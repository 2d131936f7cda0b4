/- What exciselaw11 asks of sections, read from a row's argument. -/
import Derived.Test.YthjgnmpnagmeoaaAmIg
set_option linter.unusedVariables false
set_option linter.unusedSimpArgs false
set_option maxRecDepth 100000
namespace Go.AM
open Go.RowKit
section
variable {H : Type} {P : Program} {φ : Prot} {T : TypeId → TD} {tD tS tSI tI tSS tE t7 tSP tP tSe tL tA : TypeId} {bulk : DataW H → Nat}
abbrev tdAk (tSe : TypeId) : TD := .struct [.slice tSe 5 64, .int .i64, .int .i64, .int .i64]
theorem open_akB (hE : T tE = tdX tE 176) (hI : T tI = tdIt tE 176) (hS : T tSe = tdSe tI) (hw : DefW P tD tS tSI tI tSS tE t7 tSP tP) (hse : ∃ fs, P.underlying tSe = some (.struct fs) ∧ (fs.toList.map (·.type))[4]? = some tSI) (hL : P.underlying tL = some (.slice tSe)) (hA : ∃ fs, P.underlying tA = some (.struct fs) ∧ (fs.toList.map (·.type))[0]? = some tL) (hb : Bulk bulk) : ∀ (fuel : Nat) (vs : List Val) (cs : List Value) (dd : DataW H), TyD T fuel (tdAk tSe) vs dd → CellsRel φ vs cs →
    ∃ (l : List Se) (n s i : Int), (I64 n ∧ I64 s ∧ I64 i ∧ (lite P bulk tA dd → ∀ s ∈ l, s.Ok) ∧ SesOk l (bulk dd)) ∧ CellsRel φ [eL 5 cSe l, .int .i64 n, .int .i64 s, .int .i64 i] cs := by
  intro fuel vs cs dd hty hc
  cases fuel with
  | zero => exact hty.elim
  | succ f =>
    rw [TyD, TyDS] at hty
    obtain ⟨parts, rfl, hty⟩ := hty
    obtain ⟨a0, r0, d0, q0, e0, g0, t0, hty⟩ := tyDF_cons hty
    obtain ⟨a1, r1, d1, q1, e1, g1, t1, hty⟩ := tyDF_cons hty
    obtain ⟨a2, r2, d2, q2, e2, g2, t2, hty⟩ := tyDF_cons hty
    obtain ⟨a3, r3, d3, q3, e3, g3, t3, hty⟩ := tyDF_cons hty
    obtain ⟨z1, z2⟩ := tyDF_nil hty
    obtain ⟨n, rfl, hn⟩ := tyDS_i64 t1
    obtain ⟨s, rfl, hs⟩ := tyDS_i64 t2
    obtain ⟨i, rfl, hi⟩ := tyDS_i64 t3
    subst z1 z2 g3 g2 g1 g0 e3 e2 e1 e0
    have hx : TyD T (f + 1) (.slice tSe 5 64) a0 d0 := by rw [TyD]; exact t0
    obtain ⟨n1, get1, el1, sp1, ha, _⟩ := tyDS_slice t0
    have hc' : CellsRel φ ([] ++ (a0 ++ [.int .i64 n, .int .i64 s, .int .i64 i])) cs := by simpa using hc
    have hp := hc'.part
    obtain ⟨l, ⟨h1, h2⟩, h3⟩ := open_sesB hE hI hS hw hse hL hb (f + 1) 64 a0 _ d0 hx hp
    have hlen : [eL 5 cSe l].length = a0.length := by rw [ha]; rfl
    have hm := hc'.mid hlen (part_rel h3 hlen)
    have hba := hb.agg [d0, d1, d2, d3] d0 (by simp)
    obtain ⟨fs, hfs, h0⟩ := hA
    exact ⟨l, n, s, i, ⟨hn, hs, hi, fun hl => h1 (lite_agg hb hfs hl h0 rfl), ⟨h2.len, Nat.le_trans h2.many (by omega), fun s hs i hi => Nat.le_trans (h2.cnt s hs i hi) (by omega)⟩⟩, by simpa using hm⟩
end
end Go.AM

