/- exciseref11.ranked. -/
import Derived.Test.YthjgnmpnagmeoaaAmIk
set_option linter.unusedVariables false
set_option linter.unusedSimpArgs false
set_option maxRecDepth 100000
namespace Go.Proofs.Ythjgnmpnagmeoaa
open Go.AM
/-- a row of numbers, whatever lies behind its end -/
def gU (L : List Int) : Nat → List Val := fun i => cI (L.getD i 0)
theorem gU_zero (M : Nat) : (fun _ => [Val.int .i64 0]) = gU (List.replicate M 0) := by
  funext i
  unfold gU
  rw [List.getD_eq_getElem?_getD]
  by_cases h : i < M
  · rw [List.getElem?_eq_getElem (by simpa using h)]; simp [cI]
  · rw [List.getElem?_eq_none (by simpa using h)]; rfl
theorem gU_set {L : List Int} {i : Nat} {v : Int} (h : i < L.length) : (fun k => if k = i then (gU L i).take 0 ++ [Val.int .i64 v] ++ (gU L i).drop (0 + [Val.int .i64 v].length) else gU L k) = gU (L.set i v) := by
  funext k
  unfold gU
  rw [List.getD_eq_getElem?_getD (l := L.set i v), List.getElem?_set]
  by_cases e : k = i
  · subst e
    rw [if_pos rfl, if_pos rfl, if_pos h]
    rfl
  · rw [if_neg e, if_neg (fun e' => e e'.symm), ← List.getD_eq_getElem?_getD]
theorem gU_ext (L : List Int) : ExtL cI L.length (gU L) L := ⟨rfl, fun i h => by unfold gU; rw [List.getD_eq_getElem?_getD, List.getElem?_eq_getElem h]; rfl⟩
def ini (M k : Nat) : List Int := List.replicate k (-1) ++ List.replicate (M - k) 0
theorem ini_len {M k : Nat} (h : k ≤ M) : (ini M k).length = M := by simp [ini]; omega
theorem ini_set {M k : Nat} (h : k < M) : (ini M k).set k (-1) = ini M (k + 1) := by
  unfold ini
  rw [List.set_append_right _ _ (by simp)]
  simp only [List.length_replicate, Nat.sub_self]
  obtain ⟨d, hd⟩ : ∃ d, M - k = d + 1 := ⟨M - k - 1, by omega⟩
  rw [hd, show M - (k + 1) = d by omega, List.replicate_succ, List.set_cons_zero, List.replicate_succ']
  simp
theorem ini_all (M : Nat) : ini M M = rOf M [] := by
  refine rl_eq ⟨ini_len (Nat.le_refl _), fun k hk => ?_⟩
  unfold ini
  rw [Nat.sub_self, List.getD_eq_getElem?_getD]
  simp [hk, aget]
theorem rkAt_of {M : Nat} {es : RkM} {j : Int} (h0 : 0 ≤ j) (h1 : j < (M : Int)) : rkAt (rOf M es) j = rkOf es j := by
  have := (rOf_rl M es).at' j.toNat (by omega)
  unfold rkAt
  rw [this, Int.toNat_of_nonneg h0]
  rfl
theorem rkOf_lt {M : Nat} {es : RkM} (h : RkOk M es) (j : Int) : -1 ≤ rkOf es j ∧ rkOf es j < (M : Int) + 1 := by
  unfold rkOf
  cases hj : aget j es with
  | none => simp; omega
  | some v =>
    have := h.val j v hj
    have := h.len
    simp
    omega
theorem rankGo_bd {r : List Int} {M : Int} (hr : ∀ j, rkAt r j < M) : ∀ {t : List Int} {q : Int}, -1 ≤ q → q ≤ M → -1 ≤ M → -1 ≤ rankGo r q t ∧ rankGo r q t ≤ M
  | [], q, h1, h2, _ => ⟨h1, h2⟩
  | j :: t, q, h1, h2, h3 => by
    unfold rankGo
    have := hr j
    have hp := pickM_t q (rkAt r j + 1)
    split
    · exact ⟨h1, h2⟩
    · split
      · exact rankGo_bd hr (by omega) (by omega) h3
      · by_cases hb : rkAt r j + 1 > q
        · rw [hp.1 hb]; exact rankGo_bd hr (by omega) (by omega) h3
        · rw [hp.2 hb]; exact rankGo_bd hr h1 h2 h3
theorem rankGo_cons {r : List Int} {q : Int} (h : 0 ≤ q) (j : Int) (t : List Int) : rankGo r q (j :: t) = rankGo r (if rkAt r j < 0 then -1 else pickM true q (rkAt r j + 1)) t := by
  show (if q < 0 then q else _) = _
  rw [if_neg (by omega)]
set_option maxHeartbeats 8000000 in
theorem rranked_go (l : List Se) (gr : List (List Int)) (hG : Ret Try.prog 48 [eL 5 cSe l] [] (eL 1 cRow gr) []) (hM : gr.length ≤ 1048576) (hrl : ∀ r ∈ gr, r.length ≤ 1048576) (hin : ∀ r ∈ gr, ∀ j ∈ r, 0 ≤ j ∧ j < (gr.length : Int)) :
    Ret Try.prog 45 [eL 5 cSe l] [] (.row 0 gr.length) [.row 3 1 gr.length (gU (rOf gr.length (rankE gr))) 0] := by
  have hfin : fixE (gr.length + 1) gr [] = rankE gr := rfl
  have hok := rankE_ok gr
  have hz := gU_zero gr.length
  have hi0 : List.replicate gr.length (0 : Int) = ini gr.length 0 := by simp [ini]
  rw [hi0] at hz
  generalize rankE gr = R at *
  refine ret_of_body atNone tok mixed Try.func45 (by kernel_rfl) rfl (k := 82) (rs := [.tmp 2]) (by kernel_rfl) (by kernel_rfl) ?_
  (conv => whnf) <;> repeat' (first | (rw [hz]; conv => whnf) | ((first | refine wN ?_ | refine wNc ?_ | refine wA ?_ | refine wB ?_ | refine wC ?_ | refine wD ?_ | refine Called.mk _ _ (hG) ?_ | refine vA ?_ | refine vB ?_ | refine vC ?_ | refine vD ?_ | refine uA ?_ | refine uB ?_ | refine uC ?_ | refine uD ?_); conv => whnf) | ((first | apply Pick.dec | apply Pick.beq | apply Cond.dec | apply Cond.beq | apply Cond.nd | apply Pick.nd | apply Pick.mk | apply Cond.mk) <;> intro h <;> conv => whnf))
  intro J0 j0w j0s
  have main : J0 [.und, .und, .und, eL 1 cRow gr, .row 0 gr.length, .int .i64 (gr.length : Int), .und, .und, .und, .und, .und, .und, .und, .und, .und, .und, .und, .und, .und, .und, .und, .und, .und, .und, .und, .und, .und, .und, .und, .und, .und, .und, .und, .und, .und, .und, .und, .und, .und, .und, .und, .und, .und, .und, .und, .und, .und, .und, .und, .und, .und, .und, .und, .und, .und, .und, .und, .und, .und, .und, .und, .und, .und, .und, .und, .und, .und, .und, .und, .und, .und, .und, .und, .und, .und, .und, .und, .und, .und, .und, .und, .und] [.row 3 1 gr.length (gU (rOf gr.length [])) 0] := by
    clear j0w
    apply j0s
    conv => whnf
    refine Cond.ff (decF (by omega)) ?_
    clear j0s
    (conv => whnf) <;> repeat' (first | ((first | refine wN ?_ | refine wNc ?_ | refine wA ?_ | refine wB ?_ | refine wC ?_ | refine wD ?_ | refine vA ?_ | refine vB ?_ | refine vC ?_ | refine vD ?_ | refine uA ?_ | refine uB ?_ | refine uC ?_ | refine uD ?_); conv => whnf) | ((first | apply Pick.dec | apply Pick.beq | apply Cond.dec | apply Cond.beq | apply Cond.nd | apply Pick.nd | apply Pick.mk | apply Cond.mk) <;> intro h <;> conv => whnf))
    intro J jw js
    have done : J [.und, .und, .und, eL 1 cRow gr, .row 0 gr.length, .und, .bool false, .und, .und, .und, .und, .und, .und, .und, .und, .und, .und, .und, .und, .und, .und, .und, .und, .und, .und, .und, .und, .und, .und, .und, .und, .und, .und, .und, .und, .und, .und, .und, .und, .und, .und, .und, .und, .und, .und, .und, .und, .und, .und, .und, .und, .und, .und, .und, .und, .und, .und, .und, .und, .und, .und, .und, .und, .und, .und, .und, .und, .und, .und, .und, .und, .und, .und, .und, .und, .und, .und, .und, .und, .und, .und, .und] [.row 3 1 gr.length (gU (rOf gr.length R)) 0] := by
      apply js
      conv => whnf
      refine Cond.ff rfl ?_
      (conv => whnf) <;> repeat' (first | ((first | refine wN ?_ | refine wNc ?_ | refine wA ?_ | refine wB ?_ | refine wC ?_ | refine wD ?_ | refine vA ?_ | refine vB ?_ | refine vC ?_ | refine vD ?_ | refine uA ?_ | refine uB ?_ | refine uC ?_ | refine uD ?_); conv => whnf) | ((first | apply Pick.dec | apply Pick.beq | apply Cond.dec | apply Cond.beq | apply Cond.nd | apply Pick.nd | apply Pick.mk | apply Cond.mk) <;> intro h <;> conv => whnf))
      exact EndH.mk [0] rfl rfl rfl
    have pass : ∀ (f : Nat) (es : RkM), RkOk gr.length es → gr.length < f + es.length → fixE f gr es = R →
        J [.und, .und, .und, eL 1 cRow gr, .row 0 gr.length, .und, .bool true, .und, .und, .und, .und, .und, .und, .und, .und, .und, .und, .und, .und, .und, .und, .und, .und, .und, .und, .und, .und, .und, .und, .und, .und, .und, .und, .und, .und, .und, .und, .und, .und, .und, .und, .und, .und, .und, .und, .und, .und, .und, .und, .und, .und, .und, .und, .und, .und, .und, .und, .und, .und, .und, .und, .und, .und, .und, .und, .und, .und, .und, .und, .und, .und, .und, .und, .und, .und, .und, .und, .und, .und, .und, .und, .und] [.row 3 1 gr.length (gU (rOf gr.length es)) 0] := by
      intro f
      induction f with
      | zero => intro es ho hf _; have := ho.len; omega
      | succ f ihf =>
        intro es ho hf hR
        have h1 := passL_pre 0 gr es
        have h2 := passL_ok (k := 0) (g := gr) (M := gr.length) (by omega) ho
        apply js
        conv => whnf
        refine Cond.tt rfl ?_
        (conv => whnf) <;> repeat' (first | ((first | refine wN ?_ | refine wNc ?_ | refine wA ?_ | refine wB ?_ | refine wC ?_ | refine wD ?_ | refine vA ?_ | refine vB ?_ | refine vC ?_ | refine vD ?_ | refine uA ?_ | refine uB ?_ | refine uC ?_ | refine uD ?_); conv => whnf) | ((first | apply Pick.dec | apply Pick.beq | apply Cond.dec | apply Cond.beq | apply Cond.nd | apply Pick.nd | apply Pick.mk | apply Cond.mk) <;> intro h <;> conv => whnf))
        intro K kw ks
        have inner : ∀ (d k : Nat) (e2 : RkM) (b : Bool), k + d = gr.length → RkOk gr.length e2 → es <+: e2 → b = decide (e2.length ≠ es.length) → passL k (gr.drop k) e2 = passL 0 gr es →
            K [.und, .und, .und, eL 1 cRow gr, .row 0 gr.length, .und, .bool b, .int .i64 (k : Int), .und, .und, .und, .und, .und, .und, .und, .und, .und, .und, .und, .und, .und, .und, .und, .und, .und, .und, .und, .und, .und, .und, .und, .und, .und, .und, .und, .und, .und, .und, .und, .und, .und, .und, .und, .und, .und, .und, .und, .und, .und, .und, .und, .und, .und, .und, .und, .und, .und, .und, .und, .und, .und, .und, .und, .und, .und, .und, .und, .und, .und, .und, .und, .und, .und, .und, .und, .und, .und, .und, .und, .und, .und, .und] [.row 3 1 gr.length (gU (rOf gr.length e2)) 0] := by
          intro d
          induction d with
          | zero =>
            intro k e2 b hk ho2 hpre hb he
            rw [List.drop_of_length_le (by omega)] at he
            have he : e2 = passL 0 gr es := he
            apply ks
            conv => whnf
            refine Cond.ff (decF (by omega)) ?_
            (conv => whnf) <;> repeat' (first | ((first | refine wN ?_ | refine wNc ?_ | refine wA ?_ | refine wB ?_ | refine wC ?_ | refine wD ?_ | refine vA ?_ | refine vB ?_ | refine vC ?_ | refine vD ?_ | refine uA ?_ | refine uB ?_ | refine uC ?_ | refine uD ?_); conv => whnf) | ((first | apply Pick.dec | apply Pick.beq | apply Cond.dec | apply Cond.beq | apply Cond.nd | apply Pick.nd | apply Pick.mk | apply Cond.mk) <;> intro h <;> conv => whnf))
            by_cases hl : e2.length = es.length
            · have hbf : b = false := by rw [hb]; exact decide_eq_false (by simpa using hl)
              subst hbf
              have e3 : e2 = es := pre_len hpre (by omega)
              have e4 : fixE (f + 1) gr es = es := by unfold fixE; rw [if_pos (by rw [← he]; exact hl)]
              have e5 : e2 = R := by rw [e3, ← hR, e4]
              subst e5
              apply jw [0] [false, false, false, true, true, false, true] _ _ rfl
              exact done
            · have hbt : b = true := by rw [hb]; exact decide_eq_true hl
              subst hbt
              have hlen := hpre.length_le
              have e4 : fixE (f + 1) gr es = fixE f gr e2 := by
                show (if (passL 0 gr es).length = es.length then es else fixE f gr (passL 0 gr es)) = _
                rw [← he, if_neg hl]
              apply jw [0] [false, false, false, true, true, false, true] _ _ rfl
              exact ihf e2 ho2 (by omega) (by rw [← e4]; exact hR)
          | succ d im =>
            intro k e2 b hk ho2 hpre hb he
            have hkl : k < gr.length := by omega
            have gk : getL cRow gr (Int.toNat (k : Int)) = cRow gr[k] := by rw [Int.toNat_natCast]; exact getL_at (List.getElem?_eq_getElem hkl)
            have e1 : IntKind.i64.wrap ((k : Int) + 1) = ((k + 1 : Nat) : Int) := by rw [wi64_id (by omega) (by omega)]; omega
            have hrk := hrl gr[k] (List.getElem_mem hkl)
            have hik := hin gr[k] (List.getElem_mem hkl)
            rw [List.drop_eq_getElem_cons hkl] at he
            have he : passL (k + 1) (gr.drop (k + 1)) (rkStep k gr[k] e2) = passL 0 gr es := he
            have hso := rkStep_ok (r := gr[k]) hkl ho2
            have hsp := hpre.trans (rkStep_pre k gr[k] e2)
            have hst := rOf_step (k := k) ho2 hkl hik
            have hiff := ((rOf_rl gr.length e2).step (k := k) ho2 hkl hik).2.2
            have im := im (k + 1) (rkStep k gr[k] e2)
            have hlen := hpre.length_le
            have hlen2 := ho2.len
            have hbd := rkOf_lt ho2
            have hat := fun j (h : 0 ≤ j ∧ j < (gr.length : Int)) => rkAt_of (es := e2) h.1 h.2
            have hl2 := rOf_len gr.length e2
            have hrkk := rkAt_of (M := gr.length) (es := e2) (j := (k : Int)) (by omega) (by omega)
            have hgs := fun v => gU_set (L := rOf gr.length e2) (i := k) (v := v) (by rw [hl2]; exact hkl)
            have hbk := (rankGo_bd (r := rOf gr.length e2) (M := 1048577) (t := gr[k]) (q := 0) (fun j => by
              by_cases hj : 0 ≤ j ∧ j < (gr.length : Int)
              · rw [hat j hj]; have := hbd j; omega
              · unfold rkAt
                rw [List.getD_eq_getElem?_getD]
                by_cases h5 : j.toNat < (rOf gr.length e2).length
                · have h6 : j.toNat = 0 := by omega
                  have h7 := rkAt_of (M := gr.length) (es := e2) (j := 0) (by omega) (by omega)
                  unfold rkAt at h7
                  rw [List.getD_eq_getElem?_getD] at h7
                  rw [h6, show (0 : Nat) = (0 : Int).toNat from rfl, h7]
                  have := hbd 0; omega
                · rw [List.getElem?_eq_none (by omega)]; simp) (by omega) (by omega) (by omega))
            generalize gr[k] = r at *
            generalize rOf gr.length e2 = L at *
            apply ks
            conv => whnf
            refine Cond.tt (decT (by omega)) ?_
            (conv => whnf) <;> repeat' (first | ((first | refine wN ?_ | refine wNc ?_ | refine wA ?_ | refine wB ?_ | refine wC ?_ | refine wD ?_ | refine vA ?_ | refine vB ?_ | refine vC ?_ | refine vD ?_ | refine uA ?_ | refine uB ?_ | refine uC ?_ | refine uD ?_); conv => whnf) | ((first | apply Pick.dec | apply Pick.beq | apply Cond.dec | apply Cond.beq | apply Cond.nd | apply Pick.nd | apply Pick.mk | apply Cond.mk) <;> intro h <;> conv => whnf))
            intro I iw is
            have rank : ∀ (e i : Nat) (q : Int), i + e = r.length → -1 ≤ q → q ≤ 1048577 → rankGo L 0 r = rankGo L q (r.drop i) →
                I [.und, .und, .und, eL 1 cRow gr, .row 0 gr.length, .und, .bool b, .int .i64 (k : Int), .int .i64 q, .int .i64 (i : Int), .und, .und, .und, .und, .und, .und, .und, .und, .und, .und, .und, .und, .und, .und, .und, .und, .und, .und, .und, .und, .und, .und, .und, .und, .und, .und, .und, .und, .und, .und, .und, .und, .und, .und, .und, .und, .und, .und, .und, .und, .und, .und, .und, .und, .und, .und, .und, .und, .und, .und, .und, .und, .und, .und, .und, .und, .und, .und, .und, .und, .und, .und, .und, .und, .und, .und, .und, .und, .und, .und, .und, .und] [.row 3 1 gr.length (gU L) 0] := by
              -- the loop is left with rank q
              have out : ∀ (i : Nat) (q : Int), rankGo L 0 r = q → ¬ (i < r.length ∧ 0 ≤ q) → i ≤ r.length →
                  I [.und, .und, .und, eL 1 cRow gr, .row 0 gr.length, .und, .bool b, .int .i64 (k : Int), .int .i64 q, .int .i64 (i : Int), .und, .und, .und, .und, .und, .und, .und, .und, .und, .und, .und, .und, .und, .und, .und, .und, .und, .und, .und, .und, .und, .und, .und, .und, .und, .und, .und, .und, .und, .und, .und, .und, .und, .und, .und, .und, .und, .und, .und, .und, .und, .und, .und, .und, .und, .und, .und, .und, .und, .und, .und, .und, .und, .und, .und, .und, .und, .und, .und, .und, .und, .und, .und, .und, .und, .und, .und, .und, .und, .und, .und, .und] [.row 3 1 gr.length (gU L) 0] := by
                intro i q hq hn hil
                rw [hq] at hiff hbk
                by_cases hc : 0 ≤ q ∧ rkAt L (k : Int) < 0
                · have hs : L.set k q = rOf gr.length (rkStep k r e2) := by rw [← hst]; unfold stepR; rw [hq, if_pos hc]
                  have hgs := hgs q
                  rw [hs] at hgs
                  have hne := hiff.1 hc
                  have hlen3 := (rkStep_pre k r e2).length_le
                  obtain ⟨hc0, hc1⟩ := hc
                  have hi2 : ¬ i < r.length := fun h => hn ⟨h, hc0⟩
                  unfold rkAt at hc1
                  rw [Int.toNat_natCast] at hc1
                  apply is
                  (conv => whnf) <;> repeat' (first | ((conv => arg 1; whnf); rw [gk]; conv => whnf) | ((first | refine wN ?_ | refine wNc ?_ | refine wA ?_ | refine wB ?_ | refine wC ?_ | refine wD ?_ | refine vA ?_ | refine vB ?_ | refine vC ?_ | refine vD ?_ | refine uA ?_ | refine uB ?_ | refine uC ?_ | refine uD ?_); conv => whnf) | ((first | apply Pick.dec | apply Pick.beq | apply Cond.dec | apply Cond.beq | apply Cond.nd | apply Pick.nd | apply Pick.mk | apply Cond.mk) <;> intro h <;> conv => whnf))
                  rw [e1]
                  apply kw [0] [false, false, false, true, true, false, true, true] _ _ rfl
                  rw [show (Int.toNat (k : Int)) = k from Int.toNat_natCast k, hgs]
                  exact im true (by omega) hso hsp (decide_eq_true (by omega)).symm he
                · have hs : L = rOf gr.length (rkStep k r e2) := by rw [← hst]; unfold stepR; rw [hq, if_neg hc]
                  have hsame : (rkStep k r e2).length = e2.length := Classical.byContradiction fun h => hc (hiff.2 h)
                  have im := im b (by omega) hso hsp (by rw [hsame]; exact hb) he
                  rw [← hs] at im
                  clear hs hgs hst
                  apply is
                  by_cases hq0 : 0 ≤ q
                  · have hi2 : ¬ i < r.length := fun h => hn ⟨h, hq0⟩
                    have hc1 : ¬ rkAt L (k : Int) < 0 := fun h => hc ⟨hq0, h⟩
                    unfold rkAt at hc1
                    rw [Int.toNat_natCast] at hc1
                    (conv => whnf) <;> repeat' (first | ((conv => arg 1; whnf); rw [gk]; conv => whnf) | ((first | refine wN ?_ | refine wNc ?_ | refine wA ?_ | refine wB ?_ | refine wC ?_ | refine wD ?_ | refine vA ?_ | refine vB ?_ | refine vC ?_ | refine vD ?_ | refine uA ?_ | refine uB ?_ | refine uC ?_ | refine uD ?_); conv => whnf) | ((first | apply Pick.dec | apply Pick.beq | apply Cond.dec | apply Cond.beq | apply Cond.nd | apply Pick.nd | apply Pick.mk | apply Cond.mk) <;> intro h <;> conv => whnf))
                    rw [e1]
                    apply kw [0] [false, false, false, true, true, false, true, true] _ _ rfl
                    exact im
                  · by_cases hi2 : i < r.length
                    · (conv => whnf) <;> repeat' (first | ((conv => arg 1; whnf); rw [gk]; conv => whnf) | ((first | refine wN ?_ | refine wNc ?_ | refine wA ?_ | refine wB ?_ | refine wC ?_ | refine wD ?_ | refine vA ?_ | refine vB ?_ | refine vC ?_ | refine vD ?_ | refine uA ?_ | refine uB ?_ | refine uC ?_ | refine uD ?_); conv => whnf) | ((first | apply Pick.dec | apply Pick.beq | apply Cond.dec | apply Cond.beq | apply Cond.nd | apply Pick.nd | apply Pick.mk | apply Cond.mk) <;> intro h <;> conv => whnf))
                      rw [e1]
                      apply kw [0] [false, false, false, true, true, false, true, true] _ _ rfl
                      exact im
                    · (conv => whnf) <;> repeat' (first | ((conv => arg 1; whnf); rw [gk]; conv => whnf) | ((first | refine wN ?_ | refine wNc ?_ | refine wA ?_ | refine wB ?_ | refine wC ?_ | refine wD ?_ | refine vA ?_ | refine vB ?_ | refine vC ?_ | refine vD ?_ | refine uA ?_ | refine uB ?_ | refine uC ?_ | refine uD ?_); conv => whnf) | ((first | apply Pick.dec | apply Pick.beq | apply Cond.dec | apply Cond.beq | apply Cond.nd | apply Pick.nd | apply Pick.mk | apply Cond.mk) <;> intro h <;> conv => whnf))
                      rw [e1]
                      apply kw [0] [false, false, false, true, true, false, true, true] _ _ rfl
                      exact im
              intro e
              induction e with
              | zero =>
                intro i q hi hq0 hq1 hg
                rw [List.drop_of_length_le (by omega)] at hg
                exact out i q hg (fun h => by omega) (by omega)
              | succ e ie =>
                intro i q hi hq0 hq1 hg
                have hil : i < r.length := by omega
                by_cases hqn : q < 0
                · rw [rankGo_neg L hqn] at hg
                  exact out i q hg (fun h => by omega) (by omega)
                · have gi : getL cI r (Int.toNat (i : Int)) = cI r[i] := by rw [Int.toNat_natCast]; exact getL_at (List.getElem?_eq_getElem hil)
                  have e3 : IntKind.i64.wrap ((i : Int) + 1) = ((i + 1 : Nat) : Int) := by rw [wi64_id (by omega) (by omega)]; omega
                  have hj := hik r[i] (List.getElem_mem hil)
                  rw [List.drop_eq_getElem_cons hil, rankGo_cons (by omega)] at hg
                  have ie := ie (i + 1)
                  generalize r[i] = j at *
                  have hjb := hbd j
                  have haj := hat j hj
                  have ew : IntKind.i64.wrap (rkAt L j + 1) = rkAt L j + 1 := wi64_id (by omega) (by omega)
                  have hjm : rkOf e2 j ≤ 1048576 := by omega
                  rw [← haj] at hjb hjm
                  clear haj
                  unfold rkAt at hg ew hjb hjm
                  generalize hv : L.getD j.toNat 0 = v at *
                  by_cases hv0 : v < 0
                  · rw [if_pos hv0] at hg
                    have ie := ie (-1) (by omega) (by omega) (by omega) hg
                    apply is
                    (conv => whnf) <;> repeat' (first | ((conv => arg 1; whnf); rw [gk]; conv => whnf) | ((conv => arg 1; whnf); rw [gi]; conv => whnf) | (rw [hv]; conv => whnf) | ((first | refine wN ?_ | refine wNc ?_ | refine wA ?_ | refine wB ?_ | refine wC ?_ | refine wD ?_ | refine vA ?_ | refine vB ?_ | refine vC ?_ | refine vD ?_ | refine uA ?_ | refine uB ?_ | refine uC ?_ | refine uD ?_); conv => whnf) | ((first | apply Pick.dec | apply Pick.beq | apply Cond.dec | apply Cond.beq | apply Cond.nd | apply Pick.nd | apply Pick.mk | apply Cond.mk) <;> intro h <;> conv => whnf))
                    rw [e3]
                    apply iw [0] [false, false, false, true, true, false, true, true, true, true] _ _ rfl
                    exact ie
                  · rw [if_neg hv0] at hg
                    have hp := pickM_t q (v + 1)
                    have ie := ie (pickM true q (v + 1)) (by omega) (by by_cases hb : v + 1 > q; rw [hp.1 hb]; omega; rw [hp.2 hb]; omega) (by by_cases hb : v + 1 > q; rw [hp.1 hb]; omega; rw [hp.2 hb]; omega) hg
                    apply is
                    (conv => whnf) <;> repeat' (first | ((conv => arg 1; whnf); rw [gk]; conv => whnf) | ((conv => arg 1; whnf); rw [gi]; conv => whnf) | (rw [hv]; conv => whnf) | ((first | refine wN ?_ | refine wNc ?_ | refine wA ?_ | refine wB ?_ | refine wC ?_ | refine wD ?_ | refine vA ?_ | refine vB ?_ | refine vC ?_ | refine vD ?_ | refine uA ?_ | refine uB ?_ | refine uC ?_ | refine uD ?_); conv => whnf) | ((first | apply Pick.dec | apply Pick.beq | apply Cond.dec | apply Cond.beq | apply Cond.nd | apply Pick.nd | apply Pick.mk | apply Cond.mk) <;> intro h <;> conv => whnf))
                    rw [e3, ew]
                    apply iw [0] [false, false, false, true, true, false, true, true, true, true] _ _ rfl
                    exact ie
            apply iw [0] [false, false, false, true, true, false, true, true, true, true] _ _ rfl
            exact rank r.length 0 0 (by omega) (by omega) (by omega) rfl
        apply kw [0] [false, false, false, true, true, false, true, true] _ _ rfl
        exact inner gr.length 0 es false (by omega) ho List.prefix_rfl (by simp) rfl
    apply jw [0] [false, false, false, true, true, false, true] _ _ rfl
    exact pass (gr.length + 1) [] (.nil _) (by simp) hfin
  have init : ∀ (d k : Nat), k + d = gr.length → J0 [.und, .und, .und, eL 1 cRow gr, .row 0 gr.length, .int .i64 (k : Int), .und, .und, .und, .und, .und, .und, .und, .und, .und, .und, .und, .und, .und, .und, .und, .und, .und, .und, .und, .und, .und, .und, .und, .und, .und, .und, .und, .und, .und, .und, .und, .und, .und, .und, .und, .und, .und, .und, .und, .und, .und, .und, .und, .und, .und, .und, .und, .und, .und, .und, .und, .und, .und, .und, .und, .und, .und, .und, .und, .und, .und, .und, .und, .und, .und, .und, .und, .und, .und, .und, .und, .und, .und, .und, .und, .und] [.row 3 1 gr.length (gU (ini gr.length k)) 0] := by
    intro d
    induction d with
    | zero =>
      intro k hk
      obtain rfl : k = gr.length := by omega
      rw [ini_all]
      exact main
    | succ d im =>
      intro k hk
      have hkl : k < gr.length := by omega
      have e1 : IntKind.i64.wrap ((k : Int) + 1) = ((k + 1 : Nat) : Int) := by rw [wi64_id (by omega) (by omega)]; omega
      have hgs := gU_set (L := ini gr.length k) (i := k) (v := -1) (by rw [ini_len (by omega)]; exact hkl)
      rw [ini_set hkl] at hgs
      have im := im (k + 1) (by omega)
      apply j0s
      conv => whnf
      refine Cond.tt (decT (by omega)) ?_
      (conv => whnf) <;> repeat' (first | ((first | refine wN ?_ | refine wNc ?_ | refine wA ?_ | refine wB ?_ | refine wC ?_ | refine wD ?_ | refine vA ?_ | refine vB ?_ | refine vC ?_ | refine vD ?_ | refine uA ?_ | refine uB ?_ | refine uC ?_ | refine uD ?_); conv => whnf) | ((first | apply Pick.dec | apply Pick.beq | apply Cond.dec | apply Cond.beq | apply Cond.nd | apply Pick.nd | apply Pick.mk | apply Cond.mk) <;> intro h <;> conv => whnf))
      rw [e1]
      apply j0w [0] [false, false, false, true, true, true] _ _ rfl
      rw [show (Int.toNat (k : Int)) = k from Int.toNat_natCast k, hgs]
      exact im
  apply j0w [0] [false, false, false, true, true, true] _ _ rfl
  have hz' : (fun _ : Nat => (tab 3).zero) = gU (ini gr.length 0) := hz
  rw [show Int.toNat ((gr.length : Nat) : Int) = gr.length from Int.toNat_natCast _, hz']
  exact init gr.length 0 (by omega)
end Go.Proofs.Ythjgnmpnagmeoaa

set_option linter.unusedVariables false
set_option linter.unusedSimpArgs false
set_option maxRecDepth 100000
namespace Go.Proofs.Ythjgnmpnagmeoaa
open Go.AM
theorem rranked_ret (l : List Se) (hL : LOk l) : Ret Try.prog 45 [eL 5 cSe l] [] (eL 1 cI (rOf (manyN l) (rankE (graphF l)))) [] := by
  have hgl := graphF_len l
  have hm := hL.many
  have h := rranked_go l (graphF l) (all_ret l hL) (by omega) (fun r hr => by
    obtain ⟨k, hk, rfl⟩ := List.mem_iff_getElem.1 hr
    rw [graphF_at]
    exact readsF_len l _ hL) (fun r hr j hj => by
    obtain ⟨k, hk, rfl⟩ := List.mem_iff_getElem.1 hr
    rw [graphF_at] at hj
    rw [hgl]
    exact readsF_lt hj)
  rw [hgl] at h
  have h2 : Ret Try.prog 45 [eL 5 cSe l] [] (.ext 1 (manyN l) (gU (rOf (manyN l) (rankE (graphF l))))) [] := h.lend ⟨rfl, Nat.le_refl _, Nat.le_refl _⟩ rfl
  refine h2.leR (le_extL ?_)
  have := gU_ext (rOf (manyN l) (rankE (graphF l)))
  rw [rOf_len] at this
  exact this
theorem rk_none {M : Nat} {es : RkM} (h : RkOk M es) (k : Int) : decide (rkOf es k < 0) = (aget k es).isNone := by
  unfold rkOf
  cases hk : aget k es with
  | none => simp
  | some v =>
    have := h.val k v hk
    simp
    omega
set_option maxHeartbeats 4000000 in
theorem rstuck_go (l : List Se) (hL : LOk l) (full : List (Int)) (hfull : full = cmpZ (fun (k : Nat) => decide (rkOf (rankE (graphF l)) (k : Int) < 0)) (fun (k : Nat) => (k : Int)) (manyN l) 0) (vt : Val) (ht : List Blk) (h0 : full = [] → vt = .nils ∧ ht = []) (h1 : full ≠ [] → vt = .row 0 full.length ∧ ht = [.row 3 1 full.length (getL cI full) 0]) :
    Ret Try.prog 19 [eL 5 cSe l] [] vt ht := by
  have hRk := rranked_ret l hL
  have hm := hL.many
  have hrl : (((rOf (manyN l) (rankE (graphF l))).length : Nat) : Int) = ((manyN l : Nat) : Int) := by rw [rOf_len]
  have hat : ∀ k : Nat, k < manyN l → getL cI (rOf (manyN l) (rankE (graphF l))) (Int.toNat (k : Int)) = cI (rkOf (rankE (graphF l)) (k : Int)) := fun k hk => by
    rw [Int.toNat_natCast, ← rOf_at (M := manyN l) (by rw [rOf_len]; exact hk)]
    exact getL_at (List.getElem?_eq_getElem (by rw [rOf_len]; exact hk))
  generalize rankE (graphF l) = R at *
  generalize rOf (manyN l) R = rr at *
  refine ret_of_body atNone tok mixed Try.func19 (by kernel_rfl) rfl (k := 24) (rs := [.tmp 2]) (by kernel_rfl) (by kernel_rfl) ?_
  (conv => whnf) <;> repeat' (first | (rw [hrl]; conv => whnf) | ((first | refine wN ?_ | refine wNc ?_ | refine wA ?_ | refine wB ?_ | refine wC ?_ | refine wD ?_ | refine Called.mk _ _ (hRk) ?_ | refine vA ?_ | refine vB ?_ | refine vC ?_ | refine vD ?_ | refine uA ?_ | refine uB ?_ | refine uC ?_ | refine uD ?_); conv => whnf) | ((first | apply Pick.dec | apply Pick.beq | apply Cond.dec | apply Cond.beq | apply Cond.nd | apply Pick.nd | apply Pick.mk | apply Cond.mk) <;> intro h <;> conv => whnf))
  intro J jw js
  have turn : ∀ (d k : Nat) (out : List (Int)), k + d = manyN l → out.length ≤ k → full = out ++ cmpZ (fun (k : Nat) => decide (rkOf R (k : Int) < 0)) (fun (k : Nat) => (k : Int)) d k →
      (out = [] → J [.und, .und, .und, eL 1 cI rr, .nils, .int .i64 (k : Int), .und, .und, .und, .und, .und, .und, .und, .und, .und, .und, .und, .und, .und, .und, .und, .und, .und, .und] []) ∧ (out ≠ [] → J [.und, .und, .und, eL 1 cI rr, .row 0 out.length, .int .i64 (k : Int), .und, .und, .und, .und, .und, .und, .und, .und, .und, .und, .und, .und, .und, .und, .und, .und, .und, .und] [.row 3 1 out.length (getL cI out) 0]) := by
    intro d
    induction d with
    | zero =>
      intro k out hk ho he
      have he : full = out := he.trans (List.append_nil _)
      rw [he] at h0 h1
      refine ⟨fun hn => ?_, fun hn => ?_⟩
      · obtain ⟨rfl, rfl⟩ := h0 hn
        apply js
        (conv => whnf) <;> repeat' (first | (rw [hrl]; conv => whnf) | ((first | refine wN ?_ | refine wNc ?_ | refine wA ?_ | refine wB ?_ | refine wC ?_ | refine wD ?_ | refine Called.mk _ _ (hRk) ?_ | refine vA ?_ | refine vB ?_ | refine vC ?_ | refine vD ?_ | refine uA ?_ | refine uB ?_ | refine uC ?_ | refine uD ?_); conv => whnf) | ((first | apply Pick.dec | apply Pick.beq | apply Cond.dec | apply Cond.beq | apply Cond.nd | apply Pick.nd | apply Pick.mk | apply Cond.mk) <;> intro h <;> conv => whnf))
        exact End.mk rfl rfl
      · obtain ⟨rfl, rfl⟩ := h1 hn
        apply js
        (conv => whnf) <;> repeat' (first | (rw [hrl]; conv => whnf) | ((first | refine wN ?_ | refine wNc ?_ | refine wA ?_ | refine wB ?_ | refine wC ?_ | refine wD ?_ | refine Called.mk _ _ (hRk) ?_ | refine vA ?_ | refine vB ?_ | refine vC ?_ | refine vD ?_ | refine uA ?_ | refine uB ?_ | refine uC ?_ | refine uD ?_); conv => whnf) | ((first | apply Pick.dec | apply Pick.beq | apply Cond.dec | apply Cond.beq | apply Cond.nd | apply Pick.nd | apply Pick.mk | apply Cond.mk) <;> intro h <;> conv => whnf))
        exact EndH.mk [0] rfl rfl rfl
    | succ d im =>
      intro k out hk ho he
      have hkN : k < manyN l := by omega
      have e1 : IntKind.i64.wrap ((k : Int) + 1) = ((k + 1 : Nat) : Int) := by rw [wi64_id (by omega) (by omega)]; omega
      have imS := im (k + 1) out (by omega) (by omega)
      have imG := im (k + 1) (out ++ [(k : Int)]) (by omega) (by rw [List.length_append]; simp; omega)
      have elen : (out ++ [(k : Int)]).length = out.length + 1 := by simp
      have he : full = out ++ (if decide (rkOf R (k : Int) < 0) = true then (k : Int) :: cmpZ (fun (k : Nat) => decide (rkOf R (k : Int) < 0)) (fun (k : Nat) => (k : Int)) d (k + 1) else cmpZ (fun (k : Nat) => decide (rkOf R (k : Int) < 0)) (fun (k : Nat) => (k : Int)) d (k + 1)) := he
      have gk := hat k hkN
      generalize rkOf R (k : Int) = v at *
      by_cases hp : decide (v < 0) = true
      · rw [if_pos hp] at he
        have imG := (imG (by rw [he]; simp)).2 (by simp)
        rw [elen] at imG
        have hp : v < 0 := of_decide_eq_true hp
        refine ⟨fun hn => ?_, fun hn => ?_⟩
        · subst hn
          apply js
          (conv => whnf) <;> repeat' (first | ((conv => arg 1; whnf); rw [gk]; conv => whnf) | (rw [hrl]; conv => whnf) | (rw [getI_one]; conv => whnf) | ((first | refine wN ?_ | refine wNc ?_ | refine wA ?_ | refine wB ?_ | refine wC ?_ | refine wD ?_ | refine vA ?_ | refine vB ?_ | refine vC ?_ | refine vD ?_ | refine uA ?_ | refine uB ?_ | refine uC ?_ | refine uD ?_); conv => whnf) | ((first | apply Pick.dec | apply Pick.beq | apply Cond.dec | apply Cond.beq | apply Cond.nd | apply Pick.nd | apply Pick.mk | apply Cond.mk) <;> intro h <;> conv => whnf))
          rw [e1]
          apply jw [1] [false, false, false, true, true, true] _ _ rfl
          exact imG
        · apply js
          (conv => whnf) <;> repeat' (first | ((conv => arg 1; whnf); rw [gk]; conv => whnf) | (rw [hrl]; conv => whnf) | (rw [getI_snoc]; conv => whnf) | ((first | refine wN ?_ | refine wNc ?_ | refine wA ?_ | refine wB ?_ | refine wC ?_ | refine wD ?_ | refine vA ?_ | refine vB ?_ | refine vC ?_ | refine vD ?_ | refine uA ?_ | refine uB ?_ | refine uC ?_ | refine uD ?_); conv => whnf) | ((first | apply Pick.dec | apply Pick.beq | apply Cond.dec | apply Cond.beq | apply Cond.nd | apply Pick.nd | apply Pick.mk | apply Cond.mk) <;> intro h <;> conv => whnf))
          rw [e1]
          apply jw [2] [false, false, false, true, true, true] _ _ rfl
          exact imG
      · rw [if_neg hp] at he
        have imS := imS he
        have hp : ¬ v < 0 := fun h => hp (decide_eq_true h)
        refine ⟨fun hn => ?_, fun hn => ?_⟩
        · apply js
          (conv => whnf) <;> repeat' (first | ((conv => arg 1; whnf); rw [gk]; conv => whnf) | (rw [hrl]; conv => whnf) | ((first | refine wN ?_ | refine wNc ?_ | refine wA ?_ | refine wB ?_ | refine wC ?_ | refine wD ?_ | refine vA ?_ | refine vB ?_ | refine vC ?_ | refine vD ?_ | refine uA ?_ | refine uB ?_ | refine uC ?_ | refine uD ?_); conv => whnf) | ((first | apply Pick.dec | apply Pick.beq | apply Cond.dec | apply Cond.beq | apply Cond.nd | apply Pick.nd | apply Pick.mk | apply Cond.mk) <;> intro h <;> conv => whnf))
          rw [e1]
          apply jw [] [false, false, false, true, true, true] _ _ rfl
          exact imS.1 hn
        · apply js
          (conv => whnf) <;> repeat' (first | ((conv => arg 1; whnf); rw [gk]; conv => whnf) | (rw [hrl]; conv => whnf) | ((first | refine wN ?_ | refine wNc ?_ | refine wA ?_ | refine wB ?_ | refine wC ?_ | refine wD ?_ | refine vA ?_ | refine vB ?_ | refine vC ?_ | refine vD ?_ | refine uA ?_ | refine uB ?_ | refine uC ?_ | refine uD ?_); conv => whnf) | ((first | apply Pick.dec | apply Pick.beq | apply Cond.dec | apply Cond.beq | apply Cond.nd | apply Pick.nd | apply Pick.mk | apply Cond.mk) <;> intro h <;> conv => whnf))
          rw [e1]
          apply jw [0] [false, false, false, true, true, true] _ _ rfl
          exact imS.2 hn
  apply jw [] [false, false, false, true, true, true] _ _ rfl
  exact (turn (manyN l) 0 [] (by omega) (by simp) (by rw [hfull]; rfl)).1 rfl
theorem rstuck_ret (l : List Se) (hL : LOk l) : Ret Try.prog 19 [eL 5 cSe l] [] (eL 1 cI (stuckF (manyN l) (rankE (graphF l)))) [] := by
  have hf : (stuckF (manyN l) (rankE (graphF l))) = cmpZ (fun (k : Nat) => decide (rkOf (rankE (graphF l)) (k : Int) < 0)) (fun (k : Nat) => (k : Int)) (manyN l) 0 := (by
    have ho := rankE_ok (graphF l)
    have e : (fun k : Int => (aget k (rankE (graphF l))).isNone) = fun k => decide (rkOf (rankE (graphF l)) k < 0) := funext fun k => (rk_none ho k).symm
    unfold stuckF
    rw [e, cmpZ_filter (fun k => decide (rkOf (rankE (graphF l)) k < 0))]
    unfold zeroTo; rw [List.range_eq_range'])
  by_cases he : (stuckF (manyN l) (rankE (graphF l))) = []
  · have h := rstuck_go l hL (stuckF (manyN l) (rankE (graphF l))) hf .nils [] (fun _ => ⟨rfl, rfl⟩) (fun k => absurd he k)
    rw [he]
    exact h.leR le_nils
  · have h := rstuck_go l hL (stuckF (manyN l) (rankE (graphF l))) hf _ _ (fun k => absurd k he) (fun _ => ⟨rfl, rfl⟩)
    exact h.lend ⟨rfl, Nat.le_refl _, Nat.le_refl _⟩ rfl
theorem rranks_ret (l : List Se) (hL : LOk l) : Ret Try.prog 15 [eL 5 cSe l] [] (.tup [eL 1 cI (ranksF (graphF l)).1, .int .i64 (ranksF (graphF l)).2]) [] := by
  have hS := rstuck_ret l hL
  have hR := rranked_ret l hL
  have hi := stuck_iff (rankE_ok (graphF l))
  unfold ranksF
  rw [graphF_len] at hi ⊢
  generalize stuckF (manyN l) (rankE (graphF l)) = st at *
  by_cases h : (rankE (graphF l)).length < manyN l
  · rw [if_pos h]
    have hne := hi.1 h
    have hpos : 0 < st.length := List.length_pos_iff.2 hne
    have hg : Ret Try.prog 15 [eL 5 cSe l] [] (.tup [.nils, .int .i64 110]) [] := by
      refine ret_of_body atNone tok mixed Try.func15 (by kernel_rfl) rfl (k := 10) (rs := [.tmp 2, .tmp 3]) (by kernel_rfl) (by kernel_rfl) ?_
      (conv => whnf) <;> repeat' (first | ((first | refine wN ?_ | refine wNc ?_ | refine wA ?_ | refine wB ?_ | refine wC ?_ | refine wD ?_ | refine Called.mk _ _ (hS) ?_ | refine vA ?_ | refine vB ?_ | refine vC ?_ | refine vD ?_ | refine uA ?_ | refine uB ?_ | refine uC ?_ | refine uD ?_); conv => whnf) | ((first | apply Pick.dec | apply Pick.beq | apply Cond.dec | apply Cond.beq | apply Cond.nd | apply Pick.nd | apply Pick.mk | apply Cond.mk) <;> intro h <;> conv => whnf))
      exact End.mk rfl rfl
    exact hg.leR (le_tup (.cons le_nils (.cons (.refl _) .nil)))
  · rw [if_neg h]
    have hne : st = [] := Classical.byContradiction fun hn => h (hi.2 hn)
    subst hne
    refine ret_of_body atNone tok mixed Try.func15 (by kernel_rfl) rfl (k := 10) (rs := [.tmp 2, .tmp 3]) (by kernel_rfl) (by kernel_rfl) ?_
    (conv => whnf) <;> repeat' (first | ((first | refine wN ?_ | refine wNc ?_ | refine wA ?_ | refine wB ?_ | refine wC ?_ | refine wD ?_ | refine Called.mk _ _ (hS) ?_ | refine Called.mk _ _ (hR) ?_ | refine vA ?_ | refine vB ?_ | refine vC ?_ | refine vD ?_ | refine uA ?_ | refine uB ?_ | refine uC ?_ | refine uD ?_); conv => whnf) | ((first | apply Pick.dec | apply Pick.beq | apply Cond.dec | apply Cond.beq | apply Cond.nd | apply Pick.nd | apply Pick.mk | apply Cond.mk) <;> intro h <;> conv => whnf))
    exact End.mk rfl rfl
theorem bkt_cmp (f : Int → Int) (M : Nat) (q : Int) : bkt f M q = cmpZ (fun (k : Nat) => decide (f (k : Int) = q)) (fun (k : Nat) => (k : Int)) M 0 := by
  unfold bkt
  rw [cmpZ_filter (fun k => decide (f k = q))]
  unfold zeroTo
  rw [List.range_eq_range']
set_option maxHeartbeats 8000000 in
theorem rorder_go (l : List Se) (M : Nat) (hM : M ≤ 1048576) (f : Int → Int) (rr : List Int) (hR : Ret Try.prog 15 [eL 5 cSe l] [] (.tup [eL 1 cI rr, .int .i64 0]) []) (hrl : rr.length = M)
    (hat : ∀ k : Nat, k < M → getL cI rr (Int.toNat (k : Int)) = cI (f (k : Int))) (hf : ∀ k : Int, 0 ≤ k → k < (M : Int) → 0 ≤ f k ∧ f k < (M : Int)) (full : List Int) (hfull : full = ordF f (zeroTo M)) (vt : Val) (ht : List Blk)
    (h0 : full = [] → vt = .tup [.nils, .int .i64 0] ∧ ht = []) (h1 : full ≠ [] → vt = .tup [.row 0 full.length, .int .i64 0] ∧ ht = [.row 3 1 full.length (getL cI full) 0]) :
    Ret Try.prog 16 [eL 5 cSe l] [] vt ht := by
  have hrl' : ((rr.length : Nat) : Int) = (M : Int) := by rw [hrl]
  refine ret_of_body atNone tok mixed Try.func16 (by kernel_rfl) rfl (k := 41) (rs := [.tmp 2, .tmp 3]) (by kernel_rfl) (by kernel_rfl) ?_
  (conv => whnf) <;> repeat' (first | ((first | refine wN ?_ | refine wNc ?_ | refine wA ?_ | refine wB ?_ | refine wC ?_ | refine wD ?_ | refine Called.mk _ _ (hR) ?_ | refine vA ?_ | refine vB ?_ | refine vC ?_ | refine vD ?_ | refine uA ?_ | refine uB ?_ | refine uC ?_ | refine uD ?_); conv => whnf) | ((first | apply Pick.dec | apply Pick.beq | apply Cond.dec | apply Cond.beq | apply Cond.nd | apply Pick.nd | apply Pick.mk | apply Cond.mk) <;> intro h <;> conv => whnf))
  intro J jw js
  have outer : ∀ (e q : Nat) (out : List Int), q + e = M → out = outQ f M q →
      (out = [] → J [.und, .und, .und, .und, eL 1 cI rr, .und, .nils, .int .i64 (q : Int), .und, .und, .und, .und, .und, .und, .und, .und, .und, .und, .und, .und, .und, .und, .und, .und, .und, .und, .und, .und, .und, .und, .und, .und, .und, .und, .und, .und, .und, .und, .und, .und, .und] []) ∧ (out ≠ [] → J [.und, .und, .und, .und, eL 1 cI rr, .und, .row 0 out.length, .int .i64 (q : Int), .und, .und, .und, .und, .und, .und, .und, .und, .und, .und, .und, .und, .und, .und, .und, .und, .und, .und, .und, .und, .und, .und, .und, .und, .und, .und, .und, .und, .und, .und, .und, .und, .und] [.row 3 1 out.length (getL cI out) 0]) := by
    intro e
    induction e with
    | zero =>
      intro q out hq ho
      have hle := outQ_le f M q
      have hall : out.length = M := by
        rcases Nat.lt_or_ge out.length M with h | h
        · have := outQ_end hf (q := q) (by rw [← ho]; exact h); omega
        · rw [ho] at h ⊢; omega
      have hfe : full = out := by rw [hfull, ho]; exact (outQ_all (by rw [← ho]; exact hall)).symm
      rw [hfe] at h0 h1
      refine ⟨fun hn => ?_, fun hn => ?_⟩
      · obtain ⟨rfl, rfl⟩ := h0 hn
        subst hn
        have hM0 : M = 0 := hall.symm
        apply js
        (conv => whnf) <;> repeat' (first | (rw [hrl']; conv => whnf) | ((first | refine wN ?_ | refine wNc ?_ | refine wA ?_ | refine wB ?_ | refine wC ?_ | refine wD ?_ | refine vA ?_ | refine vB ?_ | refine vC ?_ | refine vD ?_ | refine uA ?_ | refine uB ?_ | refine uC ?_ | refine uD ?_); conv => whnf) | ((first | apply Pick.dec | apply Pick.beq | apply Cond.dec | apply Cond.beq | apply Cond.nd | apply Pick.nd | apply Pick.mk | apply Cond.mk) <;> intro h <;> conv => whnf))
        exact End.mk rfl rfl
      · obtain ⟨rfl, rfl⟩ := h1 hn
        apply js
        (conv => whnf) <;> repeat' (first | (rw [hrl']; conv => whnf) | ((first | refine wN ?_ | refine wNc ?_ | refine wA ?_ | refine wB ?_ | refine wC ?_ | refine wD ?_ | refine vA ?_ | refine vB ?_ | refine vC ?_ | refine vD ?_ | refine uA ?_ | refine uB ?_ | refine uC ?_ | refine uD ?_); conv => whnf) | ((first | apply Pick.dec | apply Pick.beq | apply Cond.dec | apply Cond.beq | apply Cond.nd | apply Pick.nd | apply Pick.mk | apply Cond.mk) <;> intro h <;> conv => whnf))
        exact EndH.mk [0] rfl rfl rfl
    | succ e im =>
      intro q out hq ho
      have hle := outQ_le f M q
      rw [← ho] at hle
      by_cases hall : out.length = M
      · have hfe : full = out := by rw [hfull, ho]; exact (outQ_all (by rw [← ho]; exact hall)).symm
        rw [hfe] at h0 h1
        refine ⟨fun hn => ?_, fun hn => ?_⟩
        · exfalso
          rw [hn] at hall
          have hM0 : M = 0 := hall.symm
          omega
        · obtain ⟨rfl, rfl⟩ := h1 hn
          apply js
          (conv => whnf) <;> repeat' (first | (rw [hrl']; conv => whnf) | ((first | refine wN ?_ | refine wNc ?_ | refine wA ?_ | refine wB ?_ | refine wC ?_ | refine wD ?_ | refine vA ?_ | refine vB ?_ | refine vC ?_ | refine vD ?_ | refine uA ?_ | refine uB ?_ | refine uC ?_ | refine uD ?_); conv => whnf) | ((first | apply Pick.dec | apply Pick.beq | apply Cond.dec | apply Cond.beq | apply Cond.nd | apply Pick.nd | apply Pick.mk | apply Cond.mk) <;> intro h <;> conv => whnf))
          exact EndH.mk [0] rfl rfl rfl
      · have hlt : out.length < M := by omega
        have eq1 : IntKind.i64.wrap ((q : Int) + 1) = ((q + 1 : Nat) : Int) := by rw [wi64_id (by omega) (by omega)]; omega
        have im := im (q + 1) _ (by omega) rfl
        have hnext : outQ f M (q + 1) = out ++ cmpZ (fun (k : Nat) => decide (f (k : Int) = (q : Int))) (fun (k : Nat) => (k : Int)) M 0 := by
          show outQ f M q ++ bkt f M (q : Int) = _
          rw [← ho, bkt_cmp]
        have hle2 := outQ_le f M (q + 1)
        generalize outQ f M (q + 1) = nx at *
        refine ⟨fun hn => ?_, fun hn => ?_⟩
        · subst hn
          apply js
          (conv => whnf) <;> repeat' (first | (rw [hrl']; conv => whnf) | ((first | refine wN ?_ | refine wNc ?_ | refine wA ?_ | refine wB ?_ | refine wC ?_ | refine wD ?_ | refine vA ?_ | refine vB ?_ | refine vC ?_ | refine vD ?_ | refine uA ?_ | refine uB ?_ | refine uC ?_ | refine uD ?_); conv => whnf) | ((first | apply Pick.dec | apply Pick.beq | apply Cond.dec | apply Cond.beq | apply Cond.nd | apply Pick.nd | apply Pick.mk | apply Cond.mk) <;> intro h <;> conv => whnf))
          intro K kw ks
          have inner : ∀ (d k : Nat) (o2 : List Int), k + d = M → o2.length + d ≤ 1048576 + M → nx = o2 ++ cmpZ (fun (k : Nat) => decide (f (k : Int) = (q : Int))) (fun (k : Nat) => (k : Int)) d k →
              (o2 = [] → K [.und, .und, .und, .und, eL 1 cI rr, .und, .nils, .int .i64 (q : Int), .int .i64 (k : Int), .und, .und, .und, .und, .und, .und, .und, .und, .und, .und, .und, .und, .und, .und, .und, .und, .und, .und, .und, .und, .und, .und, .und, .und, .und, .und, .und, .und, .und, .und, .und, .und] []) ∧ (o2 ≠ [] → K [.und, .und, .und, .und, eL 1 cI rr, .und, .row 0 o2.length, .int .i64 (q : Int), .int .i64 (k : Int), .und, .und, .und, .und, .und, .und, .und, .und, .und, .und, .und, .und, .und, .und, .und, .und, .und, .und, .und, .und, .und, .und, .und, .und, .und, .und, .und, .und, .und, .und, .und, .und] [.row 3 1 o2.length (getL cI o2) 0]) := by
            intro d
            induction d with
            | zero =>
              intro k o2 hk hb he
              have he : nx = o2 := he.trans (List.append_nil _)
              subst he
              refine ⟨fun hn => ?_, fun hn => ?_⟩
              · apply ks
                (conv => whnf) <;> repeat' (first | (rw [hrl']; conv => whnf) | ((first | refine wN ?_ | refine wNc ?_ | refine wA ?_ | refine wB ?_ | refine wC ?_ | refine wD ?_ | refine vA ?_ | refine vB ?_ | refine vC ?_ | refine vD ?_ | refine uA ?_ | refine uB ?_ | refine uC ?_ | refine uD ?_); conv => whnf) | ((first | apply Pick.dec | apply Pick.beq | apply Cond.dec | apply Cond.beq | apply Cond.nd | apply Pick.nd | apply Pick.mk | apply Cond.mk) <;> intro h <;> conv => whnf))
                rw [eq1]
                apply jw [] [false, false, false, false, true, false, true, true] _ _ rfl
                exact im.1 hn
              · apply ks
                (conv => whnf) <;> repeat' (first | (rw [hrl']; conv => whnf) | ((first | refine wN ?_ | refine wNc ?_ | refine wA ?_ | refine wB ?_ | refine wC ?_ | refine wD ?_ | refine vA ?_ | refine vB ?_ | refine vC ?_ | refine vD ?_ | refine uA ?_ | refine uB ?_ | refine uC ?_ | refine uD ?_); conv => whnf) | ((first | apply Pick.dec | apply Pick.beq | apply Cond.dec | apply Cond.beq | apply Cond.nd | apply Pick.nd | apply Pick.mk | apply Cond.mk) <;> intro h <;> conv => whnf))
                rw [eq1]
                apply jw [0] [false, false, false, false, true, false, true, true] _ _ rfl
                exact im.2 hn
            | succ d ie =>
              intro k o2 hk hb he
              have gk := hat k (by omega)
              have e1 : IntKind.i64.wrap ((k : Int) + 1) = ((k + 1 : Nat) : Int) := by rw [wi64_id (by omega) (by omega)]; omega
              have he : nx = o2 ++ (if decide (f (k : Int) = (q : Int)) = true then (k : Int) :: cmpZ (fun (k : Nat) => decide (f (k : Int) = (q : Int))) (fun (k : Nat) => (k : Int)) d (k + 1) else cmpZ (fun (k : Nat) => decide (f (k : Int) = (q : Int))) (fun (k : Nat) => (k : Int)) d (k + 1)) := he
              have ho2 : o2.length ≤ 1048576 := by
                have := congrArg List.length he
                rw [List.length_append] at this
                omega
              have imS := ie (k + 1) o2 (by omega) (by omega)
              have imG := ie (k + 1) (o2 ++ [(k : Int)]) (by omega) (by rw [List.length_append]; simp; omega)
              have elen : (o2 ++ [(k : Int)]).length = o2.length + 1 := by simp
              by_cases hp : f (k : Int) = (q : Int)
              · rw [if_pos (decide_eq_true hp)] at he
                have imG := (imG (by rw [he]; simp)).2 (by simp)
                rw [elen] at imG
                rw [hp] at gk
                refine ⟨fun hn => ?_, fun hn => ?_⟩
                · subst hn
                  apply ks
                  (conv => whnf) <;> repeat' (first | (rw [hrl']; conv => whnf) | ((conv => arg 1; whnf); rw [gk]; conv => whnf) | (rw [getI_one]; conv => whnf) | ((first | refine wN ?_ | refine wNc ?_ | refine wA ?_ | refine wB ?_ | refine wC ?_ | refine wD ?_ | refine vA ?_ | refine vB ?_ | refine vC ?_ | refine vD ?_ | refine uA ?_ | refine uB ?_ | refine uC ?_ | refine uD ?_); conv => whnf) | ((first | apply Pick.dec | apply Pick.beq | apply Cond.dec | apply Cond.beq | apply Cond.nd | apply Pick.nd | apply Pick.mk | apply Cond.mk) <;> intro h <;> conv => whnf))
                  rw [e1]
                  apply kw [1] [false, false, false, false, true, false, true, true, true] _ _ rfl
                  exact imG
                · apply ks
                  (conv => whnf) <;> repeat' (first | (rw [hrl']; conv => whnf) | ((conv => arg 1; whnf); rw [gk]; conv => whnf) | (rw [getI_snoc]; conv => whnf) | ((first | refine wN ?_ | refine wNc ?_ | refine wA ?_ | refine wB ?_ | refine wC ?_ | refine wD ?_ | refine vA ?_ | refine vB ?_ | refine vC ?_ | refine vD ?_ | refine uA ?_ | refine uB ?_ | refine uC ?_ | refine uD ?_); conv => whnf) | ((first | apply Pick.dec | apply Pick.beq | apply Cond.dec | apply Cond.beq | apply Cond.nd | apply Pick.nd | apply Pick.mk | apply Cond.mk) <;> intro h <;> conv => whnf))
                  rw [e1]
                  apply kw [2] [false, false, false, false, true, false, true, true, true] _ _ rfl
                  exact imG
              · rw [if_neg (fun h => hp (of_decide_eq_true h))] at he
                have imS := imS he
                generalize f (k : Int) = fk at *
                refine ⟨fun hn => ?_, fun hn => ?_⟩
                · apply ks
                  (conv => whnf) <;> repeat' (first | (rw [hrl']; conv => whnf) | ((conv => arg 1; whnf); rw [gk]; conv => whnf) | ((first | refine wN ?_ | refine wNc ?_ | refine wA ?_ | refine wB ?_ | refine wC ?_ | refine wD ?_ | refine vA ?_ | refine vB ?_ | refine vC ?_ | refine vD ?_ | refine uA ?_ | refine uB ?_ | refine uC ?_ | refine uD ?_); conv => whnf) | ((first | apply Pick.dec | apply Pick.beq | apply Cond.dec | apply Cond.beq | apply Cond.nd | apply Pick.nd | apply Pick.mk | apply Cond.mk) <;> intro h <;> conv => whnf))
                  rw [e1]
                  apply kw [] [false, false, false, false, true, false, true, true, true] _ _ rfl
                  exact imS.1 hn
                · apply ks
                  (conv => whnf) <;> repeat' (first | (rw [hrl']; conv => whnf) | ((conv => arg 1; whnf); rw [gk]; conv => whnf) | ((first | refine wN ?_ | refine wNc ?_ | refine wA ?_ | refine wB ?_ | refine wC ?_ | refine wD ?_ | refine vA ?_ | refine vB ?_ | refine vC ?_ | refine vD ?_ | refine uA ?_ | refine uB ?_ | refine uC ?_ | refine uD ?_); conv => whnf) | ((first | apply Pick.dec | apply Pick.beq | apply Cond.dec | apply Cond.beq | apply Cond.nd | apply Pick.nd | apply Pick.mk | apply Cond.mk) <;> intro h <;> conv => whnf))
                  rw [e1]
                  apply kw [0] [false, false, false, false, true, false, true, true, true] _ _ rfl
                  exact imS.2 hn
          apply kw [] [false, false, false, false, true, false, true, true, true] _ _ rfl
          exact (inner M 0 [] (by omega) (by simp) hnext).1 rfl
        · apply js
          (conv => whnf) <;> repeat' (first | (rw [hrl']; conv => whnf) | ((first | refine wN ?_ | refine wNc ?_ | refine wA ?_ | refine wB ?_ | refine wC ?_ | refine wD ?_ | refine vA ?_ | refine vB ?_ | refine vC ?_ | refine vD ?_ | refine uA ?_ | refine uB ?_ | refine uC ?_ | refine uD ?_); conv => whnf) | ((first | apply Pick.dec | apply Pick.beq | apply Cond.dec | apply Cond.beq | apply Cond.nd | apply Pick.nd | apply Pick.mk | apply Cond.mk) <;> intro h <;> conv => whnf))
          intro K kw ks
          have inner : ∀ (d k : Nat) (o2 : List Int), k + d = M → o2.length + d ≤ 1048576 + M → nx = o2 ++ cmpZ (fun (k : Nat) => decide (f (k : Int) = (q : Int))) (fun (k : Nat) => (k : Int)) d k →
              (o2 = [] → K [.und, .und, .und, .und, eL 1 cI rr, .und, .nils, .int .i64 (q : Int), .int .i64 (k : Int), .und, .und, .und, .und, .und, .und, .und, .und, .und, .und, .und, .und, .und, .und, .und, .und, .und, .und, .und, .und, .und, .und, .und, .und, .und, .und, .und, .und, .und, .und, .und, .und] []) ∧ (o2 ≠ [] → K [.und, .und, .und, .und, eL 1 cI rr, .und, .row 0 o2.length, .int .i64 (q : Int), .int .i64 (k : Int), .und, .und, .und, .und, .und, .und, .und, .und, .und, .und, .und, .und, .und, .und, .und, .und, .und, .und, .und, .und, .und, .und, .und, .und, .und, .und, .und, .und, .und, .und, .und, .und] [.row 3 1 o2.length (getL cI o2) 0]) := by
            intro d
            induction d with
            | zero =>
              intro k o2 hk hb he
              have he : nx = o2 := he.trans (List.append_nil _)
              subst he
              refine ⟨fun hn => ?_, fun hn => ?_⟩
              · apply ks
                (conv => whnf) <;> repeat' (first | (rw [hrl']; conv => whnf) | ((first | refine wN ?_ | refine wNc ?_ | refine wA ?_ | refine wB ?_ | refine wC ?_ | refine wD ?_ | refine vA ?_ | refine vB ?_ | refine vC ?_ | refine vD ?_ | refine uA ?_ | refine uB ?_ | refine uC ?_ | refine uD ?_); conv => whnf) | ((first | apply Pick.dec | apply Pick.beq | apply Cond.dec | apply Cond.beq | apply Cond.nd | apply Pick.nd | apply Pick.mk | apply Cond.mk) <;> intro h <;> conv => whnf))
                rw [eq1]
                apply jw [] [false, false, false, false, true, false, true, true] _ _ rfl
                exact im.1 hn
              · apply ks
                (conv => whnf) <;> repeat' (first | (rw [hrl']; conv => whnf) | ((first | refine wN ?_ | refine wNc ?_ | refine wA ?_ | refine wB ?_ | refine wC ?_ | refine wD ?_ | refine vA ?_ | refine vB ?_ | refine vC ?_ | refine vD ?_ | refine uA ?_ | refine uB ?_ | refine uC ?_ | refine uD ?_); conv => whnf) | ((first | apply Pick.dec | apply Pick.beq | apply Cond.dec | apply Cond.beq | apply Cond.nd | apply Pick.nd | apply Pick.mk | apply Cond.mk) <;> intro h <;> conv => whnf))
                rw [eq1]
                apply jw [0] [false, false, false, false, true, false, true, true] _ _ rfl
                exact im.2 hn
            | succ d ie =>
              intro k o2 hk hb he
              have gk := hat k (by omega)
              have e1 : IntKind.i64.wrap ((k : Int) + 1) = ((k + 1 : Nat) : Int) := by rw [wi64_id (by omega) (by omega)]; omega
              have he : nx = o2 ++ (if decide (f (k : Int) = (q : Int)) = true then (k : Int) :: cmpZ (fun (k : Nat) => decide (f (k : Int) = (q : Int))) (fun (k : Nat) => (k : Int)) d (k + 1) else cmpZ (fun (k : Nat) => decide (f (k : Int) = (q : Int))) (fun (k : Nat) => (k : Int)) d (k + 1)) := he
              have ho2 : o2.length ≤ 1048576 := by
                have := congrArg List.length he
                rw [List.length_append] at this
                omega
              have imS := ie (k + 1) o2 (by omega) (by omega)
              have imG := ie (k + 1) (o2 ++ [(k : Int)]) (by omega) (by rw [List.length_append]; simp; omega)
              have elen : (o2 ++ [(k : Int)]).length = o2.length + 1 := by simp
              by_cases hp : f (k : Int) = (q : Int)
              · rw [if_pos (decide_eq_true hp)] at he
                have imG := (imG (by rw [he]; simp)).2 (by simp)
                rw [elen] at imG
                rw [hp] at gk
                refine ⟨fun hn => ?_, fun hn => ?_⟩
                · subst hn
                  apply ks
                  (conv => whnf) <;> repeat' (first | (rw [hrl']; conv => whnf) | ((conv => arg 1; whnf); rw [gk]; conv => whnf) | (rw [getI_one]; conv => whnf) | ((first | refine wN ?_ | refine wNc ?_ | refine wA ?_ | refine wB ?_ | refine wC ?_ | refine wD ?_ | refine vA ?_ | refine vB ?_ | refine vC ?_ | refine vD ?_ | refine uA ?_ | refine uB ?_ | refine uC ?_ | refine uD ?_); conv => whnf) | ((first | apply Pick.dec | apply Pick.beq | apply Cond.dec | apply Cond.beq | apply Cond.nd | apply Pick.nd | apply Pick.mk | apply Cond.mk) <;> intro h <;> conv => whnf))
                  rw [e1]
                  apply kw [1] [false, false, false, false, true, false, true, true, true] _ _ rfl
                  exact imG
                · apply ks
                  (conv => whnf) <;> repeat' (first | (rw [hrl']; conv => whnf) | ((conv => arg 1; whnf); rw [gk]; conv => whnf) | (rw [getI_snoc]; conv => whnf) | ((first | refine wN ?_ | refine wNc ?_ | refine wA ?_ | refine wB ?_ | refine wC ?_ | refine wD ?_ | refine vA ?_ | refine vB ?_ | refine vC ?_ | refine vD ?_ | refine uA ?_ | refine uB ?_ | refine uC ?_ | refine uD ?_); conv => whnf) | ((first | apply Pick.dec | apply Pick.beq | apply Cond.dec | apply Cond.beq | apply Cond.nd | apply Pick.nd | apply Pick.mk | apply Cond.mk) <;> intro h <;> conv => whnf))
                  rw [e1]
                  apply kw [2] [false, false, false, false, true, false, true, true, true] _ _ rfl
                  exact imG
              · rw [if_neg (fun h => hp (of_decide_eq_true h))] at he
                have imS := imS he
                generalize f (k : Int) = fk at *
                refine ⟨fun hn => ?_, fun hn => ?_⟩
                · apply ks
                  (conv => whnf) <;> repeat' (first | (rw [hrl']; conv => whnf) | ((conv => arg 1; whnf); rw [gk]; conv => whnf) | ((first | refine wN ?_ | refine wNc ?_ | refine wA ?_ | refine wB ?_ | refine wC ?_ | refine wD ?_ | refine vA ?_ | refine vB ?_ | refine vC ?_ | refine vD ?_ | refine uA ?_ | refine uB ?_ | refine uC ?_ | refine uD ?_); conv => whnf) | ((first | apply Pick.dec | apply Pick.beq | apply Cond.dec | apply Cond.beq | apply Cond.nd | apply Pick.nd | apply Pick.mk | apply Cond.mk) <;> intro h <;> conv => whnf))
                  rw [e1]
                  apply kw [] [false, false, false, false, true, false, true, true, true] _ _ rfl
                  exact imS.1 hn
                · apply ks
                  (conv => whnf) <;> repeat' (first | (rw [hrl']; conv => whnf) | ((conv => arg 1; whnf); rw [gk]; conv => whnf) | ((first | refine wN ?_ | refine wNc ?_ | refine wA ?_ | refine wB ?_ | refine wC ?_ | refine wD ?_ | refine vA ?_ | refine vB ?_ | refine vC ?_ | refine vD ?_ | refine uA ?_ | refine uB ?_ | refine uC ?_ | refine uD ?_); conv => whnf) | ((first | apply Pick.dec | apply Pick.beq | apply Cond.dec | apply Cond.beq | apply Cond.nd | apply Pick.nd | apply Pick.mk | apply Cond.mk) <;> intro h <;> conv => whnf))
                  rw [e1]
                  apply kw [0] [false, false, false, false, true, false, true, true, true] _ _ rfl
                  exact imS.2 hn
          apply kw [0] [false, false, false, false, true, false, true, true, true] _ _ rfl
          exact (inner M 0 out (by omega) (by omega) hnext).2 hn
  apply jw [] [false, false, false, false, true, false, true, true] _ _ rfl
  exact (outer M 0 [] (by omega) rfl).1 rfl
theorem rorder_ret (l : List Se) (hL : LOk l) : Ret Try.prog 16 [eL 5 cSe l] [] (.tup [eL 1 cI (orderF (graphF l)).1, .int .i64 (orderF (graphF l)).2]) [] := by
  have hR := rranks_ret l hL
  have hm := hL.many
  have hfh := fun (h : ¬ (rankE (graphF l)).length < manyN l) (k : Int) => full_has (g := graphF l) (by rw [graphF_len]; exact h) (k := k)
  unfold ranksF at hR
  unfold orderF
  rw [graphF_len] at hR ⊢
  rw [graphF_len] at hfh
  by_cases h : (rankE (graphF l)).length < manyN l
  · rw [if_pos h] at hR ⊢
    have hg : Ret Try.prog 16 [eL 5 cSe l] [] (.tup [.nils, .int .i64 110]) [] := by
      refine ret_of_body atNone tok mixed Try.func16 (by kernel_rfl) rfl (k := 41) (rs := [.tmp 2, .tmp 3]) (by kernel_rfl) (by kernel_rfl) ?_
      (conv => whnf) <;> repeat' (first | ((first | refine wN ?_ | refine wNc ?_ | refine wA ?_ | refine wB ?_ | refine wC ?_ | refine wD ?_ | refine Called.mk _ _ (hR) ?_ | refine vA ?_ | refine vB ?_ | refine vC ?_ | refine vD ?_ | refine uA ?_ | refine uB ?_ | refine uC ?_ | refine uD ?_); conv => whnf) | ((first | apply Pick.dec | apply Pick.beq | apply Cond.dec | apply Cond.beq | apply Cond.nd | apply Pick.nd | apply Pick.mk | apply Cond.mk) <;> intro h <;> conv => whnf))
      exact End.mk rfl rfl
    exact hg.leR (le_tup (.cons le_nils (.cons (.refl _) .nil)))
  · rw [if_neg h] at hR ⊢
    have hfh := hfh h
    have hat : ∀ k : Nat, k < manyN l → getL cI (rOf (manyN l) (rankE (graphF l))) (Int.toNat (k : Int)) = cI (rkOf (rankE (graphF l)) (k : Int)) := fun k hk => by
      rw [Int.toNat_natCast, ← rOf_at (M := manyN l) (by rw [rOf_len]; exact hk)]
      exact getL_at (List.getElem?_eq_getElem (by rw [rOf_len]; exact hk))
    have hf : ∀ k : Int, 0 ≤ k → k < ((manyN l : Nat) : Int) → 0 ≤ rkOf (rankE (graphF l)) k ∧ rkOf (rankE (graphF l)) k < ((manyN l : Nat) : Int) := fun k h0 h1 => by
      obtain ⟨v, hv, h2, h3⟩ := hfh k h0 h1
      unfold rkOf
      rw [hv]
      exact ⟨h2, h3⟩
    have hgo := rorder_go l (manyN l) hm (rkOf (rankE (graphF l))) (rOf (manyN l) (rankE (graphF l))) hR (rOf_len _ _) hat hf _ rfl
    show Ret _ _ _ _ (.tup [eL 1 cI (ordF (rkOf (rankE (graphF l))) (zeroTo (manyN l))), .int .i64 0]) _
    generalize ordF (rkOf (rankE (graphF l))) (zeroTo (manyN l)) = full at *
    by_cases he : full = []
    · have hg := hgo _ _ (fun _ => ⟨rfl, rfl⟩) (fun k => absurd he k)
      rw [he]
      exact hg.leR (le_tup (.cons le_nils (.cons (.refl _) .nil)))
    · have hg := hgo _ _ (fun k => absurd k he) (fun _ => ⟨rfl, rfl⟩)
      exact hg.lendT ⟨rfl, Nat.le_refl _, Nat.le_refl _⟩ rfl
end Go.Proofs.Ythjgnmpnagmeoaa

