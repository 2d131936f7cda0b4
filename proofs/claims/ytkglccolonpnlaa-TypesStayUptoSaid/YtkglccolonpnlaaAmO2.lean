/- TypesStay, as a contract. Printed by wip/tools/staygen.py. -/
import Derived.Test.YtkglccolonpnlaaAmId
set_option linter.unusedVariables false
set_option linter.unusedSimpArgs false
set_option maxRecDepth 100000
namespace Go.Proofs.Ytkglccolonpnlaa
open Go.AM
abbrev stay1F : Nat := 22
abbrev us : ByteArray := ⟨#[95]⟩
def stB (name : ByteArray) (r : Re) : Bool := decide (r.1 = name ++ us)
theorem stay1_ret (r : Re) (name : ByteArray) (hn : name.size ≤ 32) : Ret Try.prog 22 [.agg (cRe r), .ptr 0 0] [.cells [.str name]] (.bool (stB name r)) [.cells [.str name]] := by
  have hz : us.size = 1 := rfl
  have e : (r.1.toList == (name ++ us).toList) = stB name r := toList_eq _ _
  have hb : name.size + us.size ≤ 9223372036854775807 := by omega
  refine ret_of_body atCalls tok mixed Try.func22 (by kernel_rfl) rfl (k := 9) (rs := [.tmp 3]) (by kernel_rfl) (by kernel_rfl) ?_
  (conv => whnf) <;> repeat' (first | (refine Need.mk hb ?_; conv => whnf) | ((first | refine wN ?_ | refine wA ?_ | refine wB ?_ | refine wC ?_ | refine wD ?_ | refine vA ?_ | refine vB ?_ | refine vC ?_ | refine vD ?_ | refine uA ?_ | refine uB ?_ | refine uC ?_ | refine uD ?_); conv => whnf) | ((first | refine Pick.dec (fun h => ?_) (fun h => ?_) | refine Pick.beq (fun h => ?_) (fun h => ?_) | refine Cond.dec (fun h => ?_) (fun h => ?_) | refine Cond.beq (fun h => ?_) (fun h => ?_) | refine Cond.nd (fun h => ?_) (fun h => ?_) | refine Pick.nd (fun h => ?_) (fun h => ?_) | refine Pick.mk (fun h => ?_) (fun h => ?_) | refine Cond.mk (fun h => ?_) (fun h => ?_)) <;> conv => whnf))
  exact EndH.mk [0] rfl (bool_eq e) rfl
theorem ixRe_ret (l : List Re) (name : ByteArray) (hn : name.size ≤ 32) (hl : l.length ≤ 1048576) : Ret Try.prog 38 [eL 2 cRe l, .fn 22 [] [.ptr 0 0]] [.cells [.str name]] (.int .i64 (idxB (stB name) 0 l)) [.cells [.str name]] := by
  refine ret_of_body atCalls tok mixed Try.func38 (by kernel_rfl) rfl (k := 19) (rs := [.tmp 4]) (by kernel_rfl) (by kernel_rfl) ?_
  (conv => whnf) <;> repeat' (first | ((first | refine wN ?_ | refine wA ?_ | refine wB ?_ | refine wC ?_ | refine wD ?_ | refine vA ?_ | refine vB ?_ | refine vC ?_ | refine vD ?_ | refine uA ?_ | refine uB ?_ | refine uC ?_ | refine uD ?_); conv => whnf) | ((first | refine Pick.dec (fun h => ?_) (fun h => ?_) | refine Pick.beq (fun h => ?_) (fun h => ?_) | refine Cond.dec (fun h => ?_) (fun h => ?_) | refine Cond.beq (fun h => ?_) (fun h => ?_) | refine Cond.nd (fun h => ?_) (fun h => ?_) | refine Pick.nd (fun h => ?_) (fun h => ?_) | refine Pick.mk (fun h => ?_) (fun h => ?_) | refine Cond.mk (fun h => ?_) (fun h => ?_)) <;> conv => whnf))
  intro I hw hs
  have turn : ∀ (d k : Nat), k + d = l.length → idxB (stB name) 0 l = idxB (stB name) k (l.drop k) →
      I [eL 2 cRe l, .fn stay1F [] [.ptr 0 0], .und, .und, .int .i64 0, .und, .und, .int .i64 (l.length : Int), .int .i64 (k : Int), .und, .und, .und, .und, .und, .und, .und, .und, .und, .und] [.cells [.str name]] := by
    intro d
    induction d with
    | zero =>
      intro k hk hi
      apply hs
      conv => whnf
      refine Cond.ff (decF (by omega)) ?_
      (conv => whnf) <;> repeat' (first | ((first | refine wN ?_ | refine wA ?_ | refine wB ?_ | refine wC ?_ | refine wD ?_ | refine vA ?_ | refine vB ?_ | refine vC ?_ | refine vD ?_ | refine uA ?_ | refine uB ?_ | refine uC ?_ | refine uD ?_); conv => whnf) | ((first | refine Pick.dec (fun h => ?_) (fun h => ?_) | refine Pick.beq (fun h => ?_) (fun h => ?_) | refine Cond.dec (fun h => ?_) (fun h => ?_) | refine Cond.beq (fun h => ?_) (fun h => ?_) | refine Cond.nd (fun h => ?_) (fun h => ?_) | refine Pick.nd (fun h => ?_) (fun h => ?_) | refine Pick.mk (fun h => ?_) (fun h => ?_) | refine Cond.mk (fun h => ?_) (fun h => ?_)) <;> conv => whnf))
      refine EndH.mk [0] rfl (int_eq ?_) rfl
      rw [hi, List.drop_of_length_le (by omega)]; rfl
    | succ d ih =>
      intro k hk hi
      apply hs
      conv => whnf
      refine Cond.tt (decT (by omega)) ?_
      have hkl : k < l.length := by omega
      have gk : getL cRe l (Int.toNat (k : Int)) = cRe l[k] := by rw [Int.toNat_natCast]; exact getL_at (List.getElem?_eq_getElem hkl)
      have e1 : IntKind.i64.wrap ((k : Int) + 1) = ((k + 1 : Nat) : Int) := by rw [wi64_id (by omega) (by omega)]; omega
      have hd : l.drop k = l[k] :: l.drop (k + 1) := List.drop_eq_getElem_cons hkl
      have hc := stay1_ret l[k] name hn
      cases hb : stB name l[k] with
      | true =>
        rw [hb] at hc
        (conv => whnf) <;> repeat' (first | (rw [gk]; conv => whnf) | (refine CalledH.mk [0] _ _ rfl (Nat.le_refl _) hc ?_; conv => whnf) | ((first | refine wN ?_ | refine wA ?_ | refine wB ?_ | refine wC ?_ | refine wD ?_ | refine vA ?_ | refine vB ?_ | refine vC ?_ | refine vD ?_ | refine uA ?_ | refine uB ?_ | refine uC ?_ | refine uD ?_); conv => whnf) | ((first | refine Pick.dec (fun h => ?_) (fun h => ?_) | refine Pick.beq (fun h => ?_) (fun h => ?_) | refine Cond.dec (fun h => ?_) (fun h => ?_) | refine Cond.beq (fun h => ?_) (fun h => ?_) | refine Cond.nd (fun h => ?_) (fun h => ?_) | refine Pick.nd (fun h => ?_) (fun h => ?_) | refine Pick.mk (fun h => ?_) (fun h => ?_) | refine Cond.mk (fun h => ?_) (fun h => ?_)) <;> conv => whnf))
        refine EndH.mk [0] rfl (int_eq ?_) rfl
        rw [hi, hd]; unfold idxB; rw [if_pos hb]
      | false =>
        rw [hb] at hc
        (conv => whnf) <;> repeat' (first | (rw [gk]; conv => whnf) | (refine CalledH.mk [0] _ _ rfl (Nat.le_refl _) hc ?_; conv => whnf) | ((first | refine wN ?_ | refine wA ?_ | refine wB ?_ | refine wC ?_ | refine wD ?_ | refine vA ?_ | refine vB ?_ | refine vC ?_ | refine vD ?_ | refine uA ?_ | refine uB ?_ | refine uC ?_ | refine uD ?_); conv => whnf) | ((first | refine Pick.dec (fun h => ?_) (fun h => ?_) | refine Pick.beq (fun h => ?_) (fun h => ?_) | refine Cond.dec (fun h => ?_) (fun h => ?_) | refine Cond.beq (fun h => ?_) (fun h => ?_) | refine Cond.nd (fun h => ?_) (fun h => ?_) | refine Pick.nd (fun h => ?_) (fun h => ?_) | refine Pick.mk (fun h => ?_) (fun h => ?_) | refine Cond.mk (fun h => ?_) (fun h => ?_)) <;> conv => whnf))
        rw [e1]
        apply hw [0] [true, true, false, false, true, false, false, true, true] _ _ rfl
        refine ih (k + 1) (by omega) ?_
        rw [hi, hd]
        show (if stB name l[k] = true then (k : Int) else idxB (stB name) (k + 1) (l.drop (k + 1))) = _
        rw [if_neg (by rw [hb]; decide)]
  apply hw [0] [true, true, false, false, true, false, false, true, true] _ _ rfl
  exact turn l.length 0 (by omega) rfl
def hasB (name : ByteArray) (l : List Re) : Bool := decide (idxB (stB name) 0 l ≥ 0)
theorem hasRe_ret (l : List Re) (name : ByteArray) (hn : name.size ≤ 32) (hl : l.length ≤ 1048576) : Ret Try.prog 21 [eL 2 cRe l, .fn 22 [] [.ptr 0 0]] [.cells [.str name]] (.bool (hasB name l)) [.cells [.str name]] := by
  have hI := ixRe_ret l name hn hl
  unfold hasB
  refine ret_of_body atCalls tok mixed Try.func21 (by kernel_rfl) rfl (k := 9) (rs := [.tmp 4]) (by kernel_rfl) (by kernel_rfl) ?_
  (conv => whnf) <;> repeat' (first | (refine CalledH.mk [0] _ _ rfl (Nat.le_refl _) hI ?_; conv => whnf) | ((first | refine wN ?_ | refine wA ?_ | refine wB ?_ | refine wC ?_ | refine wD ?_ | refine vA ?_ | refine vB ?_ | refine vC ?_ | refine vD ?_ | refine uA ?_ | refine uB ?_ | refine uC ?_ | refine uD ?_); conv => whnf) | ((first | refine Pick.dec (fun h => ?_) (fun h => ?_) | refine Pick.beq (fun h => ?_) (fun h => ?_) | refine Cond.dec (fun h => ?_) (fun h => ?_) | refine Cond.beq (fun h => ?_) (fun h => ?_) | refine Cond.nd (fun h => ?_) (fun h => ?_) | refine Pick.nd (fun h => ?_) (fun h => ?_) | refine Pick.mk (fun h => ?_) (fun h => ?_) | refine Cond.mk (fun h => ?_) (fun h => ?_)) <;> conv => whnf))
  exact EndH.mk [0] rfl rfl rfl
/-- the words -/
def wordL : List ByteArray := [⟨#[114, 101, 116, 117, 114, 110]⟩, ⟨#[102, 105, 101, 108, 100]⟩, ⟨#[108, 105, 110, 101]⟩, ⟨#[99, 104, 101, 99, 107]⟩, ⟨#[115, 101, 99, 116, 105, 111, 110]⟩, ⟨#[116, 97, 98, 108, 101]⟩, ⟨#[112, 97, 103, 101]⟩, ⟨#[119, 104, 101, 110]⟩, ⟨#[109, 97, 120]⟩, ⟨#[102, 114, 111, 109]⟩, ⟨#[98, 97, 115, 101]⟩, ⟨#[114, 97, 116, 101]⟩, ⟨#[110, 101, 101, 100, 101, 100]⟩, ⟨#[97, 109, 111, 117, 110, 116]⟩, ⟨#[102, 108, 97, 103]⟩, ⟨#[116, 101, 120, 116]⟩, ⟨#[105, 102]⟩, ⟨#[114, 111, 117, 110, 100]⟩, ⟨#[98, 108, 97, 110, 107]⟩, ⟨#[114, 111, 119, 115]⟩, ⟨#[115, 117, 109]⟩, ⟨#[99, 111, 117, 110, 116]⟩, ⟨#[109, 105, 110]⟩, ⟨#[97, 110, 100]⟩, ⟨#[111, 114]⟩, ⟨#[110, 111, 116]⟩, ⟨#[116, 114, 117, 101]⟩, ⟨#[102, 97, 108, 115, 101]⟩, ⟨#[104, 97, 108, 102, 95, 117, 112]⟩, ⟨#[104, 97, 108, 102, 95, 101, 118, 101, 110]⟩, ⟨#[100, 111, 119, 110]⟩, ⟨#[117, 112]⟩, ⟨#[102, 108, 111, 111, 114]⟩]
def cW (s : ByteArray) : List Val := [.str s]
theorem wordAt (l : List ByteArray) (s : ByteArray) (hl : l.length ≤ 1048576) : ∃ i, Ret Try.prog 34 [eL 1 cW l, .str s] [] (.int .i64 i) [] := by
  refine ⟨idxB (fun w => decide (w = s)) 0 l, ?_⟩
  refine ret_of_body atNone tok mixed Try.func34 (by kernel_rfl) rfl (k := 19) (rs := [.tmp 4]) (by kernel_rfl) (by kernel_rfl) ?_
  (conv => whnf) <;> repeat' (first | ((first | refine wN ?_ | refine wA ?_ | refine wB ?_ | refine wC ?_ | refine wD ?_ | refine vA ?_ | refine vB ?_ | refine vC ?_ | refine vD ?_ | refine uA ?_ | refine uB ?_ | refine uC ?_ | refine uD ?_); conv => whnf) | ((first | refine Pick.dec (fun h => ?_) (fun h => ?_) | refine Pick.beq (fun h => ?_) (fun h => ?_) | refine Cond.dec (fun h => ?_) (fun h => ?_) | refine Cond.beq (fun h => ?_) (fun h => ?_) | refine Cond.nd (fun h => ?_) (fun h => ?_) | refine Pick.nd (fun h => ?_) (fun h => ?_) | refine Pick.mk (fun h => ?_) (fun h => ?_) | refine Cond.mk (fun h => ?_) (fun h => ?_)) <;> conv => whnf))
  intro J jw js
  have key : ∀ (d k : Nat), k + d = l.length → idxB (fun w => decide (w = s)) 0 l = idxB (fun w => decide (w = s)) k (l.drop k) → J [eL 1 cW l, .str s, .und, .und, .int .i64 0, .int .i64 (k : Int), .und, .und, .und, .und, .und, .und, .und, .und, .und, .und, .und, .und, .und] [] := by
    intro d
    induction d with
    | zero =>
      intro k hk hi
      apply js
      conv => whnf
      refine Cond.ff (decF (by omega)) ?_
      (conv => whnf) <;> repeat' (first | ((first | refine wN ?_ | refine wA ?_ | refine wB ?_ | refine wC ?_ | refine wD ?_ | refine vA ?_ | refine vB ?_ | refine vC ?_ | refine vD ?_ | refine uA ?_ | refine uB ?_ | refine uC ?_ | refine uD ?_); conv => whnf) | ((first | refine Pick.dec (fun h => ?_) (fun h => ?_) | refine Pick.beq (fun h => ?_) (fun h => ?_) | refine Cond.dec (fun h => ?_) (fun h => ?_) | refine Cond.beq (fun h => ?_) (fun h => ?_) | refine Cond.nd (fun h => ?_) (fun h => ?_) | refine Pick.nd (fun h => ?_) (fun h => ?_) | refine Pick.mk (fun h => ?_) (fun h => ?_) | refine Cond.mk (fun h => ?_) (fun h => ?_)) <;> conv => whnf))
      refine End.mk (int_eq ?_) rfl
      rw [hi, List.drop_of_length_le (by omega)]; rfl
    | succ d ih =>
      intro k hk hi
      have hkl : k < l.length := by omega
      have gk : getL cW l (Int.toNat (k : Int)) = cW l[k] := by rw [Int.toNat_natCast]; exact getL_at (List.getElem?_eq_getElem hkl)
      have e1 : IntKind.i64.wrap ((k : Int) + 1) = ((k + 1 : Nat) : Int) := by rw [wi64_id (by omega) (by omega)]; omega
      have hd : l.drop k = l[k] :: l.drop (k + 1) := List.drop_eq_getElem_cons hkl
      have hu : idxB (fun w => decide (w = s)) k (l[k] :: l.drop (k + 1)) = if decide (l[k] = s) = true then (k : Int) else idxB (fun w => decide (w = s)) (k + 1) (l.drop (k + 1)) := rfl
      rw [hd, hu] at hi
      generalize l[k] = w at *
      apply js
      conv => whnf
      refine Cond.tt (decT (by omega)) ?_
      by_cases hn : w = s
      · have hs : (w.toList == s.toList) = true := by rw [toList_eq]; exact decide_eq_true hn
        (conv => whnf) <;> repeat' (first | ((conv => arg 1; whnf); rw [gk]; conv => whnf) | (rw [hs]; conv => whnf) | ((first | refine wN ?_ | refine wA ?_ | refine wB ?_ | refine wC ?_ | refine wD ?_ | refine vA ?_ | refine vB ?_ | refine vC ?_ | refine vD ?_ | refine uA ?_ | refine uB ?_ | refine uC ?_ | refine uD ?_); conv => whnf) | ((first | refine Pick.dec (fun h => ?_) (fun h => ?_) | refine Pick.beq (fun h => ?_) (fun h => ?_) | refine Cond.dec (fun h => ?_) (fun h => ?_) | refine Cond.beq (fun h => ?_) (fun h => ?_) | refine Cond.nd (fun h => ?_) (fun h => ?_) | refine Pick.nd (fun h => ?_) (fun h => ?_) | refine Pick.mk (fun h => ?_) (fun h => ?_) | refine Cond.mk (fun h => ?_) (fun h => ?_)) <;> conv => whnf))
        refine End.mk (int_eq ?_) rfl
        rw [hi, if_pos (decide_eq_true hn)]
      · have hs : (w.toList == s.toList) = false := by rw [toList_eq]; exact decide_eq_false hn
        (conv => whnf) <;> repeat' (first | ((conv => arg 1; whnf); rw [gk]; conv => whnf) | (rw [hs]; conv => whnf) | ((first | refine wN ?_ | refine wA ?_ | refine wB ?_ | refine wC ?_ | refine wD ?_ | refine vA ?_ | refine vB ?_ | refine vC ?_ | refine vD ?_ | refine uA ?_ | refine uB ?_ | refine uC ?_ | refine uD ?_); conv => whnf) | ((first | refine Pick.dec (fun h => ?_) (fun h => ?_) | refine Pick.beq (fun h => ?_) (fun h => ?_) | refine Cond.dec (fun h => ?_) (fun h => ?_) | refine Cond.beq (fun h => ?_) (fun h => ?_) | refine Cond.nd (fun h => ?_) (fun h => ?_) | refine Pick.nd (fun h => ?_) (fun h => ?_) | refine Pick.mk (fun h => ?_) (fun h => ?_) | refine Cond.mk (fun h => ?_) (fun h => ?_)) <;> conv => whnf))
        rw [e1]
        apply jw [] [true, true, false, false, true, true] _ _ (by decide)
        refine ih (k + 1) (by omega) ?_
        rw [hi, if_neg (by simpa using hn)]
  apply jw [] [true, true, false, false, true, true] _ _ (by decide)
  exact key l.length 0 (by omega) rfl
theorem words_ret : Ret Try.prog 35 [] [] (eL 1 cW wordL) [] := by
  have h : Ret Try.prog 35 [] [] (.row 0 33) [.row 9 1 33 (fun i => (pieces 1 33 (wordL.map Val.str)).getD i []) 0] := by
    refine ret_of_body atCalls tok mixed Try.func35 (by kernel_rfl) rfl (k := 2) (rs := [.tmp 0]) (by kernel_rfl) (by kernel_rfl) ?_
    (conv => whnf) <;> repeat' (first | ((first | refine wN ?_ | refine wA ?_ | refine wB ?_ | refine wC ?_ | refine wD ?_ | refine vA ?_ | refine vB ?_ | refine vC ?_ | refine vD ?_ | refine uA ?_ | refine uB ?_ | refine uC ?_ | refine uD ?_); conv => whnf) | ((first | refine Pick.dec (fun h => ?_) (fun h => ?_) | refine Pick.beq (fun h => ?_) (fun h => ?_) | refine Cond.dec (fun h => ?_) (fun h => ?_) | refine Cond.beq (fun h => ?_) (fun h => ?_) | refine Cond.nd (fun h => ?_) (fun h => ?_) | refine Pick.nd (fun h => ?_) (fun h => ?_) | refine Pick.mk (fun h => ?_) (fun h => ?_) | refine Cond.mk (fun h => ?_) (fun h => ?_)) <;> conv => whnf))
    exact EndH.mk [0] rfl rfl rfl
  have h2 : Ret Try.prog 35 [] [] (.ext 1 33 (fun i => (pieces 1 33 (wordL.map Val.str)).getD i [])) [] := h.lend ⟨rfl, Nat.le_refl _, Nat.le_refl _⟩ rfl
  refine h2.leR (le_ext fun i hi => ?_)
  match i, hi with
  | 0, _ => exact rfl
  | 1, _ => exact rfl
  | 2, _ => exact rfl
  | 3, _ => exact rfl
  | 4, _ => exact rfl
  | 5, _ => exact rfl
  | 6, _ => exact rfl
  | 7, _ => exact rfl
  | 8, _ => exact rfl
  | 9, _ => exact rfl
  | 10, _ => exact rfl
  | 11, _ => exact rfl
  | 12, _ => exact rfl
  | 13, _ => exact rfl
  | 14, _ => exact rfl
  | 15, _ => exact rfl
  | 16, _ => exact rfl
  | 17, _ => exact rfl
  | 18, _ => exact rfl
  | 19, _ => exact rfl
  | 20, _ => exact rfl
  | 21, _ => exact rfl
  | 22, _ => exact rfl
  | 23, _ => exact rfl
  | 24, _ => exact rfl
  | 25, _ => exact rfl
  | 26, _ => exact rfl
  | 27, _ => exact rfl
  | 28, _ => exact rfl
  | 29, _ => exact rfl
  | 30, _ => exact rfl
  | 31, _ => exact rfl
  | 32, _ => exact rfl
  | n + 33, h => exact absurd h (by omega)
theorem words_at (s : ByteArray) : ∃ i, Ret Try.prog 34 [eL 1 cW wordL, .str s] [] (.int .i64 i) [] := wordAt wordL s (by decide)
theorem free_ret (s : ByteArray) (hs : s.size ≤ 9223372036854775807) : ∃ b, Ret Try.prog 15 [.str s] [] (.bool b) [] ∧ (b = true → s.size ≤ 32) := by
  have hN := rname_ret s hs
  cases h : nameB s with
  | false =>
    rw [h] at hN
    refine ⟨false, ?_, fun h => by cases h⟩
    refine ret_of_body atCalls tok mixed Try.func15 (by kernel_rfl) rfl (k := 11) (rs := [.tmp 2]) (by kernel_rfl) (by kernel_rfl) ?_
    (conv => whnf) <;> repeat' (first | ((first | refine wN ?_ | refine wA ?_ | refine wB ?_ | refine wC ?_ | refine wD ?_ | refine Called.mk _ _ (hN) ?_ | refine vA ?_ | refine vB ?_ | refine vC ?_ | refine vD ?_ | refine uA ?_ | refine uB ?_ | refine uC ?_ | refine uD ?_); conv => whnf) | ((first | refine Pick.dec (fun h => ?_) (fun h => ?_) | refine Pick.beq (fun h => ?_) (fun h => ?_) | refine Cond.dec (fun h => ?_) (fun h => ?_) | refine Cond.beq (fun h => ?_) (fun h => ?_) | refine Cond.nd (fun h => ?_) (fun h => ?_) | refine Pick.nd (fun h => ?_) (fun h => ?_) | refine Pick.mk (fun h => ?_) (fun h => ?_) | refine Cond.mk (fun h => ?_) (fun h => ?_)) <;> conv => whnf))
    exact End.mk rfl rfl
  | true =>
    rw [h] at hN
    obtain ⟨i, hA⟩ := words_at s
    refine ⟨decide (i < 0), ?_, fun _ => nameB_len h⟩
    refine ret_of_body atCalls tok mixed Try.func15 (by kernel_rfl) rfl (k := 11) (rs := [.tmp 2]) (by kernel_rfl) (by kernel_rfl) ?_
    (conv => whnf) <;> repeat' (first | ((first | refine wN ?_ | refine wA ?_ | refine wB ?_ | refine wC ?_ | refine wD ?_ | refine Called.mk _ _ (hN) ?_ | refine Called.mk _ _ (words_ret) ?_ | refine Called.mk _ _ (hA) ?_ | refine vA ?_ | refine vB ?_ | refine vC ?_ | refine vD ?_ | refine uA ?_ | refine uB ?_ | refine uC ?_ | refine uD ?_); conv => whnf) | ((first | refine Pick.dec (fun h => ?_) (fun h => ?_) | refine Pick.beq (fun h => ?_) (fun h => ?_) | refine Cond.dec (fun h => ?_) (fun h => ?_) | refine Cond.beq (fun h => ?_) (fun h => ?_) | refine Cond.nd (fun h => ?_) (fun h => ?_) | refine Pick.nd (fun h => ?_) (fun h => ?_) | refine Pick.mk (fun h => ?_) (fun h => ?_) | refine Cond.mk (fun h => ?_) (fun h => ?_)) <;> conv => whnf))
    all_goals exact End.mk rfl rfl

theorem kindMore {dn rn name : ByteArray} {rm : Int} {its : List It} {ks ks' : List Sc} {tabs : List Tb} {pages : List Pg} {x : Xp} {q : Int} (hx : x.Wf) (hL : x.Lens) (h : kindK ⟨dn, .mk rn rm its ks, tabs, pages⟩ 0 x = (q, 0))
    (hok : (⟨dn, .mk rn rm its ks, tabs, pages⟩ : Df).Ok) (h1 : its.length ≤ 1048576) (h2 : ks.length ≤ 1048576) (h3 : tabs.length ≤ 1048576) (hk : ks' = if (⟨dn, .mk rn rm its ks, tabs, pages⟩ : Df).flat.length < 64 then ks ++ [kidN name] else ks)
    (n1 n2 n3 : Nat) (g1 g2 g3 : Nat → List Val) (l1 : (Val.ext 23 n1 g1).le (eL 23 cIt (its ++ [itN name]))) (l2 : (Val.ext 4 n2 g2).le (.ext 4 ks'.length (Sc.rows ks'))) (l3 : (Val.ext 2 n3 g3).le (eL 2 cTb (tabs ++ [tabN name]))) :
    Ret Try.prog 14 [.agg [.str dn, .str rn, .int .i64 rm, .ext 23 n1 g1, .ext 4 n2 g2, .ext 2 n3 g3, eL 19 cPg pages], .int .i64 0, eE x] [] (.tup [.int .i64 q, .int .i64 0]) [] := by
  have hm := moreD_ok hok name h1 h2 h3
  have hK := Kind_ret _ hm 0 x hx hL
  have hS := kindK_stays ⟨dn, .mk rn rm its ks, tabs, pages⟩ (itN name) (name ++ us) (tabN name) x h
  have hS : kindK (moreD ⟨dn, .mk rn rm its ks, tabs, pages⟩ (itN name) (kidN name) (tabN name)) 0 x = (q, 0) := hS
  rw [hS] at hK
  unfold moreD at hK
  have hk : (if (⟨dn, .mk rn rm its ks, tabs, pages⟩ : Df).flat.length < 64 then (Df.root ⟨dn, .mk rn rm its ks, tabs, pages⟩).kids ++ [kidN name] else (Df.root ⟨dn, .mk rn rm its ks, tabs, pages⟩).kids) = ks' := hk.symm
  rw [hk] at hK
  exact hK.le (.cons (le_agg (.cons (.refl _) (.cons (.refl _) (.cons (.refl _) (.cons l1 (.cons l2 (.cons l3 (.cons (.refl _) .nil)))))))) (.cons (.refl _) (.cons (.refl _) .nil)))
set_option maxHeartbeats 16000000 in
theorem typesStay_ret (d : Df) (hd : d.Ok) (b1 : d.root.items.length ≤ 1048576) (b2 : d.root.kids.length ≤ 1048576) (b3 : d.tabs.length ≤ 1048576) (x : Xp) (hx : x.Wf) (hc : cntX x ≤ 1048576) (name : ByteArray) (hs : name.size ≤ 9223372036854775807) :
    Ret Try.prog 4 [eDf d, eE x, .str name] [] (.bool true) [] := by
  have hL := lens_of_cnt x hc
  have hK := Kind_ret d hd 0 x hx hL
  obtain ⟨fb, hF, hfb⟩ := free_ret name hs
  have hR := treads_ret x hx hc
  have hFl := rFlat_ret d hd
  have hrl : (walkF readF x []).length ≤ 1048576 := by
    have h1 := walkF_rev x []
    have h2 := (walkF_len x []).2.1
    rw [List.reverse_nil] at h1
    rw [← h1, List.length_reverse]
    simp only [List.length_nil, Nat.zero_add] at h2
    omega
  cases hq : kindK d 0 x with
  | mk q e =>
  rw [hq] at hK
  by_cases he : e = 0
  case neg =>
    clear hR hrl
    obtain ⟨k, o, n, sc, v, sca, p, a⟩ := x
    rw [cE_mk] at hK ⊢
    refine ret_of_body atCalls tok mixed Try.func4 (by kernel_rfl) rfl (k := 102) (rs := [.tmp 6]) (by kernel_rfl) (by kernel_rfl) ?_
    (conv => whnf) <;> repeat' (first | ((first | refine wN ?_ | refine wA ?_ | refine wB ?_ | refine wC ?_ | refine wD ?_ | refine Called.mk _ _ (hK) ?_ | refine Called.mk _ _ (begun10) ?_ | refine vA ?_ | refine vB ?_ | refine vC ?_ | refine vD ?_ | refine uA ?_ | refine uB ?_ | refine uC ?_ | refine uD ?_); conv => whnf) | ((first | refine Pick.dec (fun h => ?_) (fun h => ?_) | refine Pick.beq (fun h => ?_) (fun h => ?_) | refine Cond.dec (fun h => ?_) (fun h => ?_) | refine Cond.beq (fun h => ?_) (fun h => ?_) | refine Cond.nd (fun h => ?_) (fun h => ?_) | refine Pick.nd (fun h => ?_) (fun h => ?_) | refine Pick.mk (fun h => ?_) (fun h => ?_) | refine Cond.mk (fun h => ?_) (fun h => ?_)) <;> conv => whnf))
    exact End.mk rfl rfl
  subst he
  cases fb with
  | false =>
    clear hR hrl
    obtain ⟨k, o, n, sc, v, sca, p, a⟩ := x
    rw [cE_mk] at hK ⊢
    refine ret_of_body atCalls tok mixed Try.func4 (by kernel_rfl) rfl (k := 102) (rs := [.tmp 6]) (by kernel_rfl) (by kernel_rfl) ?_
    (conv => whnf) <;> repeat' (first | ((first | refine wN ?_ | refine wA ?_ | refine wB ?_ | refine wC ?_ | refine wD ?_ | refine Called.mk _ _ (hK) ?_ | refine Called.mk _ _ (begun10) ?_ | refine Called.mk _ _ (hF) ?_ | refine vA ?_ | refine vB ?_ | refine vC ?_ | refine vD ?_ | refine uA ?_ | refine uB ?_ | refine uC ?_ | refine uD ?_); conv => whnf) | ((first | refine Pick.dec (fun h => ?_) (fun h => ?_) | refine Pick.beq (fun h => ?_) (fun h => ?_) | refine Cond.dec (fun h => ?_) (fun h => ?_) | refine Cond.beq (fun h => ?_) (fun h => ?_) | refine Cond.nd (fun h => ?_) (fun h => ?_) | refine Pick.nd (fun h => ?_) (fun h => ?_) | refine Pick.mk (fun h => ?_) (fun h => ?_) | refine Cond.mk (fun h => ?_) (fun h => ?_)) <;> conv => whnf))
    exact End.mk rfl rfl
  | true =>
  have hn32 := hfb rfl
  have hH := hasRe_ret (walkF readF x []) name hn32 hrl
  have hz : us.size = 1 := rfl
  have hb : name.size + us.size ≤ 9223372036854775807 := by omega
  obtain ⟨dn, ⟨rn, rm, its, ks⟩, tabs, pages⟩ := d
  have hM := fun ks' hk => kindMore (name := name) (ks' := ks') hx hL hq hd b1 b2 b3 hk
  have b1 : its.length ≤ 1048576 := b1
  have b2 : ks.length ≤ 1048576 := b2
  have b3 : tabs.length ≤ 1048576 := b3
  clear hq hd hL hx hc hfb
  generalize walkF readF x [] = l at *
  generalize (⟨dn, .mk rn rm its ks, tabs, pages⟩ : Df).flat = fl at *
  obtain ⟨k, o, n, sc, v, sca, p, a⟩ := x
  rw [cE_mk] at hK hR hM ⊢
  refine ret_of_body atCalls tok mixed Try.func4 (by kernel_rfl) rfl (k := 102) (rs := [.tmp 6]) (by kernel_rfl) (by kernel_rfl) ?_
  (conv => whnf) <;> repeat' (first | ((first | refine wN ?_ | refine wA ?_ | refine wB ?_ | refine wC ?_ | refine wD ?_ | refine Called.mk _ _ (hK) ?_ | refine Called.mk _ _ (begun10) ?_ | refine Called.mk _ _ (hF) ?_ | refine Called.mk _ _ (hR) ?_ | refine vA ?_ | refine vB ?_ | refine vC ?_ | refine vD ?_ | refine uA ?_ | refine uB ?_ | refine uC ?_ | refine uD ?_); conv => whnf) | ((first | refine Pick.dec (fun h => ?_) (fun h => ?_) | refine Pick.beq (fun h => ?_) (fun h => ?_) | refine Cond.dec (fun h => ?_) (fun h => ?_) | refine Cond.beq (fun h => ?_) (fun h => ?_) | refine Cond.nd (fun h => ?_) (fun h => ?_) | refine Pick.nd (fun h => ?_) (fun h => ?_) | refine Pick.mk (fun h => ?_) (fun h => ?_) | refine Cond.mk (fun h => ?_) (fun h => ?_)) <;> conv => whnf))
  intro J jw js
  have key : ∀ (e i : Nat), i + e = l.length →
      J [.und, .und, .und, .ptr 0 0, .ptr 1 0, .ptr 2 0, .und, .int .i64 q, .und, .und, .und, .und, .und, .und, .und, .und, .und, .und, .und, .und, .und, .und, .und, .und, .und, .und, .und, .und, .und, .und, .und, .und, .und, eL 2 cRe l, .int .i64 (l.length : Int), .int .i64 (i : Int), .und, .und, .und, .und, .und, .und, .und, .und, .und, .und, .und, .und, .und, .und, .und, .und, .und, .und, .und, .und, .und, .und, .und, .und, .und, .und, .und, .und, .und, .und, .und, .und, .und, .und, .und, .und, .und, .und, .und, .und, .und, .und, .und, .und, .und, .und, .und, .und, .und, .und, .und, .und, .und, .und, .und, .und, .und, .und, .und, .und, .und, .und, .und, .und, .und, .und] [.cells (cDf ⟨dn, .mk rn rm its ks, tabs, pages⟩), .cells [.int .i64 k, .int .i64 o, .str n, .str sc, .int .i64 v.kind, .bool v.num.neg, .int .u64 (l0 v.num.n), .int .u64 (l1 v.num.n), .int .u64 (l2 v.num.n), .int .u64 (l3 v.num.n), .int .i64 v.num.scale, .bool v.flag, .str v.text, .int .i64 v.err, .int .i64 sca, .int .i64 p, .ext 17 a.length (Xp.rows a)], .cells [.str name]] := by
    intro e
    induction e with
    | succ e im =>
      intro i hi
      have hil : i < l.length := by omega
      have gl : getL cRe l (Int.toNat (i : Int)) = cRe l[i] := by rw [Int.toNat_natCast]; exact getL_at (List.getElem?_eq_getElem hil)
      have e2 : IntKind.i64.wrap ((i : Int) + 1) = ((i + 1 : Nat) : Int) := by rw [wi64_id (by omega) (by omega)]; omega
      generalize l[i] = r at *
      apply js
      conv => whnf
      refine Cond.tt (decT (by omega)) ?_
      by_cases t1 : r.2 = name
      · have f1 : (r.2.toList == name.toList) = true := by rw [toList_eq]; exact decide_eq_true t1
        (conv => whnf) <;> repeat' (first | ((conv => arg 1; whnf); rw [gl]; conv => whnf) | (rw [f1]; conv => whnf) | ((first | refine wN ?_ | refine wA ?_ | refine wB ?_ | refine wC ?_ | refine wD ?_ | refine vA ?_ | refine vB ?_ | refine vC ?_ | refine vD ?_ | refine uA ?_ | refine uB ?_ | refine uC ?_ | refine uD ?_); conv => whnf) | ((first | refine Pick.dec (fun h => ?_) (fun h => ?_) | refine Pick.beq (fun h => ?_) (fun h => ?_) | refine Cond.dec (fun h => ?_) (fun h => ?_) | refine Cond.beq (fun h => ?_) (fun h => ?_) | refine Cond.nd (fun h => ?_) (fun h => ?_) | refine Pick.nd (fun h => ?_) (fun h => ?_) | refine Pick.mk (fun h => ?_) (fun h => ?_) | refine Cond.mk (fun h => ?_) (fun h => ?_)) <;> conv => whnf))
        exact End.mk rfl rfl
      have f1 : (r.2.toList == name.toList) = false := by rw [toList_eq]; exact decide_eq_false t1
      by_cases t2 : r.1 = name
      · have f2 : (r.1.toList == name.toList) = true := by rw [toList_eq]; exact decide_eq_true t2
        (conv => whnf) <;> repeat' (first | ((conv => arg 1; whnf); rw [gl]; conv => whnf) | (rw [f1]; conv => whnf) | (rw [f2]; conv => whnf) | ((first | refine wN ?_ | refine wA ?_ | refine wB ?_ | refine wC ?_ | refine wD ?_ | refine vA ?_ | refine vB ?_ | refine vC ?_ | refine vD ?_ | refine uA ?_ | refine uB ?_ | refine uC ?_ | refine uD ?_); conv => whnf) | ((first | refine Pick.dec (fun h => ?_) (fun h => ?_) | refine Pick.beq (fun h => ?_) (fun h => ?_) | refine Cond.dec (fun h => ?_) (fun h => ?_) | refine Cond.beq (fun h => ?_) (fun h => ?_) | refine Cond.nd (fun h => ?_) (fun h => ?_) | refine Pick.nd (fun h => ?_) (fun h => ?_) | refine Pick.mk (fun h => ?_) (fun h => ?_) | refine Cond.mk (fun h => ?_) (fun h => ?_)) <;> conv => whnf))
        exact End.mk rfl rfl
      have f2 : (r.1.toList == name.toList) = false := by rw [toList_eq]; exact decide_eq_false t2
      (conv => whnf) <;> repeat' (first | ((conv => arg 1; whnf); rw [gl]; conv => whnf) | (rw [f1]; conv => whnf) | (rw [f2]; conv => whnf) | ((first | refine wN ?_ | refine wA ?_ | refine wB ?_ | refine wC ?_ | refine wD ?_ | refine vA ?_ | refine vB ?_ | refine vC ?_ | refine vD ?_ | refine uA ?_ | refine uB ?_ | refine uC ?_ | refine uD ?_); conv => whnf) | ((first | refine Pick.dec (fun h => ?_) (fun h => ?_) | refine Pick.beq (fun h => ?_) (fun h => ?_) | refine Cond.dec (fun h => ?_) (fun h => ?_) | refine Cond.beq (fun h => ?_) (fun h => ?_) | refine Cond.nd (fun h => ?_) (fun h => ?_) | refine Pick.nd (fun h => ?_) (fun h => ?_) | refine Pick.mk (fun h => ?_) (fun h => ?_) | refine Cond.mk (fun h => ?_) (fun h => ?_)) <;> conv => whnf))
      rw [e2]
      apply jw [0, 1, 2] [false, false, false, true, true, true, false, true, false, false, false, false, false, false, false, false, false, false, false, false, false, false, false, false, false, false, false, false, false, false, false, false, false, true, true, true] _ _ rfl
      exact im (i + 1) (by omega)
    | zero =>
      intro i hi
      clear jw
      apply js
      conv => whnf
      refine Cond.ff (decF (by omega)) ?_
      clear js hF hK
      cases hhb : hasB name l with
      | true =>
        rw [hhb] at hH
        clear hM
        rcases Nat.eq_zero_or_pos its.length with i0 | i0
        · obtain rfl : its = [] := List.eq_nil_of_length_eq_zero i0
          rcases Nat.eq_zero_or_pos tabs.length with t0 | t0
          · obtain rfl : tabs = [] := List.eq_nil_of_length_eq_zero t0
            by_cases hf : fl.length < 64
            · rcases Nat.eq_zero_or_pos ks.length with k0 | k0
              · obtain rfl : ks = [] := List.eq_nil_of_length_eq_zero k0
                (conv => whnf) <;> repeat' (first | (refine Need.mk hb ?_; conv => whnf) | (refine CalledH.mk [2] _ _ rfl (Nat.le_refl _) hH ?_; conv => whnf) | ((first | refine wN ?_ | refine wA ?_ | refine wB ?_ | refine wC ?_ | refine wD ?_ | refine Called.mk _ _ (cloneLs0 _) ?_ | refine Called.mk _ _ (cloneTs0 _) ?_ | refine Called.mk _ _ (cloneSs0 _) ?_ | refine Called.mk _ _ (hR) ?_ | refine Called.mk _ _ (hFl) ?_ | refine vA ?_ | refine vB ?_ | refine vC ?_ | refine vD ?_ | refine uA ?_ | refine uB ?_ | refine uC ?_ | refine uD ?_); conv => whnf) | ((first | refine Pick.dec (fun h => ?_) (fun h => ?_) | refine Pick.beq (fun h => ?_) (fun h => ?_) | refine Cond.dec (fun h => ?_) (fun h => ?_) | refine Cond.beq (fun h => ?_) (fun h => ?_) | refine Cond.nd (fun h => ?_) (fun h => ?_) | refine Pick.nd (fun h => ?_) (fun h => ?_) | refine Pick.mk (fun h => ?_) (fun h => ?_) | refine Cond.mk (fun h => ?_) (fun h => ?_)) <;> conv => whnf))
                all_goals exact End.mk rfl rfl
              · (conv => whnf) <;> repeat' (first | (refine Need.mk hb ?_; conv => whnf) | (refine CalledH.mk [2] _ _ rfl (Nat.le_refl _) hH ?_; conv => whnf) | ((first | refine wN ?_ | refine wA ?_ | refine wB ?_ | refine wC ?_ | refine wD ?_ | refine Called.mk _ _ (cloneLs0 _) ?_ | refine Called.mk _ _ (cloneTs0 _) ?_ | refine Called.mk _ _ (cloneSs2 _ k0 _ (by omega)) ?_ | refine Called.mk _ _ (hR) ?_ | refine Called.mk _ _ (hFl) ?_ | refine vA ?_ | refine vB ?_ | refine vC ?_ | refine vD ?_ | refine uA ?_ | refine uB ?_ | refine uC ?_ | refine uD ?_); conv => whnf) | ((first | refine Pick.dec (fun h => ?_) (fun h => ?_) | refine Pick.beq (fun h => ?_) (fun h => ?_) | refine Cond.dec (fun h => ?_) (fun h => ?_) | refine Cond.beq (fun h => ?_) (fun h => ?_) | refine Cond.nd (fun h => ?_) (fun h => ?_) | refine Pick.nd (fun h => ?_) (fun h => ?_) | refine Pick.mk (fun h => ?_) (fun h => ?_) | refine Cond.mk (fun h => ?_) (fun h => ?_)) <;> conv => whnf))
                all_goals exact End.mk rfl rfl
            · (conv => whnf) <;> repeat' (first | (refine Need.mk hb ?_; conv => whnf) | (refine CalledH.mk [2] _ _ rfl (Nat.le_refl _) hH ?_; conv => whnf) | ((first | refine wN ?_ | refine wA ?_ | refine wB ?_ | refine wC ?_ | refine wD ?_ | refine Called.mk _ _ (cloneLs0 _) ?_ | refine Called.mk _ _ (cloneTs0 _) ?_ | refine Called.mk _ _ (hR) ?_ | refine Called.mk _ _ (hFl) ?_ | refine vA ?_ | refine vB ?_ | refine vC ?_ | refine vD ?_ | refine uA ?_ | refine uB ?_ | refine uC ?_ | refine uD ?_); conv => whnf) | ((first | refine Pick.dec (fun h => ?_) (fun h => ?_) | refine Pick.beq (fun h => ?_) (fun h => ?_) | refine Cond.dec (fun h => ?_) (fun h => ?_) | refine Cond.beq (fun h => ?_) (fun h => ?_) | refine Cond.nd (fun h => ?_) (fun h => ?_) | refine Pick.nd (fun h => ?_) (fun h => ?_) | refine Pick.mk (fun h => ?_) (fun h => ?_) | refine Cond.mk (fun h => ?_) (fun h => ?_)) <;> conv => whnf))
              all_goals exact End.mk rfl rfl
          · by_cases hf : fl.length < 64
            · rcases Nat.eq_zero_or_pos ks.length with k0 | k0
              · obtain rfl : ks = [] := List.eq_nil_of_length_eq_zero k0
                (conv => whnf) <;> repeat' (first | (refine Need.mk hb ?_; conv => whnf) | (refine CalledH.mk [2] _ _ rfl (Nat.le_refl _) hH ?_; conv => whnf) | ((first | refine wN ?_ | refine wA ?_ | refine wB ?_ | refine wC ?_ | refine wD ?_ | refine Called.mk _ _ (cloneLs0 _) ?_ | refine Called.mk _ _ (cloneTs2 _ t0 _ (by omega)) ?_ | refine Called.mk _ _ (cloneSs0 _) ?_ | refine Called.mk _ _ (hR) ?_ | refine Called.mk _ _ (hFl) ?_ | refine vA ?_ | refine vB ?_ | refine vC ?_ | refine vD ?_ | refine uA ?_ | refine uB ?_ | refine uC ?_ | refine uD ?_); conv => whnf) | ((first | refine Pick.dec (fun h => ?_) (fun h => ?_) | refine Pick.beq (fun h => ?_) (fun h => ?_) | refine Cond.dec (fun h => ?_) (fun h => ?_) | refine Cond.beq (fun h => ?_) (fun h => ?_) | refine Cond.nd (fun h => ?_) (fun h => ?_) | refine Pick.nd (fun h => ?_) (fun h => ?_) | refine Pick.mk (fun h => ?_) (fun h => ?_) | refine Cond.mk (fun h => ?_) (fun h => ?_)) <;> conv => whnf))
                all_goals exact End.mk rfl rfl
              · (conv => whnf) <;> repeat' (first | (refine Need.mk hb ?_; conv => whnf) | (refine CalledH.mk [2] _ _ rfl (Nat.le_refl _) hH ?_; conv => whnf) | ((first | refine wN ?_ | refine wA ?_ | refine wB ?_ | refine wC ?_ | refine wD ?_ | refine Called.mk _ _ (cloneLs0 _) ?_ | refine Called.mk _ _ (cloneTs2 _ t0 _ (by omega)) ?_ | refine Called.mk _ _ (cloneSs2 _ k0 _ (by omega)) ?_ | refine Called.mk _ _ (hR) ?_ | refine Called.mk _ _ (hFl) ?_ | refine vA ?_ | refine vB ?_ | refine vC ?_ | refine vD ?_ | refine uA ?_ | refine uB ?_ | refine uC ?_ | refine uD ?_); conv => whnf) | ((first | refine Pick.dec (fun h => ?_) (fun h => ?_) | refine Pick.beq (fun h => ?_) (fun h => ?_) | refine Cond.dec (fun h => ?_) (fun h => ?_) | refine Cond.beq (fun h => ?_) (fun h => ?_) | refine Cond.nd (fun h => ?_) (fun h => ?_) | refine Pick.nd (fun h => ?_) (fun h => ?_) | refine Pick.mk (fun h => ?_) (fun h => ?_) | refine Cond.mk (fun h => ?_) (fun h => ?_)) <;> conv => whnf))
                all_goals exact End.mk rfl rfl
            · (conv => whnf) <;> repeat' (first | (refine Need.mk hb ?_; conv => whnf) | (refine CalledH.mk [2] _ _ rfl (Nat.le_refl _) hH ?_; conv => whnf) | ((first | refine wN ?_ | refine wA ?_ | refine wB ?_ | refine wC ?_ | refine wD ?_ | refine Called.mk _ _ (cloneLs0 _) ?_ | refine Called.mk _ _ (cloneTs2 _ t0 _ (by omega)) ?_ | refine Called.mk _ _ (hR) ?_ | refine Called.mk _ _ (hFl) ?_ | refine vA ?_ | refine vB ?_ | refine vC ?_ | refine vD ?_ | refine uA ?_ | refine uB ?_ | refine uC ?_ | refine uD ?_); conv => whnf) | ((first | refine Pick.dec (fun h => ?_) (fun h => ?_) | refine Pick.beq (fun h => ?_) (fun h => ?_) | refine Cond.dec (fun h => ?_) (fun h => ?_) | refine Cond.beq (fun h => ?_) (fun h => ?_) | refine Cond.nd (fun h => ?_) (fun h => ?_) | refine Pick.nd (fun h => ?_) (fun h => ?_) | refine Pick.mk (fun h => ?_) (fun h => ?_) | refine Cond.mk (fun h => ?_) (fun h => ?_)) <;> conv => whnf))
              all_goals exact End.mk rfl rfl
        · rcases Nat.eq_zero_or_pos tabs.length with t0 | t0
          · obtain rfl : tabs = [] := List.eq_nil_of_length_eq_zero t0
            by_cases hf : fl.length < 64
            · rcases Nat.eq_zero_or_pos ks.length with k0 | k0
              · obtain rfl : ks = [] := List.eq_nil_of_length_eq_zero k0
                (conv => whnf) <;> repeat' (first | (refine Need.mk hb ?_; conv => whnf) | (refine CalledH.mk [2] _ _ rfl (Nat.le_refl _) hH ?_; conv => whnf) | ((first | refine wN ?_ | refine wA ?_ | refine wB ?_ | refine wC ?_ | refine wD ?_ | refine Called.mk _ _ (cloneLs2 _ i0 _ (by omega)) ?_ | refine Called.mk _ _ (cloneTs0 _) ?_ | refine Called.mk _ _ (cloneSs0 _) ?_ | refine Called.mk _ _ (hR) ?_ | refine Called.mk _ _ (hFl) ?_ | refine vA ?_ | refine vB ?_ | refine vC ?_ | refine vD ?_ | refine uA ?_ | refine uB ?_ | refine uC ?_ | refine uD ?_); conv => whnf) | ((first | refine Pick.dec (fun h => ?_) (fun h => ?_) | refine Pick.beq (fun h => ?_) (fun h => ?_) | refine Cond.dec (fun h => ?_) (fun h => ?_) | refine Cond.beq (fun h => ?_) (fun h => ?_) | refine Cond.nd (fun h => ?_) (fun h => ?_) | refine Pick.nd (fun h => ?_) (fun h => ?_) | refine Pick.mk (fun h => ?_) (fun h => ?_) | refine Cond.mk (fun h => ?_) (fun h => ?_)) <;> conv => whnf))
                all_goals exact End.mk rfl rfl
              · (conv => whnf) <;> repeat' (first | (refine Need.mk hb ?_; conv => whnf) | (refine CalledH.mk [2] _ _ rfl (Nat.le_refl _) hH ?_; conv => whnf) | ((first | refine wN ?_ | refine wA ?_ | refine wB ?_ | refine wC ?_ | refine wD ?_ | refine Called.mk _ _ (cloneLs2 _ i0 _ (by omega)) ?_ | refine Called.mk _ _ (cloneTs0 _) ?_ | refine Called.mk _ _ (cloneSs2 _ k0 _ (by omega)) ?_ | refine Called.mk _ _ (hR) ?_ | refine Called.mk _ _ (hFl) ?_ | refine vA ?_ | refine vB ?_ | refine vC ?_ | refine vD ?_ | refine uA ?_ | refine uB ?_ | refine uC ?_ | refine uD ?_); conv => whnf) | ((first | refine Pick.dec (fun h => ?_) (fun h => ?_) | refine Pick.beq (fun h => ?_) (fun h => ?_) | refine Cond.dec (fun h => ?_) (fun h => ?_) | refine Cond.beq (fun h => ?_) (fun h => ?_) | refine Cond.nd (fun h => ?_) (fun h => ?_) | refine Pick.nd (fun h => ?_) (fun h => ?_) | refine Pick.mk (fun h => ?_) (fun h => ?_) | refine Cond.mk (fun h => ?_) (fun h => ?_)) <;> conv => whnf))
                all_goals exact End.mk rfl rfl
            · (conv => whnf) <;> repeat' (first | (refine Need.mk hb ?_; conv => whnf) | (refine CalledH.mk [2] _ _ rfl (Nat.le_refl _) hH ?_; conv => whnf) | ((first | refine wN ?_ | refine wA ?_ | refine wB ?_ | refine wC ?_ | refine wD ?_ | refine Called.mk _ _ (cloneLs2 _ i0 _ (by omega)) ?_ | refine Called.mk _ _ (cloneTs0 _) ?_ | refine Called.mk _ _ (hR) ?_ | refine Called.mk _ _ (hFl) ?_ | refine vA ?_ | refine vB ?_ | refine vC ?_ | refine vD ?_ | refine uA ?_ | refine uB ?_ | refine uC ?_ | refine uD ?_); conv => whnf) | ((first | refine Pick.dec (fun h => ?_) (fun h => ?_) | refine Pick.beq (fun h => ?_) (fun h => ?_) | refine Cond.dec (fun h => ?_) (fun h => ?_) | refine Cond.beq (fun h => ?_) (fun h => ?_) | refine Cond.nd (fun h => ?_) (fun h => ?_) | refine Pick.nd (fun h => ?_) (fun h => ?_) | refine Pick.mk (fun h => ?_) (fun h => ?_) | refine Cond.mk (fun h => ?_) (fun h => ?_)) <;> conv => whnf))
              all_goals exact End.mk rfl rfl
          · by_cases hf : fl.length < 64
            · rcases Nat.eq_zero_or_pos ks.length with k0 | k0
              · obtain rfl : ks = [] := List.eq_nil_of_length_eq_zero k0
                (conv => whnf) <;> repeat' (first | (refine Need.mk hb ?_; conv => whnf) | (refine CalledH.mk [2] _ _ rfl (Nat.le_refl _) hH ?_; conv => whnf) | ((first | refine wN ?_ | refine wA ?_ | refine wB ?_ | refine wC ?_ | refine wD ?_ | refine Called.mk _ _ (cloneLs2 _ i0 _ (by omega)) ?_ | refine Called.mk _ _ (cloneTs2 _ t0 _ (by omega)) ?_ | refine Called.mk _ _ (cloneSs0 _) ?_ | refine Called.mk _ _ (hR) ?_ | refine Called.mk _ _ (hFl) ?_ | refine vA ?_ | refine vB ?_ | refine vC ?_ | refine vD ?_ | refine uA ?_ | refine uB ?_ | refine uC ?_ | refine uD ?_); conv => whnf) | ((first | refine Pick.dec (fun h => ?_) (fun h => ?_) | refine Pick.beq (fun h => ?_) (fun h => ?_) | refine Cond.dec (fun h => ?_) (fun h => ?_) | refine Cond.beq (fun h => ?_) (fun h => ?_) | refine Cond.nd (fun h => ?_) (fun h => ?_) | refine Pick.nd (fun h => ?_) (fun h => ?_) | refine Pick.mk (fun h => ?_) (fun h => ?_) | refine Cond.mk (fun h => ?_) (fun h => ?_)) <;> conv => whnf))
                all_goals exact End.mk rfl rfl
              · (conv => whnf) <;> repeat' (first | (refine Need.mk hb ?_; conv => whnf) | (refine CalledH.mk [2] _ _ rfl (Nat.le_refl _) hH ?_; conv => whnf) | ((first | refine wN ?_ | refine wA ?_ | refine wB ?_ | refine wC ?_ | refine wD ?_ | refine Called.mk _ _ (cloneLs2 _ i0 _ (by omega)) ?_ | refine Called.mk _ _ (cloneTs2 _ t0 _ (by omega)) ?_ | refine Called.mk _ _ (cloneSs2 _ k0 _ (by omega)) ?_ | refine Called.mk _ _ (hR) ?_ | refine Called.mk _ _ (hFl) ?_ | refine vA ?_ | refine vB ?_ | refine vC ?_ | refine vD ?_ | refine uA ?_ | refine uB ?_ | refine uC ?_ | refine uD ?_); conv => whnf) | ((first | refine Pick.dec (fun h => ?_) (fun h => ?_) | refine Pick.beq (fun h => ?_) (fun h => ?_) | refine Cond.dec (fun h => ?_) (fun h => ?_) | refine Cond.beq (fun h => ?_) (fun h => ?_) | refine Cond.nd (fun h => ?_) (fun h => ?_) | refine Pick.nd (fun h => ?_) (fun h => ?_) | refine Pick.mk (fun h => ?_) (fun h => ?_) | refine Cond.mk (fun h => ?_) (fun h => ?_)) <;> conv => whnf))
                all_goals exact End.mk rfl rfl
            · (conv => whnf) <;> repeat' (first | (refine Need.mk hb ?_; conv => whnf) | (refine CalledH.mk [2] _ _ rfl (Nat.le_refl _) hH ?_; conv => whnf) | ((first | refine wN ?_ | refine wA ?_ | refine wB ?_ | refine wC ?_ | refine wD ?_ | refine Called.mk _ _ (cloneLs2 _ i0 _ (by omega)) ?_ | refine Called.mk _ _ (cloneTs2 _ t0 _ (by omega)) ?_ | refine Called.mk _ _ (hR) ?_ | refine Called.mk _ _ (hFl) ?_ | refine vA ?_ | refine vB ?_ | refine vC ?_ | refine vD ?_ | refine uA ?_ | refine uB ?_ | refine uC ?_ | refine uD ?_); conv => whnf) | ((first | refine Pick.dec (fun h => ?_) (fun h => ?_) | refine Pick.beq (fun h => ?_) (fun h => ?_) | refine Cond.dec (fun h => ?_) (fun h => ?_) | refine Cond.beq (fun h => ?_) (fun h => ?_) | refine Cond.nd (fun h => ?_) (fun h => ?_) | refine Pick.nd (fun h => ?_) (fun h => ?_) | refine Pick.mk (fun h => ?_) (fun h => ?_) | refine Cond.mk (fun h => ?_) (fun h => ?_)) <;> conv => whnf))
              all_goals exact End.mk rfl rfl
      | false =>
        rw [hhb] at hH
        rcases Nat.eq_zero_or_pos its.length with i0 | i0
        · obtain rfl : its = [] := List.eq_nil_of_length_eq_zero i0
          rcases Nat.eq_zero_or_pos tabs.length with t0 | t0
          · obtain rfl : tabs = [] := List.eq_nil_of_length_eq_zero t0
            by_cases hf : fl.length < 64
            · rcases Nat.eq_zero_or_pos ks.length with k0 | k0
              · obtain rfl : ks = [] := List.eq_nil_of_length_eq_zero k0
                have hM := hM _ (if_pos hf).symm
                (conv => whnf) <;> repeat' (first | (refine Need.mk hb ?_; conv => whnf) | (refine CalledH.mk [2] _ _ rfl (Nat.le_refl _) hH ?_; conv => whnf) | ((refine Called.mk _ _ (hM _ _ _ _ _ _ ?_ ?_ ?_) ?_; rotate_left 3); conv => whnf) | ((first | refine wN ?_ | refine wA ?_ | refine wB ?_ | refine wC ?_ | refine wD ?_ | refine Called.mk _ _ (cloneLs0 _) ?_ | refine Called.mk _ _ (cloneTs0 _) ?_ | refine Called.mk _ _ (cloneSs0 _) ?_ | refine Called.mk _ _ (hR) ?_ | refine Called.mk _ _ (hFl) ?_ | refine vA ?_ | refine vB ?_ | refine vC ?_ | refine vD ?_ | refine uA ?_ | refine uB ?_ | refine uC ?_ | refine uD ?_); conv => whnf) | ((first | refine Pick.dec (fun h => ?_) (fun h => ?_) | refine Pick.beq (fun h => ?_) (fun h => ?_) | refine Cond.dec (fun h => ?_) (fun h => ?_) | refine Cond.beq (fun h => ?_) (fun h => ?_) | refine Cond.nd (fun h => ?_) (fun h => ?_) | refine Pick.nd (fun h => ?_) (fun h => ?_) | refine Pick.mk (fun h => ?_) (fun h => ?_) | refine Cond.mk (fun h => ?_) (fun h => ?_)) <;> conv => whnf))
                all_goals first
                  | exact End.mk (bool_eq (by simp)) rfl
                  | exact le_items (l := []) (fun i hi => absurd hi (Nat.not_lt_zero i)) rfl
                  | exact le_tabs (l := []) (fun i hi => absurd hi (Nat.not_lt_zero i)) rfl
                  | exact le_kids (l := []) (fun i hi => absurd hi (Nat.not_lt_zero i)) rfl
              · have hM := hM _ (if_pos hf).symm
                (conv => whnf) <;> repeat' (first | (refine Need.mk hb ?_; conv => whnf) | (refine CalledH.mk [2] _ _ rfl (Nat.le_refl _) hH ?_; conv => whnf) | ((refine Called.mk _ _ (hM _ _ _ _ _ _ ?_ ?_ ?_) ?_; rotate_left 3); conv => whnf) | ((first | refine wN ?_ | refine wA ?_ | refine wB ?_ | refine wC ?_ | refine wD ?_ | refine Called.mk _ _ (cloneLs0 _) ?_ | refine Called.mk _ _ (cloneTs0 _) ?_ | refine Called.mk _ _ (cloneSs2 _ k0 _ (by omega)) ?_ | refine Called.mk _ _ (hR) ?_ | refine Called.mk _ _ (hFl) ?_ | refine vA ?_ | refine vB ?_ | refine vC ?_ | refine vD ?_ | refine uA ?_ | refine uB ?_ | refine uC ?_ | refine uD ?_); conv => whnf) | ((first | refine Pick.dec (fun h => ?_) (fun h => ?_) | refine Pick.beq (fun h => ?_) (fun h => ?_) | refine Cond.dec (fun h => ?_) (fun h => ?_) | refine Cond.beq (fun h => ?_) (fun h => ?_) | refine Cond.nd (fun h => ?_) (fun h => ?_) | refine Pick.nd (fun h => ?_) (fun h => ?_) | refine Pick.mk (fun h => ?_) (fun h => ?_) | refine Cond.mk (fun h => ?_) (fun h => ?_)) <;> conv => whnf))
                all_goals first
                  | exact End.mk (bool_eq (by simp)) rfl
                  | exact le_items (l := []) (fun i hi => absurd hi (Nat.not_lt_zero i)) rfl
                  | exact le_tabs (l := []) (fun i hi => absurd hi (Nat.not_lt_zero i)) rfl
                  | exact le_kids (fun i hi => (if_pos hi).trans ((Sc.rows_ext _).2 i hi)) ((if_neg (Nat.lt_irrefl _)).trans (by rw [Nat.sub_self]; rfl))
            · have hM := hM _ (if_neg hf).symm
              (conv => whnf) <;> repeat' (first | (refine Need.mk hb ?_; conv => whnf) | (refine CalledH.mk [2] _ _ rfl (Nat.le_refl _) hH ?_; conv => whnf) | ((refine Called.mk _ _ (hM _ _ _ _ _ _ ?_ ?_ ?_) ?_; rotate_left 3); conv => whnf) | ((first | refine wN ?_ | refine wA ?_ | refine wB ?_ | refine wC ?_ | refine wD ?_ | refine Called.mk _ _ (cloneLs0 _) ?_ | refine Called.mk _ _ (cloneTs0 _) ?_ | refine Called.mk _ _ (hR) ?_ | refine Called.mk _ _ (hFl) ?_ | refine vA ?_ | refine vB ?_ | refine vC ?_ | refine vD ?_ | refine uA ?_ | refine uB ?_ | refine uC ?_ | refine uD ?_); conv => whnf) | ((first | refine Pick.dec (fun h => ?_) (fun h => ?_) | refine Pick.beq (fun h => ?_) (fun h => ?_) | refine Cond.dec (fun h => ?_) (fun h => ?_) | refine Cond.beq (fun h => ?_) (fun h => ?_) | refine Cond.nd (fun h => ?_) (fun h => ?_) | refine Pick.nd (fun h => ?_) (fun h => ?_) | refine Pick.mk (fun h => ?_) (fun h => ?_) | refine Cond.mk (fun h => ?_) (fun h => ?_)) <;> conv => whnf))
              all_goals first
                | exact End.mk (bool_eq (by simp)) rfl
                | exact le_items (l := []) (fun i hi => absurd hi (Nat.not_lt_zero i)) rfl
                | exact le_tabs (l := []) (fun i hi => absurd hi (Nat.not_lt_zero i)) rfl
                | exact .refl _
          · by_cases hf : fl.length < 64
            · rcases Nat.eq_zero_or_pos ks.length with k0 | k0
              · obtain rfl : ks = [] := List.eq_nil_of_length_eq_zero k0
                have hM := hM _ (if_pos hf).symm
                (conv => whnf) <;> repeat' (first | (refine Need.mk hb ?_; conv => whnf) | (refine CalledH.mk [2] _ _ rfl (Nat.le_refl _) hH ?_; conv => whnf) | ((refine Called.mk _ _ (hM _ _ _ _ _ _ ?_ ?_ ?_) ?_; rotate_left 3); conv => whnf) | ((first | refine wN ?_ | refine wA ?_ | refine wB ?_ | refine wC ?_ | refine wD ?_ | refine Called.mk _ _ (cloneLs0 _) ?_ | refine Called.mk _ _ (cloneTs2 _ t0 _ (by omega)) ?_ | refine Called.mk _ _ (cloneSs0 _) ?_ | refine Called.mk _ _ (hR) ?_ | refine Called.mk _ _ (hFl) ?_ | refine vA ?_ | refine vB ?_ | refine vC ?_ | refine vD ?_ | refine uA ?_ | refine uB ?_ | refine uC ?_ | refine uD ?_); conv => whnf) | ((first | refine Pick.dec (fun h => ?_) (fun h => ?_) | refine Pick.beq (fun h => ?_) (fun h => ?_) | refine Cond.dec (fun h => ?_) (fun h => ?_) | refine Cond.beq (fun h => ?_) (fun h => ?_) | refine Cond.nd (fun h => ?_) (fun h => ?_) | refine Pick.nd (fun h => ?_) (fun h => ?_) | refine Pick.mk (fun h => ?_) (fun h => ?_) | refine Cond.mk (fun h => ?_) (fun h => ?_)) <;> conv => whnf))
                all_goals first
                  | exact End.mk (bool_eq (by simp)) rfl
                  | exact le_items (l := []) (fun i hi => absurd hi (Nat.not_lt_zero i)) rfl
                  | exact le_tabs (fun i hi => (if_pos hi).trans (getL_at (List.getElem?_eq_getElem hi))) ((if_neg (Nat.lt_irrefl _)).trans (by rw [Nat.sub_self]; rfl))
                  | exact le_kids (l := []) (fun i hi => absurd hi (Nat.not_lt_zero i)) rfl
              · have hM := hM _ (if_pos hf).symm
                (conv => whnf) <;> repeat' (first | (refine Need.mk hb ?_; conv => whnf) | (refine CalledH.mk [2] _ _ rfl (Nat.le_refl _) hH ?_; conv => whnf) | ((refine Called.mk _ _ (hM _ _ _ _ _ _ ?_ ?_ ?_) ?_; rotate_left 3); conv => whnf) | ((first | refine wN ?_ | refine wA ?_ | refine wB ?_ | refine wC ?_ | refine wD ?_ | refine Called.mk _ _ (cloneLs0 _) ?_ | refine Called.mk _ _ (cloneTs2 _ t0 _ (by omega)) ?_ | refine Called.mk _ _ (cloneSs2 _ k0 _ (by omega)) ?_ | refine Called.mk _ _ (hR) ?_ | refine Called.mk _ _ (hFl) ?_ | refine vA ?_ | refine vB ?_ | refine vC ?_ | refine vD ?_ | refine uA ?_ | refine uB ?_ | refine uC ?_ | refine uD ?_); conv => whnf) | ((first | refine Pick.dec (fun h => ?_) (fun h => ?_) | refine Pick.beq (fun h => ?_) (fun h => ?_) | refine Cond.dec (fun h => ?_) (fun h => ?_) | refine Cond.beq (fun h => ?_) (fun h => ?_) | refine Cond.nd (fun h => ?_) (fun h => ?_) | refine Pick.nd (fun h => ?_) (fun h => ?_) | refine Pick.mk (fun h => ?_) (fun h => ?_) | refine Cond.mk (fun h => ?_) (fun h => ?_)) <;> conv => whnf))
                all_goals first
                  | exact End.mk (bool_eq (by simp)) rfl
                  | exact le_items (l := []) (fun i hi => absurd hi (Nat.not_lt_zero i)) rfl
                  | exact le_tabs (fun i hi => (if_pos hi).trans (getL_at (List.getElem?_eq_getElem hi))) ((if_neg (Nat.lt_irrefl _)).trans (by rw [Nat.sub_self]; rfl))
                  | exact le_kids (fun i hi => (if_pos hi).trans ((Sc.rows_ext _).2 i hi)) ((if_neg (Nat.lt_irrefl _)).trans (by rw [Nat.sub_self]; rfl))
            · have hM := hM _ (if_neg hf).symm
              (conv => whnf) <;> repeat' (first | (refine Need.mk hb ?_; conv => whnf) | (refine CalledH.mk [2] _ _ rfl (Nat.le_refl _) hH ?_; conv => whnf) | ((refine Called.mk _ _ (hM _ _ _ _ _ _ ?_ ?_ ?_) ?_; rotate_left 3); conv => whnf) | ((first | refine wN ?_ | refine wA ?_ | refine wB ?_ | refine wC ?_ | refine wD ?_ | refine Called.mk _ _ (cloneLs0 _) ?_ | refine Called.mk _ _ (cloneTs2 _ t0 _ (by omega)) ?_ | refine Called.mk _ _ (hR) ?_ | refine Called.mk _ _ (hFl) ?_ | refine vA ?_ | refine vB ?_ | refine vC ?_ | refine vD ?_ | refine uA ?_ | refine uB ?_ | refine uC ?_ | refine uD ?_); conv => whnf) | ((first | refine Pick.dec (fun h => ?_) (fun h => ?_) | refine Pick.beq (fun h => ?_) (fun h => ?_) | refine Cond.dec (fun h => ?_) (fun h => ?_) | refine Cond.beq (fun h => ?_) (fun h => ?_) | refine Cond.nd (fun h => ?_) (fun h => ?_) | refine Pick.nd (fun h => ?_) (fun h => ?_) | refine Pick.mk (fun h => ?_) (fun h => ?_) | refine Cond.mk (fun h => ?_) (fun h => ?_)) <;> conv => whnf))
              all_goals first
                | exact End.mk (bool_eq (by simp)) rfl
                | exact le_items (l := []) (fun i hi => absurd hi (Nat.not_lt_zero i)) rfl
                | exact le_tabs (fun i hi => (if_pos hi).trans (getL_at (List.getElem?_eq_getElem hi))) ((if_neg (Nat.lt_irrefl _)).trans (by rw [Nat.sub_self]; rfl))
                | exact .refl _
        · rcases Nat.eq_zero_or_pos tabs.length with t0 | t0
          · obtain rfl : tabs = [] := List.eq_nil_of_length_eq_zero t0
            by_cases hf : fl.length < 64
            · rcases Nat.eq_zero_or_pos ks.length with k0 | k0
              · obtain rfl : ks = [] := List.eq_nil_of_length_eq_zero k0
                have hM := hM _ (if_pos hf).symm
                (conv => whnf) <;> repeat' (first | (refine Need.mk hb ?_; conv => whnf) | (refine CalledH.mk [2] _ _ rfl (Nat.le_refl _) hH ?_; conv => whnf) | ((refine Called.mk _ _ (hM _ _ _ _ _ _ ?_ ?_ ?_) ?_; rotate_left 3); conv => whnf) | ((first | refine wN ?_ | refine wA ?_ | refine wB ?_ | refine wC ?_ | refine wD ?_ | refine Called.mk _ _ (cloneLs2 _ i0 _ (by omega)) ?_ | refine Called.mk _ _ (cloneTs0 _) ?_ | refine Called.mk _ _ (cloneSs0 _) ?_ | refine Called.mk _ _ (hR) ?_ | refine Called.mk _ _ (hFl) ?_ | refine vA ?_ | refine vB ?_ | refine vC ?_ | refine vD ?_ | refine uA ?_ | refine uB ?_ | refine uC ?_ | refine uD ?_); conv => whnf) | ((first | refine Pick.dec (fun h => ?_) (fun h => ?_) | refine Pick.beq (fun h => ?_) (fun h => ?_) | refine Cond.dec (fun h => ?_) (fun h => ?_) | refine Cond.beq (fun h => ?_) (fun h => ?_) | refine Cond.nd (fun h => ?_) (fun h => ?_) | refine Pick.nd (fun h => ?_) (fun h => ?_) | refine Pick.mk (fun h => ?_) (fun h => ?_) | refine Cond.mk (fun h => ?_) (fun h => ?_)) <;> conv => whnf))
                all_goals first
                  | exact End.mk (bool_eq (by simp)) rfl
                  | exact le_items (fun i hi => (if_pos hi).trans (getL_at (List.getElem?_eq_getElem hi))) ((if_neg (Nat.lt_irrefl _)).trans (by rw [Nat.sub_self]; rfl))
                  | exact le_tabs (l := []) (fun i hi => absurd hi (Nat.not_lt_zero i)) rfl
                  | exact le_kids (l := []) (fun i hi => absurd hi (Nat.not_lt_zero i)) rfl
              · have hM := hM _ (if_pos hf).symm
                (conv => whnf) <;> repeat' (first | (refine Need.mk hb ?_; conv => whnf) | (refine CalledH.mk [2] _ _ rfl (Nat.le_refl _) hH ?_; conv => whnf) | ((refine Called.mk _ _ (hM _ _ _ _ _ _ ?_ ?_ ?_) ?_; rotate_left 3); conv => whnf) | ((first | refine wN ?_ | refine wA ?_ | refine wB ?_ | refine wC ?_ | refine wD ?_ | refine Called.mk _ _ (cloneLs2 _ i0 _ (by omega)) ?_ | refine Called.mk _ _ (cloneTs0 _) ?_ | refine Called.mk _ _ (cloneSs2 _ k0 _ (by omega)) ?_ | refine Called.mk _ _ (hR) ?_ | refine Called.mk _ _ (hFl) ?_ | refine vA ?_ | refine vB ?_ | refine vC ?_ | refine vD ?_ | refine uA ?_ | refine uB ?_ | refine uC ?_ | refine uD ?_); conv => whnf) | ((first | refine Pick.dec (fun h => ?_) (fun h => ?_) | refine Pick.beq (fun h => ?_) (fun h => ?_) | refine Cond.dec (fun h => ?_) (fun h => ?_) | refine Cond.beq (fun h => ?_) (fun h => ?_) | refine Cond.nd (fun h => ?_) (fun h => ?_) | refine Pick.nd (fun h => ?_) (fun h => ?_) | refine Pick.mk (fun h => ?_) (fun h => ?_) | refine Cond.mk (fun h => ?_) (fun h => ?_)) <;> conv => whnf))
                all_goals first
                  | exact End.mk (bool_eq (by simp)) rfl
                  | exact le_items (fun i hi => (if_pos hi).trans (getL_at (List.getElem?_eq_getElem hi))) ((if_neg (Nat.lt_irrefl _)).trans (by rw [Nat.sub_self]; rfl))
                  | exact le_tabs (l := []) (fun i hi => absurd hi (Nat.not_lt_zero i)) rfl
                  | exact le_kids (fun i hi => (if_pos hi).trans ((Sc.rows_ext _).2 i hi)) ((if_neg (Nat.lt_irrefl _)).trans (by rw [Nat.sub_self]; rfl))
            · have hM := hM _ (if_neg hf).symm
              (conv => whnf) <;> repeat' (first | (refine Need.mk hb ?_; conv => whnf) | (refine CalledH.mk [2] _ _ rfl (Nat.le_refl _) hH ?_; conv => whnf) | ((refine Called.mk _ _ (hM _ _ _ _ _ _ ?_ ?_ ?_) ?_; rotate_left 3); conv => whnf) | ((first | refine wN ?_ | refine wA ?_ | refine wB ?_ | refine wC ?_ | refine wD ?_ | refine Called.mk _ _ (cloneLs2 _ i0 _ (by omega)) ?_ | refine Called.mk _ _ (cloneTs0 _) ?_ | refine Called.mk _ _ (hR) ?_ | refine Called.mk _ _ (hFl) ?_ | refine vA ?_ | refine vB ?_ | refine vC ?_ | refine vD ?_ | refine uA ?_ | refine uB ?_ | refine uC ?_ | refine uD ?_); conv => whnf) | ((first | refine Pick.dec (fun h => ?_) (fun h => ?_) | refine Pick.beq (fun h => ?_) (fun h => ?_) | refine Cond.dec (fun h => ?_) (fun h => ?_) | refine Cond.beq (fun h => ?_) (fun h => ?_) | refine Cond.nd (fun h => ?_) (fun h => ?_) | refine Pick.nd (fun h => ?_) (fun h => ?_) | refine Pick.mk (fun h => ?_) (fun h => ?_) | refine Cond.mk (fun h => ?_) (fun h => ?_)) <;> conv => whnf))
              all_goals first
                | exact End.mk (bool_eq (by simp)) rfl
                | exact le_items (fun i hi => (if_pos hi).trans (getL_at (List.getElem?_eq_getElem hi))) ((if_neg (Nat.lt_irrefl _)).trans (by rw [Nat.sub_self]; rfl))
                | exact le_tabs (l := []) (fun i hi => absurd hi (Nat.not_lt_zero i)) rfl
                | exact .refl _
          · by_cases hf : fl.length < 64
            · rcases Nat.eq_zero_or_pos ks.length with k0 | k0
              · obtain rfl : ks = [] := List.eq_nil_of_length_eq_zero k0
                have hM := hM _ (if_pos hf).symm
                (conv => whnf) <;> repeat' (first | (refine Need.mk hb ?_; conv => whnf) | (refine CalledH.mk [2] _ _ rfl (Nat.le_refl _) hH ?_; conv => whnf) | ((refine Called.mk _ _ (hM _ _ _ _ _ _ ?_ ?_ ?_) ?_; rotate_left 3); conv => whnf) | ((first | refine wN ?_ | refine wA ?_ | refine wB ?_ | refine wC ?_ | refine wD ?_ | refine Called.mk _ _ (cloneLs2 _ i0 _ (by omega)) ?_ | refine Called.mk _ _ (cloneTs2 _ t0 _ (by omega)) ?_ | refine Called.mk _ _ (cloneSs0 _) ?_ | refine Called.mk _ _ (hR) ?_ | refine Called.mk _ _ (hFl) ?_ | refine vA ?_ | refine vB ?_ | refine vC ?_ | refine vD ?_ | refine uA ?_ | refine uB ?_ | refine uC ?_ | refine uD ?_); conv => whnf) | ((first | refine Pick.dec (fun h => ?_) (fun h => ?_) | refine Pick.beq (fun h => ?_) (fun h => ?_) | refine Cond.dec (fun h => ?_) (fun h => ?_) | refine Cond.beq (fun h => ?_) (fun h => ?_) | refine Cond.nd (fun h => ?_) (fun h => ?_) | refine Pick.nd (fun h => ?_) (fun h => ?_) | refine Pick.mk (fun h => ?_) (fun h => ?_) | refine Cond.mk (fun h => ?_) (fun h => ?_)) <;> conv => whnf))
                all_goals first
                  | exact End.mk (bool_eq (by simp)) rfl
                  | exact le_items (fun i hi => (if_pos hi).trans (getL_at (List.getElem?_eq_getElem hi))) ((if_neg (Nat.lt_irrefl _)).trans (by rw [Nat.sub_self]; rfl))
                  | exact le_tabs (fun i hi => (if_pos hi).trans (getL_at (List.getElem?_eq_getElem hi))) ((if_neg (Nat.lt_irrefl _)).trans (by rw [Nat.sub_self]; rfl))
                  | exact le_kids (l := []) (fun i hi => absurd hi (Nat.not_lt_zero i)) rfl
              · have hM := hM _ (if_pos hf).symm
                (conv => whnf) <;> repeat' (first | (refine Need.mk hb ?_; conv => whnf) | (refine CalledH.mk [2] _ _ rfl (Nat.le_refl _) hH ?_; conv => whnf) | ((refine Called.mk _ _ (hM _ _ _ _ _ _ ?_ ?_ ?_) ?_; rotate_left 3); conv => whnf) | ((first | refine wN ?_ | refine wA ?_ | refine wB ?_ | refine wC ?_ | refine wD ?_ | refine Called.mk _ _ (cloneLs2 _ i0 _ (by omega)) ?_ | refine Called.mk _ _ (cloneTs2 _ t0 _ (by omega)) ?_ | refine Called.mk _ _ (cloneSs2 _ k0 _ (by omega)) ?_ | refine Called.mk _ _ (hR) ?_ | refine Called.mk _ _ (hFl) ?_ | refine vA ?_ | refine vB ?_ | refine vC ?_ | refine vD ?_ | refine uA ?_ | refine uB ?_ | refine uC ?_ | refine uD ?_); conv => whnf) | ((first | refine Pick.dec (fun h => ?_) (fun h => ?_) | refine Pick.beq (fun h => ?_) (fun h => ?_) | refine Cond.dec (fun h => ?_) (fun h => ?_) | refine Cond.beq (fun h => ?_) (fun h => ?_) | refine Cond.nd (fun h => ?_) (fun h => ?_) | refine Pick.nd (fun h => ?_) (fun h => ?_) | refine Pick.mk (fun h => ?_) (fun h => ?_) | refine Cond.mk (fun h => ?_) (fun h => ?_)) <;> conv => whnf))
                all_goals first
                  | exact End.mk (bool_eq (by simp)) rfl
                  | exact le_items (fun i hi => (if_pos hi).trans (getL_at (List.getElem?_eq_getElem hi))) ((if_neg (Nat.lt_irrefl _)).trans (by rw [Nat.sub_self]; rfl))
                  | exact le_tabs (fun i hi => (if_pos hi).trans (getL_at (List.getElem?_eq_getElem hi))) ((if_neg (Nat.lt_irrefl _)).trans (by rw [Nat.sub_self]; rfl))
                  | exact le_kids (fun i hi => (if_pos hi).trans ((Sc.rows_ext _).2 i hi)) ((if_neg (Nat.lt_irrefl _)).trans (by rw [Nat.sub_self]; rfl))
            · have hM := hM _ (if_neg hf).symm
              (conv => whnf) <;> repeat' (first | (refine Need.mk hb ?_; conv => whnf) | (refine CalledH.mk [2] _ _ rfl (Nat.le_refl _) hH ?_; conv => whnf) | ((refine Called.mk _ _ (hM _ _ _ _ _ _ ?_ ?_ ?_) ?_; rotate_left 3); conv => whnf) | ((first | refine wN ?_ | refine wA ?_ | refine wB ?_ | refine wC ?_ | refine wD ?_ | refine Called.mk _ _ (cloneLs2 _ i0 _ (by omega)) ?_ | refine Called.mk _ _ (cloneTs2 _ t0 _ (by omega)) ?_ | refine Called.mk _ _ (hR) ?_ | refine Called.mk _ _ (hFl) ?_ | refine vA ?_ | refine vB ?_ | refine vC ?_ | refine vD ?_ | refine uA ?_ | refine uB ?_ | refine uC ?_ | refine uD ?_); conv => whnf) | ((first | refine Pick.dec (fun h => ?_) (fun h => ?_) | refine Pick.beq (fun h => ?_) (fun h => ?_) | refine Cond.dec (fun h => ?_) (fun h => ?_) | refine Cond.beq (fun h => ?_) (fun h => ?_) | refine Cond.nd (fun h => ?_) (fun h => ?_) | refine Pick.nd (fun h => ?_) (fun h => ?_) | refine Pick.mk (fun h => ?_) (fun h => ?_) | refine Cond.mk (fun h => ?_) (fun h => ?_)) <;> conv => whnf))
              all_goals first
                | exact End.mk (bool_eq (by simp)) rfl
                | exact le_items (fun i hi => (if_pos hi).trans (getL_at (List.getElem?_eq_getElem hi))) ((if_neg (Nat.lt_irrefl _)).trans (by rw [Nat.sub_self]; rfl))
                | exact le_tabs (fun i hi => (if_pos hi).trans (getL_at (List.getElem?_eq_getElem hi))) ((if_neg (Nat.lt_irrefl _)).trans (by rw [Nat.sub_self]; rfl))
                | exact .refl _
  apply jw [0, 1, 2] [false, false, false, true, true, true, false, true, false, false, false, false, false, false, false, false, false, false, false, false, false, false, false, false, false, false, false, false, false, false, false, false, false, true, true, true] _ _ rfl
  exact key l.length 0 (by omega)
end Go.Proofs.Ytkglccolonpnlaa

