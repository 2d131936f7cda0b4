/- formula.Cols, formula.Nodes, formula.Names, as the document has them. -/
import Derived.Test.YtlbocjcponegcaaGreatAmIx
import Derived.Test.YtlbocjcponegcaaGreatAmIw
import Derived.Test.YtlbocjcponegcaaGreatAmHn
import Derived.Test.YtlbocjcponegcaaGreatAmHr
set_option linter.unusedVariables false
set_option linter.unusedSimpArgs false
set_option maxRecDepth 100000
namespace Go.Proofs.YtlbocjcponegcaaGreat
open Go.AM
def cN (b : ByteArray) : List Val := [.str b]
theorem eL_map {α β : Type} {sz : Nat} {enc : α → List Val} (f : β → α) (l : List β) : eL sz enc (l.map f) = eL sz (fun x => enc (f x)) l := by
  unfold eL
  rw [List.length_map]
  congr 1
  funext i
  unfold getL
  rw [List.getElem?_map]
  cases l[i]? <;> rfl
theorem textsS_eq {es : List (ByteArray × Unit)} {out : List ByteArray} (h : SameN es out) : eL 1 cB (textsS es) = eL 1 cN out := by
  have hp : (keysG es).Perm out := (List.perm_ext_iff_of_nodup h.nd (ris_nodup linN h.ris)).2 h.mem
  have h1 : textsS es = out.map fun b => b.data.toList := by
    have e1 : (es.map fun p => p.1.data.toList) = (keysG es).map fun b => b.data.toList := by unfold keysG; rw [List.map_map]; rfl
    unfold textsS
    rw [e1, Go.mergeSort_of_perm (hp.map fun b => b.data.toList)]
    refine List.mergeSort_of_pairwise ?_
    refine List.pairwise_map.2 (h.ris.imp fun {a b} hab => ?_)
    rw [ltN_eq, decide_eq_true_eq] at hab
    exact decide_eq_true (List.le_of_lt hab)
  rw [h1, eL_map]
  rfl
theorem fnames2_ret (x : Xp) (hx : x.Wf) (hc : cntX x ≤ 1048576) : Ret Tryz.prog 22 [eE x] [] (eL 1 cN (walkF nameR x [])) [] := by
  have h := sameN x hx
  rw [← textsS_eq h]
  refine fnames_ret x hx (fun p hp => ?_) ?_
  · exact h.fit _ ((h.mem _).1 (List.mem_map_of_mem (f := (·.1)) hp))
  · have := nameS_len x; omega
theorem keysC_ret (es : List (CK × Unit)) : Ret Tryz.prog 67 [.map 0] [setC es] (.fn 112 [] [.ptr 1 0]) [setC es, .cells [.map 0]] := by
  refine ret_of_body atCalls tok mixed Tryz.func67 (by kernel_rfl) rfl (k := 4) (rs := [.tmp 2]) (by kernel_rfl) (by kernel_rfl) ?_
  (conv => whnf) <;> repeat' (first | ((first | refine wN ?_ | refine wNc ?_ | refine wA ?_ | refine wB ?_ | refine wC ?_ | refine wD ?_ | refine vA ?_ | refine vB ?_ | refine vC ?_ | refine vD ?_ | refine uA ?_ | refine uB ?_ | refine uC ?_ | refine uD ?_); conv => whnf) | ((first | apply Pick.dec | apply Pick.beq | apply Cond.dec | apply Cond.beq | apply Cond.nd | apply Pick.nd | apply Pick.mk | apply Cond.mk) <;> intro h <;> conv => whnf))
  exact EndH.mk [0, 1] rfl rfl rfl
theorem srtC_eq {es : List (CK × Unit)} {out : List CK} (h : SameC es out) : srtC (keysC es) = out :=
  ris_ext linK (srtC_ris h.nd) h.ris fun x => by rw [srtC_mem]; exact h.mem x
set_option maxHeartbeats 4000000 in
theorem fcols_ret (x : Xp) (hx : x.Wf) (hc : cntX x ≤ 1048576) : Ret Tryz.prog 25 [eE x] [] (eL 2 cK (walkF colR x [])) [] := by
  have hs := sameC x hx
  have h := ncolwalk_ret x hx []
  have hl := colS_len x
  generalize walkF colS x [] = es at *
  generalize walkF colR x [] = out at *
  have h1 := keysC_ret es
  have h2 := sortedC_ret es hs.nd (fun k hk => hs.fit k ((hs.mem k).1 hk)) (by omega)
  rw [srtC_eq hs] at h2
  obtain ⟨k, o, n, s, v, sc, p, l⟩ := x
  rw [cE_mk] at h ⊢
  refine ret_of_body atCalls tok mixed Tryz.func25 (by kernel_rfl) rfl (k := 11) (rs := [.tmp 2]) (by kernel_rfl) (by kernel_rfl) ?_
  (conv => whnf) <;> repeat' (first | (refine CalledH.mk [2, 1] _ _ rfl (Nat.le_refl _) h ?_; conv => whnf) | (refine CalledH.mk [1] _ _ rfl (by simp) h1 ?_; conv => whnf) | (refine CalledH.mk [3, 1] _ _ rfl (Nat.le_refl _) h2 ?_; conv => whnf) | ((first | refine wN ?_ | refine wNc ?_ | refine wA ?_ | refine wB ?_ | refine wC ?_ | refine wD ?_ | refine vA ?_ | refine vB ?_ | refine vC ?_ | refine vD ?_ | refine uA ?_ | refine uB ?_ | refine uC ?_ | refine uD ?_); conv => whnf) | ((first | apply Pick.dec | apply Pick.beq | apply Cond.dec | apply Cond.beq | apply Cond.nd | apply Pick.nd | apply Pick.mk | apply Cond.mk) <;> intro h <;> conv => whnf))
  exact End.mk rfl rfl
set_option maxHeartbeats 4000000 in
theorem fnodes2_ret (x : Xp) (hx : x.Wf) (hc : cntX x ≤ 1048576) : Ret Tryz.prog 27 [eE x] [] (.int .i64 (cntX x : Int)) [] := by
  have h := nnodewalk_ret x hx 0
  rw [nodes_all x 0 (by omega) (by omega)] at h
  have e0 : (0 : Int) + (cntX x : Int) = cntX x := by omega
  rw [e0] at h
  generalize (cntX x : Int) = c at *
  obtain ⟨k, o, n, s, v, sc, p, l⟩ := x
  rw [cE_mk] at h ⊢
  refine ret_of_body atCalls tok mixed Tryz.func27 (by kernel_rfl) rfl (k := 8) (rs := [.tmp 2]) (by kernel_rfl) (by kernel_rfl) ?_
  (conv => whnf) <;> repeat' (first | (refine CalledH.mk [1] _ _ rfl (Nat.le_refl _) h ?_; conv => whnf) | ((first | refine wN ?_ | refine wNc ?_ | refine wA ?_ | refine wB ?_ | refine wC ?_ | refine wD ?_ | refine vA ?_ | refine vB ?_ | refine vC ?_ | refine vD ?_ | refine uA ?_ | refine uB ?_ | refine uC ?_ | refine uD ?_); conv => whnf) | ((first | apply Pick.dec | apply Pick.beq | apply Cond.dec | apply Cond.beq | apply Cond.nd | apply Pick.nd | apply Pick.mk | apply Cond.mk) <;> intro h <;> conv => whnf))
  exact End.mk rfl rfl
end Go.Proofs.YtlbocjcponegcaaGreat

set_option linter.unusedVariables false
set_option linter.unusedSimpArgs false
set_option maxRecDepth 100000
namespace Go.Proofs.YtlbocjcponegcaaGreat
open Go.AM
set_option maxHeartbeats 4000000 in
theorem text_walk (l : List ByteArray) (s : ByteArray) (hl : l.length ≤ 1048576) (v : Val) (hp : List Blk) (p : Nat) (hpl : p ≤ l.length) (hlt : ∀ (i : Nat) (h : i < l.length), i < p → ltN l[i] s = true) (hge : ∀ h : p < l.length, ltN l[p] s = false)
    (ha : ∀ h : p < l.length, l[p] = s → v = eL 1 cN l ∧ hp = [])
    (hb : (∀ h : p < l.length, l[p] ≠ s) → p = 0 → v = .row 0 (1 + l.length) ∧ hp = [.row 9 1 (1 + l.length) (insG0 1 cN s l) 0])
    (hc : (∀ h : p < l.length, l[p] ≠ s) → 0 < p → v = .row 0 (p + 1 + (l.length - p)) ∧ hp = [.row 9 1 (p + 1 + (l.length - p)) (insG 1 cN p s l) 0]) :
    Ret Tryz.prog 109 [eL 1 cN l, .str s] [] v hp := by
  refine ret_of_body atNone tok mixed Tryz.func109 (by kernel_rfl) rfl (k := 47) (rs := [.tmp 4]) (by kernel_rfl) (by kernel_rfl) ?_
  (conv => whnf) <;> repeat' (first | ((first | refine wN ?_ | refine wNc ?_ | refine wA ?_ | refine wB ?_ | refine wC ?_ | refine wD ?_ | refine vA ?_ | refine vB ?_ | refine vC ?_ | refine vD ?_ | refine uA ?_ | refine uB ?_ | refine uC ?_ | refine uD ?_); conv => whnf) | ((first | apply Pick.dec | apply Pick.beq | apply Cond.dec | apply Cond.beq | apply Cond.nd | apply Pick.nd | apply Pick.mk | apply Cond.mk) <;> intro h <;> conv => whnf))
  intro J jw js
  have key : ∀ (d k : Nat), k + d = p → J [eL 1 cN l, .str s, .und, .und, .und, .int .i64 (k : Int), .und, .und, .und, .und, .und, .und, .und, .und, .und, .und, .und, .und, .und, .und, .und, .und, .und, .und, .und, .und, .und, .und, .und, .und, .und, .und, .und, .und, .und, .und, .und, .und, .und, .und, .und, .und, .und, .und, .und, .und, .und] [] := by
    intro d
    induction d with
    | zero =>
      intro k hk
      obtain rfl : k = p := by omega
      apply js
      by_cases hkl : k < l.length
      · have gk : getL cN l (Int.toNat (k : Int)) = cN l[k] := by rw [Int.toNat_natCast]; exact getL_at (List.getElem?_eq_getElem hkl)
        have h1 : Op.bytesLess l[k].toList s.toList = false := hge hkl
        have ha := ha hkl
        have hb : l[k] ≠ s → _ := fun h => hb fun _ => h
        have hc : l[k] ≠ s → _ := fun h => hc fun _ => h
        generalize l[k] = x at *
        by_cases hx : x = s
        · obtain ⟨rfl, rfl⟩ := ha hx
          have h2 : (x.toList == s.toList) = true := by rw [toList_eq]; exact decide_eq_true hx
          clear hb hc ha
          (conv => whnf) <;> repeat' (first | ((conv => arg 1; whnf); rw [gk]; conv => whnf) | (rw [h1]; conv => whnf) | (rw [h2]; conv => whnf) | ((first | refine wN ?_ | refine wNc ?_ | refine wA ?_ | refine wB ?_ | refine wC ?_ | refine wD ?_ | refine vA ?_ | refine vB ?_ | refine vC ?_ | refine vD ?_ | refine uA ?_ | refine uB ?_ | refine uC ?_ | refine uD ?_); conv => whnf) | ((first | apply Pick.dec | apply Pick.beq | apply Cond.dec | apply Cond.beq | apply Cond.nd | apply Pick.nd | apply Pick.mk | apply Cond.mk) <;> intro h <;> conv => whnf))
          exact End.mk rfl rfl
        · have h2 : (x.toList == s.toList) = false := by rw [toList_eq]; exact decide_eq_false hx
          rcases Nat.eq_zero_or_pos k with h0 | h0
          · obtain ⟨rfl, rfl⟩ := hb hx h0
            subst h0
            clear hb hc ha
            (conv => whnf) <;> repeat' (first | ((conv => arg 1; whnf); rw [gk]; conv => whnf) | (rw [h1]; conv => whnf) | (rw [h2]; conv => whnf) | ((first | refine wN ?_ | refine wNc ?_ | refine wA ?_ | refine wB ?_ | refine wC ?_ | refine wD ?_ | refine vA ?_ | refine vB ?_ | refine vC ?_ | refine vD ?_ | refine uA ?_ | refine uB ?_ | refine uC ?_ | refine uD ?_); conv => whnf) | ((first | apply Pick.dec | apply Pick.beq | apply Cond.dec | apply Cond.beq | apply Cond.nd | apply Pick.nd | apply Pick.mk | apply Cond.mk) <;> intro h <;> conv => whnf))
            exact EndH.mk [2] rfl rfl rfl
          · obtain ⟨rfl, rfl⟩ := hc hx h0
            clear hb hc ha
            obtain ⟨j, rfl⟩ : ∃ j, k = j + 1 := ⟨k - 1, by omega⟩
            (conv => whnf) <;> repeat' (first | ((conv => arg 1; whnf); rw [gk]; conv => whnf) | (rw [h1]; conv => whnf) | (rw [h2]; conv => whnf) | ((first | refine wN ?_ | refine wNc ?_ | refine wA ?_ | refine wB ?_ | refine wC ?_ | refine wD ?_ | refine vA ?_ | refine vB ?_ | refine vC ?_ | refine vD ?_ | refine uA ?_ | refine uB ?_ | refine uC ?_ | refine uD ?_); conv => whnf) | ((first | apply Pick.dec | apply Pick.beq | apply Cond.dec | apply Cond.beq | apply Cond.nd | apply Pick.nd | apply Pick.mk | apply Cond.mk) <;> intro h <;> conv => whnf))
            exact EndH.mk [3] rfl rfl rfl
      · obtain rfl : k = l.length := by omega
        have hb := hb fun h => absurd h hkl
        have hc := hc fun h => absurd h hkl
        clear ha hge hlt
        rcases Nat.eq_zero_or_pos l.length with h0 | h0
        · obtain rfl : l = [] := List.eq_nil_of_length_eq_zero h0
          obtain ⟨rfl, rfl⟩ := hb rfl
          (conv => whnf) <;> repeat' (first | ((first | refine wN ?_ | refine wNc ?_ | refine wA ?_ | refine wB ?_ | refine wC ?_ | refine wD ?_ | refine vA ?_ | refine vB ?_ | refine vC ?_ | refine vD ?_ | refine uA ?_ | refine uB ?_ | refine uC ?_ | refine uD ?_); conv => whnf) | ((first | apply Pick.dec | apply Pick.beq | apply Cond.dec | apply Cond.beq | apply Cond.nd | apply Pick.nd | apply Pick.mk | apply Cond.mk) <;> intro h <;> conv => whnf))
          exact EndH.mk [2] rfl rfl rfl
        · obtain ⟨rfl, rfl⟩ := hc h0
          clear hb hc
          cases l with
          | nil => cases h0
          | cons x r =>
            have hl' : r.length + 1 ≤ 1048576 := hl
            (conv => whnf) <;> repeat' (first | ((first | refine wN ?_ | refine wNc ?_ | refine wA ?_ | refine wB ?_ | refine wC ?_ | refine wD ?_ | refine vA ?_ | refine vB ?_ | refine vC ?_ | refine vD ?_ | refine uA ?_ | refine uB ?_ | refine uC ?_ | refine uD ?_); conv => whnf) | ((first | apply Pick.dec | apply Pick.beq | apply Cond.dec | apply Cond.beq | apply Cond.nd | apply Pick.nd | apply Pick.mk | apply Cond.mk) <;> intro h <;> conv => whnf))
            exact EndH.mk [3] rfl rfl rfl
    | succ d ih =>
      intro k hk
      have hkl : k < l.length := by omega
      have gk : getL cN l (Int.toNat (k : Int)) = cN l[k] := by rw [Int.toNat_natCast]; exact getL_at (List.getElem?_eq_getElem hkl)
      have e1 : IntKind.i64.wrap ((k : Int) + 1) = ((k + 1 : Nat) : Int) := by rw [wi64_id (by omega) (by omega)]; omega
      have h1 : Op.bytesLess l[k].toList s.toList = true := hlt k hkl (by omega)
      have ih := ih (k + 1) (by omega)
      generalize l[k] = x at *
      apply js
      (conv => whnf) <;> repeat' (first | ((conv => arg 1; whnf); rw [gk]; conv => whnf) | (rw [h1]; conv => whnf) | ((first | refine wN ?_ | refine wNc ?_ | refine wA ?_ | refine wB ?_ | refine wC ?_ | refine wD ?_ | refine vA ?_ | refine vB ?_ | refine vC ?_ | refine vD ?_ | refine uA ?_ | refine uB ?_ | refine uC ?_ | refine uD ?_); conv => whnf) | ((first | apply Pick.dec | apply Pick.beq | apply Cond.dec | apply Cond.beq | apply Cond.nd | apply Pick.nd | apply Pick.mk | apply Cond.mk) <;> intro h <;> conv => whnf))
      rw [e1]
      apply jw [] [true, true, false, false, false, true] _ _ rfl
      exact ih
  apply jw [] [true, true, false, false, false, true] _ _ rfl
  exact key p 0 (by omega)
end Go.Proofs.YtlbocjcponegcaaGreat

set_option linter.unusedVariables false
set_option linter.unusedSimpArgs false
set_option maxRecDepth 100000
namespace Go.Proofs.YtlbocjcponegcaaGreat
open Go.AM
theorem rtext_ret (l : List ByteArray) (s : ByteArray) (hl : l.length ≤ 1048576) : Ret Tryz.prog 109 [eL 1 cN l, .str s] [] (eL 1 cN (putG ltN s l)) [] := by
  have hpl := posG_le (lt := ltN) s l
  have hlt : ∀ (i : Nat) (h : i < l.length), i < posG ltN s l → ltN l[i] s = true := fun i h hi => posG_lt h hi
  have hge : ∀ h : posG ltN s l < l.length, ltN l[posG ltN s l] s = false := fun h => posG_ge h
  rw [putG_pos]
  generalize posG ltN s l = p at *
  by_cases hf : l[p]? = some s
  · rw [if_pos hf]
    obtain ⟨hh, he⟩ := List.getElem?_eq_some_iff.1 hf
    exact text_walk l s hl _ _ p hpl hlt hge (fun _ _ => ⟨rfl, rfl⟩) (fun h => absurd he (h hh)) (fun h => absurd he (h hh))
  · rw [if_neg hf]
    have hne : ∀ h : p < l.length, l[p] ≠ s := fun h e => hf (by rw [List.getElem?_eq_getElem h, e])
    rcases Nat.eq_zero_or_pos p with h0 | h0
    · have h := text_walk l s hl (.row 0 (1 + l.length)) [.row 9 1 (1 + l.length) (insG0 1 cN s l) 0] p hpl hlt hge (fun h e => absurd e (hne h)) (fun _ _ => ⟨rfl, rfl⟩) (fun _ h => by omega)
      have h2 : Ret Tryz.prog 109 [eL 1 cN l, .str s] [] (.ext 1 (1 + l.length) (insG0 1 cN s l)) [] := h.lend ⟨rfl, Nat.le_refl _, Nat.le_refl _⟩ rfl
      subst h0
      exact h2.leR (le_extL (insG0_ext rfl))
    · have h := text_walk l s hl (.row 0 (p + 1 + (l.length - p))) [.row 9 1 (p + 1 + (l.length - p)) (insG 1 cN p s l) 0] p hpl hlt hge (fun h e => absurd e (hne h)) (fun _ h => by omega) (fun _ _ => ⟨rfl, rfl⟩)
      have h2 : Ret Tryz.prog 109 [eL 1 cN l, .str s] [] (.ext 1 (p + 1 + (l.length - p)) (insG 1 cN p s l)) [] := h.lend ⟨rfl, Nat.le_refl _, Nat.le_refl _⟩ rfl
      exact h2.leR (le_extL (insG_ext rfl hpl))
set_option maxHeartbeats 4000000 in
theorem rnames_ret (x : Xp) : x.Wf → ∀ out : List ByteArray, out.length + cntX x ≤ 1048576 → Ret Tryz.prog 64 [eE x, eL 1 cN out] [] (eL 1 cN (walkF nameR x out)) [] := by
  refine Xp.ind (Q := fun x => x.Wf → ∀ out : List ByteArray, out.length + cntX x ≤ 1048576 → Ret Tryz.prog 64 [eE x, eL 1 cN out] [] (eL 1 cN (walkF nameR x out)) []) ?_ x
  clear x
  intro x ih hx out hb
  have hm : maxLen ≤ 9223372036854775807 := by decide
  have har := hx.one.len
  obtain ⟨k, o, n, s, v, sc, p, ar⟩ := x
  have har : ar.length ≤ maxLen := har
  rw [cntX_mk] at hb
  have ihy : ∀ y ∈ ar, ∀ out : List ByteArray, out.length + cntX y ≤ 1048576 → Ret Tryz.prog 64 [eE y, eL 1 cN out] [] (eL 1 cN (walkF nameR y out)) [] := fun y hy => ih y hy (hx.arg hy)
  have hT := rtext_ret out n (by omega)
  rw [walkF_mk, cE_mk]
  have hnr : nameR (.mk k o n s v sc p ar) out = if k = 2 then putG ltN n out else out := rfl
  have hlr : (nameR (.mk k o n s v sc p ar) out).length ≤ out.length + 1 := by
    rw [hnr]; split
    · exact putG_len _ _
    · omega
  by_cases hk : k = 2
  · subst hk
    rw [if_pos rfl] at hnr
    rw [hnr] at hlr ⊢
    generalize putG ltN n out = o1 at *
    generalize hrF : walkL nameR ar o1 = rF
    refine ret_of_body atCalls tok mixed Tryz.func64 (by kernel_rfl) rfl (k := 28) (rs := [.tmp 4]) (by kernel_rfl) (by kernel_rfl) ?_
    (conv => whnf) <;> repeat' (first | ((first | refine wN ?_ | refine wNc ?_ | refine wA ?_ | refine wB ?_ | refine wC ?_ | refine wD ?_ | refine Called.mk _ _ (hT) ?_ | refine vA ?_ | refine vB ?_ | refine vC ?_ | refine vD ?_ | refine uA ?_ | refine uB ?_ | refine uC ?_ | refine uD ?_); conv => whnf) | ((first | apply Pick.dec | apply Pick.beq | apply Cond.dec | apply Cond.beq | apply Cond.nd | apply Pick.nd | apply Pick.mk | apply Cond.mk) <;> intro h <;> conv => whnf))
    intro J jw js
    have turn : ∀ (d i : Nat) (o1 : List ByteArray), i + d = ar.length → walkL nameR (ar.drop i) o1 = rF → o1.length + cntL (ar.drop i) ≤ 1048576 → J [.und, eL 1 cN o1, .ptr 0 0, .und, .und, .int .i64 (i : Int), .und, .und, .und, .und, .und, .und, .und, .und, .und, .und, .und, .und, .und, .und, .und, .und, .und, .und, .und, .und, .und, .und] [.cells [.int .i64 2, .int .i64 o, .str n, .str s, .int .i64 v.kind, .bool v.num.neg, .int .u64 (l0 v.num.n), .int .u64 (l1 v.num.n), .int .u64 (l2 v.num.n), .int .u64 (l3 v.num.n), .int .i64 v.num.scale, .bool v.flag, .str v.text, .int .i64 v.err, .int .i64 sc, .int .i64 p, .ext 17 ar.length (Xp.rows ar)]] := by
      intro d
      induction d with
      | zero =>
        intro i o1 hi hf hb
        rw [List.drop_of_length_le (by omega), walkL_nil] at hf
        subst hf
        apply js
        conv => whnf
        refine Cond.ff (decF (by omega)) ?_
        (conv => whnf) <;> repeat' (first | ((first | refine wN ?_ | refine wNc ?_ | refine wA ?_ | refine wB ?_ | refine wC ?_ | refine wD ?_ | refine vA ?_ | refine vB ?_ | refine vC ?_ | refine vD ?_ | refine uA ?_ | refine uB ?_ | refine uC ?_ | refine uD ?_); conv => whnf) | ((first | apply Pick.dec | apply Pick.beq | apply Cond.dec | apply Cond.beq | apply Cond.nd | apply Pick.nd | apply Pick.mk | apply Cond.mk) <;> intro h <;> conv => whnf))
        exact End.mk rfl rfl
      | succ d im =>
        intro i o1 hi hf hb
        have hil : i < ar.length := by omega
        have gk : Xp.rows ar (Int.toNat (i : Int)) = cE ar[i] := by rw [Int.toNat_natCast]; exact (Xp.rows_ext ar).2 i hil
        have e1 : IntKind.i64.wrap ((i : Int) + 1) = ((i + 1 : Nat) : Int) := by rw [wi64_id (by omega) (by omega)]; omega
        rw [List.drop_eq_getElem_cons hil] at hf hb
        rw [walkL_cons] at hf
        rw [cntL_cons] at hb
        have hc := ihy ar[i] (List.getElem_mem hil) o1 (by omega)
        have hl := nameR_len ar[i] o1
        have im := im (i + 1) (walkF nameR ar[i] o1) (by omega) hf (by omega)
        generalize walkF nameR ar[i] o1 = o2 at *
        generalize ar[i] = y at *
        apply js
        conv => whnf
        refine Cond.tt (decT (by omega)) ?_
        (conv => whnf) <;> repeat' (first | ((conv => arg 1; whnf); rw [gk]; conv => whnf) | ((first | refine wN ?_ | refine wNc ?_ | refine wA ?_ | refine wB ?_ | refine wC ?_ | refine wD ?_ | refine Called.mk _ _ (hc) ?_ | refine vA ?_ | refine vB ?_ | refine vC ?_ | refine vD ?_ | refine uA ?_ | refine uB ?_ | refine uC ?_ | refine uD ?_); conv => whnf) | ((first | apply Pick.dec | apply Pick.beq | apply Cond.dec | apply Cond.beq | apply Cond.nd | apply Pick.nd | apply Pick.mk | apply Cond.mk) <;> intro h <;> conv => whnf))
        rw [e1]
        apply jw [0] [false, true, true, false, false, true] _ _ rfl
        exact im
    apply jw [0] [false, true, true, false, false, true] _ _ rfl
    exact turn ar.length 0 o1 (by omega) hrF (by rw [List.drop_zero]; omega)
  · rw [if_neg hk] at hnr
    rw [hnr] at hlr ⊢
    clear hT
    generalize hrF : walkL nameR ar out = rF
    refine ret_of_body atCalls tok mixed Tryz.func64 (by kernel_rfl) rfl (k := 28) (rs := [.tmp 4]) (by kernel_rfl) (by kernel_rfl) ?_
    (conv => whnf) <;> repeat' (first | ((first | refine wN ?_ | refine wNc ?_ | refine wA ?_ | refine wB ?_ | refine wC ?_ | refine wD ?_ | refine vA ?_ | refine vB ?_ | refine vC ?_ | refine vD ?_ | refine uA ?_ | refine uB ?_ | refine uC ?_ | refine uD ?_); conv => whnf) | ((first | apply Pick.dec | apply Pick.beq | apply Cond.dec | apply Cond.beq | apply Cond.nd | apply Pick.nd | apply Pick.mk | apply Cond.mk) <;> intro h <;> conv => whnf))
    intro J jw js
    have turn : ∀ (d i : Nat) (o1 : List ByteArray), i + d = ar.length → walkL nameR (ar.drop i) o1 = rF → o1.length + cntL (ar.drop i) ≤ 1048576 → J [.und, eL 1 cN o1, .ptr 0 0, .und, .und, .int .i64 (i : Int), .und, .und, .und, .und, .und, .und, .und, .und, .und, .und, .und, .und, .und, .und, .und, .und, .und, .und, .und, .und, .und, .und] [.cells [.int .i64 k, .int .i64 o, .str n, .str s, .int .i64 v.kind, .bool v.num.neg, .int .u64 (l0 v.num.n), .int .u64 (l1 v.num.n), .int .u64 (l2 v.num.n), .int .u64 (l3 v.num.n), .int .i64 v.num.scale, .bool v.flag, .str v.text, .int .i64 v.err, .int .i64 sc, .int .i64 p, .ext 17 ar.length (Xp.rows ar)]] := by
      intro d
      induction d with
      | zero =>
        intro i o1 hi hf hb
        rw [List.drop_of_length_le (by omega), walkL_nil] at hf
        subst hf
        apply js
        conv => whnf
        refine Cond.ff (decF (by omega)) ?_
        (conv => whnf) <;> repeat' (first | ((first | refine wN ?_ | refine wNc ?_ | refine wA ?_ | refine wB ?_ | refine wC ?_ | refine wD ?_ | refine vA ?_ | refine vB ?_ | refine vC ?_ | refine vD ?_ | refine uA ?_ | refine uB ?_ | refine uC ?_ | refine uD ?_); conv => whnf) | ((first | apply Pick.dec | apply Pick.beq | apply Cond.dec | apply Cond.beq | apply Cond.nd | apply Pick.nd | apply Pick.mk | apply Cond.mk) <;> intro h <;> conv => whnf))
        exact End.mk rfl rfl
      | succ d im =>
        intro i o1 hi hf hb
        have hil : i < ar.length := by omega
        have gk : Xp.rows ar (Int.toNat (i : Int)) = cE ar[i] := by rw [Int.toNat_natCast]; exact (Xp.rows_ext ar).2 i hil
        have e1 : IntKind.i64.wrap ((i : Int) + 1) = ((i + 1 : Nat) : Int) := by rw [wi64_id (by omega) (by omega)]; omega
        rw [List.drop_eq_getElem_cons hil] at hf hb
        rw [walkL_cons] at hf
        rw [cntL_cons] at hb
        have hc := ihy ar[i] (List.getElem_mem hil) o1 (by omega)
        have hl := nameR_len ar[i] o1
        have im := im (i + 1) (walkF nameR ar[i] o1) (by omega) hf (by omega)
        generalize walkF nameR ar[i] o1 = o2 at *
        generalize ar[i] = y at *
        apply js
        conv => whnf
        refine Cond.tt (decT (by omega)) ?_
        (conv => whnf) <;> repeat' (first | ((conv => arg 1; whnf); rw [gk]; conv => whnf) | ((first | refine wN ?_ | refine wNc ?_ | refine wA ?_ | refine wB ?_ | refine wC ?_ | refine wD ?_ | refine Called.mk _ _ (hc) ?_ | refine vA ?_ | refine vB ?_ | refine vC ?_ | refine vD ?_ | refine uA ?_ | refine uB ?_ | refine uC ?_ | refine uD ?_); conv => whnf) | ((first | apply Pick.dec | apply Pick.beq | apply Cond.dec | apply Cond.beq | apply Cond.nd | apply Pick.nd | apply Pick.mk | apply Cond.mk) <;> intro h <;> conv => whnf))
        rw [e1]
        apply jw [0] [false, true, true, false, false, true] _ _ rfl
        exact im
    apply jw [0] [false, true, true, false, false, true] _ _ rfl
    exact turn ar.length 0 out (by omega) hrF (by rw [List.drop_zero]; omega)
theorem rNames_ret (x : Xp) (hx : x.Wf) (hc : cntX x ≤ 1048576) : Ret Tryz.prog 23 [eE x] [] (eL 1 cN (walkF nameR x [])) [] := by
  have h := rnames_ret x hx [] (by simpa using hc)
  generalize walkF nameR x [] = out at *
  have h1 : Ret Tryz.prog 64 [eE x, .nils] [] (eL 1 cN out) [] := h.le (.cons (.refl _) (.cons le_nils .nil))
  obtain ⟨k, o, n, s, v, sc, p, l⟩ := x
  rw [cE_mk] at h1 ⊢
  refine ret_of_body atCalls tok mixed Tryz.func23 (by kernel_rfl) rfl (k := 5) (rs := [.tmp 2]) (by kernel_rfl) (by kernel_rfl) ?_
  (conv => whnf) <;> repeat' (first | ((first | refine wN ?_ | refine wNc ?_ | refine wA ?_ | refine wB ?_ | refine wC ?_ | refine wD ?_ | refine Called.mk _ _ (h1) ?_ | refine vA ?_ | refine vB ?_ | refine vC ?_ | refine vD ?_ | refine uA ?_ | refine uB ?_ | refine uC ?_ | refine uD ?_); conv => whnf) | ((first | apply Pick.dec | apply Pick.beq | apply Cond.dec | apply Cond.beq | apply Cond.nd | apply Pick.nd | apply Pick.mk | apply Cond.mk) <;> intro h <;> conv => whnf))
  exact End.mk rfl rfl
set_option maxHeartbeats 4000000 in
theorem rNodes_ret (x : Xp) : x.Wf → cntX x ≤ 1048576 → Ret Tryz.prog 28 [eE x] [] (.int .i64 (cntX x : Int)) [] := by
  refine Xp.ind (Q := fun x => x.Wf → cntX x ≤ 1048576 → Ret Tryz.prog 28 [eE x] [] (.int .i64 (cntX x : Int)) []) ?_ x
  clear x
  intro x ih hx hb
  have hm : maxLen ≤ 9223372036854775807 := by decide
  have har := hx.one.len
  obtain ⟨k, o, n, s, v, sc, p, ar⟩ := x
  have har : ar.length ≤ maxLen := har
  rw [cntX_mk] at hb
  have ihy : ∀ y ∈ ar, cntX y ≤ 1048576 → Ret Tryz.prog 28 [eE y] [] (.int .i64 (cntX y : Int)) [] := fun y hy => ih y hy (hx.arg hy)
  rw [cntX_mk, cE_mk]
  generalize hrF : 1 + cntL ar = rF
  refine ret_of_body atCalls tok mixed Tryz.func28 (by kernel_rfl) rfl (k := 21) (rs := [.tmp 2]) (by kernel_rfl) (by kernel_rfl) ?_
  (conv => whnf) <;> repeat' (first | ((first | refine wN ?_ | refine wNc ?_ | refine wA ?_ | refine wB ?_ | refine wC ?_ | refine wD ?_ | refine vA ?_ | refine vB ?_ | refine vC ?_ | refine vD ?_ | refine uA ?_ | refine uB ?_ | refine uC ?_ | refine uD ?_); conv => whnf) | ((first | apply Pick.dec | apply Pick.beq | apply Cond.dec | apply Cond.beq | apply Cond.nd | apply Pick.nd | apply Pick.mk | apply Cond.mk) <;> intro h <;> conv => whnf))
  intro J jw js
  have turn : ∀ (d i c : Nat), i + d = ar.length → c + cntL (ar.drop i) = rF → J [.und, .ptr 0 0, .und, .int .i64 (c : Int), .int .i64 (i : Int), .und, .und, .und, .und, .und, .und, .und, .und, .und, .und, .und, .und, .und, .und, .und, .und] [.cells [.int .i64 k, .int .i64 o, .str n, .str s, .int .i64 v.kind, .bool v.num.neg, .int .u64 (l0 v.num.n), .int .u64 (l1 v.num.n), .int .u64 (l2 v.num.n), .int .u64 (l3 v.num.n), .int .i64 v.num.scale, .bool v.flag, .str v.text, .int .i64 v.err, .int .i64 sc, .int .i64 p, .ext 17 ar.length (Xp.rows ar)]] := by
    intro d
    induction d with
    | zero =>
      intro i c hi hf
      rw [List.drop_of_length_le (by omega), cntL_nil] at hf
      obtain rfl : c = rF := by omega
      apply js
      conv => whnf
      refine Cond.ff (decF (by omega)) ?_
      (conv => whnf) <;> repeat' (first | ((first | refine wN ?_ | refine wNc ?_ | refine wA ?_ | refine wB ?_ | refine wC ?_ | refine wD ?_ | refine vA ?_ | refine vB ?_ | refine vC ?_ | refine vD ?_ | refine uA ?_ | refine uB ?_ | refine uC ?_ | refine uD ?_); conv => whnf) | ((first | apply Pick.dec | apply Pick.beq | apply Cond.dec | apply Cond.beq | apply Cond.nd | apply Pick.nd | apply Pick.mk | apply Cond.mk) <;> intro h <;> conv => whnf))
      exact End.mk rfl rfl
    | succ d im =>
      intro i c hi hf
      have hil : i < ar.length := by omega
      have gk : Xp.rows ar (Int.toNat (i : Int)) = cE ar[i] := by rw [Int.toNat_natCast]; exact (Xp.rows_ext ar).2 i hil
      have e1 : IntKind.i64.wrap ((i : Int) + 1) = ((i + 1 : Nat) : Int) := by rw [wi64_id (by omega) (by omega)]; omega
      rw [List.drop_eq_getElem_cons hil] at hf
      rw [cntL_cons] at hf
      have hc := ihy ar[i] (List.getElem_mem hil) (by omega)
      have e2 : IntKind.i64.wrap ((c : Int) + (cntX ar[i] : Int)) = ((c + cntX ar[i] : Nat) : Int) := by rw [wi64_id (by omega) (by omega)]; omega
      have im := im (i + 1) (c + cntX ar[i]) (by omega) (by omega)
      generalize cntX ar[i] = cy at *
      generalize ar[i] = y at *
      apply js
      conv => whnf
      refine Cond.tt (decT (by omega)) ?_
      (conv => whnf) <;> repeat' (first | ((conv => arg 1; whnf); rw [gk]; conv => whnf) | ((first | refine wN ?_ | refine wNc ?_ | refine wA ?_ | refine wB ?_ | refine wC ?_ | refine wD ?_ | refine Called.mk _ _ (hc) ?_ | refine vA ?_ | refine vB ?_ | refine vC ?_ | refine vD ?_ | refine uA ?_ | refine uB ?_ | refine uC ?_ | refine uD ?_); conv => whnf) | ((first | apply Pick.dec | apply Pick.beq | apply Cond.dec | apply Cond.beq | apply Cond.nd | apply Pick.nd | apply Pick.mk | apply Cond.mk) <;> intro h <;> conv => whnf))
      rw [e1, e2]
      apply jw [0] [false, true, false, true, true] _ _ rfl
      exact im
  apply jw [0] [false, true, false, true, true] _ _ rfl
  exact turn ar.length 0 1 (by omega) (by rw [List.drop_zero]; exact hrF)
end Go.Proofs.YtlbocjcponegcaaGreat

