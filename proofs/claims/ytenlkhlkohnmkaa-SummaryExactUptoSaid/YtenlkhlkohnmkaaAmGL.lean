/- Walks that part by propositions; bytes. -/
import Derived.Test.YtenlkhlkohnmkaaAmLib
import Derived.Laws.Strings
set_option linter.unusedVariables false
set_option linter.unusedSimpArgs false
set_option maxRecDepth 100000
namespace Go.AM
theorem Cond.dec {p : Prop} [Decidable p] {X Y : Option Nat → List Val → List Blk → Kont → Prop} {tm : List Val} {hp : List Blk} {K : Kont} (hy : p → X none tm hp K) (hn : ¬ p → Y none tm hp K) : Cond (decide p) X Y tm hp K :=
  ⟨fun h => hy (of_decide_eq_true h), fun h => hn (of_decide_eq_false h)⟩
theorem Cond.beq {x y : Int} {X Y : Option Nat → List Val → List Blk → Kont → Prop} {tm : List Val} {hp : List Blk} {K : Kont} (hy : x = y → X none tm hp K) (hn : x ≠ y → Y none tm hp K) : Cond (x == y) X Y tm hp K :=
  ⟨fun h => hy (beq_iff_eq.1 h), fun h => hn (beq_eq_false_iff_ne.1 h)⟩
theorem Pick.dec {p : Prop} [Decidable p] {K : Bool → Prop} (hy : p → K true) (hn : ¬ p → K false) : Pick (decide p) K := ⟨fun h => hy (of_decide_eq_true h), fun h => hn (of_decide_eq_false h)⟩
theorem Pick.beq {x y : Int} {K : Bool → Prop} (hy : x = y → K true) (hn : x ≠ y → K false) : Pick (x == y) K := ⟨fun h => hy (beq_iff_eq.1 h), fun h => hn (beq_eq_false_iff_ne.1 h)⟩
theorem Cond.nd {p : Prop} [Decidable p] {X Y : Option Nat → List Val → List Blk → Kont → Prop} {tm : List Val} {hp : List Blk} {K : Kont} (hy : ¬ p → X none tm hp K) (hn : p → Y none tm hp K) : Cond (!decide p) X Y tm hp K :=
  ⟨fun h => hy (by simpa using h), fun h => hn (by simpa using h)⟩
theorem Pick.nd {p : Prop} [Decidable p] {K : Bool → Prop} (hy : ¬ p → K true) (hn : p → K false) : Pick (!decide p) K := ⟨fun h => hy (by simpa using h), fun h => hn (by simpa using h)⟩
theorem toList_eq (a b : ByteArray) : (a.toList == b.toList) = decide (a = b) := by
  rw [Bool.eq_iff_iff, beq_iff_eq, decide_eq_true_eq]
  constructor
  · intro h
    have e : ∀ s : ByteArray, s.toList = s.data.toList := fun s => ByteArray.toList_eq s
    rw [e, e] at h
    cases a; cases b
    simp only [ByteArray.mk.injEq] at h ⊢
    exact Array.toList_inj.1 h
  · rintro rfl; rfl
end Go.AM
set_option linter.unusedVariables false
set_option linter.unusedSimpArgs false
set_option maxRecDepth 100000
namespace Go.AM
def isDig (c : Int) : Prop := 48 ≤ c ∧ c ≤ 57
instance (c : Int) : Decidable (isDig c) := inferInstanceAs (Decidable (_ ∧ _))
/-- the number of the first i bytes -/
def pval (f : Nat → Int) : Nat → Nat
  | 0 => 0
  | i + 1 => pval f i * 10 + (f i - 48).toNat
def parse (s : ByteArray) : N × Int :=
  if s.size = 0 ∨ (bt s 0 = 48 ∧ 1 < s.size) then (N0, 10)
  else if ∀ i, i < s.size → isDig (bt s (i : Nat)) then (if (pval (fun i => bt s i) s.size : Int) < B4 then (mkN (pval (fun i => bt s i) s.size), 0) else (N0, 7))
  else (N0, 10)
theorem bt_range (s : ByteArray) (i : Int) : 0 ≤ bt s i ∧ bt s i < 256 := by
  unfold bt
  split
  · rename_i b _
    have := b.toNat_lt
    omega
  · omega
theorem pval_mono (f : Nat → Int) : ∀ {i j : Nat}, i ≤ j → pval f i ≤ pval f j
  | i, 0, h => by have : i = 0 := by omega
                  subst this; exact Nat.le_refl _
  | i, j + 1, h => by
    rcases Nat.lt_or_ge i (j + 1) with h1 | h1
    · have := pval_mono f (i := i) (j := j) (by omega)
      simp only [pval]; omega
    · have : i = j + 1 := by omega
      subst this; exact Nat.le_refl _
theorem pval_ge (f : Nat → Int) (h0 : 49 ≤ f 0) : ∀ i : Nat, 10 ^ i ≤ pval f (i + 1)
  | 0 => by simp only [pval]; omega
  | i + 1 => by
    have := pval_ge f h0 i
    rw [Nat.pow_succ]
    simp only [pval] at this ⊢; omega
theorem wrap8_id {n : Int} (h0 : 0 ≤ n) (h1 : n < 256) : IntKind.u8.wrap n = n := by rw [w8]; omega

section
variable {s : ByteArray}
theorem parse_short (h : s.size = 0 ∨ (bt s 0 = 48 ∧ 1 < s.size)) : parse s = (N0, 10) := by unfold parse; rw [if_pos h]
theorem parse_bad (h : ¬ (s.size = 0 ∨ (bt s 0 = 48 ∧ 1 < s.size))) {i : Nat} (hi : i < s.size) (hd : ¬ isDig (bt s i)) : parse s = (N0, 10) := by
  unfold parse; rw [if_neg h, if_neg (fun h => hd (h i hi))]
theorem parse_over (h : ¬ (s.size = 0 ∨ (bt s 0 = 48 ∧ 1 < s.size))) (hd : ∀ i, i < s.size → isDig (bt s (i : Nat))) (hv : B4 ≤ (pval (fun i => bt s i) s.size : Int)) : parse s = (N0, 7) := by
  unfold parse; rw [if_neg h, if_pos hd, if_neg (by omega)]
theorem parse_ok (h : ¬ (s.size = 0 ∨ (bt s 0 = 48 ∧ 1 < s.size))) (hd : ∀ i, i < s.size → isDig (bt s (i : Nat))) (hv : (pval (fun i => bt s i) s.size : Int) < B4) : parse s = (mkN (pval (fun i => bt s i) s.size), 0) := by
  unfold parse; rw [if_neg h, if_pos hd, if_pos hv]
theorem pval_long (h : ¬ (s.size = 0 ∨ (bt s 0 = 48 ∧ 1 < s.size))) (hd : ∀ i, i < s.size → isDig (bt s (i : Nat))) (hl : 78 < s.size) : B4 ≤ (pval (fun i => bt s i) s.size : Int) := by
  have h0 := hd 0 (by omega)
  unfold isDig at h0
  have h1 : bt s (0 : Nat) ≠ 48 := fun e => h (.inr ⟨e, by omega⟩)
  have h2 := pval_ge (fun i => bt s (i : Nat)) (by have := h0.1; omega) (s.size - 1)
  rw [show s.size - 1 + 1 = s.size by omega] at h2
  have h3 : 10 ^ 78 ≤ 10 ^ (s.size - 1) := Nat.pow_le_pow_right (by decide) (by omega)
  have h4 : 115792089237316195423570985008687907853269984665640564039457584007913129639936 ≤ 10 ^ 78 := by decide
  unfold B4; omega
theorem empty_iff (s : ByteArray) : (s.toList == (⟨#[]⟩ : ByteArray).toList) = decide (s.size = 0) := by
  rw [toList_eq, decide_eq_decide]
  constructor
  · intro h; rw [h]; rfl
  · intro h
    cases s with | mk d =>
    have : d = #[] := Array.eq_empty_of_size_eq_zero h
    rw [this]
end
end Go.AM
set_option linter.unusedVariables false
set_option linter.unusedSimpArgs false
set_option maxRecDepth 100000
namespace Go.AM
/-- the digits, the lowest first -/
def dl : Nat → Nat → List Nat
  | 0, _ => []
  | k + 1, n => if n = 0 then [] else (n % 10) :: dl k (n / 10)
def digits (n : Nat) : List Nat := if n = 0 then [0] else (dl 78 n).reverse
def byteList (l : List Int) : ByteArray := ⟨(l.map fun n => UInt8.ofNat n.toNat).toArray⟩
def text (n : Nat) : ByteArray := byteList ((digits n).map fun (d : Nat) => (48 + d : Int))
theorem dl_more : ∀ {k n : Nat}, n < 10 ^ k → ∀ j, k ≤ j → dl j n = dl k n
  | 0, n, h, j, _ => by
    have : n = 0 := by simpa using h
    subst this
    cases j <;> rfl
  | k + 1, n, h, j, hj => by
    obtain ⟨j, rfl⟩ : ∃ i, j = i + 1 := ⟨j - 1, by omega⟩
    simp only [dl]
    split
    · rfl
    · rw [dl_more (k := k) (n := n / 10) (by rw [Nat.pow_succ] at h; omega) j (by omega)]
theorem dl_len : ∀ {k n : Nat}, (dl k n).length ≤ k
  | 0, _ => by simp [dl]
  | k + 1, n => by
    simp only [dl]
    split
    · simp
    · have := dl_len (k := k) (n := n / 10); simp only [List.length_cons]; omega
theorem dl_lt : ∀ {k n d : Nat}, d ∈ dl k n → d < 10
  | 0, _, _, h => by simp [dl] at h
  | k + 1, n, d, h => by
    simp only [dl] at h
    split at h
    · simp at h
    · rcases List.mem_cons.1 h with rfl | h
      · omega
      · exact dl_lt h
theorem strOfK_map {K : List UInt8 → Prog} : ∀ (ns : List Int), strOfK (ns.map (.int .u8)) K = K (ns.map fun n => UInt8.ofNat n.toNat)
  | [] => rfl
  | n :: ns => by simp only [List.map_cons, strOfK]; exact strOfK_map ns
end Go.AM
namespace Go.AM
def upd (cs : List Val) (i : Nat) (v : Val) : List Val := cs.take i ++ v :: cs.drop (i + 1)
theorem upd_len {cs : List Val} {i : Nat} (v : Val) (h : i < cs.length) : (upd cs i v).length = cs.length := by
  unfold upd; simp only [List.length_append, List.length_take, List.length_cons, List.length_drop]; omega
theorem upd_drop {cs : List Val} {i : Nat} (v : Val) (h : i < cs.length) : (upd cs i v).drop i = v :: cs.drop (i + 1) := by
  unfold upd
  have e : (cs.take i).length = i := by rw [List.length_take]; omega
  rw [List.drop_append_of_le_length (by omega), List.drop_of_length_le (by omega)]; rfl
def lo (k n : Nat) : List Nat := if n = 0 then [0] else (dl k n).reverse
theorem lo_step {k n : Nat} (h : n / 10 ≠ 0) : lo (k + 1) n = lo k (n / 10) ++ [n % 10] := by
  have hn : n ≠ 0 := by omega
  unfold lo
  rw [if_neg hn, if_neg h]
  simp only [dl, hn, if_false, List.reverse_cons]
theorem lo_end {k n : Nat} (h : n / 10 = 0) : lo (k + 1) n = [n % 10] := by
  unfold lo
  split
  · rename_i e; subst e; rfl
  · rename_i hn
    simp only [dl, hn, if_false, h]
    cases k <;> simp [dl]
theorem text_lo (n : Nat) : text n = byteList ((lo 78 n).map fun (d : Nat) => (48 + d : Int)) := rfl
end Go.AM
namespace Go.AM
/-- cells that name no block -/
def Still (cs : List Val) : Prop := ∀ σ, renL σ cs = cs
theorem renL_append (σ : Nat → Option Nat) : ∀ (a b : List Val), renL σ (a ++ b) = renL σ a ++ renL σ b
  | [], _ => rfl
  | x :: a, b => by simp only [List.cons_append, renL, renL_append σ a b]
theorem renL_take (σ : Nat → Option Nat) : ∀ (n : Nat) (a : List Val), renL σ (a.take n) = (renL σ a).take n
  | 0, a => by simp [renL]
  | n + 1, [] => by simp [renL]
  | n + 1, x :: a => by simp only [List.take_succ_cons, renL, renL_take σ n a]
theorem renL_drop (σ : Nat → Option Nat) : ∀ (n : Nat) (a : List Val), renL σ (a.drop n) = (renL σ a).drop n
  | 0, a => by simp
  | n + 1, [] => by simp [renL]
  | n + 1, x :: a => by simp only [List.drop_succ_cons, renL, renL_drop σ n a]
theorem Still.upd {cs : List Val} (h : Still cs) (i : Nat) (k : IntKind) (n : Int) : Still (upd cs i (.int k n)) := fun σ => by
  unfold AM.upd
  rw [renL_append, renL_take, h σ]
  simp only [renL, renV, renL_drop, h σ]
end Go.AM
set_option linter.unusedVariables false
set_option linter.unusedSimpArgs false
set_option maxRecDepth 100000
namespace Go.AM
def gl (ds : List Int) : Nat → List Val := fun i => match ds[i]? with
  | some d => [.int .u8 d]
  | none => []
theorem gl_one (d : Int) : (fun i => (pieces 1 1 [Val.int .u8 d]).getD i []) = gl [d] := by
  funext i
  unfold gl
  cases i with
  | zero => rfl
  | succ i => simp [pieces]
theorem gl_append (ds : List Int) (d : Int) : (fun i => if i < ds.length then gl ds i else (pieces 1 1 [Val.int .u8 d]).getD (i - ds.length) []) = gl (ds ++ [d]) := by
  funext i
  unfold gl
  split
  · rename_i h
    rw [List.getElem?_append_left h]
  · rename_i h
    rw [List.getElem?_append_right (by omega)]
    cases hk : i - ds.length with
    | zero => rfl
    | succ j => simp [pieces]
theorem gl_set {ds : List Int} {i : Nat} (v : Int) (h : i < ds.length) : (fun k => if k = i then List.take 0 (gl ds i) ++ [Val.int .u8 v] ++ List.drop (0 + [Val.int .u8 v].length) (gl ds i) else gl ds k) = gl (ds.set i v) := by
  funext k
  unfold gl
  split
  · rename_i e; subst e
    rw [List.getElem?_set_self h, List.getElem?_eq_getElem h]
    rfl
  · rename_i e
    rw [List.getElem?_set_ne (fun h => e h.symm)]
theorem gl_get {ds : List Int} {i : Nat} {d : Int} (h : ds[i]? = some d) : gl ds i = [.int .u8 d] := by unfold gl; rw [h]
theorem gl_byte {ds : List Int} : ∀ i, i < ds.length → isByte (gl ds i) := fun i h => by
  rw [gl_get (List.getElem?_eq_getElem h)]; exact ⟨_, rfl⟩
theorem gl_str (ds : List Int) : bytesStr ds.length (gl ds) = byteList ds := by
  unfold bytesStr byteList
  congr 2
  apply List.ext_getElem?
  intro i
  rw [List.getElem?_map, List.getElem?_map]
  rcases Nat.lt_or_ge i ds.length with h | h
  · rw [List.getElem?_range h, List.getElem?_eq_getElem h]
    simp only [Option.map_some]
    rw [gl_get (List.getElem?_eq_getElem h)]; rfl
  · rw [List.getElem?_eq_none (by simpa using h), List.getElem?_eq_none h]; rfl
/-- a list that is turned round, j steps from both ends -/
def Turned (ds : List Int) (j : Nat) (l : List Int) : Prop := l.length = ds.length ∧ ∀ t, t < ds.length → l[t]? = if t < j ∨ ds.length ≤ t + j then ds[ds.length - 1 - t]? else ds[t]?
theorem Turned.start (ds : List Int) : Turned ds 0 ds := ⟨rfl, fun t h => by rw [if_neg (by omega)]⟩
theorem Turned.done {ds l : List Int} {j : Nat} (h : Turned ds j l) (hj : ds.length ≤ 2 * j + 1) : l = ds.reverse := by
  apply List.ext_getElem?
  intro t
  rcases Nat.lt_or_ge t ds.length with ht | ht
  · rw [h.2 t ht, List.getElem?_reverse ht]
    split
    · rfl
    · have : t = ds.length - 1 - t := by omega
      rw [← this]
  · rw [List.getElem?_eq_none (by rw [h.1]; exact ht), List.getElem?_eq_none (by simpa using ht)]
theorem Turned.step {ds l : List Int} {j : Nat} (h : Turned ds j l) (hj : 2 * j + 1 < ds.length) : ∃ x y, l[j]? = some x ∧ l[ds.length - 1 - j]? = some y ∧ Turned ds (j + 1) ((l.set j y).set (ds.length - 1 - j) x) := by
  have h1 := h.2 j (by omega)
  have h2 := h.2 (ds.length - 1 - j) (by omega)
  rw [if_neg (by omega)] at h1
  rw [if_neg (by omega)] at h2
  refine ⟨ds[j], ds[ds.length - 1 - j], by rw [h1, List.getElem?_eq_getElem], by rw [h2, List.getElem?_eq_getElem], by simp [h.1], fun t ht => ?_⟩
  rcases (by omega : t = ds.length - 1 - j ∨ (t ≠ ds.length - 1 - j ∧ t = j) ∨ (t ≠ ds.length - 1 - j ∧ t ≠ j)) with e | ⟨e, e2⟩ | ⟨e, e2⟩
  · subst e
    rw [List.getElem?_set_self (by simp [h.1]; omega), if_pos (by omega), show ds.length - 1 - (ds.length - 1 - j) = j by omega, List.getElem?_eq_getElem]
  · subst e2
    rw [List.getElem?_set_ne (fun e3 => e e3.symm), List.getElem?_set_self (by rw [h.1]; omega), if_pos (by omega), List.getElem?_eq_getElem]
  · rw [List.getElem?_set_ne (fun e3 => e e3.symm), List.getElem?_set_ne (fun e3 => e2 e3.symm), h.2 t ht]
    by_cases hc : t < j ∨ ds.length ≤ t + j
    · rw [if_pos hc, if_pos (by omega)]
    · rw [if_neg hc, if_neg (by omega)]
end Go.AM
set_option linter.unusedVariables false
set_option linter.unusedSimpArgs false
set_option maxRecDepth 100000
namespace Go.AM
def pv (l : List Nat) : Nat := l.foldl (fun v d => v * 10 + d) 0
theorem pv_append (l : List Nat) (d : Nat) : pv (l ++ [d]) = pv l * 10 + d := by unfold pv; rw [List.foldl_append]; rfl
theorem pv_dl : ∀ {k n : Nat}, n < 10 ^ k → pv (dl k n).reverse = n
  | 0, n, h => by
    have : n = 0 := by simpa using h
    subst this; rfl
  | k + 1, n, h => by
    simp only [dl]
    split
    · rename_i e; subst e; rfl
    · rw [List.reverse_cons, pv_append, pv_dl (by rw [Nat.pow_succ] at h; omega)]; omega
theorem dl_head : ∀ {k n : Nat}, n ≠ 0 → n < 10 ^ k → ∃ d l, (dl k n).reverse = d :: l ∧ d ≠ 0
  | 0, n, h0, h => by simp at h; omega
  | k + 1, n, h0, h => by
    simp only [dl, h0, if_false, List.reverse_cons]
    by_cases h1 : n / 10 = 0
    · refine ⟨n % 10, [], ?_, by omega⟩
      rw [h1]; cases k <;> simp [dl]
    · obtain ⟨d, l, e, hd⟩ := dl_head (k := k) h1 (by rw [Nat.pow_succ] at h; omega)
      exact ⟨d, l ++ [n % 10], by rw [e]; rfl, hd⟩
theorem pval_list {f : Nat → Int} {l : List Nat} (h : ∀ i (hi : i < l.length), f i = 48 + (l[i] : Int)) : ∀ i, i ≤ l.length → pval f i = pv (l.take i)
  | 0, _ => by simp [pval, pv]
  | i + 1, hi => by
    have e : l.take (i + 1) = l.take i ++ [l[i]] := by rw [List.take_add_one, List.getElem?_eq_getElem (by omega)]; rfl
    rw [e, pv_append]
    simp only [pval]
    rw [pval_list h i (by omega), h i (by omega)]
    omega
theorem bt_byteList {l : List Int} {i : Nat} (hi : i < l.length) (h0 : 0 ≤ l[i]) (h1 : l[i] < 256) : bt (byteList l) i = l[i] := by
  unfold bt byteList
  have hi' : i < (l.map fun n => UInt8.ofNat n.toNat).length := by simpa using hi
  rw [Int.toNat_natCast, List.getElem?_eq_getElem (by simpa using hi)]
  simp only [List.getElem_map]
  have : (UInt8.ofNat l[i].toNat).toNat = l[i].toNat % 256 := by simp
  rw [this]; omega
theorem digits_lt {n d : Nat} (h : d ∈ digits n) : d < 10 := by
  unfold digits at h
  split at h
  · simp at h; omega
  · exact dl_lt (List.mem_reverse.1 h)
theorem text_size (n : Nat) : (text n).size = (digits n).length := by
  show (byteList _).data.size = _
  unfold byteList
  simp
theorem text_bt (n : Nat) {i : Nat} (hi : i < (digits n).length) : bt (text n) i = 48 + ((digits n)[i] : Int) := by
  have hd := digits_lt (List.getElem_mem hi)
  unfold text
  rw [bt_byteList (by simpa using hi) (by simp only [List.getElem_map]; omega) (by simp only [List.getElem_map]; omega)]
  simp only [List.getElem_map]
theorem ten78 {n : Nat} (h : (n : Int) < B4) : n < 10 ^ 78 := by
  have h4 : 115792089237316195423570985008687907853269984665640564039457584007913129639936 ≤ 10 ^ 78 := by decide
  unfold B4 at h; omega
theorem parse_text {n : Nat} (h : (n : Int) < B4) : parse (text n) = (mkN n, 0) := by
  have hlen := text_size n
  have hv : pval (fun i => bt (text n) i) (text n).size = n := by
    rw [hlen, pval_list (l := digits n) (fun i hi => text_bt n hi) _ (Nat.le_refl _), List.take_length]
    unfold digits
    split
    · rename_i e; subst e; rfl
    · exact pv_dl (ten78 h)
  have hd : ∀ i, i < (text n).size → isDig (bt (text n) (i : Nat)) := fun i hi => by
    rw [hlen] at hi
    rw [text_bt n hi]
    have := digits_lt (List.getElem_mem hi)
    unfold isDig; omega
  have hs : ¬ ((text n).size = 0 ∨ (bt (text n) 0 = 48 ∧ 1 < (text n).size)) := by
    by_cases h0 : n = 0
    · subst h0
      have : (text 0).size = 1 := by rw [hlen]; rfl
      omega
    · obtain ⟨d, l, e, hd0⟩ := dl_head h0 (ten78 h)
      have ed : digits n = d :: l := by unfold digits; rw [if_neg h0]; exact e
      have hp : 0 < (digits n).length := by rw [ed]; simp
      have hb := text_bt n hp
      have : (digits n)[0] = d := by simp [ed]
      rw [this] at hb
      intro hc
      rcases hc with hc | hc
      · omega
      · have h1 := hc.1
        have hb : bt (text n) 0 = 48 + (d : Int) := hb
        omega
  rw [parse_ok hs hd (by rw [hv]; exact h), hv]
theorem text_small {n : Nat} : (text n).size ≤ 78 := by
  rw [text_size]
  unfold digits
  split
  · simp
  · rw [List.length_reverse]; exact dl_len
end Go.AM
