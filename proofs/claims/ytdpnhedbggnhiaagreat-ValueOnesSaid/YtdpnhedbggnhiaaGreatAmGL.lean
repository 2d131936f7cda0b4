/- Walks that part by propositions; bytes. -/
import Derived.Test.YtdpnhedbggnhiaaGreatAmLib
import Derived.Laws.Strings
set_option linter.unusedVariables false
set_option linter.unusedSimpArgs false
set_option maxRecDepth 100000
namespace Go.AM
theorem Cond.dec {p : Prop} [Decidable p] {X Y : Option Nat → List Val → List Blk → Kont → Prop} {tm : List Val} {hp : List Blk} {K : Kont} (hy : p → X none tm hp K) (hn : ¬ p → Y none tm hp K) : Cond (decide p) X Y tm hp K :=
  ⟨fun h => hy (of_decide_eq_true h), fun h => hn (of_decide_eq_false h)⟩
theorem Cond.beq {x y : Int} {X Y : Option Nat → List Val → List Blk → Kont → Prop} {tm : List Val} {hp : List Blk} {K : Kont} (hy : x = y → X none tm hp K) (hn : x ≠ y → Y none tm hp K) : Cond (x == y) X Y tm hp K :=
  ⟨fun h => hy (beq_iff_eq.1 h), fun h => hn (beq_eq_false_iff_ne.1 h)⟩
theorem Pick.dec {p : Prop} [Decidable p] {K : Bool → Prop} (hy : p → K true) (hn : ¬ p → K false) : Pick (decide p) K := ⟨fun h => hy (of_decide_eq_true h), fun h => hn (of_decide_eq_false h)⟩
theorem Pick.beq {x y : Int} {K : Bool → Prop} (hy : x = y → K true) (hn : x ≠ y → K false) : Pick (x == y) K := ⟨fun h => hy (beq_iff_eq.1 h), fun h => hn (beq_eq_false_iff_ne.1 h)⟩
theorem Cond.nd {p : Prop} [Decidable p] {X Y : Option Nat → List Val → List Blk → Kont → Prop} {tm : List Val} {hp : List Blk} {K : Kont} (hy : ¬ p → X none tm hp K) (hn : p → Y none tm hp K) : Cond (!decide p) X Y tm hp K :=
  ⟨fun h => hy (by simpa using h), fun h => hn (by simpa using h)⟩
theorem Pick.nd {p : Prop} [Decidable p] {K : Bool → Prop} (hy : ¬ p → K true) (hn : p → K false) : Pick (!decide p) K := ⟨fun h => hy (by simpa using h), fun h => hn (by simpa using h)⟩
theorem decNT {p : Prop} [Decidable p] (h : ¬ p) : (!decide p) = true := by simp [h]
theorem decNF {p : Prop} [Decidable p] (h : p) : (!decide p) = false := by simp [h]
theorem vA {b : Bool} {X Y : Option Nat → List Val → List Blk → Kont → Prop} {tm : List Val} {hp : List Blk} {K : Kont} (k : X none tm hp K) (h : b = true := by first | assumption | exact decT (by first | assumption | omega)) : Cond b X Y tm hp K := .tt h k
theorem vB {b : Bool} {X Y : Option Nat → List Val → List Blk → Kont → Prop} {tm : List Val} {hp : List Blk} {K : Kont} (k : Y none tm hp K) (h : b = false := by first | assumption | exact decF (by first | assumption | omega)) : Cond b X Y tm hp K := .ff h k
theorem vC {b : Bool} {K : Bool → Prop} (k : K true) (h : b = true := by first | assumption | exact decT (by first | assumption | omega)) : Pick b K := .tt h k
theorem vD {b : Bool} {K : Bool → Prop} (k : K false) (h : b = false := by first | assumption | exact decF (by first | assumption | omega)) : Pick b K := .ff h k
theorem uA {b : Bool} {X Y : Option Nat → List Val → List Blk → Kont → Prop} {tm : List Val} {hp : List Blk} {K : Kont} (k : X none tm hp K) (h : b = true := by exact decNT (by first | assumption | omega)) : Cond b X Y tm hp K := .tt h k
theorem uB {b : Bool} {X Y : Option Nat → List Val → List Blk → Kont → Prop} {tm : List Val} {hp : List Blk} {K : Kont} (k : Y none tm hp K) (h : b = false := by exact decNF (by first | assumption | omega)) : Cond b X Y tm hp K := .ff h k
theorem uC {b : Bool} {K : Bool → Prop} (k : K true) (h : b = true := by exact decNT (by first | assumption | omega)) : Pick b K := .tt h k
theorem uD {b : Bool} {K : Bool → Prop} (k : K false) (h : b = false := by exact decNF (by first | assumption | omega)) : Pick b K := .ff h k
theorem toList_eq (a b : ByteArray) : (a.toList == b.toList) = decide (a = b) := by
  rw [Bool.eq_iff_iff, beq_iff_eq, decide_eq_true_eq]
  constructor
  · intro h
    have e : ∀ s : ByteArray, s.toList = s.data.toList := fun s => ByteArray.toList_eq s
    rw [e, e] at h
    cases a; cases b
    simp only [ByteArray.mk.injEq] at h ⊢
    exact Array.toList_inj.1 h
  · rintro rfl; rfl
end Go.AM

set_option linter.unusedVariables false
set_option linter.unusedSimpArgs false
set_option maxRecDepth 100000
namespace Go.AM
def isDig (c : Int) : Prop := 48 ≤ c ∧ c ≤ 57
instance (c : Int) : Decidable (isDig c) := inferInstanceAs (Decidable (_ ∧ _))
theorem wrap8_id {n : Int} (h0 : 0 ≤ n) (h1 : n < 256) : IntKind.u8.wrap n = n := by rw [w8]; omega

section
variable {s : ByteArray}
end
end Go.AM

set_option linter.unusedVariables false
set_option linter.unusedSimpArgs false
set_option maxRecDepth 100000
namespace Go.AM
/-- the digits, the lowest first -/
def dl : Nat → Nat → List Nat
  | 0, _ => []
  | k + 1, n => if n = 0 then [] else (n % 10) :: dl k (n / 10)
def digits (n : Nat) : List Nat := if n = 0 then [0] else (dl 78 n).reverse
def byteList (l : List Int) : ByteArray := ⟨(l.map fun n => UInt8.ofNat n.toNat).toArray⟩
def text (n : Nat) : ByteArray := byteList ((digits n).map fun (d : Nat) => (48 + d : Int))
theorem dl_len : ∀ {k n : Nat}, (dl k n).length ≤ k
  | 0, _ => by simp [dl]
  | k + 1, n => by
    simp only [dl]
    split
    · simp
    · have := dl_len (k := k) (n := n / 10); simp only [List.length_cons]; omega
theorem strOfK_map {K : List UInt8 → Prog} : ∀ (ns : List Int), strOfK (ns.map (.int .u8)) K = K (ns.map fun n => UInt8.ofNat n.toNat)
  | [] => rfl
  | n :: ns => by simp only [List.map_cons, strOfK]; exact strOfK_map ns
end Go.AM
namespace Go.AM
def upd (cs : List Val) (i : Nat) (v : Val) : List Val := cs.take i ++ v :: cs.drop (i + 1)
theorem upd_len {cs : List Val} {i : Nat} (v : Val) (h : i < cs.length) : (upd cs i v).length = cs.length := by
  unfold upd; simp only [List.length_append, List.length_take, List.length_cons, List.length_drop]; omega
theorem upd_drop {cs : List Val} {i : Nat} (v : Val) (h : i < cs.length) : (upd cs i v).drop i = v :: cs.drop (i + 1) := by
  unfold upd
  have e : (cs.take i).length = i := by rw [List.length_take]; omega
  rw [List.drop_append_of_le_length (by omega), List.drop_of_length_le (by omega)]; rfl
def lo (k n : Nat) : List Nat := if n = 0 then [0] else (dl k n).reverse
theorem lo_step {k n : Nat} (h : n / 10 ≠ 0) : lo (k + 1) n = lo k (n / 10) ++ [n % 10] := by
  have hn : n ≠ 0 := by omega
  unfold lo
  rw [if_neg hn, if_neg h]
  simp only [dl, hn, if_false, List.reverse_cons]
theorem lo_end {k n : Nat} (h : n / 10 = 0) : lo (k + 1) n = [n % 10] := by
  unfold lo
  split
  · rename_i e; subst e; rfl
  · rename_i hn
    simp only [dl, hn, if_false, h]
    cases k <;> simp [dl]
theorem text_lo (n : Nat) : text n = byteList ((lo 78 n).map fun (d : Nat) => (48 + d : Int)) := rfl
end Go.AM
namespace Go.AM
/-- cells that name no block -/
def Still (cs : List Val) : Prop := ∀ σ, renL σ cs = cs
theorem renL_append (σ : Nat → Option Nat) : ∀ (a b : List Val), renL σ (a ++ b) = renL σ a ++ renL σ b
  | [], _ => rfl
  | x :: a, b => by simp only [List.cons_append, renL, renL_append σ a b]
theorem renL_take (σ : Nat → Option Nat) : ∀ (n : Nat) (a : List Val), renL σ (a.take n) = (renL σ a).take n
  | 0, a => by simp [renL]
  | n + 1, [] => by simp [renL]
  | n + 1, x :: a => by simp only [List.take_succ_cons, renL, renL_take σ n a]
theorem renL_drop (σ : Nat → Option Nat) : ∀ (n : Nat) (a : List Val), renL σ (a.drop n) = (renL σ a).drop n
  | 0, a => by simp
  | n + 1, [] => by simp [renL]
  | n + 1, x :: a => by simp only [List.drop_succ_cons, renL, renL_drop σ n a]
theorem Still.upd {cs : List Val} (h : Still cs) (i : Nat) (k : IntKind) (n : Int) : Still (upd cs i (.int k n)) := fun σ => by
  unfold AM.upd
  rw [renL_append, renL_take, h σ]
  simp only [renL, renV, renL_drop, h σ]
end Go.AM

set_option linter.unusedVariables false
set_option linter.unusedSimpArgs false
set_option maxRecDepth 100000
namespace Go.AM
def gl (ds : List Int) : Nat → List Val := fun i => match ds[i]? with
  | some d => [.int .u8 d]
  | none => []
theorem gl_one (d : Int) : (fun i => (pieces 1 1 [Val.int .u8 d]).getD i []) = gl [d] := by
  funext i
  unfold gl
  cases i with
  | zero => rfl
  | succ i => simp [pieces]
theorem gl_append (ds : List Int) (d : Int) : (fun i => if i < ds.length then gl ds i else (pieces 1 1 [Val.int .u8 d]).getD (i - ds.length) []) = gl (ds ++ [d]) := by
  funext i
  unfold gl
  split
  · rename_i h
    rw [List.getElem?_append_left h]
  · rename_i h
    rw [List.getElem?_append_right (by omega)]
    cases hk : i - ds.length with
    | zero => rfl
    | succ j => simp [pieces]
theorem gl_set {ds : List Int} {i : Nat} (v : Int) (h : i < ds.length) : (fun k => if k = i then List.take 0 (gl ds i) ++ [Val.int .u8 v] ++ List.drop (0 + [Val.int .u8 v].length) (gl ds i) else gl ds k) = gl (ds.set i v) := by
  funext k
  unfold gl
  split
  · rename_i e; subst e
    rw [List.getElem?_set_self h, List.getElem?_eq_getElem h]
    rfl
  · rename_i e
    rw [List.getElem?_set_ne (fun h => e h.symm)]
theorem gl_get {ds : List Int} {i : Nat} {d : Int} (h : ds[i]? = some d) : gl ds i = [.int .u8 d] := by unfold gl; rw [h]
theorem gl_byte {ds : List Int} : ∀ i, i < ds.length → isByte (gl ds i) := fun i h => by
  rw [gl_get (List.getElem?_eq_getElem h)]; exact ⟨_, rfl⟩
theorem gl_str (ds : List Int) : bytesStr ds.length (gl ds) = byteList ds := by
  unfold bytesStr byteList
  congr 2
  apply List.ext_getElem?
  intro i
  rw [List.getElem?_map, List.getElem?_map]
  rcases Nat.lt_or_ge i ds.length with h | h
  · rw [List.getElem?_range h, List.getElem?_eq_getElem h]
    simp only [Option.map_some]
    rw [gl_get (List.getElem?_eq_getElem h)]; rfl
  · rw [List.getElem?_eq_none (by simpa using h), List.getElem?_eq_none h]; rfl
/-- a list that is turned round, j steps from both ends -/
def Turned (ds : List Int) (j : Nat) (l : List Int) : Prop := l.length = ds.length ∧ ∀ t, t < ds.length → l[t]? = if t < j ∨ ds.length ≤ t + j then ds[ds.length - 1 - t]? else ds[t]?
theorem Turned.start (ds : List Int) : Turned ds 0 ds := ⟨rfl, fun t h => by rw [if_neg (by omega)]⟩
theorem Turned.done {ds l : List Int} {j : Nat} (h : Turned ds j l) (hj : ds.length ≤ 2 * j + 1) : l = ds.reverse := by
  apply List.ext_getElem?
  intro t
  rcases Nat.lt_or_ge t ds.length with ht | ht
  · rw [h.2 t ht, List.getElem?_reverse ht]
    split
    · rfl
    · have : t = ds.length - 1 - t := by omega
      rw [← this]
  · rw [List.getElem?_eq_none (by rw [h.1]; exact ht), List.getElem?_eq_none (by simpa using ht)]
theorem Turned.step {ds l : List Int} {j : Nat} (h : Turned ds j l) (hj : 2 * j + 1 < ds.length) : ∃ x y, l[j]? = some x ∧ l[ds.length - 1 - j]? = some y ∧ Turned ds (j + 1) ((l.set j y).set (ds.length - 1 - j) x) := by
  have h1 := h.2 j (by omega)
  have h2 := h.2 (ds.length - 1 - j) (by omega)
  rw [if_neg (by omega)] at h1
  rw [if_neg (by omega)] at h2
  refine ⟨ds[j], ds[ds.length - 1 - j], by rw [h1, List.getElem?_eq_getElem], by rw [h2, List.getElem?_eq_getElem], by simp [h.1], fun t ht => ?_⟩
  rcases (by omega : t = ds.length - 1 - j ∨ (t ≠ ds.length - 1 - j ∧ t = j) ∨ (t ≠ ds.length - 1 - j ∧ t ≠ j)) with e | ⟨e, e2⟩ | ⟨e, e2⟩
  · subst e
    rw [List.getElem?_set_self (by simp [h.1]; omega), if_pos (by omega), show ds.length - 1 - (ds.length - 1 - j) = j by omega, List.getElem?_eq_getElem]
  · subst e2
    rw [List.getElem?_set_ne (fun e3 => e e3.symm), List.getElem?_set_self (by rw [h.1]; omega), if_pos (by omega), List.getElem?_eq_getElem]
  · rw [List.getElem?_set_ne (fun e3 => e e3.symm), List.getElem?_set_ne (fun e3 => e2 e3.symm), h.2 t ht]
    by_cases hc : t < j ∨ ds.length ≤ t + j
    · rw [if_pos hc, if_pos (by omega)]
    · rw [if_neg hc, if_neg (by omega)]
end Go.AM

