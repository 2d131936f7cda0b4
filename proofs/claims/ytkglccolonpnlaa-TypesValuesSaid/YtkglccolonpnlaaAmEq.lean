/- '==' of flat aggregates: the model's, as one comparison a cell. -/
import Derived.Test.YtkglccolonpnlaaAmTypes
import Derived.Laws.StructEq
import Derived.ChangeKeysEq
set_option linter.unusedVariables false
set_option linter.unusedSimpArgs false
set_option maxRecDepth 100000
namespace Go.AM

def eqLeaf : Value → Value → Bool
  | .bool a, .bool b => a == b
  | .int _ a, .int _ b => a == b
  | .string a, .string b => a.toList == b.toList
  | _, _ => false
def LeafP : TD → Value → Value → Prop
  | .bool, x, y => (∃ b, x = .bool b) ∧ ∃ b, y = .bool b
  | .int k, x, y => (∃ n, x = .int k n) ∧ ∃ n, y = .int k n
  | .str, x, y => (∃ s, x = .string s) ∧ ∃ s, y = .string s
  | _, _, _ => False
def LP (ls : List TD) (off : Nat) (xs ys : Array Value) : Prop := ∀ k, k < ls.length → LeafP (ls.getD k .bad) (xs.getD (off + k) undef) (ys.getD (off + k) undef)
def eqs (xs ys : Array Value) (off n : Nat) : Bool := (List.range n).all fun i => eqLeaf (xs.getD (off + i) undef) (ys.getD (off + i) undef)
theorem eqs_add (xs ys : Array Value) (off m n : Nat) : eqs xs ys off (m + n) = (eqs xs ys off m && eqs xs ys (off + m) n) := by
  unfold eqs
  rw [List.range_add, List.all_append, List.all_map]
  congr 2
  funext i
  simp [Nat.add_assoc]
theorem getD_app_left {α : Type} (z : α) {l m : List α} {k : Nat} (h : k < l.length) : (l ++ m).getD k z = l.getD k z := by
  simp only [List.getD_eq_getElem?_getD]; rw [List.getElem?_append_left h]
theorem getD_app_right {α : Type} (z : α) {l m : List α} {k : Nat} : (l ++ m).getD (l.length + k) z = m.getD k z := by
  simp only [List.getD_eq_getElem?_getD]; rw [List.getElem?_append_right (by omega), show l.length + k - l.length = k by omega]
theorem repT_length (n : Nat) (l : List TD) : (repT n l).length = n * l.length := by
  induction n with
  | zero => simp [repT]
  | succ n ih => simp [repT, ih, Nat.add_mul, Nat.add_comm]
theorem repT_get : ∀ {n : Nat} {l : List TD} (j : Nat) {q : Nat}, q < l.length → j < n → (repT n l).getD (j * l.length + q) .bad = l.getD q .bad
  | n + 1, l, 0, q, hq, _ => by simp only [repT, Nat.zero_mul, Nat.zero_add]; exact getD_app_left _ hq
  | n + 1, l, j + 1, q, hq, hj => by
    simp only [repT]
    rw [show (j + 1) * l.length + q = l.length + (j * l.length + q) by rw [Nat.add_mul, Nat.one_mul]; omega, getD_app_right]
    exact repT_get j hq (by omega)
mutual
theorem TD.leafs_length : ∀ d : TD, d.flat = true → d.leafs.length = d.size
  | .bool, _ => rfl
  | .int _, _ => rfl
  | .str, _ => rfl
  | .struct fs, h => by simp only [TD.leafs, TD.size]; exact TD.leafss_length fs h
  | .arr n e, h => by simp only [TD.leafs, TD.size, repT_length]; rw [TD.leafs_length e h]
theorem TD.leafss_length : ∀ fs : List TD, TD.flats fs = true → (TD.leafss fs).length = TD.sizes fs
  | [], _ => rfl
  | f :: fs, h => by
    simp only [TD.flats, Bool.and_eq_true] at h
    simp only [TD.leafss, TD.sizes, List.length_append, TD.leafs_length f h.1, TD.leafss_length fs h.2]
end
theorem LP.left {l m : List TD} {off : Nat} {xs ys : Array Value} (h : LP (l ++ m) off xs ys) : LP l off xs ys := fun k hk => by
  have := h k (by simp; omega)
  rwa [getD_app_left _ hk] at this
theorem LP.right {l m : List TD} {off : Nat} {xs ys : Array Value} (h : LP (l ++ m) off xs ys) : LP m (off + l.length) xs ys := fun k hk => by
  have := h (l.length + k) (by simp; omega)
  rw [getD_app_right, ← Nat.add_assoc] at this
  exact this
theorem LP.extract {l : List TD} {off o n : Nat} {xs ys : Array Value} (hx : off + n ≤ xs.size) (hy : off + n ≤ ys.size) (ho : o + l.length ≤ n) (h : LP l (off + o) xs ys) :
    LP l o (xs.extract off (off + n)) (ys.extract off (off + n)) := fun k hk => by
  have := h k hk
  have e : ∀ zs : Array Value, off + n ≤ zs.size → (zs.extract off (off + n)).getD (o + k) undef = zs.getD (off + o + k) undef := fun zs hz => by
    rw [Array.getD_eq_getD_getElem?, Array.getD_eq_getD_getElem?, Array.getElem?_extract, if_pos (by omega), Nat.add_assoc]
  rw [e xs hx, e ys hy]
  exact this
theorem eqs_extract {off n : Nat} {xs ys : Array Value} (hx : off + n ≤ xs.size) (hy : off + n ≤ ys.size) : eqs (xs.extract off (off + n)) (ys.extract off (off + n)) 0 n = eqs xs ys off n := by
  unfold eqs
  rw [Bool.eq_iff_iff, List.all_eq_true, List.all_eq_true]
  refine forall_congr' fun i => forall_congr' fun hi => ?_
  have hi := List.mem_range.1 hi
  have e : ∀ zs : Array Value, off + n ≤ zs.size → (zs.extract off (off + n)).getD (0 + i) undef = zs.getD (off + i) undef := fun zs hz => by
    rw [Array.getD_eq_getD_getElem?, Array.getD_eq_getD_getElem?, Array.getElem?_extract, if_pos (by omega), Nat.zero_add]
  rw [e xs hx, e ys hy]

section
variable {P : Program} (w : World)
theorem part_agg {t : TypeId} {d : TD} (hg : Good P d t) (ha : d.isAgg = true) (xs : Array Value) (off : Nat) : (part t xs off).run P w = .ok (.agg (xs.extract off (off + d.size))) w := by
  simp [part, hg.isAgg_run, hg.size_run, ha]
theorem part_one {t : TypeId} {d : TD} (hg : Good P d t) (ha : d.isAgg = false) {xs : Array Value} {off : Nat} (h : off < xs.size) : (part t xs off).run P w = .ok (xs.getD off undef) w := by
  have : xs[off]? = some (xs.getD off undef) := by rw [Array.getD_eq_getD_getElem?, Array.getElem?_eq_getElem h]; rfl
  generalize xs.getD off undef = z at this
  simp [part, hg.isAgg_run, ha, this]
/-- What two parts come to. -/
def PartEq (P : Program) (t : TypeId) (n : Nat) (w : World) (xs ys : Array Value) (off : Nat) (r : Bool) : Prop :=
  ∃ x y, (part t xs off).run P w = .ok x w ∧ (part t ys off).run P w = .ok y w ∧ (Op.equalIn n t x y).run P w = .ok r w
theorem leafEq {t : TypeId} {d : TD} (hg : Good P d t) (ha : d.isAgg = false) (hl : d.leafs = [d]) {n : Nat} {xs ys : Array Value} {off : Nat} (hx : off + 1 ≤ xs.size) (hy : off + 1 ≤ ys.size) (hp : LP d.leafs off xs ys)
    (he : ∀ x y, LeafP d x y → (Op.equalIn (n + 1) t x y).run P w = .ok (eqLeaf x y) w) : PartEq P t (n + 1) w xs ys off (eqs xs ys off 1) := by
  refine ⟨_, _, part_one w hg ha (by omega), part_one w hg ha (by omega), ?_⟩
  have := hp 0 (by rw [hl]; simp)
  rw [hl] at this
  rw [he _ _ (by simpa using this)]
  simp [eqs]
mutual
theorem part_eq : ∀ (d : TD), d.flat = true → ∀ {t : TypeId}, Good P d t → ∀ (n : Nat), d.depth ≤ n → ∀ {xs ys : Array Value} {off : Nat}, off + d.size ≤ xs.size → off + d.size ≤ ys.size → LP d.leafs off xs ys →
    PartEq P t n w xs ys off (eqs xs ys off d.size)
  | .bool, _, t, hg, n + 1, _, xs, ys, off, hx, hy, hp => leafEq w hg rfl rfl hx hy hp fun x y h => by
      obtain ⟨⟨a, rfl⟩, b, rfl⟩ := h
      simp only [Good] at hg
      rw [run_equalIn_bool' w n t a b hg.1]; rfl
  | .int k, _, t, hg, n + 1, _, xs, ys, off, hx, hy, hp => leafEq w hg rfl rfl hx hy hp fun x y h => by
      obtain ⟨⟨a, rfl⟩, b, rfl⟩ := h
      simp only [Good] at hg
      simp [Op.equalIn, run_underlying hg.1, eqLeaf]
  | .str, _, t, hg, n + 1, _, xs, ys, off, hx, hy, hp => leafEq w hg rfl rfl hx hy hp fun x y h => by
      obtain ⟨⟨a, rfl⟩, b, rfl⟩ := h
      simp only [Good] at hg
      rw [run_equalIn_string w n t a b hg.1]; rfl
  | .struct fs, hf, t, hg, n + 1, hd, xs, ys, off, hx, hy, hp => by
    refine ⟨_, _, part_agg w hg rfl xs off, part_agg w hg rfl ys off, ?_⟩
    simp only [Good] at hg
    obtain ⟨⟨fields, hfu, hgf⟩, hst, _⟩ := hg
    have hfo : P.fieldsOf t = fields := by simp [Program.fieldsOf, hfu]
    rw [run_equalIn_struct w n t _ _ (by rw [hfo]; exact hfu) (hst hf).1, hfo]
    have hl := TD.leafss_length fs hf
    have := fields_eq fs hf hgf n (by simp only [TD.depth] at hd; omega) (xs := xs.extract off (off + (TD.struct fs).size)) (ys := ys.extract off (off + (TD.struct fs).size)) (o := 0)
      (by simp only [Array.size_extract, TD.size] at hx ⊢; omega) (by simp only [Array.size_extract, TD.size] at hy ⊢; omega)
      (LP.extract hx hy (by simp only [TD.size]; omega) hp)
    rw [this]
    have e := eqs_extract (n := (TD.struct fs).size) hx hy
    simp only [TD.size] at e ⊢
    rw [e]
  | .arr m e, hf, t, hg, n + 1, hd, xs, ys, off, hx, hy, hp => by
    refine ⟨_, _, part_agg w hg rfl xs off, part_agg w hg rfl ys off, ?_⟩
    simp only [Good] at hg
    obtain ⟨⟨el, hu, hge⟩, _⟩ := hg
    obtain ⟨i, z, hin, hsz, _⟩ := hge.zok
    have hc : P.cellsOf el = e.size := by simp [Program.cellsOf, hin, hsz]
    rw [run_equalIn_array w n _ _ hu hin, hc]
    have hl := TD.leafs_length e hf
    have key : ∀ k j, j + k = m → (Op.eqItems n el e.size (xs.extract off (off + (TD.arr m e).size)) (ys.extract off (off + (TD.arr m e).size)) (List.range' j k)).run P w =
        .ok (eqs (xs.extract off (off + (TD.arr m e).size)) (ys.extract off (off + (TD.arr m e).size)) (j * e.size) (k * e.size)) w := by
      intro k
      induction k with
      | zero => intro j _; simp [Op.eqItems, eqs]
      | succ k ih =>
        intro j hj
        have hjm : j * e.size + e.size ≤ m * e.size := by
          calc j * e.size + e.size = (j + 1) * e.size := by rw [Nat.add_mul, Nat.one_mul]
            _ ≤ m * e.size := Nat.mul_le_mul_right _ (by omega)
        have hlp : LP e.leafs (off + j * e.size) xs ys := fun q hq => by
          have hlt : j * e.size + q < (repT m e.leafs).length := by rw [repT_length, hl]; rw [hl] at hq; omega
          have := hp (j * e.size + q) hlt
          rw [show (TD.arr m e).leafs = repT m e.leafs from rfl, ← hl, repT_get j hq (by omega), hl, ← Nat.add_assoc] at this
          exact this
        obtain ⟨x, y, p1, p2, p3⟩ := part_eq e hf hge n (by simp only [TD.depth] at hd; omega) (xs := xs.extract off (off + (TD.arr m e).size)) (ys := ys.extract off (off + (TD.arr m e).size)) (off := j * e.size)
          (by simp only [Array.size_extract, TD.size] at hx ⊢; omega) (by simp only [Array.size_extract, TD.size] at hy ⊢; omega) (LP.extract hx hy (by rw [hl]; simp only [TD.size]; omega) hlp)
        simp only [List.range'_succ, Op.eqItems, Sem.run_bind, p1, p2, p3, Result.andThen_ok, Sem.run_ite]
        rw [show (k + 1) * e.size = e.size + k * e.size by rw [Nat.add_mul, Nat.one_mul, Nat.add_comm], eqs_add]
        generalize eqs (xs.extract off (off + (TD.arr m e).size)) (ys.extract off (off + (TD.arr m e).size)) (j * e.size) e.size = b
        cases b
        · simp
        · simp only [Bool.not_true, Bool.false_eq_true, if_false, Bool.true_and]
          rw [ih (j + 1) (by omega), Nat.add_mul, Nat.one_mul]
    have h0 := key m 0 (by omega)
    rw [Nat.zero_mul] at h0
    rw [List.range_eq_range', h0]
    have e2 := eqs_extract (n := (TD.arr m e).size) hx hy
    simp only [TD.size] at e2 ⊢
    rw [e2]
  | .bool, _, _, _, 0, hd, _, _, _, _, _, _ => absurd hd (by simp [TD.depth])
  | .int _, _, _, _, 0, hd, _, _, _, _, _, _ => absurd hd (by simp [TD.depth])
  | .str, _, _, _, 0, hd, _, _, _, _, _, _ => absurd hd (by simp [TD.depth])
  | .struct _, _, _, _, 0, hd, _, _, _, _, _, _ => absurd hd (by simp [TD.depth])
  | .arr _ _, _, _, _, 0, hd, _, _, _, _, _, _ => absurd hd (by simp [TD.depth])
theorem fields_eq : ∀ (ds : List TD), TD.flats ds = true → ∀ {fs : List Field} {o : Nat}, GoodF P ds fs o → ∀ (n : Nat), TD.depths ds ≤ n → ∀ {xs ys : Array Value}, o + TD.sizes ds ≤ xs.size → o + TD.sizes ds ≤ ys.size → LP (TD.leafss ds) o xs ys →
    (Op.eqFields n xs ys fs).run P w = .ok (eqs xs ys o (TD.sizes ds)) w
  | [], _, [], o, _, n, _, xs, ys, _, _, _ => by simp [Op.eqFields, eqs, TD.sizes]
  | d :: ds, hf, f :: fs, o, hg, n, hd, xs, ys, hx, hy, hp => by
    simp only [TD.flats, Bool.and_eq_true] at hf
    simp only [GoodF] at hg
    obtain ⟨rfl, hn, hgd, hgs⟩ := hg
    simp only [TD.sizes] at hx hy ⊢
    simp only [TD.depths] at hd
    obtain ⟨x, y, p1, p2, p3⟩ := part_eq d hf.1 hgd n (by omega) (xs := xs) (ys := ys) (off := f.offset) (by omega) (by omega) hp.left
    have hr := hp.right
    rw [TD.leafs_length d hf.1] at hr
    have ih := fields_eq ds hf.2 hgs n (by omega) (xs := xs) (ys := ys) (by omega) (by omega) hr
    have hn' : f.name ≠ "_" := by simpa using hn
    simp only [Op.eqFields, hn', ne_eq, not_false_eq_true, if_true, Sem.run_bind, p1, p2, p3, Result.andThen_ok, Sem.run_ite]
    rw [eqs_add]
    generalize eqs xs ys f.offset d.size = b
    cases b
    · simp
    · simp only [Bool.not_true, Bool.false_eq_true, if_false, Bool.true_and]
      exact ih
  | [], _, _ :: _, _, hg, _, _, _, _, _, _, _ => by simp [GoodF] at hg
  | _ :: _, _, [], _, hg, _, _, _, _, _, _, _ => by simp [GoodF] at hg
end
end
end Go.AM
