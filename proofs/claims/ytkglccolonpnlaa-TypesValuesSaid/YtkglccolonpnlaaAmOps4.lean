/- The operations one by one: numbers, comparisons, conversions, building. -/
import Derived.Test.YtkglccolonpnlaaAmOps3
import Derived.Test.YtkglccolonpnlaaAmEq
set_option linter.unusedVariables false
set_option linter.unusedSimpArgs false
set_option maxRecDepth 100000
namespace Go.AM
noncomputable section
open Go.RowKit

section
variable {P : Program} {T : TypeId → TD} {a : Act} {w w0 : World} {S : Nat → Prop} {φ0 : Prot} {ι : Map} {φ : Prot} {H : Nat → Blk} {nid : Nat} {v : Val} {u : Upd} {r r' : List Nat} {tm : List Val}
variable {dst : Option Tmp} {ty : TypeId} {pos : String} {after : Array Edge} {guard : Option (Nat × Bool)}

theorem sound_unOp {op : UnOp} {t : TypeId} {x : Operand} (hi : Inv w0 S φ0 ι φ H w) (ht : TmOk ι φ tm a.tmps) (h : Does (evK tm x fun x => unP op x) H [] v u r') :
    Step P ⟨dst, .unOp op t x, ty, pos, after, guard⟩ a w w0 S φ0 ι φ H nid v u := by
  rw [evK_eq] at h
  have hx := ht.ev x
  unfold Does unP at h
  split at h
  · rename_i b e
    rw [e] at hx
    have hx := hx.bool_
    obtain ⟨rfl, rfl⟩ := does_valK h
    exact Step.pure_ hi (cv := .bool (!b)) (by simp [execOp, Op.unary, hx]) (.c (.bool _))
  · rename_i k n e
    rw [e] at hx
    have hx := hx.int_
    obtain ⟨rfl, rfl⟩ := does_valK h
    exact Step.pure_ hi (cv := .int k (k.wrap (0 - n))) (by simp [execOp, Op.unary, Op.intArith, hx]) (.c (.int _ _))
  · rename_i k n e
    rw [e] at hx
    have hx := hx.int_
    obtain ⟨rfl, rfl⟩ := does_valK h
    exact Step.pure_ hi (cv := .int k (k.wrap (BitVec.ofInt k.bits (if k.signed then -1 else k.max) ^^^ BitVec.ofInt k.bits n).toNat)) (by simp [execOp, Op.unary, Op.intBits, hx]) (.c (.int _ _))
  · exact h.elim

def unV : Val → Value
  | .int k n => .int k n
  | .bool b => .bool b
  | _ => undef
theorem arith_run {op : BinOp} {k : IntKind} {x y : Int} {z : Val} (h : arith op k x y = some z) (t : TypeId) : (binOp op t (.int k x) (.int k y)).run P w = .ok (unV z) w ∧ RelC φ z (unV z) := by
  constructor
  · cases op <;> simp only [arith, Option.some.injEq, reduceCtorEq] at h <;> subst h <;> simp [binOp, Op.intArith, Op.intBits, Op.intCmp, unV]
  · cases op <;> simp only [arith, Option.some.injEq, reduceCtorEq] at h <;> subst h <;> constructor

theorem eqGuard_int (op : BinOp) (t : TypeId) (x y : Operand) (k k' : IntKind) (m n : Int) : (eqGuard op t x y (.int k m) (.int k' n)).run P w = .ok () w := by
  cases op <;> simp [eqGuard]
theorem eqGuard_bool (op : BinOp) (t : TypeId) (x y : Operand) (m n : Bool) : (eqGuard op t x y (.bool m) (.bool n)).run P w = .ok () w := by
  cases op <;> simp [eqGuard]
theorem eqGuard_str (op : BinOp) (t : TypeId) (x y : Operand) (m n : ByteArray) : (eqGuard op t x y (.string m) (.string n)).run P w = .ok () w := by
  cases op <;> simp [eqGuard]
theorem eqGuard_slice (op : BinOp) (t : TypeId) (x y : Operand) (m n : Option Addr) (i j k l : Nat) : (eqGuard op t x y (.slice m i j) (.slice n k l)).run P w = .ok () w := by
  cases op <;> simp [eqGuard]
theorem eqGuard_ptr (op : BinOp) (t : TypeId) (x y : Operand) (m n : Option Addr) : (eqGuard op t x y (.pointer m) (.pointer n)).run P w = .ok () w := by
  cases op <;> simp [eqGuard]

/-! equality of flat aggregates -/
theorem eqK_does : ∀ {xs ys : List Val} {K : Bool → Prog}, Does (eqK xs ys K) H r v u r' → ∃ b, (∀ {us ws : List Value}, CellsOk ι φ xs us → CellsOk ι φ ys ws →
      us.length = xs.length ∧ ws.length = ys.length ∧ xs.length = ys.length ∧ b = ((List.range xs.length).all fun i => (eqLeaf (us.getD i undef) (ws.getD i undef)))) ∧ Does (K b) H r v u r'
  | [], [], K, h => ⟨true, fun hu hw => ⟨hu.1, hw.1, rfl, rfl⟩, h⟩
  | x :: xs, y :: ys, K, h => by
    have step : ∀ {e : Bool}, (∀ {cu cw : Value}, Rel ι φ x cu → Rel ι φ y cw → eqLeaf cu cw = e) → Does (eqK xs ys fun r => K (e && r)) H r v u r' →
        ∃ b, (∀ {us ws : List Value}, CellsOk ι φ (x :: xs) us → CellsOk ι φ (y :: ys) ws →
          us.length = (x :: xs).length ∧ ws.length = (y :: ys).length ∧ (x :: xs).length = (y :: ys).length ∧ b = ((List.range (x :: xs).length).all fun i => (eqLeaf (us.getD i undef) (ws.getD i undef)))) ∧ Does (K b) H r v u r' := by
      intro e he hd
      obtain ⟨b, hb, hK⟩ := eqK_does hd
      refine ⟨e && b, fun {us ws} hu hw => ?_, hK⟩
      cases us with
      | nil => have := hu.1; simp at this
      | cons cu us => cases ws with
        | nil => have := hw.1; simp at this
        | cons cw ws =>
          have h0 := hu.2 0 (by simp)
          have h0' := hw.2 0 (by simp)
          have tl : ∀ {z : Val} {zs : List Val} {c : Value} {cs : List Value}, CellsOk ι φ (z :: zs) (c :: cs) → CellsOk ι φ zs cs := fun h => ⟨by simpa using h.1, fun k hk => by simpa using h.2 (k + 1) (by simp; omega)⟩
          obtain ⟨l1, l2, l3, hbb⟩ := hb (tl hu) (tl hw)
          refine ⟨by simp [l1], by simp [l2], by simp [l3], ?_⟩
          rw [List.length_cons, List.range_succ_eq_map, List.all_cons, List.all_map, hbb]
          have := he h0.2 h0'.2
          simp only [List.getD_cons_zero] at this ⊢
          rw [this]
          rfl
    unfold Does eqK at h
    split at h
    · rename_i e1 e2; cases e1
    · rename_i e1 e2
      cases e1; cases e2
      exact step (fun h1 h2 => by rw [h1.bool_, h2.bool_]; rfl) h
    · rename_i e1 e2
      cases e1; cases e2
      split at h
      · rename_i hk
        rw [decide_eq_true_eq] at hk; subst hk
        exact step (fun h1 h2 => by rw [h1.int_, h2.int_]; rfl) h
      · exact h.elim
    · rename_i e1 e2
      cases e1; cases e2
      exact step (fun h1 h2 => by rw [h1.str_, h2.str_]; rfl) h
    · exact h.elim
  | [], _ :: _, _, h => by unfold Does eqK at h; exact h.elim
  | _ :: _, [], _, h => by
    unfold Does eqK at h
    split at h
    · rename_i e1 e2; exact absurd e1 (by simp)
    · rename_i e1 e2; exact absurd e2 (by simp)
    · rename_i e1 e2; exact absurd e2 (by simp)
    · rename_i e1 e2; exact absurd e2 (by simp)
    · exact h.elim

theorem leafsB_get : ∀ {ds : List TD} {vs : List Val}, leafsB ds vs = true → ds.length = vs.length ∧ ∀ k, k < vs.length → leafB (ds.getD k .bad) (vs.getD k .und) = true
  | [], [], _ => ⟨rfl, fun k hk => absurd hk (by simp)⟩
  | d :: ds, v :: vs, h => by
    simp only [leafsB, Bool.and_eq_true] at h
    obtain ⟨h1, h2⟩ := leafsB_get h.2
    refine ⟨by simp [h1], fun k hk => ?_⟩
    cases k with
    | zero => exact h.1
    | succ k => simpa using h2 k (by simpa using hk)
  | [], _ :: _, h => by cases h
  | _ :: _, [], h => by cases h
theorem leafB_val {d : TD} {x y : Val} {ux uy : Value} (h1 : leafB d x = true) (h2 : leafB d y = true) (r1 : Rel ι φ x ux) (r2 : Rel ι φ y uy) : LeafP d ux uy := by
  cases d <;> cases x <;> simp only [leafB, Bool.false_eq_true, decide_eq_true_eq] at h1 <;> cases y <;> simp only [leafB, Bool.false_eq_true, decide_eq_true_eq] at h2
  · exact ⟨⟨_, r1.bool_⟩, _, r2.bool_⟩
  · subst h1; subst h2; exact ⟨⟨_, r1.int_⟩, _, r2.int_⟩
  · exact ⟨⟨_, r1.str_⟩, _, r2.str_⟩

theorem eqn_pp {t e : TypeId} (d : Nat) (h : P.underlying t = some (.pointer e)) : (Op.equalIn (d + 1) t (.pointer none) (.pointer none)).run P w = .ok true w := by simp [Op.equalIn, run_underlying h]
theorem eqn_ap {t e : TypeId} (d : Nat) (h : P.underlying t = some (.pointer e)) (A : Addr) : (Op.equalIn (d + 1) t (.pointer (some A)) (.pointer none)).run P w = .ok false w := by simp [Op.equalIn, run_underlying h]
theorem eqn_pa {t e : TypeId} (d : Nat) (h : P.underlying t = some (.pointer e)) (A : Addr) : (Op.equalIn (d + 1) t (.pointer none) (.pointer (some A))).run P w = .ok false w := by simp [Op.equalIn, run_underlying h]
theorem eqn_sl {t e : TypeId} (d : Nat) (h : P.underlying t = some (.slice e)) (A : Option Addr) (n c : Nat) : (Op.equalIn (d + 1) t (.slice A n c) (.slice none 0 0)).run P w = .ok A.isNone w := by
  cases A <;> simp [Op.equalIn, run_underlying h]
theorem eql_ptr {t : TypeId} {x y : Option Addr} {b : Bool} (h : (Op.equalIn 10000 t (.pointer x) (.pointer y)).run P w = .ok b w) : (binOp .eql t (.pointer x) (.pointer y)).run P w = .ok (.bool b) w := by
  simp only [binOp, Op.equal, Op.maxDepth, Sem.run_bind, h, Result.andThen_ok, Sem.run_pure]
theorem neq_ptr {t : TypeId} {x y : Option Addr} {b : Bool} (h : (Op.equalIn 10000 t (.pointer x) (.pointer y)).run P w = .ok b w) : (binOp .neq t (.pointer x) (.pointer y)).run P w = .ok (.bool (!b)) w := by
  simp only [binOp, Op.equal, Op.maxDepth, Sem.run_bind, h, Result.andThen_ok, Sem.run_pure]
theorem eql_sl {t : TypeId} {x y : Option Addr} {n c m d : Nat} {b : Bool} (h : (Op.equalIn 10000 t (.slice x n c) (.slice y m d)).run P w = .ok b w) : (binOp .eql t (.slice x n c) (.slice y m d)).run P w = .ok (.bool b) w := by
  simp only [binOp, Op.equal, Op.maxDepth, Sem.run_bind, h, Result.andThen_ok, Sem.run_pure]
theorem neq_sl {t : TypeId} {x y : Option Addr} {n c m d : Nat} {b : Bool} (h : (Op.equalIn 10000 t (.slice x n c) (.slice y m d)).run P w = .ok b w) : (binOp .neq t (.slice x n c) (.slice y m d)).run P w = .ok (.bool (!b)) w := by
  simp only [binOp, Op.equal, Op.maxDepth, Sem.run_bind, h, Result.andThen_ok, Sem.run_pure]

/-- '==', where the machine has it. -/
theorem eqP_sound {t : TypeId} (hT : TOk P T) {x y : Val} {ux uy : Value} {K : Bool → Prog} (hx : Rel ι φ x ux) (hy : Rel ι φ y uy) (h : Does (eqP (T t) x y K) H r v u r') (op : BinOp) (ox oy : Operand) :
    ∃ b, (eqGuard op t ox oy ux uy).run P w = .ok () w ∧ (binOp .eql t ux uy).run P w = .ok (.bool b) w ∧ (binOp .neq t ux uy).run P w = .ok (.bool (!b)) w ∧ Does (K b) H r v u r' := by
  unfold Does eqP at h
  split at h
  · rename_i cs ds
    split at h
    case h_2 => exact h.elim
    rename_i hb
    simp only [Bool.and_eq_true, decide_eq_true_eq] at hb
    obtain ⟨⟨⟨⟨ha, hf⟩, hd⟩, hl1⟩, hl2⟩ := hb
    obtain ⟨us, rfl, hs1, ho1, hr1⟩ := hx.agg_
    obtain ⟨ws, rfl, hs2, ho2, hr2⟩ := hy.agg_
    obtain ⟨b, hb, hK⟩ := eqK_does (ι := ι) (φ := φ) h
    have c1 : CellsOk ι φ cs us.toList := ⟨by simpa using hs1, fun k hk => by rw [arr_getD]; exact ⟨ho1 k hk, hr1 k hk⟩⟩
    have c2 : CellsOk ι φ ds ws.toList := ⟨by simpa using hs2, fun k hk => by rw [arr_getD]; exact ⟨ho2 k hk, hr2 k hk⟩⟩
    obtain ⟨_, _, hlen, hbe⟩ := hb c1 c2
    have hgood := hT.good (t := t) (by intro e; rw [e] at ha; cases ha)
    obtain ⟨l1, g1⟩ := leafsB_get hl1
    obtain ⟨l2, g2⟩ := leafsB_get hl2
    have hls := TD.leafs_length _ hf
    have hLP : LP (T t).leafs 0 us ws := fun k hk => by
      rw [Nat.zero_add]
      exact leafB_val (g1 k (by omega)) (g2 k (by omega)) (hr1 k (by omega)) (hr2 k (by omega))
    have hbe' : b = eqs us ws 0 (T t).size := by
      rw [hbe]; unfold eqs
      rw [← hls, l1]
      simp only [Nat.zero_add, arr_getD]
    obtain ⟨x', y', p1, p2, p3⟩ := part_eq w (T t) hf hgood 10000 (by omega) (xs := us) (ys := ws) (off := 0) (by omega) (by omega) hLP
    rw [part_agg w hgood ha us 0] at p1
    rw [part_agg w hgood ha ws 0] at p2
    have ex : ∀ zs : Array Value, zs.size = (T t).size → zs.extract 0 (0 + (T t).size) = zs := fun zs hz => by rw [← hz]; simp
    rw [ex us (by omega)] at p1
    rw [ex ws (by omega)] at p2
    simp only [Result.ok.injEq, and_true] at p1 p2
    subst p1; subst p2
    have hguard : P.eqGuardType P.depth t = false := by
      cases hTt : T t <;> rw [hTt] at ha hf hgood <;> simp only [TD.isAgg, Bool.false_eq_true] at ha <;> simp only [Good] at hgood
      · exact (hgood.2.1 hf).2
      · exact hgood.2.1 hf
    refine ⟨b, run_eqGuard_agg w op t ox oy us ws hguard, ?_, ?_, hK⟩
    · rw [run_eql_struct, p3, hbe']; rfl
    · rw [run_neq_struct, p3, hbe']; rfl
  · have hx := hx.nilp_; have hy := hy.nilp_; subst hx; subst hy
    split at h
    · rename_i e hTt
      have hg : Good P (.ptr e) t := hTt ▸ hT.good (by rw [hTt]; simp)
      simp only [Good] at hg
      have he := eqn_pp (w := w) 9999 hg.1
      exact ⟨true, eqGuard_ptr .., eql_ptr he, neq_ptr he, h⟩
    · exact h.elim
  · obtain ⟨g, c, _, hx⟩ := hx.ptr_; have hy := hy.nilp_; subst hx; subst hy
    split at h
    · rename_i e hTt
      have hg : Good P (.ptr e) t := hTt ▸ hT.good (by rw [hTt]; simp)
      simp only [Good] at hg
      have he := eqn_ap (w := w) 9999 hg.1
      exact ⟨false, eqGuard_ptr .., eql_ptr (he _), neq_ptr (he _), h⟩
    · exact h.elim
  · have hx := hx.nilp_; obtain ⟨g, c, _, hy⟩ := hy.ptr_; subst hx; subst hy
    split at h
    · rename_i e hTt
      have hg : Good P (.ptr e) t := hTt ▸ hT.good (by rw [hTt]; simp)
      simp only [Good] at hg
      have he := eqn_pa (w := w) 9999 hg.1
      exact ⟨false, eqGuard_ptr .., eql_ptr (he _), neq_ptr (he _), h⟩
    · exact h.elim
  · have hx := hx.nils_; have hy := hy.nils_; subst hx; subst hy
    split at h
    · rename_i e sz by_ hTt
      have hg : Good P (.slice e sz by_) t := hTt ▸ hT.good (by rw [hTt]; simp)
      simp only [Good] at hg
      have he := eqn_sl (w := w) 9999 hg.1
      exact ⟨true, eqGuard_slice .., eql_sl (he none _ _), neq_sl (he none _ _), h⟩
    · exact h.elim
  · obtain ⟨A, hx⟩ := hx.emp_; have hy := hy.nils_; subst hx; subst hy
    split at h
    · rename_i e sz by_ hTt
      have hg : Good P (.slice e sz by_) t := hTt ▸ hT.good (by rw [hTt]; simp)
      simp only [Good] at hg
      have he := eqn_sl (w := w) 9999 hg.1
      exact ⟨false, eqGuard_slice .., eql_sl (he (some A) _ _), neq_sl (he (some A) _ _), h⟩
    · exact h.elim
  · obtain ⟨g, c, _, _, hx⟩ := hx.row_; have hy := hy.nils_; subst hx; subst hy
    split at h
    · rename_i e sz by_ hTt
      have hg : Good P (.slice e sz by_) t := hTt ▸ hT.good (by rw [hTt]; simp)
      simp only [Good] at hg
      have he := eqn_sl (w := w) 9999 hg.1
      exact ⟨false, eqGuard_slice .., eql_sl (he (some _) _ _), neq_sl (he (some _) _ _), h⟩
    · exact h.elim
  · have hy := hy.nils_; subst hy
    split at h
    · rename_i hTt
      obtain ⟨hn, h⟩ := h
      rcases hx.ext_ with ⟨h0, _⟩ | ⟨A, c, vals, hx, _⟩
      · omega
      · subst hx
        have hg := hTt ▸ hT.good (t := t) (by rw [hTt]; simp)
        simp only [Good] at hg
        have he := eqn_sl (w := w) 9999 hg.1
        exact ⟨false, eqGuard_slice .., eql_sl (he (some A) _ _), neq_sl (he (some A) _ _), h⟩
    · exact h.elim
  · exact h.elim

theorem sound_binOp {op : BinOp} {t yt : TypeId} {x y : Operand} (hT : TOk P T) (hi : Inv w0 S φ0 ι φ H w) (ht : TmOk ι φ tm a.tmps) (h : Does (evK tm x fun x => evK tm y fun y => binP (T t) op x y) H [] v u r') :
    Step P ⟨dst, .binOp op t x y yt, ty, pos, after, guard⟩ a w w0 S φ0 ι φ H nid v u := by
  rw [evK_eq, evK_eq] at h
  have hx := ht.ev x
  have hy := ht.ev y
  unfold Does binP at h
  split at h
  · rename_i k m k' n e1 e2
    rw [e1] at hx; rw [e2] at hy
    have hx := hx.int_; have hy := hy.int_
    split at h
    · obtain ⟨hb, h⟩ := h
      obtain ⟨rfl, rfl⟩ := does_valK h
      refine Step.pure_ hi (cv := .int k (k.wrap (m * 2 ^ (min n.toNat k.bits)))) ?_ (.c (.int _ _))
      have : ¬ n < 0 := by omega
      simp [execOp, hx, hy, eqGuard_int, binOp, Op.shift, this]
    · obtain ⟨hb, h⟩ := h
      obtain ⟨rfl, rfl⟩ := does_valK h
      refine Step.pure_ hi (cv := .int k (m.fdiv (2 ^ (min n.toNat k.bits)))) ?_ (.c (.int _ _))
      have : ¬ n < 0 := by omega
      simp [execOp, hx, hy, eqGuard_int, binOp, Op.shift, this]
    · obtain ⟨hb, h⟩ := h
      split at h
      case h_2 => exact h.elim
      rename_i hk; rw [decide_eq_true_eq] at hk; subst hk
      obtain ⟨rfl, rfl⟩ := does_valK h
      exact Step.pure_ hi (cv := .int k (k.wrap (m.tdiv n))) (by simp [execOp, hx, hy, eqGuard_int, binOp, Op.intDiv, hb]) (.c (.int _ _))
    · obtain ⟨hb, h⟩ := h
      split at h
      case h_2 => exact h.elim
      rename_i hk; rw [decide_eq_true_eq] at hk; subst hk
      obtain ⟨rfl, rfl⟩ := does_valK h
      exact Step.pure_ hi (cv := .int k (m.tmod n)) (by simp [execOp, hx, hy, eqGuard_int, binOp, Op.intDiv, hb]) (.c (.int _ _))
    · split at h
      case h_2 => exact h.elim
      rename_i hk; rw [decide_eq_true_eq] at hk; subst hk
      split at h
      case h_2 => exact h.elim
      rename_i z hz
      obtain ⟨rfl, rfl⟩ := does_valK h
      obtain ⟨h1, h2⟩ := arith_run (P := P) (w := w) (φ := φ) hz t
      exact Step.pure_ hi (cv := unV v) (by simp [execOp, hx, hy, eqGuard_int, h1]) (.c h2)
  · rename_i m n e1 e2
    rw [e1] at hx; rw [e2] at hy
    have hx := hx.bool_; have hy := hy.bool_
    split at h
    case h_2 => exact h.elim
    rename_i hTt
    have hg : Good P .bool t := hTt ▸ hT.good (by rw [hTt]; simp)
    simp only [Good] at hg
    split at h
    · obtain ⟨rfl, rfl⟩ := does_valK h
      exact Step.pure_ hi (cv := .bool (m == n)) (by simp [execOp, hx, hy, eqGuard_bool, binOp, Op.equal, Op.maxDepth, run_equalIn_bool' w 9999 t m n hg.1]) (.c (.bool _))
    · obtain ⟨rfl, rfl⟩ := does_valK h
      exact Step.pure_ hi (cv := .bool (!(m == n))) (by simp [execOp, hx, hy, eqGuard_bool, binOp, Op.equal, Op.maxDepth, run_equalIn_bool' w 9999 t m n hg.1]) (.c (.bool _))
    · exact h.elim
  · rename_i m n e1 e2
    rw [e1] at hx; rw [e2] at hy
    have hx := hx.str_; have hy := hy.str_
    split at h
    · obtain ⟨hb, h⟩ := h
      obtain ⟨rfl, rfl⟩ := does_valK h
      refine Step.pure_ hi (cv := .string (m ++ n)) ?_ (.c (.str _))
      have : ¬ ((m.size : Int) + (n.size : Int) > IntKind.i64.max) := by
        have : IntKind.i64.max = 9223372036854775807 := by decide
        rw [this]; omega
      simp [execOp, hx, hy, eqGuard_str, binOp, Op.stringOp]
      omega
    · obtain ⟨rfl, rfl⟩ := does_valK h
      exact Step.pure_ hi (cv := .bool (m.toList == n.toList)) (by simp [execOp, hx, hy, eqGuard_str, binOp, Op.stringOp]) (.c (.bool _))
    · obtain ⟨rfl, rfl⟩ := does_valK h
      exact Step.pure_ hi (cv := .bool (!(m.toList == n.toList))) (by simp [execOp, hx, hy, eqGuard_str, binOp, Op.stringOp]) (.c (.bool _))
    · obtain ⟨rfl, rfl⟩ := does_valK h
      exact Step.pure_ hi (cv := .bool (Op.bytesLess m.toList n.toList)) (by simp [execOp, hx, hy, eqGuard_str, binOp, Op.stringOp]) (.c (.bool _))
    · obtain ⟨rfl, rfl⟩ := does_valK h
      exact Step.pure_ hi (cv := .bool ((Op.bytesLess m.toList n.toList || m.toList == n.toList))) (by simp [execOp, hx, hy, eqGuard_str, binOp, Op.stringOp]) (.c (.bool _))
    · obtain ⟨rfl, rfl⟩ := does_valK h
      exact Step.pure_ hi (cv := .bool (!(Op.bytesLess m.toList n.toList || m.toList == n.toList))) (by simp [execOp, hx, hy, eqGuard_str, binOp, Op.stringOp]) (.c (.bool _))
    · obtain ⟨rfl, rfl⟩ := does_valK h
      exact Step.pure_ hi (cv := .bool (!(Op.bytesLess m.toList n.toList))) (by simp [execOp, hx, hy, eqGuard_str, binOp, Op.stringOp]) (.c (.bool _))
    · exact h.elim
  · split at h
    · obtain ⟨b, h1, h2, h3, h4⟩ := eqP_sound (w := w) hT hx hy h .eql x y
      obtain ⟨rfl, rfl⟩ := does_valK h4
      exact Step.pure_ hi (cv := .bool b) (by simp [execOp, h1, h2]) (.c (.bool _))
    · obtain ⟨b, h1, h2, h3, h4⟩ := eqP_sound (w := w) hT hx hy h .neq x y
      obtain ⟨rfl, rfl⟩ := does_valK h4
      exact Step.pure_ hi (cv := .bool (!b)) (by simp [execOp, h1, h3]) (.c (.bool _))
    · exact h.elim
end
end
end Go.AM
