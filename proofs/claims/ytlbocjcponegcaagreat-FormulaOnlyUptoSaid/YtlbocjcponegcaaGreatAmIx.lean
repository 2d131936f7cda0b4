/- maps.Keys, slices.Collect at columns' keys: the iterator's contract, and who gathers from it. -/
import Derived.Test.YtlbocjcponegcaaGreatAmHo
import Derived.Test.YtlbocjcponegcaaGreatAmIw
import Derived.RangeFuncFrom
import Derived.RangeFuncBox
import Derived.RangeFuncLeaves
import Derived.Shelf.Abstract
import Derived.WalkKit
import Derived.WalkSmall
import Derived.OwnWalkIn
import Derived.TacticsInMore
import Derived.LoopNIn
import Derived.LoopIn
import Derived.Maps.AppendAt
import Derived.Sort.MapsRangeIn
import Derived.Shelf.Lay
import Derived.Sort.OwnSorted
import Derived.ChangeSame
import Derived.Shelf.SlSortCmp.NoneTotal
import Derived.Shelf.Small.Strs
import Derived.Ground.SlsfProg
import Derived.Ground.NamesProg
set_option linter.unusedVariables false
set_option linter.unusedSimpArgs false
set_option maxRecDepth 100000
namespace Go.Proofs
open Go.RowKit Go.Maps Go.Sort Go.Shelf Go.AM
attribute [local go_sem] Oper.semAt_some
theorem Tryz.ckTy : CkTy Tryz.prog 64 9 := ⟨⟨_, _, Tryz.underlying64, rfl, rfl, rfl, rfl, by decide, by decide⟩, Tryz.underlying9, by kernel_rfl, by kernel_rfl, by kernel_rfl, of_decide_eq_true (by kernel_rfl)⟩
theorem Tryz.ckLaid : laidOutB Tryz.prog = true := by kernel_rfl
theorem Tryz.ckKeyed : Keyed Tryz.prog 64 := Keyed.of_law (deep_law_laid Tryz.ckLaid (m := 8) (by decide) (of_decide_eq_true (by kernel_rfl)) (by kernel_rfl) (by rw [Tryz.underlying64]))
/-- a key within its range -/
abbrev KC := { x : CK // x.1.size ≤ maxLen ∧ x.2.size ≤ maxLen }
abbrev encKC (x : KC) : Value := encCK x.1
def cellsKC (x : KC) : List Value := [.string x.1.1, .string x.1.2]
theorem Tryz.keyOf_kc (x : KC) : keyOf Tryz.prog 64 (encKC x) = some (litCK x.1) := (keyOf_ck Tryz.ckTy _ _).2 ⟨x.1, rfl, x.2.1, x.2.2, rfl⟩
theorem Tryz.same_kc (x y : KC) : (litCK y.1).sameKey (litCK x.1) = true ↔ y = x := by
  constructor
  · intro h
    have e := WideAt.sameKey_eq h
    have := Tryz.ckKeyed.inj (Tryz.keyOf_kc y) (by rw [e]; exact Tryz.keyOf_kc x)
    exact Subtype.ext (encCK_inj this)
  · rintro rfl
    exact WideAt.sameKey_self (Tryz.ckKeyed.key (Tryz.keyOf_kc y))
/-- who has come: each once, those of the map that are no longer to come -/
def CameC (D0 : DataW Unit) (left : Lit → Bool) (ss : List KC) : Prop := ss.Nodup ∧ ∀ x : KC, x ∈ ss ↔ (has D0 (litCK x.1) = true ∧ left (litCK x.1) = false)
def AllC (D0 : DataW Unit) (ss : List KC) : Prop := ss.Nodup ∧ ∀ x : KC, x ∈ ss ↔ has D0 (litCK x.1) = true
theorem CameC.start (D0 : DataW Unit) : CameC D0 (has D0) [] := ⟨List.nodup_nil, fun x => by cases has D0 (litCK x.1) <;> simp⟩
theorem Tryz.came_step {D0 : DataW Unit} {left : Lit → Bool} {ss : List KC} (h : CameC D0 left ss) {x : KC} {y : DataW Unit} (hlk : left (litCK x.1) = true) (hat : ∀ zd, D0.atKey (litCK x.1) zd = y) : CameC D0 (fun z => left z && !z.sameKey (litCK x.1)) (ss ++ [x]) := by
  have hhas : has D0 (litCK x.1) = true := has_true_of_atKey hat
  have hnew : x ∉ ss := fun hx => by have := ((h.2 x).1 hx).2; rw [hlk] at this; cases this
  refine ⟨List.nodup_append.2 ⟨h.1, by simp, fun a ha b hb => by simp at hb; subst hb; exact fun e => hnew (e ▸ ha)⟩, fun y => ?_⟩
  by_cases hy : y = x
  · subst hy
    have := (Tryz.same_kc y y).2 rfl
    simp [hhas, this]
  · have hs : (litCK y.1).sameKey (litCK x.1) = false := by
      cases hq : (litCK y.1).sameKey (litCK x.1) with
      | false => rfl
      | true => exact absurd ((Tryz.same_kc x y).1 hq) hy
    simp [h.2 y, hy, hs]
theorem CameC.all {D0 : DataW Unit} {left : Lit → Bool} {ss : List KC} (h : CameC D0 left ss) (hl : ∀ kl, left kl = false) : AllC D0 ss := ⟨h.1, fun x => by rw [h.2 x, hl]; simp⟩
set_option maxRecDepth 100000 in
set_option maxHeartbeats 1000000 in
/-- maps.Keys' iterator: the keys come, each once -/
theorem Tryz.keysC1 (F : Fence) (n : Nat) (hF : F.fn 112) (hro : F.round = none) (hn : 1 ≤ n) (l Bm b nn : Nat) (D0 : DataW Unit) {R : Value → Option (DataW Unit × List MemPlace)} (J Jx : List KC → World → Prop)
    (hY : ∀ pre (x : KC) W, J pre W → pre.length < Maps.size D0 → YieldAt F (n - 1) Tryz.prog l #[encKC x] W fun e W' => (e = .returned (.bool true) ∧ J (pre ++ [x]) W' ∧ KeepsWalks W W') ∨ (e = .returned (.bool false) ∧ Jx (pre ++ [x]) W'))
    (W : World) (hJ : AbidesFrom W.heap.size J) (hm : W.cell? ⟨Bm, 0, none⟩ = some (.map (some b))) (hown : W.ownsMap Tryz.prog 64 R b nn D0) (h0 : J [] W) :
    CallsIn F n Tryz.prog 112 #[.func (.yield l) #[] #[], .pointer (some ⟨Bm, 0, none⟩)] W fun e W' => (∃ v, e = .returned v) ∧ ((∃ ss, AllC D0 ss ∧ J ss W') ∨ (∃ pre, True ∧ Jx pre W')) := by
  refine callsIn_of_wp Tryz.func112 rfl hF ?_ hro
  simp only [Tryz.ntmps112, List.size_toArray, List.length_cons, List.length_nil, Nat.reduceAdd, Nat.reduceSub, Array.replicate_succ, Array.replicate_zero, List.push_toArray, List.append_toArray, List.nil_append, List.cons_append]
  gi_wp2_with (first
    | (gi_at_range; refine wpListIn_range_own _ rfl _ 102 rfl 64 4 Tryz.ckKeyed Tryz.underlying102 _ b nn _ rfl hown ?_; intro w0 hrg0 hg0 hs0)
    | gi_in)
  go_frame
  gi_loopw [3] (fun _ wr => ∃ (left : Lit → Bool) (cnt : Nat) (ss : List KC), wr.ranges Tryz.prog 64 R b W.heap.size nn D0 left cnt ∧ ss.length + cnt ≤ Maps.size D0 ∧ CameC D0 left ss ∧ J ss wr)
    (fun _ wr => wr.rangeLeft b W.heap.size)
  case atStart =>
    exact ⟨_, _, [], hrg0, by simp, CameC.start D0, hJ [] W w0 none h0 hg0 (fun r e => by cases e)⟩
  case round =>
    obtain ⟨left, cnt, ss, hrg, hcs, hC, hJs⟩ := hrel
    gi_wp2_with (first
      | (gi_at_next; refine wpListIn_next_ranges _ rfl _ rfl 64 Tryz.ckKeyed R (fun x : CK => encCK x) id (fun key kl hk => by obtain ⟨x, hx, _⟩ := (keyOf_ck Tryz.ckTy _ _).1 hk; exact ⟨x, hx⟩) (fun v _ _ => ⟨v, rfl⟩) b W.heap.size nn _ _ _ rfl hrg ?_ ?_)
      | gi_in)
    · intro hc0 hl0
      gi_wp2
      go_end0
      exact ⟨⟨_, rfl⟩, .inl ⟨ss, hC.all hl0, hJs⟩⟩
    · intro xa xb c kl yd yp w2 cnt2 hkey hlk hv hat hrg2 hlt hg2 hs2 hen
      obtain ⟨x', ex, s1, s2, rfl⟩ := (keyOf_ck Tryz.ckTy _ _).1 hkey
      obtain rfl : (xa, xb) = x' := encCK_inj ex
      have hJ2 : J ss w2 := hJ ss wr w2 (some W.heap.size) hJs hg2 (fun r e => by cases e; exact ⟨Nat.le_refl _, hrg.iter_walk⟩)
      have hJ3 : J ss (w2.alloc (.cells #[.string xa, .string xb] 64)) := hJ ss w2 _ none hJ2 (World.grownBy_alloc w2 _ none) (fun r e => by cases e)
      obtain ⟨fn, tmps, assign, body, hy, hR⟩ := hY ss ⟨(xa, xb), s1, s2⟩ _ hJ3 (by omega)
      have hrg2 := hrg2.of_walks (KeepsOthers.alloc w2 (.cells #[.string xa, .string xb] 64)).walks
      clear hs2
      gi_wp2
      refine hR.mono ?_
      rintro e W3 (⟨rfl, hJ3, hk3⟩ | ⟨rfl, hJx⟩)
      · gi_wp2
        have hrg3 := hrg2.of_walks hk3
        go_roundw
        case rel => exact ⟨_, cnt2, ss ++ [⟨(xa, xb), s1, s2⟩], hrg3, by simp; omega, Tryz.came_step (x := ⟨(xa, xb), s1, s2⟩) hC hlk hat, hJ3⟩
        case measure => rw [hrg3.left_eq, hrg.left_eq]; exact hlt
      · gi_wp2
        refine bodyPost_ret (results_none rfl _ _ _) rfl ?_
        exact ⟨⟨_, rfl⟩, .inr ⟨ss ++ [⟨(xa, xb), s1, s2⟩], trivial, hJx⟩⟩
theorem Tryz.keysC_stops (F : Fence) (n : Nat) (hF : F.fn 112) (hro : F.round = none) (hn : 1 ≤ n) (Bm b nn : Nat) (D0 : DataW Unit) {R : Value → Option (DataW Unit × List MemPlace)} (w : World) (hBm : Bm < w.heap.size) (hm : w.cell? ⟨Bm, 0, none⟩ = some (.map (some b))) (hown : w.ownsMap Tryz.prog 64 R b nn D0) :
    SeqStopsK F n Tryz.prog 112 #[.pointer (some ⟨Bm, 0, none⟩)] (fun x : KC => #[encKC x]) KeepsWalks (AllC D0) (fun _ => True) (Maps.size D0) w := fun l J Jx W hW hJ _ hY h0 => by
  have hown' : W.ownsMap Tryz.prog 64 R b nn D0 := by
    have hbl := hown.lt
    obtain ⟨es, clock, hb, Ft, hs, hD⟩ := hown
    exact ⟨es, clock, (hW.block b hbl).trans hb, Ft, hs, hD⟩
  exact Tryz.keysC1 F n hF hro hn l Bm b nn D0 J Jx hY W hJ ((hW.cell (p := ⟨Bm, 0, none⟩) hBm).trans hm) hown' h0
theorem Tryz.infoC : (Tryz.prog.info? 64).map (fun i => (i.zero, i.size, i.bytes)) = some (some (.agg #[.string ⟨#[]⟩, .string ⟨#[]⟩]), 2, 32) := by kernel_rfl
set_option maxRecDepth 100000 in
set_option maxHeartbeats 2000000 in
/-- slices.AppendSeq(nil, seq): what the iterator gives, in a slice of the call's own -/
theorem Tryz.appendC (F : Fence) (n : Nat) (hA : F.fn 141) (hF : F.fn 112) (hro : F.round = none) (hn : 2 ≤ n) (lb : Array Value) (S Sp : List KC → Prop) (N : Nat) (hN : N * 32 ≤ 140737488355328) (w : World)
    (hseq : SeqStopsK F (n - 1) Tryz.prog 112 lb (fun x : KC => #[encKC x]) KeepsWalks S Sp N w) :
    CallsIn F n Tryz.prog 141 #[.slice none 0 0, .func (.func 112) #[] lb] w fun e w' => ∃ (v : Value) (ss : List KC), e = .returned v ∧ S ss ∧ w'.ownsRow w.heap.size 64 2 v ss.length (ss.flatMap cellsKC) ∧ (v = .slice none 0 0 ↔ ss = []) ∧ Below w.heap.size w w' := by
  have h1 : 1 ≤ n := by omega
  obtain ⟨i0, hi, hz0, hz1, hz2⟩ := info_parts Tryz.infoC
  have hmx : maxLen = 9223372036854775807 := by decide
  have hN1 : N ≤ maxLen := by omega
  refine callsIn_of_wp_marks Tryz.func141 rfl hA ?_ hro
  simp only [Tryz.ntmps141, List.size_toArray, List.length_cons, List.length_nil, Nat.reduceAdd, Nat.reduceSub, Array.replicate_succ, Array.replicate_zero, List.push_toArray, List.append_toArray, List.nil_append, List.cons_append]
  gi_wp2
  have hB0 : Below w.heap.size w (w.alloc (.cells #[.slice none 0 0] 62)) := (Below.refl _ w).alloc (Nat.le_refl _) _
  refine AM.wpIn_gather hro h1 (gf := 112) (lb := lb) rfl hF (enters_of Tryz.func112 (by kernel_rfl) rfl) hseq walksK_t walksK_b (fun W o => (KeepsOthers.alloc W o).walks) hB0 (fun _ => rfl)
    (fun pre W => (∃ v, Boxed W w.heap.size 62 v ∧ W.ownsRow w.heap.size 64 2 v pre.length (pre.flatMap cellsKC) ∧ (v = .slice none 0 0 ↔ pre = [])) ∧ Below w.heap.size w W)
    (OwnFrom.and (Own.from (holdsRow_own w.heap.size w.heap.size 62 64 2 (fun pre : List KC => pre.length) (fun pre => pre.flatMap cellsKC) (fun pre v => v = .slice none 0 0 ↔ pre = [])) _) (ownFrom_below (Nat.le_refl _) (by simp)))
    ⟨⟨_, Boxed.new _ _ _, ⟨rfl, .inl ⟨rfl, rfl⟩⟩, by simp⟩, hB0⟩
    (fun x => .cells #[.string x.1.1, .string x.1.2] 64) (fun _ => rfl)
    (fun x b => { tmps := #[.slice none 0 0, .func (.func 112) #[] lb, .pointer (some ⟨w.heap.size, 0, none⟩), undef, .slice none 0 0, .pointer (some ⟨b, 0, none⟩), .func (.func 112) #[] lb, encKC x, undef, undef, undef, undef, undef], defers := [] }) ?assign ?body ?done
  case assign =>
    intro l x W K hK
    gi_wp2
    exact hK
  case body =>
    rintro l pre x W b ⟨⟨v, hv, hrow, hnil⟩, hB⟩ hlt hbx hbl
    have hc := hv.cell
    have hx0 : W.cell? ⟨b, 0, none⟩ = some (.string x.1.1) := by simp [World.cell?, hbx]
    have hx1 : W.cell? ⟨b, 1, none⟩ = some (.string x.1.2) := by simp [World.cell?, hbx]
    gi_wp2_with (gi_at_builtin; refine wpListIn_append_own _ rfl _ _ 62 rfl w.heap.size 64 i0 (.agg #[.string ⟨#[]⟩, .string ⟨#[]⟩]) 2 32 Tryz.underlying62 hi hz0 hz1 hz2 rfl (by decide) _ _ _ rfl (hrow.alloc _) ⟨W.heap.size, 0, none⟩ 1 1 (cellsKC x) rfl rfl (cell_two_new _ _ _ _) (by simp [Value.oneCell', cellsKC]) (by omega) (by omega) (by have := hB.size; simp; omega) ?_; intro v' w1 hown' hgrow _; obtain ⟨g', cap', rfl⟩ := ownsRow_succ hown'; obtain ⟨hv1, hv2, hr2, hk2, hb2⟩ := hv.appended (by decide) hrow hB.size (Nat.le_refl _) hown' hgrow; have hc1 := hv1.cell; have hf1 := hv1.frozen)
    exact ⟨hk2.walks, ⟨_, hv2, by simpa [List.flatMap_append] using hr2, by simp⟩, hB.trans hb2⟩
  case done =>
    rintro D ys W hD hS ⟨⟨v, hv, hrow, hnil⟩, hB⟩ hK
    have hc := hv.cell
    gi_wp2
    refine ⟨by simp, .inl ⟨_, _, rfl, run_takeDeferred hK, ?_⟩⟩
    exact ⟨_, results_tmp rfl _ _ _, v, ys, rfl, hS, ownsRow_putObj hrow _ hK rfl, hnil, hB.trans (belowK_b (w := w) (Nat.le_refl _) W D _ _ (by simp at hD; omega) hK rfl rfl)⟩
end Go.Proofs

set_option linter.unusedVariables false
set_option linter.unusedSimpArgs false
set_option maxRecDepth 100000
namespace Go.Proofs
open Go.RowKit Go.Maps Go.Sort Go.Shelf Go.AM Go.Lib Go.ChangeShapes Go.WideShapes
shelf_lay_g SlLaysF0.n6 Slsf 6 at Tryz 111 as Tryz.sortF
shelf_lay Lays.n106 Nm 106 at Tryz as Tryz.cmpS
/-- how two keys compare -/
def cfC (x y : CK) : Int := if x.1 = y.1 then compareBytes x.2.data.toList y.2.data.toList else compareBytes x.1.data.toList y.1.data.toList
abbrev encC (x : CK) : List Value := [.string x.1, .string x.2]
theorem compareBytes_lt : ∀ a b : List UInt8, decide (compareBytes a b < 0) = Op.bytesLess a b
  | [], [] => rfl
  | [], _ :: _ => rfl
  | _ :: _, [] => rfl
  | x :: a, y :: b => by
    have ih := compareBytes_lt a b
    unfold compareBytes Op.bytesLess
    by_cases h1 : x < y
    · simp [h1]
    · by_cases h2 : y < x
      · have h3 : ¬ x = y := fun e => by subst e; exact h1 h2
        simp [h1, h2, h3]
      · have h3 : x = y := UInt8.le_antisymm (UInt8.not_lt.1 h2) (UInt8.not_lt.1 h1)
        subst h3
        simp only [h1, if_false, ih]
        simp
theorem ltOf_cfC (x y : CK) : ltOf cfC x y = ltK x y := by
  unfold ltOf cfC ltK ltN
  rw [ba_toList, ba_toList, ba_toList, ba_toList]
  by_cases h : x.1 = y.1
  · rw [if_pos h, h, compareBytes_lt]
    have := linN.irrefl y.1
    unfold ltN at this
    rw [ba_toList] at this
    rw [this]; simp
  · rw [if_neg h, compareBytes_lt]
    simp [h]
theorem swoC : SWO (ltOf cfC) := by
  have e : ltOf cfC = ltK := by funext x y; exact ltOf_cfC x y
  rw [e]
  exact ⟨linK.irrefl, linK.trans, fun x y z h1 h2 => linK.ntrans h1 h2⟩
set_option maxHeartbeats 1000000 in
theorem Tryz.closureC (x y : CK) (W : World) : Calls Tryz.prog 68 #[.agg #[.string x.1, .string x.2], .agg #[.string y.1, .string y.2]] W fun e w' => e = .returned (.int .i64 (cfC x y)) ∧ ∃ q os', w' = grow (W.drewN q) os' := by
  have hcon := fun a b W' => Any.strings_Compare Tryz.cmpS a b W'
  change ∀ a b W', Calls Tryz.prog 69 _ _ _ at hcon
  obtain ⟨x1, x2⟩ := x
  obtain ⟨y1, y2⟩ := y
  unfold cfC
  by_cases h : x1 = y1
  · subst h
    simp only [if_true]
    go_enter Tryz.func68, Tryz.ntmps68
    go_wp2_with (go_at_call 69; refine (hcon _ _ _).mono ?_; rintro e w' ⟨rfl, rfl⟩)
    go_ret
    exact ⟨rfl, 0, _, by rw [alloc_eq_grow, alloc_eq_grow, grow_grow]; rfl⟩
  · have h2 : (x1.toList == y1.toList) = false := by rw [AM.toList_eq]; exact decide_eq_false h
    simp only [if_neg h]
    go_enter Tryz.func68, Tryz.ntmps68
    go_wp2_with (go_at_call 69; refine (hcon _ _ _).mono ?_; rintro e w' ⟨rfl, rfl⟩)
    go_ret
    exact ⟨rfl, 0, _, by rw [alloc_eq_grow, alloc_eq_grow, grow_grow]; rfl⟩
/-! ### the row's cells -/
theorem flatC_at : ∀ (l : List CK) (t : Nat), t < l.length * 2 → (l.flatMap encC)[t]? = some ((encC (l.toArray[t / 2]!))[t % 2]!)
  | [], t, h => by simp at h
  | x :: l, 0, _ => by simp
  | x :: l, 1, _ => by simp
  | x :: l, t + 2, h => by
    have ih := flatC_at l t (by simp at h; omega)
    rw [show (t + 2) / 2 = t / 2 + 1 by omega, show (t + 2) % 2 = t % 2 by omega]
    have e : (x :: l).toArray[t / 2 + 1]! = l.toArray[t / 2]! := by simp [getElem!_def]
    rw [e, ← ih]
    simp [List.flatMap_cons]
theorem flatC_len (l : List CK) : (l.flatMap encC).length = l.length * 2 := by
  induction l with
  | nil => rfl
  | cons x l ih => simp [ih]; omega
theorem flatC (l : List CK) : flatK encC 2 l.toArray = (l.flatMap encC).toArray := by
  refine Array.ext' (List.ext_getElem? fun t => ?_)
  rw [Array.getElem?_toList]
  show _ = (l.flatMap encC)[t]?
  by_cases h : t < l.length * 2
  · rw [flatC_at l t h]
    unfold flatK
    simp [h]
  · rw [Array.getElem?_eq_none (by simp; omega), List.getElem?_eq_none (by rw [flatC_len]; omega)]
theorem holdsC {w : World} {g : Nat} {cur : Array Value} {e : TypeId} {l : List CK} (hb : w.heap[g]? = some (.cells cur e (0, 0))) (ht : cur.toList.take (l.length * 2) = l.flatMap encC) : HoldsK encC 2 w g 0 l.toArray := by
  unfold HoldsK
  rw [flatC]
  intro j hj
  have hj' : j < l.length * 2 := by rw [List.size_toArray, flatC_len] at hj; exact hj
  refine ⟨?_, by simp [World.frozen?, hb]⟩
  have h1 : (cur.toList.take (l.length * 2))[j]? = (l.flatMap encC)[j]? := by rw [ht]
  rw [List.getElem?_take_of_lt hj'] at h1
  simp only [World.cell?, hb, Nat.zero_add]
  simp only [Option.isSome_none, Bool.false_eq_true, if_false]
  rw [← Array.getElem?_toList, h1]
  have hj2 : j < (l.flatMap encC).length := by rw [flatC_len]; exact hj'
  rw [List.getElem?_eq_getElem hj2, getElem!_pos _ j (by simpa using hj2)]; simp
theorem heapC {w : World} {g n : Nat} {os : Array Obj} {cur : Array Value} {e : TypeId} {fr : Nat × Nat} (F : Array Value) (hb : w.heap[g]? = some (.cells cur e fr)) :
    (grow (putRow id (Sort.ahead w n) g 0 F) os).heap[g]? = some (.cells (putCells id 0 F cur) e fr) := by
  have hg : g < w.heap.size := (Array.getElem?_eq_some_iff.1 hb).1
  rw [heap_grow_old _ _ (by simpa using hg)]
  simp [putRow, mapBlock, Sort.ahead, Array.getElem?_modify, hb, onCells]
theorem grownC {w : World} {g n : Nat} {os : Array Obj} (F : Array Value) : w.grownBy (grow (putRow id (Sort.ahead w n) g 0 F) os) (some g) := by
  refine ⟨rfl, rfl, rfl, by simp, fun k hk hne => ?_⟩
  rw [heap_grow_old _ _ (by simpa using hk)]
  have : g ≠ k := fun e => hne (by rw [e])
  simp [putRow, mapBlock, Sort.ahead, Array.getElem?_modify, this]
theorem takeC (cur : Array Value) (F : List Value) (h : F.length ≤ cur.size) : (putCells id 0 F.toArray cur).toList.take F.length = F := by
  refine List.ext_getElem? fun j => ?_
  by_cases hj : j < F.length
  · rw [List.getElem?_take_of_lt hj, Array.getElem?_toList]
    simp [putCells, hj, show j < cur.size by omega]
  · rw [List.getElem?_take_eq_none (by omega), List.getElem?_eq_none (by omega)]
theorem cellsKC_map (ss : List KC) : ss.flatMap cellsKC = (ss.map fun x => x.1).flatMap encC := by
  induction ss with
  | nil => rfl
  | cons x ss ih => simp only [List.flatMap_cons, List.map_cons, ih]; rfl
/-- columns' keys, sorted -/
def srtC (l : List CK) : List CK := l.mergeSort fun x y => !ltK y x
theorem srtC_len (l : List CK) : (srtC l).length = l.length := List.length_mergeSort l
theorem Tryz.kAgg (w : World) : (isAgg 64).run Tryz.prog w = .ok true w := (YtlbocjcponegcaaGreat.tok.good (t := 64) (by intro h; cases h)).isAgg_run w
theorem Tryz.kSize (w : World) : (Go.sizeOf 64).run Tryz.prog w = .ok 2 w := (YtlbocjcponegcaaGreat.tok.good (t := 64) (by intro h; cases h)).size_run w
set_option maxHeartbeats 1000000 in
theorem Tryz.collectC (n : Nat) (hn : 3 ≤ n) (lb : Array Value) (S Sp : List KC → Prop) (N : Nat) (hN : N * 32 ≤ 140737488355328) (w : World)
    (hseq : SeqStopsK Fence.wide (n - 1 - 1) Tryz.prog 112 lb (fun x : KC => #[encKC x]) KeepsWalks S Sp N w) :
    CallsIn Fence.wide n Tryz.prog 110 #[.func (.func 112) #[] lb] w fun e w' => ∃ (v : Value) (ss : List KC), e = .returned v ∧ S ss ∧ w'.ownsRow w.heap.size 64 2 v ss.length (ss.flatMap cellsKC) ∧ (v = .slice none 0 0 ↔ ss = []) ∧ Below w.heap.size w w' := by
  have h1 : 1 ≤ n := by omega
  refine callsIn_of_wp Tryz.func110 rfl trivial ?_ rfl
  simp only [Tryz.ntmps110, List.size_toArray, List.length_cons, List.length_nil, Nat.reduceAdd, Nat.reduceSub, Array.replicate_succ, Array.replicate_zero, List.push_toArray, List.append_toArray, List.nil_append, List.cons_append]
  gi_wp2_with (refine ⟨trivial, ?_⟩; gi_at_call 141; refine (Tryz.appendC Fence.wide (n - 1) trivial trivial rfl (by omega) lb S Sp N hN _ hseq).mono ?_; rintro e w' ⟨v, ss, rfl, hS, hrow, hnil, hb⟩)
  go_ret
  exact ⟨v, ss, rfl, hS, hrow, hnil, hb⟩
set_option maxRecDepth 100000 in
set_option maxHeartbeats 2000000 in
theorem Tryz.sortedC (n : Nat) (hn : 4 ≤ n) (lb : Array Value) (S Sp : List KC → Prop) (N : Nat) (hN : N * 32 ≤ 140737488355328) (hlen : ∀ ss, S ss → ss.length ≤ N) (w : World)
    (hseq : SeqStopsK Fence.wide (n - 1 - 1 - 1) Tryz.prog 112 lb (fun x : KC => #[encKC x]) KeepsWalks S Sp N w) :
    CallsIn Fence.wide n Tryz.prog 66 #[.func (.func 112) #[] lb, .func (.func 68) #[] #[]] w fun e w' => ∃ (v : Value) (ss : List KC), e = .returned v ∧ S ss ∧ w'.ownsRow w.heap.size 64 2 v ss.length ((srtC (ss.map fun x => x.1)).flatMap encC) ∧ (v = .slice none 0 0 ↔ ss = []) ∧ Below w.heap.size w w' := by
  have h1 : 1 ≤ n := by omega
  have hmx : maxLen = 9223372036854775807 := by decide
  refine callsIn_of_wp Tryz.func66 rfl trivial ?_ rfl
  simp only [Tryz.ntmps66, List.size_toArray, List.length_cons, List.length_nil, Nat.reduceAdd, Nat.reduceSub, Array.replicate_succ, Array.replicate_zero, List.push_toArray, List.append_toArray, List.nil_append, List.cons_append]
  gi_wp2_with (refine ⟨trivial, ?_⟩; gi_at_call 110; refine (Tryz.collectC (n - 1) (by omega) lb S Sp N hN _ hseq).mono ?_; rintro e W ⟨v, ss, rfl, hS, hrow, hnil, hb⟩)
  rw [cellsKC_map] at hrow
  have hsl := hlen ss hS
  have hml : (ss.map fun x => x.1).length = ss.length := List.length_map _
  generalize hzs : (ss.map fun x => x.1) = zs at *
  rcases hrow.2 with ⟨rfl, hz⟩ | ⟨gb, cap, cur, rfl, hbase, hgb, r1, r2, r3, r4⟩
  · have hs0 : ss = [] := List.eq_nil_of_length_eq_zero hz
    have hz0 : zs = [] := List.eq_nil_of_length_eq_zero (by omega)
    subst hs0 hz0
    gi_wp2_with (refine ⟨trivial, ?_⟩; gi_at_call 111; refine (callsIn_wide.2 (AnyF.slices_SortFunc_none Tryz.sortF none 0 (.func (.func 68) #[] #[]) W)).mono ?_; rintro e w' ⟨rfl, rfl⟩)
    go_ret
    exact ⟨.slice none 0 0, [], rfl, hS, by simpa [srtC] using hrow, by simp, hb⟩
  · have hH : HoldsK encC 2 W gb 0 zs.toArray := holdsC hgb (by rw [← hml] at r4; exact r4)
    have hgl : gb < W.heap.size := (Array.getElem?_eq_some_iff.1 hgb).1
    have eg : ∀ args w, (callFunc 68 args).run Tryz.prog w = .ok (.enter 68 args) w := enters_of Tryz.func68 (by kernel_rfl) rfl
    have hT : ∀ x y, ltOf cfC x y = false → ltOf cfC y x = false → x = y := fun x y h1 h2 => linK.tri x y (by rw [← ltOf_cfC]; exact h1) (by rw [← ltOf_cfC]; exact h2)
    have cS : CallsIn Fence.wide (n - 1) Tryz.prog 111 #[.slice (some ⟨gb, 0, none⟩) ss.length cap, .func (.func 68) #[] #[]] W _ := callsIn_wide.2 (by
      have := AnyQ.slices_SortFunc_total Tryz.sortF 2 Tryz.kAgg Tryz.kSize encC (fun _ => rfl) (fun x v hv => by simp at hv; rcases hv with rfl | rfl <;> rfl) cfC swoC 68 #[] gb 0 cap zs.toArray W eg (fun _ _ _ _ x y => Tryz.closureC x y _) hH hgl (by simp; omega) hT
      rw [List.size_toArray, hml] at this
      exact this)
    gi_wp2_with (refine ⟨trivial, ?_⟩; gi_at_call 111; refine cS.mono ?_; rintro e w' ⟨rfl, nn, os, rfl⟩)
    go_ret
    have hlt : ltOf cfC = ltK := by funext x y; exact ltOf_cfC x y
    have hD : (zs.toArray.toList.mergeSort fun x y => !(ltOf cfC) y x) = srtC zs := by rw [hlt]; rfl
    rw [hD]
    have hw : sortWorldK encC 2 W gb 0 nn (srtC zs).toArray os = grow (putRow id (Sort.ahead W nn) gb 0 ((srtC zs).flatMap encC).toArray) os := by unfold sortWorldK putRowK; rw [flatC]
    rw [hw]
    have hl2 : ((srtC zs).flatMap encC).length = ss.length * 2 := by rw [flatC_len, srtC_len, hml]
    refine ⟨_, ss, rfl, hS, ⟨by rw [hzs, hl2], .inr ⟨gb, cap, _, rfl, hbase, heapC _ hgb, r1, r2, by simp [putCells, r3], ?_⟩⟩, hnil, hb.grown (grownC _) hb.size (fun j hj => by cases hj; exact hbase)⟩
    rw [hzs, ← hl2]
    exact takeC cur _ (by rw [hl2, r3]; exact Nat.mul_le_mul_right _ r1)
end Go.Proofs

set_option linter.unusedVariables false
set_option linter.unusedSimpArgs false
set_option maxRecDepth 100000
namespace Go.Proofs.YtlbocjcponegcaaGreat
open Go.AM Go.RowKit Go.Maps Go.Sort Go.MapKept
def cK (k : CK) : List Val := [.str k.1, .str k.2]
theorem srtC_ris {l : List CK} (hn : l.Nodup) : RisG ltK (srtC l) := by
  have h1 : (srtC l).Pairwise fun a b => (!ltK b a) = true := List.pairwise_mergeSort (le := fun x y => !ltK y x) (fun a b c h1 h2 => by
    have h1 : ltK b a = false := by simpa using h1
    have h2 : ltK c b = false := by simpa using h2
    have := linK.ntrans h2 h1
    simp [this]) (fun a b => by
    cases h3 : ltK b a with
    | false => rfl
    | true => have := linK.asym h3; simp [this]) l
  have h2 : (srtC l).Nodup := ((List.mergeSort_perm l _).nodup_iff).2 hn
  refine (h1.and (List.nodup_iff_pairwise_ne.1 h2)).imp fun {a b} h => ?_
  exact linK.gt (by have := h.1; simpa using this) (fun e => h.2 e.symm)
theorem srtC_mem (l : List CK) (x : CK) : x ∈ srtC l ↔ x ∈ l := (List.mergeSort_perm l _).mem_iff
theorem srtC_perm {l m : List CK} (hp : l.Perm m) (hn : l.Nodup) : srtC l = srtC m :=
  ris_ext linK (srtC_ris hn) (srtC_ris ((hp.nodup_iff).1 hn)) fun x => by rw [srtC_mem, srtC_mem]; exact hp.mem_iff
def keyC (p : MEnt) : CK := match p.1 with
  | [.s a, .s b] => (a, b)
  | _ => (ByteArray.empty, ByteArray.empty)
def keysC (es : List (CK × Unit)) : List CK := es.map (·.1)
theorem keyC_val {vag : Bool} {φ : Prot} {p : MEnt} {e : MapEntry} (h : EntR φ true vag [.s, .s] p e) : e.key = encCK (keyC p) := by
  have hk : e.key = .agg (p.1.map leafVal).toArray := h.key
  have hs := h.shape
  unfold keyC
  have hl2 : p.1.length = 2 := by have := congrArg List.length hs; simpa using this
  obtain ⟨x, y, hp⟩ : ∃ x y, p.1 = [x, y] := by
    match hq : p.1, hl2 with
    | [x, y], _ => exact ⟨x, y, rfl⟩
  rw [hp] at hs hk ⊢
  cases x <;> simp [Leaf.lk] at hs
  cases y <;> simp [Leaf.lk] at hs
  exact hk
theorem keys_litC (R : Value → Option (DataW Unit × List MemPlace)) (hR : ∀ v, R v = some (.nil, [])) {vag : Bool} {φ : Prot} :
    ∀ {es : List MEnt} {arr : List MapEntry}, EntsR φ true vag [.s, .s] es arr → (∀ p ∈ es, (keyC p).1.size ≤ maxLen ∧ (keyC p).2.size ≤ maxLen) →
      (arr.map (Go.WideElems.rg Tryz.prog 64 R)).map (fun p => p.1) = es.map (fun p => litCK (keyC p)) ∧ ∀ x ∈ arr, ∃ y, Go.WideElems.rd Tryz.prog 64 R x = some y
  | [], [], _, _ => ⟨rfl, fun x hx => by cases hx⟩
  | p :: es, e :: arr, h, hl => by
    obtain ⟨i1, i2⟩ := keys_litC R hR h.2 (fun q hq => hl q (List.mem_cons_of_mem _ hq))
    have hkey : keyOf Tryz.prog 64 e.key = some (litCK (keyC p)) := by
      rw [keyC_val h.1]
      have := hl p (List.mem_cons_self ..)
      exact (keyOf_ck Tryz.ckTy _ _).2 ⟨keyC p, rfl, this.1, this.2, rfl⟩
    obtain ⟨ky, vl, bn⟩ := e
    have hrd : Go.WideElems.rd Tryz.prog 64 R ⟨ky, vl, bn⟩ = some (litCK (keyC p), .nil) := Go.WideElems.rd_mk hkey (hR vl)
    refine ⟨?_, fun x hx => ?_⟩
    · simp only [List.map_cons, i1, Go.WideElems.rg_of hrd]
    · rcases List.mem_cons.1 hx with rfl | hx
      · exact ⟨_, hrd⟩
      · exact i2 x hx
  | [], _ :: _, h, _ => h.elim
  | _ :: _, [], h, _ => h.elim
theorem owns_mapC {vag : Bool} {φ : Prot} {w : World} {g clock : Nat} {arr : Array MapEntry} {es : List MEnt} (hents : EntsR φ true vag [.s, .s] es arr.toList)
    (hst : Stamped arr clock) (hl : ∀ p ∈ es, (keyC p).1.size ≤ maxLen ∧ (keyC p).2.size ≤ maxLen) (hn : es.length ≤ maxLen) (hh : w.heap[g]? = some (.map arr clock)) :
    ∃ D0 : DataW Unit, w.ownsMap Tryz.prog 64 (fun _ => some (.nil, [])) g es.length D0 ∧ (∀ x : KC, has D0 (litCK x.1) = true ↔ x.1 ∈ es.map keyC) ∧ Maps.size D0 = es.length := by
  obtain ⟨i1, i2⟩ := keys_litC (fun _ => some (.nil, [])) (fun _ => rfl) hents hl
  have hsz : arr.size = es.length := by have := hents.length; simpa using this
  refine ⟨_, ⟨arr, clock, hh, ⟨by omega, hst, i2⟩, by omega, rfl⟩, fun x => ?_, ?_⟩
  · rw [has_eq, List.any_eq_true]
    constructor
    · rintro ⟨p, hp, hs⟩
      have hp := mem_sorted.1 hp
      have : p.1 ∈ es.map (fun p => litCK (keyC p)) := by rw [← i1]; exact List.mem_map_of_mem hp
      obtain ⟨q, hq, e⟩ := List.mem_map.1 this
      rw [← e] at hs
      have := (Tryz.same_kc x ⟨keyC q, hl q hq⟩).1 hs
      exact List.mem_map.2 ⟨q, hq, congrArg Subtype.val this⟩
    · intro hx
      obtain ⟨q, hq, e⟩ := List.mem_map.1 hx
      have : litCK (keyC q) ∈ es.map (fun p => litCK (keyC p)) := List.mem_map.2 ⟨q, hq, rfl⟩
      rw [← i1] at this
      obtain ⟨p, hp, e2⟩ := List.mem_map.1 this
      refine ⟨p, mem_sorted.2 hp, ?_⟩
      rw [e2]
      exact (Tryz.same_kc x ⟨keyC q, hl q hq⟩).2 (Subtype.ext e)
  · have := (Go.WideShapes.sorted_perm (arr.toList.map (Go.WideElems.rg Tryz.prog 64 (fun _ => some ((.nil : DataW Unit), ([] : List MemPlace)))))).length_eq
    simp only [List.length_map, Array.length_toList] at this
    show List.length _ = _
    omega
theorem flat_one (l : List CK) (i : Nat) (hi : i < l.length) : (l.flatMap encC)[i * 2 + 0]? = some (.string l[i].1) ∧ (l.flatMap encC)[i * 2 + 1]? = some (.string l[i].2) := by
  have e0 := flatC_at l (i * 2 + 0) (by omega)
  have e1 := flatC_at l (i * 2 + 1) (by omega)
  rw [show (i * 2 + 0) / 2 = i by omega, show (i * 2 + 0) % 2 = 0 by omega] at e0
  rw [show (i * 2 + 1) / 2 = i by omega, show (i * 2 + 1) % 2 = 1 by omega] at e1
  have e : l.toArray[i]! = l[i] := by rw [getElem!_pos _ i (by simpa using hi)]; simp
  rw [e] at e0 e1
  exact ⟨e0, e1⟩
/-- a new slice of keys, as memory that is never written again -/
theorem ret_sliceC {ι : AM.Map} {φ : Prot} {h : List Blk} {w w' : World} {v : Value} {e : TypeId} (hf : ∀ b, h.length ≤ b → ι b = none) (hs : Sim ι φ (getH h) w) (hb : RowKit.Below w.heap.size w w') (l : List CK)
    (hr : w'.ownsRow w.heap.size e 2 v l.length (l.flatMap encC)) (hnil : v = .slice none 0 0 ↔ l = []) :
    ∃ cv ι' φ', Ending.returned v = .returned cv ∧ MapLe ι ι' ∧ Inv w (handed ι h) φ ι' φ' (getH h) w' ∧ AM.Rel ι' φ' (eL 2 cK l) cv ∧ ∀ b, h.length ≤ b → ι' b = none := by
  obtain ⟨hlen, h1 | ⟨g, cap, cur, rfl, hbase, hg, hn, hcap, hcs, htake⟩⟩ := hr
  · obtain ⟨rfl, h0⟩ := h1
    have : l = [] := List.eq_nil_of_length_eq_zero h0
    subst this
    exact ⟨_, ι, φ, rfl, .refl _, Inv.below hs hb (.refl _) (fun a v ha => .inl ha), .c (.extNil _ _), hf⟩
  · have hat : ∀ t x, t < l.length * 2 → (l.flatMap encC)[t]? = some x → w'.cell? ⟨g, t, none⟩ = some x := fun t x ht hx => by
      have h2 : cur.toList[t]? = some x := by
        have h4 : (cur.toList.take (l.length * 2))[t]? = some x := by rw [htake]; exact hx
        rwa [List.getElem?_take_of_lt ht] at h4
      have h3 : cur[t]? = some x := by simpa using h2
      simp [World.cell?, hg, h3]
    have hcell : ∀ i j, (hi : i < l.length) → j < 2 → w'.cell? ⟨g, i * 2 + j, none⟩ = some ((encC l[i]).getD j undef) := fun i j hi hj => by
      obtain ⟨a0, a1⟩ := flat_one l i hi
      match j, hj with
      | 0, _ => exact hat _ _ (by omega) a0
      | 1, _ => exact hat _ _ (by omega) a1
    refine ⟨_, ι, fun a => match φ a with
        | some x => some x
        | none => if a.block = g ∧ a.spot = none ∧ a.off < l.length * 2 then w'.cell? a else none, rfl, .refl _, Inv.below hs hb (fun a x hx => by simp only [hx]) (fun a x hx => ?_), .c (.ext _ _ _ _ _ (fun i j => (encC (l.getD i (ByteArray.empty, ByteArray.empty))).getD j undef) hn (fun i hi => ?_) (fun i j hi hj => ?_) (fun i j hi hj => ?_) (fun i j hi hj => ?_)), hf⟩
    · split at hx
      · rename_i y hy; exact .inl (by rw [hy, hx])
      · rename_i hy
        split at hx
        · rename_i hc; exact .inr ⟨by rw [hc.1]; exact hbase, hx⟩
        · cases hx
    · rw [getL_at (List.getElem?_eq_getElem hi)]; rfl
    · have e1 : (⟨g, 0, none⟩ : Addr).add (i * 2 + j) = ⟨g, i * 2 + j, none⟩ := by rw [add_eq]; simp
      rw [e1]
      have e2 : φ ⟨g, i * 2 + j, none⟩ = none := by
        cases hv : φ ⟨g, i * 2 + j, none⟩ with
        | none => rfl
        | some x => have := cell_lt (hs.prot _ _ hv); simp only at this; omega
      have e3 : l.getD i (ByteArray.empty, ByteArray.empty) = l[i] := by simp [List.getD_eq_getElem?_getD, hi]
      rw [e3]
      show (match φ ⟨g, i * 2 + j, none⟩ with
        | some x => some x
        | none => if g = g ∧ (none : Option Nat) = none ∧ i * 2 + j < l.length * 2 then w'.cell? ⟨g, i * 2 + j, none⟩ else none) = _
      rw [e2]
      show (if g = g ∧ (none : Option Nat) = none ∧ i * 2 + j < l.length * 2 then w'.cell? ⟨g, i * 2 + j, none⟩ else none) = _
      rw [if_pos ⟨rfl, rfl, by omega⟩]
      exact hcell i j hi hj
    · match j, hj with
      | 0, _ => rfl
      | 1, _ => rfl
    · rw [getL_at (List.getElem?_eq_getElem hi)]
      have : l.getD i (ByteArray.empty, ByteArray.empty) = l[i] := by simp [List.getD_eq_getElem?_getD, hi]
      rw [this]
      match j, hj with
      | 0, _ => exact .str _
      | 1, _ => exact .str _
theorem keyC_enc (es : List (CK × Unit)) : (encM kC cT es).map keyC = keysC es := by
  unfold encM keysC
  rw [List.map_map]
  rfl
set_option maxHeartbeats 1000000 in
theorem sortedC_ret (es : List (CK × Unit)) (hnd : (keysC es).Nodup) (hl : ∀ k ∈ keysC es, k.1.size ≤ maxLen ∧ k.2.size ≤ maxLen) (hn : es.length * 32 ≤ 140737488355328) :
    Ret Tryz.prog 66 [.fn 112 [] [.ptr 0 0], .fn 68 [] []] [.cells [.map 1], setC es] (eL 2 cK (srtC (keysC es))) [.cells [.map 1], setC es] := by
  have hmx : maxLen = 9223372036854775807 := by decide
  have hkl : (keysC es).length = es.length := by simp [keysC]
  refine ⟨⟨_, _, Tryz.func66, by kernel_rfl, rfl⟩, fun ι φ w cargs hnone hsim hargs => ?_⟩
  have h0 := hsim.blk 0
  have h1 := hsim.blk 1
  obtain ⟨g0, c0, arr0, t0, e0, hh0, hs0, hr0, _⟩ := (show BlkOk ι φ w 0 (.cells [.map 1]) from h0)
  obtain ⟨g1, c1, arr1, clock, e1, hh1, hents, hst⟩ := (show BlkOk ι φ w 1 (setC es) from h1)
  have hc0 : arr0[0]? = some (.map (some g1)) := by
    have := (hr0 0 (by simp)).2
    have hz : 0 < arr0.size := by rw [hs0]; simp
    rw [Array.getD_eq_getD_getElem?, Array.getElem?_eq_getElem hz] at this
    rw [Array.getElem?_eq_getElem hz]
    simp only [List.getD_cons_zero, Option.getD_some] at this
    have mv : ∀ u, AM.Rel ι φ (.map 1) u → u = .map (some g1) := fun u hu => by
      cases hu with
      | c h => cases h
      | map _ g' c' hm => rw [e1] at hm; simp only [Option.some.injEq, Prod.mk.injEq] at hm; rw [hm.1]
    rw [mv _ this]
  have hcell : w.cell? ⟨g0, 0, none⟩ = some (.map (some g1)) := by simp [World.cell?, hh0, hc0]
  have hwf : ∀ p ∈ encM kC cT es, (keyC p).1.size ≤ maxLen ∧ (keyC p).2.size ≤ maxLen := fun p hp => hl _ (by rw [← keyC_enc]; exact List.mem_map_of_mem hp)
  have hlen : (encM kC cT es).length = es.length := by simp [encM]
  obtain ⟨D0, hown, hhas, hsz⟩ := owns_mapC hents hst hwf (by rw [hlen]; omega) hh1
  rw [keyC_enc] at hhas
  rw [hlen] at hsz
  have ha : cargs = #[.func (.func 112) #[] #[.pointer (some ⟨g0, 0, none⟩)], .func (.func 68) #[] #[]] := by
    have hl1 : cargs.size = 2 := by simpa using hargs.len
    have hr := hargs.rel 0 (by simp)
    obtain ⟨us, ws, hu, s1, s2, r1, r2⟩ := hr.fn_
    have r2 := r2 0 (by simp)
    obtain ⟨g, c, hm, hp⟩ := r2.ptr_
    rw [e0] at hm
    simp only [Option.some.injEq, Prod.mk.injEq] at hm
    have hus : us = #[] := Array.eq_empty_of_size_eq_zero (by simpa using s1)
    have hws : ws = #[.pointer (some ⟨g0, 0, none⟩)] := by
      have s2 : ws.size = 1 := by simpa using s2
      refine Array.ext (by simpa using s2) fun i hi hi' => ?_
      have : i = 0 := by omega
      subst this
      rw [Array.getD_eq_getD_getElem?, Array.getElem?_eq_getElem hi] at hp
      simpa [hm.1] using hp
    have hr' := hargs.rel 1 (by simp)
    obtain ⟨us', ws', hu', s1', s2', _, _⟩ := hr'.fn_
    have hus' : us' = #[] := Array.eq_empty_of_size_eq_zero (by simpa using s1')
    have hws' : ws' = #[] := Array.eq_empty_of_size_eq_zero (by simpa using s2')
    refine Array.ext (by simpa using hl1) fun i hi hi' => ?_
    have : i = 0 ∨ i = 1 := by omega
    rcases this with rfl | rfl
    · rw [Array.getD_eq_getD_getElem?, Array.getElem?_eq_getElem hi] at hu
      simpa [hus, hws] using hu
    · rw [Array.getD_eq_getD_getElem?, Array.getElem?_eq_getElem hi] at hu'
      simpa [hus', hws'] using hu'
  subst ha
  have hall : ∀ ss : List KC, AllC D0 ss → (ss.map fun x => x.1).Perm (keysC es) := fun ss hss => by
    refine (List.perm_ext_iff_of_nodup ?_ hnd).2 fun a => ?_
    · exact List.nodup_iff_pairwise_ne.2 (List.pairwise_map.2 ((List.nodup_iff_pairwise_ne.1 hss.1).imp fun h e => h (Subtype.ext e)))
    · rw [List.mem_map]
      constructor
      · rintro ⟨x, hx, rfl⟩
        exact (hhas x).1 ((hss.2 x).1 hx)
      · intro h
        exact ⟨⟨a, hl a h⟩, (hss.2 _).2 ((hhas ⟨a, hl a h⟩).2 h), rfl⟩
  have hstops : SeqStopsK Fence.wide (6 - 1 - 1 - 1) Tryz.prog 112 #[.pointer (some ⟨g0, 0, none⟩)] (fun x : KC => #[encKC x]) KeepsWalks (AllC D0) (fun _ => True) (Maps.size D0) w :=
    Tryz.keysC_stops Fence.wide _ trivial rfl (by omega) g0 g1 _ D0 w (lt_of_get hh0) hcell hown
  have hmain := Tryz.sortedC 6 (by omega) #[.pointer (some ⟨g0, 0, none⟩)] (AllC D0) (fun _ => True) (Maps.size D0) (by omega) (fun ss hss => by have := (hall ss hss).length_eq; rw [List.length_map] at this; omega) w hstops
  refine ((callsIn_wide (n := 6)).1 hmain).mono ?_
  rintro e w' ⟨v, ss, rfl, hS, hrow, hnil, hb⟩
  have hp := hall ss hS
  have hss : srtC (ss.map fun x => x.1) = srtC (keysC es) := srtC_perm hp ((hp.nodup_iff).2 hnd)
  have hln : ss.length = (srtC (keysC es)).length := by rw [srtC_len, ← hp.length_eq, List.length_map]
  rw [hss, hln] at hrow
  have hnil' : v = .slice none 0 0 ↔ srtC (keysC es) = [] := by
    rw [hnil]
    constructor
    · intro h; exact List.eq_nil_of_length_eq_zero (by rw [← hln, h]; rfl)
    · intro h; exact List.eq_nil_of_length_eq_zero (by rw [hln, h]; rfl)
  exact ret_sliceC hnone hsim hb _ hrow hnil'
end Go.Proofs.YtlbocjcponegcaaGreat

