/- maps.Keys, slices.Collect, slices.Sorted at ints: the iterator's contract, and who gathers from it. -/
import Derived.Test.YthjgnmpnagmeoaaAmM4
import Derived.Test.YthjgnmpnagmeoaaAmHn
import Derived.RangeFuncFrom
import Derived.RangeFuncBox
import Derived.RangeFuncLeaves
import Derived.Shelf.Abstract
import Derived.WalkKit
import Derived.OwnWalkIn
import Derived.TacticsInMore
import Derived.LoopNIn
import Derived.LoopIn
import Derived.Maps.AppendAt
import Derived.Sort.MapsRangeIn
import Derived.Sort.OwnSortedInts
import Derived.Shelf.SortM.Plain
import Derived.Shelf.SortM.SortNone
import Derived.Ground.SlgmProg
import Derived.Shelf.Lay
set_option linter.unusedVariables false
set_option linter.unusedSimpArgs false
set_option maxRecDepth 100000
namespace Go.Proofs
open Go.RowKit Go.Maps Go.Sort Go.Shelf
attribute [local go_sem] Oper.semAt_some
/-- an int within its range -/
abbrev KZ := { x : Int // (Lit.int .i64 x).wf = true }
/-- who has come: each once, those of the map that are no longer to come -/
def CameZ (D0 : DataW Unit) (left : Lit → Bool) (ss : List KZ) : Prop := ss.Nodup ∧ ∀ x : KZ, x ∈ ss ↔ (has D0 (.int .i64 x.1) = true ∧ left (.int .i64 x.1) = false)
def AllZ (D0 : DataW Unit) (ss : List KZ) : Prop := ss.Nodup ∧ ∀ x : KZ, x ∈ ss ↔ has D0 (.int .i64 x.1) = true
theorem CameZ.start (D0 : DataW Unit) : CameZ D0 (has D0) [] := ⟨List.nodup_nil, fun x => by cases has D0 (.int .i64 x.1) <;> simp⟩
theorem CameZ.step {D0 : DataW Unit} {left : Lit → Bool} {ss : List KZ} (h : CameZ D0 left ss) {x : KZ} {y : DataW Unit} (hlk : left (.int .i64 x.1) = true) (hat : ∀ zd, D0.atKey (.int .i64 x.1) zd = y) : CameZ D0 (fun z => left z && !z.sameKey (.int .i64 x.1)) (ss ++ [x]) := by
  have hhas : has D0 (.int .i64 x.1) = true := has_true_of_atKey hat
  have hnew : x ∉ ss := fun hx => by have := ((h.2 x).1 hx).2; rw [hlk] at this; cases this
  refine ⟨List.nodup_append.2 ⟨h.1, by simp, fun a ha b hb => by simp at hb; subst hb; exact fun e => hnew (e ▸ ha)⟩, fun y => ?_⟩
  by_cases hy : y = x
  · subst hy; simp [hhas, Lit.sameKey]
  · have hy' : ¬ y.1 = x.1 := fun e => hy (Subtype.ext e)
    simp [h.2 y, hy, hy', Lit.sameKey]
theorem CameZ.all {D0 : DataW Unit} {left : Lit → Bool} {ss : List KZ} (h : CameZ D0 left ss) (hl : ∀ kl, left kl = false) : AllZ D0 ss := ⟨h.1, fun x => by rw [h.2 x, hl]; simp⟩
theorem keyOf_intZ {P : Program} {k : TypeId} (hk : P.underlying k = some (.int .i64)) {key : Value} {kl : Lit} (h : keyOf P k key = some kl) : ∃ x : KZ, key = .int .i64 x.1 ∧ kl = .int .i64 x.1 := by
  cases key <;> simp [keyOf, hk, mapKey] at h
  rename_i q a
  obtain ⟨h1, h2⟩ := h
  first
    | (obtain ⟨rfl, h3⟩ := h1; exact ⟨⟨a, h3⟩, rfl, h2.symm⟩)
    | skip
set_option maxRecDepth 100000 in
set_option maxHeartbeats 1000000 in
/-- maps.Keys' iterator: the keys come, each once -/
theorem Try.keysI1 (F : Fence) (n : Nat) (hF : F.fn 67) (hro : F.round = none) (hn : 1 ≤ n) (l Bm b nn : Nat) (D0 : DataW Unit) {R : Value → Option (DataW Unit × List MemPlace)} (J Jx : List KZ → World → Prop)
    (hY : ∀ pre (x : KZ) W, J pre W → pre.length < Maps.size D0 → YieldAt F (n - 1) Try.prog l #[.int .i64 x.1] W fun e W' => (e = .returned (.bool true) ∧ J (pre ++ [x]) W' ∧ KeepsWalks W W') ∨ (e = .returned (.bool false) ∧ Jx (pre ++ [x]) W'))
    (W : World) (hJ : AbidesFrom W.heap.size J) (hm : W.cell? ⟨Bm, 0, none⟩ = some (.map (some b))) (hown : W.ownsMap Try.prog 3 R b nn D0) (h0 : J [] W) :
    CallsIn F n Try.prog 67 #[.func (.yield l) #[] #[], .pointer (some ⟨Bm, 0, none⟩)] W fun e W' => (∃ v, e = .returned v) ∧ ((∃ ss, AllZ D0 ss ∧ J ss W') ∨ (∃ pre, True ∧ Jx pre W')) := by
  refine callsIn_of_wp Try.func67 rfl hF ?_ hro
  simp only [Try.ntmps67, List.size_toArray, List.length_cons, List.length_nil, Nat.reduceAdd, Nat.reduceSub, Array.replicate_succ, Array.replicate_zero, List.push_toArray, List.append_toArray, List.nil_append, List.cons_append]
  gi_wp2_with (first
    | (gi_at_range; refine wpListIn_range_own _ rfl _ 39 rfl 3 4 (int_keyed Try.underlying3) Try.underlying39 _ b nn _ rfl hown ?_; intro w0 hrg0 hg0 hs0)
    | gi_in)
  go_frame
  gi_loopw [3] (fun _ wr => ∃ (left : Lit → Bool) (cnt : Nat) (ss : List KZ), wr.ranges Try.prog 3 R b W.heap.size nn D0 left cnt ∧ ss.length + cnt ≤ Maps.size D0 ∧ CameZ D0 left ss ∧ J ss wr)
    (fun _ wr => wr.rangeLeft b W.heap.size)
  case atStart =>
    exact ⟨_, _, [], hrg0, by simp, CameZ.start D0, hJ [] W w0 none h0 hg0 (fun r e => by cases e)⟩
  case round =>
    obtain ⟨left, cnt, ss, hrg, hcs, hC, hJs⟩ := hrel
    gi_wp2_with (first
      | (gi_at_next; refine wpListIn_next_ranges _ rfl _ rfl 3 (int_keyed Try.underlying3) R (fun x : KZ => .int .i64 x.1) id (fun key kl hk => by obtain ⟨x, hx, _⟩ := keyOf_intZ Try.underlying3 hk; exact ⟨x, hx⟩) (fun v _ _ => ⟨v, rfl⟩) b W.heap.size nn _ _ _ rfl hrg ?_ ?_)
      | gi_in)
    · intro hc0 hl0
      gi_wp2
      go_end0
      exact ⟨⟨_, rfl⟩, .inl ⟨ss, hC.all hl0, hJs⟩⟩
    · intro x hxw c kl yd yp w2 cnt2 hkey hlk hv hat hrg2 hlt hg2 hs2 hen
      obtain ⟨x', ex, rfl⟩ := keyOf_intZ Try.underlying3 hkey
      obtain rfl : x = x'.1 := by simpa using ex
      have hJ2 : J ss w2 := hJ ss wr w2 (some W.heap.size) hJs hg2 (fun r e => by cases e; exact ⟨Nat.le_refl _, hrg.iter_walk⟩)
      obtain ⟨fn, tmps, assign, body, hy, hR⟩ := hY ss x' w2 hJ2 (by omega)
      clear hs2
      gi_wp2
      refine hR.mono ?_
      rintro e W3 (⟨rfl, hJ3, hk3⟩ | ⟨rfl, hJx⟩)
      · gi_wp2
        have hrg3 := hrg2.of_walks hk3
        go_roundw
        case rel => exact ⟨_, cnt2, ss ++ [x'], hrg3, by simp; omega, hC.step hlk hat, hJ3⟩
        case measure => rw [hrg3.left_eq, hrg.left_eq]; exact hlt
      · gi_wp2
        refine bodyPost_ret (results_none rfl _ _ _) rfl ?_
        exact ⟨⟨_, rfl⟩, .inr ⟨ss ++ [x'], trivial, hJx⟩⟩

abbrev encKZ (x : KZ) : Value := .int .i64 x.1
theorem Try.keysI_stops (F : Fence) (n : Nat) (hF : F.fn 67) (hro : F.round = none) (hn : 1 ≤ n) (Bm b nn : Nat) (D0 : DataW Unit) {R : Value → Option (DataW Unit × List MemPlace)} (w : World) (hBm : Bm < w.heap.size) (hm : w.cell? ⟨Bm, 0, none⟩ = some (.map (some b))) (hown : w.ownsMap Try.prog 3 R b nn D0) :
    SeqStopsK F n Try.prog 67 #[.pointer (some ⟨Bm, 0, none⟩)] (fun x : KZ => #[encKZ x]) KeepsWalks (AllZ D0) (fun _ => True) (Maps.size D0) w := fun l J Jx W hW hJ _ hY h0 => by
  have hown' : W.ownsMap Try.prog 3 R b nn D0 := by
    have hbl := hown.lt
    obtain ⟨es, clock, hb, Ft, hs, hD⟩ := hown
    exact ⟨es, clock, (hW.block b hbl).trans hb, Ft, hs, hD⟩
  exact Try.keysI1 F n hF hro hn l Bm b nn D0 J Jx hY W hJ ((hW.cell (p := ⟨Bm, 0, none⟩) hBm).trans hm) hown' h0
theorem Try.infoZ : (Try.prog.info? 3).map (fun i => (i.zero, i.size, i.bytes)) = some (some (.int .i64 0), 1, 8) := by kernel_rfl
set_option maxRecDepth 100000 in
set_option maxHeartbeats 2000000 in
/-- slices.AppendSeq(nil, seq): what the iterator gives, in a slice of the call's own -/
theorem Try.appendI (F : Fence) (n : Nat) (hA : F.fn 71) (hF : F.fn 67) (hro : F.round = none) (hn : 2 ≤ n) (lb : Array Value) (S Sp : List KZ → Prop) (N : Nat) (hN : N * 8 ≤ 140737488355328) (w : World)
    (hseq : SeqStopsK F (n - 1) Try.prog 67 lb (fun x : KZ => #[encKZ x]) KeepsWalks S Sp N w) :
    CallsIn F n Try.prog 71 #[.slice none 0 0, .func (.func 67) #[] lb] w fun e w' => ∃ (v : Value) (ss : List KZ), e = .returned v ∧ S ss ∧ w'.ownsRow w.heap.size 3 1 v ss.length (ss.map encKZ) ∧ (v = .slice none 0 0 ↔ ss = []) ∧ Below w.heap.size w w' := by
  have h1 : 1 ≤ n := by omega
  obtain ⟨i0, hi, hz0, hz1, hz2⟩ := info_parts Try.infoZ
  have hmx : maxLen = 9223372036854775807 := by decide
  have hN1 : N ≤ maxLen := by omega
  refine callsIn_of_wp_marks Try.func71 rfl hA ?_ hro
  simp only [Try.ntmps71, List.size_toArray, List.length_cons, List.length_nil, Nat.reduceAdd, Nat.reduceSub, Array.replicate_succ, Array.replicate_zero, List.push_toArray, List.append_toArray, List.nil_append, List.cons_append]
  gi_wp2
  have hB0 : Below w.heap.size w (w.alloc (.cells #[.slice none 0 0] 34)) := (Below.refl _ w).alloc (Nat.le_refl _) _
  refine wpIn_rangeFunc_ownF hro h1 (gf := 67) (lb := lb) rfl hF (enters_of Try.func67 (by kernel_rfl) rfl) hseq walksK_t walksK_b hB0 (fun _ => rfl)
    (fun pre W => (∃ v, Boxed W w.heap.size 34 v ∧ W.ownsRow w.heap.size 3 1 v pre.length (pre.map encKZ) ∧ (v = .slice none 0 0 ↔ pre = [])) ∧ Below w.heap.size w W)
    (fun _ _ _ => False)
    (OwnFrom.and (Own.from (holdsRow_own w.heap.size w.heap.size 34 3 1 (fun pre : List KZ => pre.length) (fun pre => pre.map encKZ) (fun pre v => v = .slice none 0 0 ↔ pre = [])) _) (ownFrom_below (Nat.le_refl _) (by simp)))
    (fun _ _ _ _ _ hs _ _ => hs)
    ⟨⟨_, Boxed.new _ _ _, ⟨rfl, .inl ⟨rfl, rfl⟩⟩, by simp⟩, hB0⟩
    (fun x => { tmps := #[.slice none 0 0, .func (.func 67) #[] lb, .pointer (some ⟨w.heap.size, 0, none⟩), undef, .slice none 0 0, encKZ x, .func (.func 67) #[] lb, encKZ x, undef, undef, undef, undef, undef], defers := [] }) ?assign ?body ?done ?stop
  case assign =>
    intro l x W K hK
    gi_wp2
    exact hK
  case body =>
    rintro l pre x W ⟨⟨v, hv, hrow, hnil⟩, hB⟩ hlt
    have hc := hv.cell
    gi_wp2_with (gi_at_builtin; refine wpListIn_append_own _ rfl _ _ 34 rfl w.heap.size 3 i0 (.int .i64 0) 1 8 Try.underlying34 hi hz0 hz1 hz2 rfl (by decide) _ _ _ rfl (hrow.alloc _) ⟨W.heap.size, 0, none⟩ 1 1 [encKZ x] rfl rfl (cell_one_new _ _ _) (by simp [Value.oneCell', encKZ]) (by omega) (by omega) (by have := hB.size; simp; omega) ?_; intro v' w1 hown' hgrow _; obtain ⟨g', cap', rfl⟩ := ownsRow_succ hown'; obtain ⟨hv1, hv2, hr2, hk2, hb2⟩ := hv.appended (by decide) hrow hB.size (Nat.le_refl _) hown' hgrow; have hc1 := hv1.cell; have hf1 := hv1.frozen)
    exact ⟨hk2, hk2.walks, ⟨⟨_, hv2, by simpa using hr2, by simp⟩, hB.trans hb2⟩⟩
  case done =>
    rintro D ys W hD hS ⟨⟨v, hv, hrow, hnil⟩, hB⟩ hK
    have hc := hv.cell
    gi_wp2
    refine ⟨by simp, .inl ⟨_, _, rfl, run_takeDeferred hK, ?_⟩⟩
    exact ⟨_, results_tmp rfl _ _ _, v, ys, rfl, hS, ownsRow_putObj hrow _ hK rfl, hnil, hB.trans (belowK_b (w := w) (Nat.le_refl _) W D _ _ (by simp at hD; omega) hK rfl rfl)⟩
  case stop =>
    rintro D c pre W _ _ h _
    exact h.elim
end Go.Proofs

set_option linter.unusedVariables false
set_option linter.unusedSimpArgs false
set_option maxRecDepth 100000
namespace Go.Proofs
open Go.RowKit Go.Maps Go.Sort Go.Shelf
shelf_lay_g SlLaysM.n5 Slgm 5 at Try 66 as Try.sortI
set_option maxHeartbeats 1000000 in
theorem Try.collectI (n : Nat) (hn : 3 ≤ n) (lb : Array Value) (S Sp : List KZ → Prop) (N : Nat) (hN : N * 8 ≤ 140737488355328) (w : World)
    (hseq : SeqStopsK Fence.wide (n - 1 - 1) Try.prog 67 lb (fun x : KZ => #[encKZ x]) KeepsWalks S Sp N w) :
    CallsIn Fence.wide n Try.prog 65 #[.func (.func 67) #[] lb] w fun e w' => ∃ (v : Value) (ss : List KZ), e = .returned v ∧ S ss ∧ w'.ownsRow w.heap.size 3 1 v ss.length (ss.map encKZ) ∧ (v = .slice none 0 0 ↔ ss = []) ∧ Below w.heap.size w w' := by
  have h1 : 1 ≤ n := by omega
  refine callsIn_of_wp Try.func65 rfl trivial ?_ rfl
  simp only [Try.ntmps65, List.size_toArray, List.length_cons, List.length_nil, Nat.reduceAdd, Nat.reduceSub, Array.replicate_succ, Array.replicate_zero, List.push_toArray, List.append_toArray, List.nil_append, List.cons_append]
  gi_wp2_with (refine ⟨trivial, ?_⟩; gi_at_call 71; refine (Try.appendI Fence.wide (n - 1) trivial trivial rfl (by omega) lb S Sp N hN _ hseq).mono ?_; rintro e w' ⟨v, ss, rfl, hS, hrow, hnil, hb⟩)
  go_ret
  exact ⟨v, ss, rfl, hS, hrow, hnil, hb⟩
set_option maxRecDepth 100000 in
set_option maxHeartbeats 2000000 in
theorem Try.sortedI (n : Nat) (hn : 4 ≤ n) (lb : Array Value) (S Sp : List KZ → Prop) (N : Nat) (hN : N * 8 ≤ 140737488355328) (hlen : ∀ ss, S ss → ss.length ≤ N) (w : World)
    (hseq : SeqStopsK Fence.wide (n - 1 - 1 - 1) Try.prog 67 lb (fun x : KZ => #[encKZ x]) KeepsWalks S Sp N w) :
    CallsIn Fence.wide n Try.prog 56 #[.func (.func 67) #[] lb] w fun e w' => ∃ (v : Value) (ss : List KZ), e = .returned v ∧ S ss ∧ w'.ownsRow w.heap.size 3 1 v ss.length (((ss.map fun x => x.1).mergeSort fun x y => decide (x ≤ y)).map (Value.int .i64)) ∧ (v = .slice none 0 0 ↔ ss = []) ∧ Below w.heap.size w w' := by
  have h1 : 1 ≤ n := by omega
  have hmx : maxLen = 9223372036854775807 := by decide
  refine callsIn_of_wp Try.func56 rfl trivial ?_ rfl
  simp only [Try.ntmps56, List.size_toArray, List.length_cons, List.length_nil, Nat.reduceAdd, Nat.reduceSub, Array.replicate_succ, Array.replicate_zero, List.push_toArray, List.append_toArray, List.nil_append, List.cons_append]
  gi_wp2_with (refine ⟨trivial, ?_⟩; gi_at_call 65; refine (Try.collectI (n - 1) (by omega) lb S Sp N hN _ hseq).mono ?_; rintro e W ⟨v, ss, rfl, hS, hrow, hnil, hb⟩)
  have hss : ss.map encKZ = (ss.map fun x => x.1).map (Value.int .i64) := by rw [List.map_map]; rfl
  rw [hss] at hrow
  have hsl := hlen ss hS
  have hml : (ss.map fun x => x.1).length = ss.length := List.length_map _
  generalize hzs : (ss.map fun x => x.1) = zs at *
  rcases hrow.2 with ⟨rfl, hz⟩ | ⟨gb, cap, cur, rfl, hbase, hgb, r1, r2, r3, r4⟩
  · have hs0 : ss = [] := List.eq_nil_of_length_eq_zero hz
    have hz0 : zs = [] := List.eq_nil_of_length_eq_zero (by omega)
    subst hs0 hz0
    gi_wp2_with (refine ⟨trivial, ?_⟩; gi_at_call 66; refine (callsIn_wide.2 (AnyM.slices_Sort_int_none Try.sortI none 0 W)).mono ?_; rintro e w' ⟨rfl, rfl⟩)
    go_ret
    exact ⟨.slice none 0 0, [], rfl, hS, by simpa using hrow, by simp, hb⟩
  · have hH : Holds (Value.int .i64) W gb 0 zs.toArray := holds_of_blockI hgb (by rw [Nat.mul_one, ← hml] at r4; exact r4)
    have hgl : gb < W.heap.size := (Array.getElem?_eq_some_iff.1 hgb).1
    have cS : CallsIn Fence.wide (n - 1) Try.prog 66 #[.slice (some ⟨gb, 0, none⟩) ss.length cap] W _ := callsIn_wide.2 (by rw [← hml]; exact AnyM.slices_Sort_int Try.sortI gb 0 cap zs W hH hgl (by omega))
    gi_wp2_with (refine ⟨trivial, ?_⟩; gi_at_call 66; refine cS.mono ?_; rintro e w' ⟨rfl, nn, os, rfl⟩)
    go_ret
    refine ⟨_, ss, rfl, hS, ?_, hnil, hb.grown (grownBy_sortedI _) hb.size (fun j hj => by cases hj; exact hbase)⟩
    have := ownsRow_sortedI (n := nn) (os := os) (ss := zs) (ts := zs.mergeSort fun x y => decide (x ≤ y)) (by simp) hbase hgb (by omega) r2 r3
    rw [hml, ← hzs] at this
    rw [← hzs]
    exact this
end Go.Proofs

set_option linter.unusedVariables false
set_option linter.unusedSimpArgs false
set_option maxRecDepth 100000
namespace Go.Proofs.Ythjgnmpnagmeoaa
open Go.AM Go.RowKit Go.Maps Go.Sort Go.MapKept
def keyI (p : MEnt) : Int := match p.1 with
  | [.i _ n] => n
  | _ => 0
theorem keyI_val {vag : Bool} {φ : Prot} {p : MEnt} {e : MapEntry} (h : EntR φ false vag [.i .i64] p e) : e.key = .int .i64 (keyI p) := by
  obtain ⟨l, hl, hk⟩ := h.key
  have hs := h.shape
  rw [hl] at hs
  cases l with
  | s x => simp [Leaf.lk] at hs
  | b x => simp [Leaf.lk] at hs
  | i k n =>
    have : k = .i64 := by simpa [Leaf.lk] using hs
    subst this
    rw [hk]; unfold keyI; rw [hl]; rfl
theorem keys_litZ {P : Program} {k : TypeId} {vag : Bool} {φ : Prot} (hk : P.underlying k = some (.int .i64)) (R : Value → Option (DataW Unit × List MemPlace)) (hR : ∀ v, R v = some (.nil, [])) :
    ∀ {es : List MEnt} {arr : List MapEntry}, EntsR φ false vag [.i .i64] es arr → (∀ p ∈ es, (Lit.int .i64 (keyI p)).wf = true) →
      (arr.map (Go.WideElems.rg P k R)).map (fun p => p.1) = es.map (fun p => Lit.int .i64 (keyI p)) ∧ ∀ x ∈ arr, ∃ y, Go.WideElems.rd P k R x = some y
  | [], [], _, _ => ⟨rfl, fun x hx => by cases hx⟩
  | p :: es, e :: arr, h, hl => by
    obtain ⟨i1, i2⟩ := keys_litZ hk R hR h.2 (fun q hq => hl q (List.mem_cons_of_mem _ hq))
    have hkey : keyOf P k e.key = some (.int .i64 (keyI p)) := by
      rw [keyI_val h.1]
      exact keyOf_int_mk hk (hl p (List.mem_cons_self ..))
    obtain ⟨ky, vl, bn⟩ := e
    have hrd : Go.WideElems.rd P k R ⟨ky, vl, bn⟩ = some (.int .i64 (keyI p), .nil) := Go.WideElems.rd_mk hkey (hR vl)
    refine ⟨?_, fun x hx => ?_⟩
    · simp only [List.map_cons, i1, Go.WideElems.rg_of hrd]
    · rcases List.mem_cons.1 hx with rfl | hx
      · exact ⟨_, hrd⟩
      · exact i2 x hx
  | [], _ :: _, h, _ => h.elim
  | _ :: _, [], h, _ => h.elim
theorem owns_mapZ {P : Program} {k : TypeId} {vag : Bool} {φ : Prot} {w : World} {g clock : Nat} {arr : Array MapEntry} {es : List MEnt} (hk : P.underlying k = some (.int .i64)) (hents : EntsR φ false vag [.i .i64] es arr.toList)
    (hst : Stamped arr clock) (hl : ∀ p ∈ es, (Lit.int .i64 (keyI p)).wf = true) (hn : es.length ≤ maxLen) (hh : w.heap[g]? = some (.map arr clock)) :
    ∃ D0 : DataW Unit, w.ownsMap P k (fun _ => some (.nil, [])) g es.length D0 ∧ (∀ x : Int, has D0 (.int .i64 x) = true ↔ x ∈ es.map keyI) ∧ Maps.size D0 = es.length := by
  obtain ⟨i1, i2⟩ := keys_litZ hk (fun _ => some (.nil, [])) (fun _ => rfl) hents hl
  have hsz : arr.size = es.length := by have := hents.length; simpa using this
  refine ⟨_, ⟨arr, clock, hh, ⟨by omega, hst, i2⟩, by omega, rfl⟩, fun x => ?_, ?_⟩
  · rw [has_eq, List.any_eq_true]
    constructor
    · rintro ⟨p, hp, hs⟩
      have hp := mem_sorted.1 hp
      have : p.1 ∈ es.map (fun p => Lit.int .i64 (keyI p)) := by rw [← i1]; exact List.mem_map_of_mem hp
      obtain ⟨q, hq, e⟩ := List.mem_map.1 this
      rw [← e] at hs
      have : keyI q = x := by simpa [Lit.sameKey] using hs
      exact List.mem_map.2 ⟨q, hq, this⟩
    · intro hx
      obtain ⟨q, hq, rfl⟩ := List.mem_map.1 hx
      have : Lit.int .i64 (keyI q) ∈ es.map (fun p => Lit.int .i64 (keyI p)) := List.mem_map.2 ⟨q, hq, rfl⟩
      rw [← i1] at this
      obtain ⟨p, hp, e⟩ := List.mem_map.1 this
      exact ⟨p, mem_sorted.2 hp, by rw [e]; simp [Lit.sameKey]⟩
  · have := (Go.WideShapes.sorted_perm (arr.toList.map (Go.WideElems.rg P k (fun _ => some ((.nil : DataW Unit), ([] : List MemPlace)))))).length_eq
    simp only [List.length_map, Array.length_toList] at this
    show List.length _ = _
    omega
/-- a new slice of ints, as memory that is never written again -/
theorem ret_sliceZ {ι : AM.Map} {φ : Prot} {h : List Blk} {w w' : World} {v : Value} {e : TypeId} (hf : ∀ b, h.length ≤ b → ι b = none) (hs : Sim ι φ (getH h) w) (hb : Below w.heap.size w w') (l : List Int)
    (hr : w'.ownsRow w.heap.size e 1 v l.length (l.map (Value.int .i64))) (hnil : v = .slice none 0 0 ↔ l = []) :
    ∃ cv ι' φ', Ending.returned v = .returned cv ∧ MapLe ι ι' ∧ Inv w (handed ι h) φ ι' φ' (getH h) w' ∧ AM.Rel ι' φ' (eL 1 cI l) cv ∧ ∀ b, h.length ≤ b → ι' b = none := by
  obtain ⟨hlen, h1 | ⟨g, cap, cur, rfl, hbase, hg, hn, hcap, hcs, htake⟩⟩ := hr
  · obtain ⟨rfl, h0⟩ := h1
    have : l = [] := List.eq_nil_of_length_eq_zero h0
    subst this
    exact ⟨_, ι, φ, rfl, .refl _, Inv.below hs hb (.refl _) (fun a v ha => .inl ha), .c (.extNil _ _), hf⟩
  · have hcell : ∀ i, (hi : i < l.length) → w'.cell? ⟨g, i, none⟩ = some (.int .i64 l[i]) := fun i hi => by
      have h2 : cur.toList[i]? = some (.int .i64 l[i]) := by
        have : (cur.toList.take (l.length * 1))[i]? = some (.int .i64 l[i]) := by rw [htake]; simp [hi]
        rw [List.getElem?_take] at this
        split at this
        · exact this
        · cases this
      have h3 : cur[i]? = some (.int .i64 l[i]) := by simpa using h2
      simp [World.cell?, hg, h3]
    refine ⟨_, ι, fun a => match φ a with
        | some x => some x
        | none => if a.block = g ∧ a.spot = none ∧ a.off < l.length then w'.cell? a else none, rfl, .refl _, Inv.below hs hb (fun a x hx => by simp only [hx]) (fun a x hx => ?_), .c (.ext _ _ _ _ _ (fun i _ => .int .i64 (l.getD i 0)) hn (fun i hi => ?_) (fun i j hi hj => ?_) (fun i j hi hj => rfl) (fun i j hi hj => ?_)), hf⟩
    · split at hx
      · rename_i y hy; exact .inl (by rw [hy, hx])
      · rename_i hy
        split at hx
        · rename_i hc; exact .inr ⟨by rw [hc.1]; exact hbase, hx⟩
        · cases hx
    · rw [getL_at (List.getElem?_eq_getElem hi)]; rfl
    · have h0 : j = 0 := by omega
      subst h0
      have e1 : (⟨g, 0, none⟩ : Addr).add (i * 1 + 0) = ⟨g, i, none⟩ := by rw [add_eq]; simp
      rw [e1]
      have e2 : φ ⟨g, i, none⟩ = none := by
        cases hv : φ ⟨g, i, none⟩ with
        | none => rfl
        | some x => have := cell_lt (hs.prot _ _ hv); simp only at this; omega
      have e3 : l.getD i 0 = l[i] := by simp [List.getD_eq_getElem?_getD, hi]
      rw [e3]
      show (match φ ⟨g, i, none⟩ with
        | some x => some x
        | none => if g = g ∧ (none : Option Nat) = none ∧ i < l.length then w'.cell? ⟨g, i, none⟩ else none) = _
      rw [e2]
      show (if g = g ∧ (none : Option Nat) = none ∧ i < l.length then w'.cell? ⟨g, i, none⟩ else none) = _
      rw [if_pos ⟨rfl, rfl, hi⟩]
      exact hcell i hi
    · have h0 : j = 0 := by omega
      subst h0
      rw [getL_at (List.getElem?_eq_getElem hi)]
      have : l.getD i 0 = l[i] := by simp [List.getD_eq_getElem?_getD, hi]
      rw [this]
      exact .int _ _
theorem keyI_enc (es : List (Int × Unit)) : (encM kI cT es).map keyI = keysZ es := by
  unfold encM keysZ
  rw [List.map_map]
  rfl
theorem sortedZ_ret (es : List (Int × Unit)) (hnd : (keysZ es).Nodup) (hr : ∀ k ∈ keysZ es, 0 ≤ k ∧ k < 1048576) :
    Ret Try.prog 56 [.fn 67 [] [.ptr 0 0]] [.cells [.map 1], setZ es] (eL 1 cI (sortZ (keysZ es))) [.cells [.map 1], setZ es] := by
  have hmx : maxLen = 9223372036854775807 := by decide
  have hN := nodup_lt (M := 1048576) hnd (fun k hk => by have := hr k hk; omega)
  have hkl : (keysZ es).length = es.length := by simp [keysZ]
  refine ⟨⟨_, _, Try.func56, by kernel_rfl, rfl⟩, fun ι φ w cargs hnone hsim hargs => ?_⟩
  have h0 := hsim.blk 0
  have h1 := hsim.blk 1
  obtain ⟨g0, c0, arr0, t0, e0, hh0, hs0, hr0, _⟩ := (show BlkOk ι φ w 0 (.cells [.map 1]) from h0)
  obtain ⟨g1, c1, arr1, clock, e1, hh1, hents, hst⟩ := (show BlkOk ι φ w 1 (setZ es) from h1)
  have hc0 : arr0[0]? = some (.map (some g1)) := by
    have := (hr0 0 (by simp)).2
    have hz : 0 < arr0.size := by rw [hs0]; simp
    rw [Array.getD_eq_getD_getElem?, Array.getElem?_eq_getElem hz] at this
    rw [Array.getElem?_eq_getElem hz]
    simp only [List.getD_cons_zero, Option.getD_some] at this
    have mv : ∀ u, AM.Rel ι φ (.map 1) u → u = .map (some g1) := fun u hu => by
      cases hu with
      | c h => cases h
      | map _ g' c' hm => rw [e1] at hm; simp only [Option.some.injEq, Prod.mk.injEq] at hm; rw [hm.1]
    rw [mv _ this]
  have hcell : w.cell? ⟨g0, 0, none⟩ = some (.map (some g1)) := by simp [World.cell?, hh0, hc0]
  have hwf : ∀ p ∈ encM kI cT es, (Lit.int .i64 (keyI p)).wf = true := fun p hp => by
    have : keyI p ∈ keysZ es := by rw [← keyI_enc]; exact List.mem_map_of_mem hp
    have := hr _ this
    simp [Lit.wf, IntKind.min, IntKind.max, IntKind.bits, IntKind.signed]
    omega
  obtain ⟨D0, hown, hhas, hsz⟩ := owns_mapZ Try.underlying3 hents hst hwf (by simp [encM]; omega) hh1
  rw [keyI_enc] at hhas
  have hlen : (encM kI cT es).length = es.length := by simp [encM]
  rw [hlen] at hsz
  have ha : cargs = #[.func (.func 67) #[] #[.pointer (some ⟨g0, 0, none⟩)]] := by
    have hl1 : cargs.size = 1 := by simpa using hargs.len
    have hr := hargs.rel 0 (by simp)
    obtain ⟨us, ws, hu, s1, s2, r1, r2⟩ := hr.fn_
    have r2 := r2 0 (by simp)
    obtain ⟨g, c, hm, hp⟩ := r2.ptr_
    rw [e0] at hm
    simp only [Option.some.injEq, Prod.mk.injEq] at hm
    have hus : us = #[] := Array.eq_empty_of_size_eq_zero (by simpa using s1)
    have hws : ws = #[.pointer (some ⟨g0, 0, none⟩)] := by
      have s2 : ws.size = 1 := by simpa using s2
      refine Array.ext (by simpa using s2) fun i hi hi' => ?_
      have : i = 0 := by omega
      subst this
      rw [Array.getD_eq_getD_getElem?, Array.getElem?_eq_getElem hi] at hp
      simpa [hm.1] using hp
    refine Array.ext (by simpa using hl1) fun i hi hi' => ?_
    have : i = 0 := by omega
    subst this
    rw [Array.getD_eq_getD_getElem?, Array.getElem?_eq_getElem hi] at hu
    simpa [hus, hws] using hu
  subst ha
  have hall : ∀ ss : List KZ, AllZ D0 ss → (ss.map fun x => x.1).Perm (keysZ es) := fun ss hss => by
    refine (List.perm_ext_iff_of_nodup ?_ hnd).2 fun a => ?_
    · exact List.nodup_iff_pairwise_ne.2 (List.pairwise_map.2 ((List.nodup_iff_pairwise_ne.1 hss.1).imp fun h e => h (Subtype.ext e)))
    · rw [List.mem_map]
      constructor
      · rintro ⟨x, hx, rfl⟩
        exact (hhas x.1).1 ((hss.2 x).1 hx)
      · intro h
        have h2 := hr a h
        refine ⟨⟨a, by simp [Lit.wf, IntKind.min, IntKind.max, IntKind.bits, IntKind.signed]; omega⟩, (hss.2 _).2 ((hhas a).2 h), rfl⟩
  have hstops : SeqStopsK Fence.wide (6 - 1 - 1 - 1) Try.prog 67 #[.pointer (some ⟨g0, 0, none⟩)] (fun x : KZ => #[encKZ x]) KeepsWalks (AllZ D0) (fun _ => True) (Maps.size D0) w :=
    Try.keysI_stops Fence.wide _ trivial rfl (by omega) g0 g1 _ D0 w (lt_of_get hh0) hcell hown
  have hmain := Try.sortedI 6 (by omega) #[.pointer (some ⟨g0, 0, none⟩)] (AllZ D0) (fun _ => True) (Maps.size D0) (by have := hsz; have := hlen; omega) (fun ss hss => by have := (hall ss hss).length_eq; rw [List.length_map] at this; omega) w hstops
  refine ((callsIn_wide (n := 6)).1 hmain).mono ?_
  rintro e w' ⟨v, ss, rfl, hS, hrow, hnil, hb⟩
  have hp := hall ss hS
  have hss : (ss.map fun x => x.1).mergeSort (fun x y => decide (x ≤ y)) = sortZ (keysZ es) := sortZ_eq hp
  have hln : ss.length = (sortZ (keysZ es)).length := by
    rw [(sortZ_perm _).length_eq, ← hp.length_eq, List.length_map]
  rw [hss, hln] at hrow
  have hnil' : v = .slice none 0 0 ↔ sortZ (keysZ es) = [] := by
    rw [hnil]
    constructor
    · intro h; exact List.eq_nil_of_length_eq_zero (by rw [← hln, h]; rfl)
    · intro h; exact List.eq_nil_of_length_eq_zero (by rw [hln, h]; rfl)
  exact ret_sliceZ hnone hsim hb _ hrow hnil'
end Go.Proofs.Ythjgnmpnagmeoaa

set_option linter.unusedVariables false
set_option linter.unusedSimpArgs false
set_option maxRecDepth 100000
namespace Go.Proofs.Ythjgnmpnagmeoaa
open Go.AM
theorem leRB {P : Program} {f : FuncId} {as' : List Val} {h h' : List Blk} {v v' : Val} (hr : Ret P f as' h v h') (hv : v.le v') : Ret P f as' h v' h' :=
  ⟨hr.1, fun ι φ w cargs h1 h2 h3 => (hr.2 ι φ w cargs h1 h2 h3).mono fun e w' ⟨cv, ι', φ', k1, k2, k3, k4, k5⟩ => ⟨cv, ι', φ', k1, k2, k3, hv _ _ _ k4, k5⟩⟩
theorem keysZ_ret (es : List (Int × Unit)) : Ret Try.prog 57 [.map 0] [setZ es] (.fn 67 [] [.ptr 1 0]) [setZ es, .cells [.map 0]] := by
  refine ret_of_body atCalls tok mixed Try.func57 (by kernel_rfl) rfl (k := 4) (rs := [.tmp 2]) (by kernel_rfl) (by kernel_rfl) ?_
  (conv => whnf) <;> repeat' (first | ((first | refine wN ?_ | refine wNc ?_ | refine wA ?_ | refine wB ?_ | refine wC ?_ | refine wD ?_ | refine vA ?_ | refine vB ?_ | refine vC ?_ | refine vD ?_ | refine uA ?_ | refine uB ?_ | refine uC ?_ | refine uD ?_); conv => whnf) | ((first | apply Pick.dec | apply Pick.beq | apply Cond.dec | apply Cond.beq | apply Cond.nd | apply Pick.nd | apply Pick.mk | apply Cond.mk) <;> intro h <;> conv => whnf))
  exact EndH.mk [0, 1] rfl rfl rfl
theorem rsorted_ret (es : List (Int × Unit)) (hnd : (keysZ es).Nodup) (hr : ∀ k ∈ keysZ es, 0 ≤ k ∧ k < 1048576) : Ret Try.prog 42 [.map 0] [setZ es] (eL 1 cI (sortZ (keysZ es))) [setZ es] := by
  have hel : (encM kI cT es).length = es.length := by simp [encM]
  cases es with
  | nil =>
    have h : Ret Try.prog 42 [.map 0] [setZ []] .nils [setZ []] := by
      refine ret_of_body atCalls tok mixed Try.func42 (by kernel_rfl) rfl (k := 9) (rs := [.tmp 2]) (by kernel_rfl) (by kernel_rfl) ?_
      (conv => whnf) <;> repeat' (first | ((first | refine wN ?_ | refine wNc ?_ | refine wA ?_ | refine wB ?_ | refine wC ?_ | refine wD ?_ | refine vA ?_ | refine vB ?_ | refine vC ?_ | refine vD ?_ | refine uA ?_ | refine uB ?_ | refine uC ?_ | refine uD ?_); conv => whnf) | ((first | apply Pick.dec | apply Pick.beq | apply Cond.dec | apply Cond.beq | apply Cond.nd | apply Pick.nd | apply Pick.mk | apply Cond.mk) <;> intro h <;> conv => whnf))
      exact EndH.mk [0] rfl rfl rfl
    rw [show sortZ (keysZ ([] : List (Int × Unit))) = [] by simp [sortZ, keysZ]]
    exact leRB h le_nils
  | cons p es =>
    have h1 := keysZ_ret (p :: es)
    have h2 := sortedZ_ret (p :: es) hnd hr
    have he : (encM kI cT (p :: es)).length = es.length + 1 := hel
    generalize sortZ (keysZ (p :: es)) = out at *
    generalize encM kI cT (p :: es) = m at *
    refine ret_of_body atCalls tok mixed Try.func42 (by kernel_rfl) rfl (k := 9) (rs := [.tmp 2]) (by kernel_rfl) (by kernel_rfl) ?_
    (conv => whnf) <;> repeat' (first | (refine CalledH.mk [0] _ _ rfl (by simp) h1 ?_; conv => whnf) | (refine CalledH.mk [1, 0] _ _ rfl (Nat.le_refl _) h2 ?_; conv => whnf) | ((first | refine wN ?_ | refine wNc ?_ | refine wA ?_ | refine wB ?_ | refine wC ?_ | refine wD ?_ | refine vA ?_ | refine vB ?_ | refine vC ?_ | refine vD ?_ | refine uA ?_ | refine uB ?_ | refine uC ?_ | refine uD ?_); conv => whnf) | ((first | apply Pick.dec | apply Pick.beq | apply Cond.dec | apply Cond.beq | apply Cond.nd | apply Pick.nd | apply Pick.mk | apply Cond.mk) <;> intro h <;> conv => whnf))
    exact EndH.mk [0] rfl rfl rfl
theorem reads_ret (l : List Se) (hL : LOk l) (n : Int) (hn : n ≤ 9223372036854775807) : Ret Try.prog 13 [eL 5 cSe l, .int .i64 n] [] (eL 1 cI (readsF l n)) [] := by
  have hO := of_ret l n hn hL.len hL.many
  have hl64 := hL.len
  by_cases h : (ofF l n).2.2 = true
  · obtain ⟨x, it, h1, h2, h3, h4, h5, h6, h7, h8, h9⟩ := ofF_true h
    have hix := (hL.ok x h2).2 it (List.mem_of_getElem? h8)
    have hxi := (hL.ok x h2).1
    have hW := rwalk_ret l hL (ofF l n).1 it.expr hix.wf []
    have hlt := readsW_lt l (ofF l n).1 it.expr
    have hnd := readsW_nodup l (ofF l n).1 it.expr
    have hmany := hL.many
    have hS := rsorted_ret _ hnd (fun k hk => by have := hlt k hk; omega)
    have g1 : getL cSe l (ofF l n).1.toNat = cSe x := getL_at h5
    have g2 : getL cIt x.items (ofF l n).2.1.toNat = cIt it := getL_at h8
    have hm : maxLen ≤ 9223372036854775807 := by decide
    unfold readsF
    rw [h9]
    rw [h] at hO
    clear hlt hnd
    by_cases hk : it.kind = 1
    · rw [if_neg (fun hh => hh.2 hk)]
      generalize ofF l n = r at *
      have hg : Ret Try.prog 13 [eL 5 cSe l, .int .i64 n] [] .nils [] := by
        refine ret_of_body atCalls tok mixed Try.func13 (by kernel_rfl) rfl (k := 48) (rs := [.tmp 4]) (by kernel_rfl) (by kernel_rfl) ?_
        (conv => whnf) <;> repeat' (first | ((conv => arg 1; whnf); rw [g1]; conv => whnf) | ((conv => arg 1; whnf); rw [g2]; conv => whnf) | ((first | refine wN ?_ | refine wNc ?_ | refine wA ?_ | refine wB ?_ | refine wC ?_ | refine wD ?_ | refine Called.mk _ _ (hO) ?_ | refine vA ?_ | refine vB ?_ | refine vC ?_ | refine vD ?_ | refine uA ?_ | refine uB ?_ | refine uC ?_ | refine uD ?_); conv => whnf) | ((first | apply Pick.dec | apply Pick.beq | apply Cond.dec | apply Cond.beq | apply Cond.nd | apply Pick.nd | apply Pick.mk | apply Cond.mk) <;> intro h <;> conv => whnf))
        exact End.mk rfl rfl
      exact hg.leR le_nils
    · rw [if_pos ⟨h, hk⟩]
      generalize readsW l (ofF l n).1 it.expr [] = es at *
      generalize sortZ (keysZ es) = out at *
      generalize ofF l n = r at *
      refine ret_of_body atCalls tok mixed Try.func13 (by kernel_rfl) rfl (k := 48) (rs := [.tmp 4]) (by kernel_rfl) (by kernel_rfl) ?_
      (conv => whnf) <;> repeat' (first | ((conv => arg 1; whnf); rw [g1]; conv => whnf) | ((conv => arg 1; whnf); rw [g2]; conv => whnf) | (refine CalledH.mk [4, 0, 1, 5, 3, 2] _ _ rfl (by simp) hW ?_; conv => whnf) | (refine CalledH.mk [2] _ _ rfl (Nat.le_refl _) hS ?_; conv => whnf) | ((first | refine wN ?_ | refine wNc ?_ | refine wA ?_ | refine wB ?_ | refine wC ?_ | refine wD ?_ | refine Called.mk _ _ (hO) ?_ | refine vA ?_ | refine vB ?_ | refine vC ?_ | refine vD ?_ | refine uA ?_ | refine uB ?_ | refine uC ?_ | refine uD ?_); conv => whnf) | ((first | apply Pick.dec | apply Pick.beq | apply Cond.dec | apply Cond.beq | apply Cond.nd | apply Pick.nd | apply Pick.mk | apply Cond.mk) <;> intro h <;> conv => whnf))
      exact End.mk rfl rfl
  · have h' : (ofF l n).2.2 = false := by simpa using h
    have e : readsF l n = [] := if_neg fun hh => h hh.1
    rw [e]
    rw [h'] at hO
    generalize ofF l n = r at *
    have hg : Ret Try.prog 13 [eL 5 cSe l, .int .i64 n] [] .nils [] := by
      refine ret_of_body atCalls tok mixed Try.func13 (by kernel_rfl) rfl (k := 48) (rs := [.tmp 4]) (by kernel_rfl) (by kernel_rfl) ?_
      (conv => whnf) <;> repeat' (first | ((first | refine wN ?_ | refine wNc ?_ | refine wA ?_ | refine wB ?_ | refine wC ?_ | refine wD ?_ | refine Called.mk _ _ (hO) ?_ | refine vA ?_ | refine vB ?_ | refine vC ?_ | refine vD ?_ | refine uA ?_ | refine uB ?_ | refine uC ?_ | refine uD ?_); conv => whnf) | ((first | apply Pick.dec | apply Pick.beq | apply Cond.dec | apply Cond.beq | apply Cond.nd | apply Pick.nd | apply Pick.mk | apply Cond.mk) <;> intro h <;> conv => whnf))
      exact End.mk rfl rfl
    exact hg.leR le_nils
end Go.Proofs.Ythjgnmpnagmeoaa

