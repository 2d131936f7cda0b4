/- slices.Sorted over a map's keys, as a contract: the shelf's theorems carried to the abstract machine. -/
import Derived.Test.YtlbocjcponegcaaGreatAmHf
import Derived.Test.YtlbocjcponegcaaGreatAmGU
import Derived.Shelf.SlIter.Nil
import Derived.Test.YtlbocjcponegcaaGreatAmHj
set_option linter.unusedVariables false
set_option linter.unusedSimpArgs false
set_option maxRecDepth 100000
namespace Go.AM
open Go.RowKit Go.Maps Go.Sort Go.Shelf Go.MapKept
open Go.Proofs (encStr)

/-- the key's bytes -/
def keyStr (p : MEnt) : List UInt8 := match p.1 with
  | [.s x] => x.data.toList
  | _ => []
def cB (x : List UInt8) : List Val := [.str ⟨x.toArray⟩]
/-- the keys, sorted -/
def sortedK (es : List MEnt) : List (List UInt8) := (es.map keyStr).mergeSort leB

/-- More was made: nothing of what there was has turned. -/
theorem Inv.below {ι : Map} {φ φ' : Prot} {h : List Blk} {w w' : World} (hs : Sim ι φ (getH h) w) (hb : Below w.heap.size w w') (hp : ProtLe φ φ')
    (hn : ∀ a v, φ' a = some v → φ a = some v ∨ (w.heap.size ≤ a.block ∧ w'.cell? a = some v)) : Inv w (handed ι h) φ ι φ' (getH h) w' := by
  have plt : ∀ b g c, getH h b ≠ .gone → ι b = some (g, c) → g < w.heap.size := fun b g c hx e => by
    obtain ⟨g', c', e', hl⟩ := (hs.blk b).place hx
    rw [e] at e'; injection e' with e'; injection e' with e1 _; omega
  have gone_ge : ∀ b, getH h b ≠ .gone → b < h.length := fun b hx => by
    rcases Nat.lt_or_ge b h.length with h1 | h1
    · exact h1
    · exact absurd (getH_ge h1) hx
  refine ⟨⟨fun b => ?_, hs.inj, fun a v ha => ?_⟩, ⟨hb.os, hb.tape, hb.output, hb.size, fun g hg _ => hb.block g hg⟩, fun b g c hx e => ?_, fun a ha => ?_, hp⟩
  · refine (hs.blk b).mono (.refl _) hp (fun g c e hx => hb.block g (plt b g c hx e)) (fun g c e hx off sp hf => ?_)
    cases hv : φ' ⟨g, off, sp⟩ with
    | none => rfl
    | some v =>
      rcases hn _ _ hv with h1 | h1
      · rw [hf] at h1; cases h1
      · have := plt b g c hx e
        have h2 := h1.1
        simp only at h2
        omega
  · rcases hn _ _ ha with h1 | h1
    · have hc := hs.prot a v h1
      rw [← hc]
      exact World.cell?_of_block (hb.block a.block (cell_lt hc))
    · exact h1.2
  · exact .inl ⟨b, c, gone_ge b hx, hx, e⟩
  · cases hv : φ' a with
    | none => exact absurd hv ha
    | some v =>
      rcases hn _ _ hv with h1 | h1
      · exact .inl (by rw [h1]; simp)
      · exact .inr (.inr h1.1)

/-- A new slice that was made, as memory that is never written again. -/
theorem ret_slice {ι : Map} {φ : Prot} {h : List Blk} {w w' : World} {v : Value} {e : TypeId} (hf : ∀ b, h.length ≤ b → ι b = none) (hs : Sim ι φ (getH h) w) (hb : Below w.heap.size w w') (l : List (List UInt8))
    (hr : w'.ownsRow w.heap.size e 1 v l.length (l.map encStr)) (hnil : v = .slice none 0 0 ↔ l = []) :
    ∃ cv ι' φ', Ending.returned v = .returned cv ∧ MapLe ι ι' ∧ Inv w (handed ι h) φ ι' φ' (getH h) w' ∧ Rel ι' φ' (eL 1 cB l) cv ∧ ∀ b, h.length ≤ b → ι' b = none := by
  obtain ⟨hlen, h1 | ⟨g, cap, cur, rfl, hbase, hg, hn, hcap, hcs, htake⟩⟩ := hr
  · obtain ⟨rfl, h0⟩ := h1
    have : l = [] := List.eq_nil_of_length_eq_zero h0
    subst this
    exact ⟨_, ι, φ, rfl, .refl _, Inv.below hs hb (.refl _) (fun a v ha => .inl ha), .c (.extNil _ _), hf⟩
  · have hcell : ∀ i, (hi : i < l.length) → w'.cell? ⟨g, i, none⟩ = some (encStr l[i]) := fun i hi => by
      have h2 : cur.toList[i]? = some (encStr l[i]) := by
        have : (cur.toList.take (l.length * 1))[i]? = some (encStr l[i]) := by rw [htake]; simp [hi]
        rw [List.getElem?_take] at this
        split at this
        · exact this
        · cases this
      have h3 : cur[i]? = some (encStr l[i]) := by simpa using h2
      simp [World.cell?, hg, h3]
    refine ⟨_, ι, fun a => match φ a with
        | some x => some x
        | none => if a.block = g ∧ a.spot = none ∧ a.off < l.length then w'.cell? a else none, rfl, .refl _, Inv.below hs hb (fun a x hx => by simp only [hx]) (fun a x hx => ?_), .c (.ext _ _ _ _ _ (fun i _ => encStr (l.getD i [])) hn (fun i hi => ?_) (fun i j hi hj => ?_) (fun i j hi hj => rfl) (fun i j hi hj => ?_)), hf⟩
    · split at hx
      · rename_i y hy; exact .inl (by rw [hy, hx])
      · rename_i hy
        split at hx
        · rename_i hc; exact .inr ⟨by rw [hc.1]; exact hbase, hx⟩
        · cases hx
    · rw [getL_at (List.getElem?_eq_getElem hi)]; rfl
    · have h0 : j = 0 := by omega
      subst h0
      have e1 : (⟨g, 0, none⟩ : Addr).add (i * 1 + 0) = ⟨g, i, none⟩ := by rw [add_eq]; simp
      rw [e1]
      have e2 : φ ⟨g, i, none⟩ = none := by
        cases hv : φ ⟨g, i, none⟩ with
        | none => rfl
        | some x => have := cell_lt (hs.prot _ _ hv); simp only at this; omega
      have e3 : l.getD i [] = l[i] := by simp [List.getD_eq_getElem?_getD, hi]
      rw [e3]
      show (match φ ⟨g, i, none⟩ with
        | some x => some x
        | none => if g = g ∧ (none : Option Nat) = none ∧ i < l.length then w'.cell? ⟨g, i, none⟩ else none) = _
      rw [e2]
      show (if g = g ∧ (none : Option Nat) = none ∧ i < l.length then w'.cell? ⟨g, i, none⟩ else none) = _
      rw [if_pos ⟨rfl, rfl, hi⟩]
      exact hcell i hi
    · have h0 : j = 0 := by omega
      subst h0
      rw [getL_at (List.getElem?_eq_getElem hi)]
      have : l.getD i [] = l[i] := by simp [List.getD_eq_getElem?_getD, hi]
      rw [this]
      exact .str _

theorem keyStr_val {vag : Bool} {φ : Prot} {p : MEnt} {e : MapEntry} (h : EntR φ false vag [.s] p e) : e.key = .string ⟨(keyStr p).toArray⟩ := by
  obtain ⟨l, hl, hk⟩ := h.key
  have hs := h.shape
  rw [hl] at hs
  cases l with
  | s x => rw [hk]; unfold keyStr; rw [hl]; rfl
  | b x => simp [Leaf.lk] at hs
  | i k n => simp [Leaf.lk] at hs
theorem keys_perm {P : Program} {k : TypeId} {vag : Bool} {φ : Prot} (hk : P.underlying k = some .string) (R : Value → Option (DataW Unit × List MemPlace)) (hR : ∀ v, R v = some (.nil, [])) :
    ∀ {es : List MEnt} {arr : List MapEntry}, EntsR φ false vag [.s] es arr → (∀ p ∈ es, (keyStr p).length ≤ maxLen) →
      (arr.map (Go.WideElems.rg P k R)).map (fun p => strOf p.1) = es.map keyStr ∧ ∀ x ∈ arr, ∃ y, Go.WideElems.rd P k R x = some y
  | [], [], _, _ => ⟨rfl, fun x hx => by cases hx⟩
  | p :: es, e :: arr, h, hl => by
    obtain ⟨i1, i2⟩ := keys_perm hk R hR h.2 (fun q hq => hl q (List.mem_cons_of_mem _ hq))
    have hkey : keyOf P k e.key = some (.string (keyStr p)) := by
      rw [keyStr_val h.1]
      simp only [keyOf, hk, mapKey]
      rw [if_pos (by have := hl p (List.mem_cons_self ..); simpa [ByteArray.size] using this)]
    obtain ⟨ky, vl, bn⟩ := e
    have hrd : Go.WideElems.rd P k R ⟨ky, vl, bn⟩ = some (.string (keyStr p), .nil) := Go.WideElems.rd_mk hkey (hR vl)
    refine ⟨?_, fun x hx => ?_⟩
    · simp only [List.map_cons, i1, Go.WideElems.rg_of hrd]
      rfl
    · rcases List.mem_cons.1 hx with rfl | hx
      · exact ⟨_, hrd⟩
      · exact i2 x hx
  | [], _ :: _, h, _ => h.elim
  | _ :: _, [], h, _ => h.elim
theorem owns_map {P : Program} {k : TypeId} {vag : Bool} {φ : Prot} {w : World} {g clock : Nat} {arr : Array MapEntry} {es : List MEnt} (hk : P.underlying k = some .string) (hents : EntsR φ false vag [.s] es arr.toList)
    (hst : Stamped arr clock) (hl : ∀ p ∈ es, (keyStr p).length ≤ maxLen) (hn : es.length ≤ maxLen) (hh : w.heap[g]? = some (.map arr clock)) :
    ∃ D0 : DataW Unit, w.ownsMap P k (fun _ => some (.nil, [])) g es.length D0 ∧ (strKeys D0).Perm (es.map keyStr) ∧ Maps.size D0 = es.length := by
  obtain ⟨i1, i2⟩ := keys_perm hk (fun _ => some (.nil, [])) (fun _ => rfl) hents hl
  have hsz : arr.size = es.length := by have := hents.length; simpa using this
  refine ⟨_, ⟨arr, clock, hh, ⟨by omega, hst, i2⟩, by omega, rfl⟩, ?_, ?_⟩
  · show (List.map (fun p : Lit × DataW Unit => strOf p.1) _).Perm _
    rw [← i1]
    exact (Go.WideShapes.sorted_perm _).map _
  · have := (Go.WideShapes.sorted_perm (arr.toList.map (Go.WideElems.rg P k (fun _ => some ((.nil : DataW Unit), ([] : List MemPlace)))))).length_eq
    simp only [List.length_map, Array.length_toList] at this
    show List.length _ = _
    omega

/-- THE CONTRACT of slices.Sorted over the closure that maps.Keys makes, out of what the shelf says of them. -/
theorem sorted_ret {P : Program} {F G : FuncId} {k : TypeId} {vag : Bool} {es : List MEnt} (hfn : ∃ fn c, P.funcs[F]? = some fn ∧ (fn.name == "runtime.NumGoroutine") = false ∧ fn.body = some c) (hk : P.underlying k = some .string)
    (hc : ∀ (Bm b nn : Nat) (D0 : DataW Unit) (R : Value → Option (DataW Unit × List MemPlace)) (w : World), Bm < w.heap.size → w.cell? ⟨Bm, 0, none⟩ = some (.map (some b)) → w.ownsMap P k R b nn D0 → Maps.size D0 ≤ maxLen → Maps.size D0 * 16 ≤ 140737488355328 →
      Calls P F #[.func (.func G) #[] #[.pointer (some ⟨Bm, 0, none⟩)]] w fun e w' => ∃ (v : Value) (ss : List (List UInt8)), e = .returned v ∧ ss.Perm (strKeys D0) ∧
        w'.ownsRow w.heap.size k 1 v ss.length ((ss.mergeSort leB).map encStr) ∧ (v = .slice none 0 0 ↔ ss = []) ∧ Below w.heap.size w w')
    (hl : ∀ p ∈ es, (keyStr p).length ≤ maxLen) (hn : es.length * 16 ≤ 140737488355328) :
    Ret P F [.fn G [] [.ptr 0 0]] [.cells [.map 1], .map false vag [.s] es] (eL 1 cB (sortedK es)) [.cells [.map 1], .map false vag [.s] es] := by
  have hmx : maxLen = 9223372036854775807 := by decide
  refine ⟨hfn, fun ι φ w cargs hnone hsim hargs => ?_⟩
  have h0 := hsim.blk 0
  have h1 := hsim.blk 1
  obtain ⟨g0, c0, arr0, t0, e0, hh0, hs0, hr0, _⟩ := (show BlkOk ι φ w 0 (.cells [.map 1]) from h0)
  obtain ⟨g1, c1, arr1, clock, e1, hh1, hents, hst⟩ := (show BlkOk ι φ w 1 (.map false vag [.s] es) from h1)
  have hc0 : arr0[0]? = some (.map (some g1)) := by
    have := (hr0 0 (by simp)).2
    have hz : 0 < arr0.size := by rw [hs0]; simp
    rw [Array.getD_eq_getD_getElem?, Array.getElem?_eq_getElem hz] at this
    rw [Array.getElem?_eq_getElem hz]
    simp only [List.getD_cons_zero, Option.getD_some] at this
    have mv : ∀ u, Rel ι φ (.map 1) u → u = .map (some g1) := fun u hu => by
      cases hu with
      | c h => cases h
      | map _ g' c' hm => rw [e1] at hm; simp only [Option.some.injEq, Prod.mk.injEq] at hm; rw [hm.1]
    rw [mv _ this]
  have hcell : w.cell? ⟨g0, 0, none⟩ = some (.map (some g1)) := by simp [World.cell?, hh0, hc0]
  obtain ⟨D0, hown, hperm, hsz⟩ := owns_map hk hents hst hl (by omega) hh1
  have ha : cargs = #[.func (.func G) #[] #[.pointer (some ⟨g0, 0, none⟩)]] := by
    have hl1 : cargs.size = 1 := by simpa using hargs.len
    have hr := hargs.rel 0 (by simp)
    obtain ⟨us, ws, hu, s1, s2, r1, r2⟩ := hr.fn_
    have r2 := r2 0 (by simp)
    obtain ⟨g, c, hm, hp⟩ := r2.ptr_
    rw [e0] at hm
    simp only [Option.some.injEq, Prod.mk.injEq] at hm
    have hus : us = #[] := Array.eq_empty_of_size_eq_zero (by simpa using s1)
    have hws : ws = #[.pointer (some ⟨g0, 0, none⟩)] := by
      have s2 : ws.size = 1 := by simpa using s2
      refine Array.ext (by simpa using s2) fun i hi hi' => ?_
      have : i = 0 := by omega
      subst this
      rw [Array.getD_eq_getD_getElem?, Array.getElem?_eq_getElem hi] at hp
      simpa [hm.1] using hp
    refine Array.ext (by simpa using hl1) fun i hi hi' => ?_
    have : i = 0 := by omega
    subst this
    rw [Array.getD_eq_getD_getElem?, Array.getElem?_eq_getElem hi] at hu
    simpa [hus, hws] using hu
  subst ha
  refine (hc g0 g1 _ D0 _ w (lt_of_get hh0) hcell hown (by omega) (by omega)).mono ?_
  rintro e w' ⟨v, ss, rfl, hp, hrow, hnil, hb⟩
  have hss : ss.mergeSort leB = sortedK es := mergeSort_of_perm (hp.trans hperm)
  have hlen : ss.length = (sortedK es).length := by rw [← hss, List.length_mergeSort]
  rw [hss, hlen] at hrow
  have hnil' : v = .slice none 0 0 ↔ sortedK es = [] := by
    rw [hnil]
    constructor
    · intro h; exact List.eq_nil_of_length_eq_zero (by rw [← hlen, h]; rfl)
    · intro h; exact List.eq_nil_of_length_eq_zero (by rw [hlen, h]; rfl)
  exact ret_slice hnone hsim hb (sortedK es) hrow hnil'
end Go.AM

set_option linter.unusedVariables false
set_option linter.unusedSimpArgs false
set_option maxRecDepth 100000
namespace Go.AM
section
variable {α : Type}
mutual
/-- f at each node, the node ahead of its arguments -/
def walkF (f : Xp → α → α) : Xp → α → α
  | .mk k o n s v sc p ar, a => walkL f ar (f (.mk k o n s v sc p ar) a)
def walkL (f : Xp → α → α) : List Xp → α → α
  | [], a => a
  | x :: r, a => walkL f r (walkF f x a)
end
theorem walkL_nil (f : Xp → α → α) (a : α) : walkL f [] a = a := by unfold walkL; rfl
theorem walkL_cons (f : Xp → α → α) (x : Xp) (r : List Xp) (a : α) : walkL f (x :: r) a = walkL f r (walkF f x a) := by rw [walkL]
theorem walkF_mk (f : Xp → α → α) (k o : Int) (n s : ByteArray) (v : Vl) (sc p : Int) (ar : List Xp) (a : α) : walkF f (.mk k o n s v sc p ar) a = walkL f ar (f (.mk k o n s v sc p ar) a) := by rw [walkF]
end
def cT (_ : Unit) : List Val := [.bool true]
/-- a set of texts, of columns -/
abbrev setS (l : List (ByteArray × Unit)) : Blk := .map false false [.s] (encM kN cT l)
abbrev setC (l : List (CK × Unit)) : Blk := .map true false [.s, .s] (encM kC cT l)
def nameS (x : Xp) (l : List (ByteArray × Unit)) : List (ByteArray × Unit) := if x.kind = 2 then aput x.name () l else l
def colS (x : Xp) (l : List (CK × Unit)) : List (CK × Unit) := if x.kind = 10 then aput (colK x.op x.sect x.name) () l else l
/-- the texts of a set, sorted -/
def textsS (l : List (ByteArray × Unit)) : List (List UInt8) := (l.map fun p => p.1.data.toList).mergeSort Go.leB
theorem sortedK_enc (l : List (ByteArray × Unit)) : sortedK (encM kN cT l) = textsS l := by
  unfold sortedK textsS encM
  rw [List.map_map]
  rfl
end Go.AM

set_option linter.unusedVariables false
set_option linter.unusedSimpArgs false
set_option maxRecDepth 100000
namespace Go.AM
open Go.RowKit
theorem Inv.drop {w0 w : World} {S : Nat → Prop} {φ0 φ : Prot} {ι : Map} {H : Nat → Blk} (hI : Inv w0 S φ0 ι φ H w) : Inv w0 S φ0 (fun _ => none) φ (getH []) w := by
  have e : ∀ b, getH [] b = .gone := fun b => getH_ge (Nat.zero_le _)
  exact ⟨⟨fun b => by rw [e]; trivial, fun b b' g c c' h => absurd (e b) h, hI.sim.prot⟩, hI.keep, fun b g c h => absurd (e b) h, hI.new, hI.le⟩
/-- What is handed back is outer memory from then on. -/
theorem Ret.lend {P : Program} {f : FuncId} {ar : List Val} {v v' : Val} {h1 : List Blk} (hr : Ret P f ar [] v h1) (hl : lentAK (h1.map raiseB) [] none v fun x _ o => x = v' ∧ optP o) (hc : closedR v' = true) : Ret P f ar [] v' [] := by
  refine ⟨hr.1, fun ι φ w cargs hn hs ht => (hr.2 ι φ w cargs hn hs ht).mono ?_⟩
  rintro e w' ⟨cv, ι', φ', rfl, hm, hI, hv, hend⟩
  obtain ⟨x, r', o', ⟨rfl, ho⟩, _, hL⟩ := lentAK_ok hl
  obtain ⟨_, hL⟩ := hL ho
  obtain ⟨φ2, hp, hI2, hv2⟩ := hL _ _ _ _ _ _ (getH (h1.map raiseB)) cv (fun _ _ => rfl) (hI.raise fun b => by
    rcases Nat.lt_or_ge b h1.length with hb | hb
    · exact .inr (by simp [getH, List.getD_eq_getElem?_getD, hb])
    · exact .inl (by rw [getH_ge hb, getH_ge (by simpa using hb)])) hv
  have hm0 : MapLe ι (fun _ => none) := fun b p hb => by rw [hn b (Nat.zero_le _)] at hb; cases hb
  exact ⟨cv, fun _ => none, φ2, rfl, hm0, hI2.drop, hv2.closedR_ hc, fun _ _ => rfl⟩
end Go.AM

