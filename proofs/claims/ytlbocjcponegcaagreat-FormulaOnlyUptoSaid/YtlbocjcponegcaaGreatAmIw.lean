/- Rising lists that are put together one by one; the same by sorting a set. -/
import Derived.Test.YtlbocjcponegcaaGreatAmHn
import Derived.Sort.Walk0
import Derived.DeepKeys4
import Derived.Maps.Keyed
import Derived.RangeFuncFrom
import Derived.RangeFuncLeaves
import Derived.Test.YtlbocjcponegcaaGreatAmHi
import Derived.Test.YtlbocjcponegcaaGreatAmHr
import Derived.Test.YtlbocjcponegcaaGreatAmHy
set_option linter.unusedVariables false
set_option linter.unusedSimpArgs false
set_option maxRecDepth 100000
namespace Go.AM
section
variable {κ : Type} {lt : κ → κ → Bool}
structure LinB (lt : κ → κ → Bool) : Prop where
  irrefl : ∀ x, lt x x = false
  trans : ∀ x y z, lt x y = true → lt y z = true → lt x z = true
  tri : ∀ x y, lt x y = false → lt y x = false → x = y
theorem LinB.asym (h : LinB lt) {x y : κ} (hx : lt x y = true) : lt y x = false := by
  cases hy : lt y x with
  | false => rfl
  | true => have := h.trans x y x hx hy; rw [h.irrefl] at this; cases this
theorem LinB.gt (h : LinB lt) {x n : κ} (h1 : ¬ lt x n = true) (h2 : ¬ x = n) : lt n x = true := by
  cases hy : lt n x with
  | true => rfl
  | false => exact absurd (h.tri x n (by simpa using h1) hy) h2
theorem LinB.ntrans (h : LinB lt) {x y z : κ} (h1 : lt x y = false) (h2 : lt y z = false) : lt x z = false := by
  cases h3 : lt x z with
  | false => rfl
  | true =>
    cases h4 : lt y x with
    | true => rw [h.trans _ _ _ h4 h3] at h2; cases h2
    | false => have := h.tri _ _ h4 h1; subst this; rw [h3] at h2; cases h2
abbrev RisG (lt : κ → κ → Bool) (l : List κ) : Prop := l.Pairwise fun a b => lt a b = true
theorem ris_nodup (h : LinB lt) {l : List κ} (hl : RisG lt l) : l.Nodup := List.nodup_iff_pairwise_ne.2 (hl.imp fun {a b} h1 e => by subst e; rw [h.irrefl] at h1; cases h1)
/-- two rising lists of the same are the same -/
theorem ris_ext (h : LinB lt) : ∀ {l m : List κ}, RisG lt l → RisG lt m → (∀ x, x ∈ l ↔ x ∈ m) → l = m
  | [], [], _, _, _ => rfl
  | [], y :: m, _, _, hm => absurd ((hm y).2 (by simp)) (by simp)
  | x :: l, [], _, _, hm => absurd ((hm x).1 (by simp)) (by simp)
  | x :: l, y :: m, hl, hm, he => by
    obtain ⟨l1, l2⟩ := List.pairwise_cons.1 hl
    obtain ⟨m1, m2⟩ := List.pairwise_cons.1 hm
    have exy : x = y := by
      rcases List.mem_cons.1 ((he x).1 (by simp)) with e | hx
      · exact e
      · rcases List.mem_cons.1 ((he y).2 (by simp)) with e | hy
        · exact e.symm
        · have a := h.asym (l1 y hy); rw [m1 x hx] at a; cases a
    subst exy
    refine congrArg (x :: ·) (ris_ext h l2 m2 fun z => ?_)
    have hz := he z
    rw [List.mem_cons, List.mem_cons] at hz
    constructor
    · intro h1
      rcases hz.1 (.inr h1) with e | h2
      · subst e; have a := l1 z h1; rw [h.irrefl] at a; cases a
      · exact h2
    · intro h1
      rcases hz.2 (.inr h1) with e | h2
      · subst e; have a := m1 z h1; rw [h.irrefl] at a; cases a
      · exact h2
variable [DecidableEq κ]
def putG (lt : κ → κ → Bool) (n : κ) : List κ → List κ
  | [] => [n]
  | x :: r => if lt x n = true then x :: putG lt n r else if x = n then x :: r else n :: x :: r
theorem putG_mem (n : κ) : ∀ (l : List κ) {y : κ}, y ∈ putG lt n l ↔ y = n ∨ y ∈ l
  | [], y => by simp [putG]
  | x :: r, y => by
    unfold putG
    split
    · rw [List.mem_cons, putG_mem n r, List.mem_cons]
      constructor
      · rintro (h1 | h1 | h1) <;> simp [h1]
      · rintro (h1 | h1 | h1) <;> simp [h1]
    · split
      · rename_i _ e; subst e; simp
      · simp
theorem putG_ris (h : LinB lt) (n : κ) : ∀ {l : List κ}, RisG lt l → RisG lt (putG lt n l)
  | [], _ => List.pairwise_singleton _ _
  | x :: r, hl => by
    obtain ⟨h1, h2⟩ := List.pairwise_cons.1 hl
    unfold putG
    by_cases h3 : lt x n = true
    · rw [if_pos h3]
      refine List.pairwise_cons.2 ⟨fun y hy => ?_, putG_ris h n h2⟩
      rcases (putG_mem n r).1 hy with rfl | hy
      · exact h3
      · exact h1 y hy
    · rw [if_neg h3]
      by_cases h4 : x = n
      · rw [if_pos h4]; exact hl
      · rw [if_neg h4]
        have h5 := h.gt h3 h4
        refine List.pairwise_cons.2 ⟨fun y hy => ?_, hl⟩
        rcases List.mem_cons.1 hy with rfl | hy
        · exact h5
        · exact h.trans _ _ _ h5 (h1 y hy)
theorem putG_len (n : κ) : ∀ (l : List κ), (putG lt n l).length ≤ l.length + 1
  | [] => by simp [putG]
  | x :: r => by
    unfold putG
    have := putG_len n r
    split
    · simp only [List.length_cons]; omega
    · split <;> simp only [List.length_cons] <;> omega
end
/-! texts and columns -/
def ltN (a b : ByteArray) : Bool := Op.bytesLess a.toList b.toList
def ltK (a b : CK) : Bool := ltN a.1 b.1 || (decide (a.1 = b.1) && ltN a.2 b.2)
theorem ba_toList (a : ByteArray) : a.toList = a.data.toList := ByteArray.toList_eq a
theorem ltN_eq (a b : ByteArray) : ltN a b = decide (a.data.toList < b.data.toList) := by unfold ltN; rw [Go.Proofs.bytesLess_eq, ba_toList, ba_toList]
theorem linN : LinB ltN := by
  refine ⟨fun x => ?_, fun x y z h1 h2 => ?_, fun x y h1 h2 => ?_⟩
  · rw [ltN_eq, decide_eq_false_iff_not]; exact List.lt_irrefl _
  · rw [ltN_eq, decide_eq_true_eq] at *; exact List.lt_trans h1 h2
  · rw [ltN_eq, decide_eq_false_iff_not] at *
    have : x.data.toList = y.data.toList := List.le_antisymm h2 h1
    exact ByteArray.ext (Array.ext' this)
theorem linK : LinB ltK := by
  refine ⟨fun x => ?_, fun x y z h1 h2 => ?_, fun x y h1 h2 => ?_⟩
  · unfold ltK; simp [linN.irrefl]
  · unfold ltK at *
    simp only [Bool.or_eq_true, Bool.and_eq_true, decide_eq_true_eq] at *
    rcases h1 with h1 | ⟨e1, h1⟩ <;> rcases h2 with h2 | ⟨e2, h2⟩
    · exact .inl (linN.trans _ _ _ h1 h2)
    · exact .inl (e2 ▸ h1)
    · exact .inl (e1 ▸ h2)
    · exact .inr ⟨e1.trans e2, linN.trans _ _ _ h1 h2⟩
  · unfold ltK at *
    simp only [Bool.or_eq_false_iff, Bool.and_eq_false_iff, decide_eq_false_iff_not] at *
    have e1 := linN.tri _ _ h1.1 h2.1
    have e2 := linN.tri x.2 y.2 (h1.2.resolve_left fun h => h e1) (h2.2.resolve_left fun h => h e1.symm)
    exact Prod.ext e1 e2
end Go.AM

set_option linter.unusedVariables false
set_option linter.unusedSimpArgs false
set_option maxRecDepth 100000
namespace Go.AM
open Go.Maps
/-- a column's key, as a value -/
abbrev encCK (x : CK) : Value := .agg #[.string x.1, .string x.2]
theorem encCK_inj {x y : CK} (h : encCK x = encCK y) : x = y := by
  simp only [encCK, Value.agg.injEq, Array.mk.injEq, List.cons.injEq, Value.string.injEq, and_true] at h
  exact Prod.ext h.1 h.2
/-- how it is read -/
def litCK (x : CK) : Lit := .string (keyBytes [.string x.1.data.toList, .string x.2.data.toList])
/-- What is asked of the type. -/
structure CkTy (P : Program) (k ts : TypeId) : Prop where
  fs : ∃ f0 f1 : Field, P.underlying k = some (.struct #[f0, f1]) ∧ f0.type = ts ∧ f1.type = ts ∧ f0.offset = 0 ∧ f1.offset = 1 ∧ (f0.name != "_") = true ∧ (f1.name != "_") = true
  str : P.underlying ts = some .string
  key : P.keyType k = true
  cells : P.cellsOf k = 2
  one : P.cellsOf ts = 1
  pos : 0 < P.types.size
theorem keyOf_ck {P : Program} {k ts : TypeId} (h : CkTy P k ts) (v : Value) (kl : Lit) : keyOf P k v = some kl ↔ ∃ x : CK, v = encCK x ∧ x.1.size ≤ maxLen ∧ x.2.size ≤ maxLen ∧ kl = litCK x := by
  obtain ⟨⟨f0, f1, hk, t0, t1, o0, o1, n0, n1⟩, hs, hkt, hc, h1, hp⟩ := h
  obtain ⟨d, hd⟩ : ∃ d, P.types.size = d + 1 := ⟨P.types.size - 1, by omega⟩
  have hstr : ∀ (c : Value) (ls : List Lit), P.keyLits P.types.size ts [c] = some ls ↔ ∃ s : ByteArray, c = .string s ∧ s.size ≤ maxLen ∧ ls = [.string s.data.toList] := fun c ls => by
    rw [hd]
    cases c <;> simp only [Program.keyLits, hs] <;> first
      | (constructor
         · intro h; split at h
           · rename_i hsz; injection h with h; exact ⟨_, rfl, hsz, h.symm⟩
           · cases h
         · rintro ⟨s, e, h2, rfl⟩; injection e with e; subst e; rw [if_pos h2])
      | (constructor
         · intro h; cases h
         · rintro ⟨s, e, _⟩; cases e)
  have key : ∀ cs : List Value, cs.length = 2 → ∀ ls, P.keyLits (P.types.size + 1) k cs = some ls ↔ ∃ x : CK, cs = [.string x.1, .string x.2] ∧ x.1.size ≤ maxLen ∧ x.2.size ≤ maxLen ∧ ls = [.string x.1.data.toList, .string x.2.data.toList] := fun cs hl ls => by
    match cs, hl with
    | [a, b], _ =>
      have e1 : P.keyLits (P.types.size + 1) k [a, b] = ((P.keyLits P.types.size ts [a]).bind fun la => (P.keyLits P.types.size ts [b]).map fun lb => [la, lb]).map List.flatten := by
        have hall : ([a, b].length = P.cellsOf k ∧ (#[f0, f1] : Array Field).all (·.name != "_") = true) := ⟨by rw [hc]; rfl, by simp [n0, n1]⟩
        conv => lhs; unfold Program.keyLits
        rw [hk]
        simp only [if_pos hall, List.mapM_cons, List.mapM_nil, t0, t1, o0, o1, h1, List.drop_zero, List.take_succ_cons, List.take_zero, List.drop_succ_cons]
        cases P.keyLits P.types.size ts [a] <;> cases P.keyLits P.types.size ts [b] <;> rfl
      rw [e1]
      constructor
      · intro h
        cases ha : P.keyLits P.types.size ts [a] with
        | none => rw [ha] at h; cases h
        | some la =>
          cases hb : P.keyLits P.types.size ts [b] with
          | none => rw [ha, hb] at h; cases h
          | some lb =>
            rw [ha, hb] at h
            obtain ⟨s, rfl, s1, rfl⟩ := (hstr a la).1 ha
            obtain ⟨t, rfl, t1, rfl⟩ := (hstr b lb).1 hb
            injection h with h
            exact ⟨(s, t), rfl, s1, t1, h.symm⟩
      · rintro ⟨x, e, s1, s2, rfl⟩
        simp only [List.cons.injEq, and_true] at e
        obtain ⟨rfl, rfl⟩ := e
        rw [(hstr _ _).2 ⟨x.1, rfl, s1, rfl⟩, (hstr _ _).2 ⟨x.2, rfl, s2, rfl⟩]; rfl
  unfold keyOf
  rw [hk]
  simp only
  constructor
  · intro h
    split at h
    · rename_i hf
      rw [Bool.and_eq_true] at hf
      have hf := hf.2
      unfold Value.formed at hf
      split at hf
      · rename_i cs _hkt
        rw [hk] at hf
        simp only [hc, beq_iff_eq] at hf
        rw [Option.map_eq_some_iff] at h
        obtain ⟨ls, h2, rfl⟩ := h
        obtain ⟨x, e, s1, s2, rfl⟩ := (key cs.toList (by simpa using hf) ls).1 h2
        refine ⟨x, ?_, s1, s2, rfl⟩
        show Value.agg cs = _
        congr 1
        exact Array.ext' e
      · cases hf
      · rw [hk] at hf; cases hf
    · cases h
  · rintro ⟨x, rfl, s1, s2, rfl⟩
    have hf : (P.keyType k && (encCK x).formed P k) = true := by
      rw [hkt, Bool.true_and]; unfold Value.formed; rw [hk]; simp [hc]
    rw [if_pos hf]
    have := (key [.string x.1, .string x.2] rfl _).2 ⟨x, rfl, s1, s2, rfl⟩
    show (P.keyLits (P.types.size + 1) k [.string x.1, .string x.2]).map _ = _
    rw [this]; rfl
end Go.AM

set_option linter.unusedVariables false
set_option linter.unusedSimpArgs false
set_option maxRecDepth 100000
namespace Go.AM
open Go Go.RowKit
section
variable {F : Fence} {n : Nat} {P : Program}
theorem wpIn_gather {α : Type} {g : Operand} {ps : Array Tmp} {assign body : Code} {Q : Exit → Act → World → Prop} {a : Act} {w : World} (hro : F.round = none) (h1 : 1 ≤ n) {gf : Nat} {lb : Array Value} (hg : a.eval g = .func (.func gf) #[] lb) (hFg : F.fn gf)
    (eg : ∀ args w, (callFunc gf args).run P w = .ok (.enter gf args) w) {encs : α → Array Value} {Kp : World → World → Prop} {S Sp : List α → Prop} {N : Nat} {w0 : World} (hseq : SeqStopsK F (n - 1) P gf lb encs Kp S Sp N w0)
    (hKt : ∀ {A B C : World}, Kp A B → Kp B C → Kp A C) (hKb : ∀ (W : World) (l : Nat) (o o' : Obj), w.heap.size ≤ l → W.heap[l]? = some o → o.isCells = false → o.isWalk = false → Kp W (W.putObj l o')) (hKa : ∀ (W : World) (o : Obj), Kp W (W.alloc o))
    (hb0 : Below w0.heap.size w0 w) (hps : ∀ x, (encs x).size = ps.size) (I : List α → World → Prop) (hI : OwnFrom w.heap.size I) (h0 : I [] w) (bx : α → Obj) (hbx : ∀ x, (bx x).isCells = true) (fr : α → Nat → Act)
    (hassign : ∀ (l : Nat) (x : α) (W : World) (K : Act → World → Prop), K (fr x W.heap.size) (W.alloc (bx x)) →
      assign.wpIn (F.inRound l) (n - 1 - 1) P (Exit.then K (fun _ _ _ => False)) { tmps := (ps.zip (encs x)).foldl (fun t (p, v) => t.setIfInBounds p v) a.tmps, defers := [] } W)
    (hbody : ∀ (l : Nat) (pre : List α) (x : α) (W : World) (b : Nat), I pre W → pre.length < N → W.heap[b]? = some (bx x) → w.heap.size ≤ b →
      body.wpIn (F.inRound l) (n - 1 - 1) P (fun e _ W' => e = .normal ∧ KeepsOthers W W' ∧ Kp W W' ∧ I (pre ++ [x]) W') (fr x b) W)
    (hdone : ∀ (D : Nat) (xs : List α) (W : World), w.heap.size ≤ D → S xs → I xs W → W.heap[D]? = some (.deferred (some [])) → Q .normal { a with defers := { target := .collected D, args := #[] } :: a.defers } W) :
    (Code.rangeFunc g ps assign body).wpIn F n P Q a w := by
  refine wpIn_rangeFunc fun fn hfn => ?_
  rw [hro]
  -- the loop's record, whatever its state
  generalize hrec : (fun st : LoopState => ({ state := st, pending := none, fn := fn, tmps := a.tmps, params := ps, assign := assign, body := body, defers := w.heap.size } : Loop)) = rec
  have hst : ∀ st, (rec st).state = st ∧ (rec st).params = ps ∧ (rec st).fn = fn ∧ (rec st).tmps = a.tmps ∧ (rec st).assign = assign ∧ (rec st).body = body ∧ (rec st).pending = none := fun st => by subst hrec; exact ⟨rfl, rfl, rfl, rfl, rfl, rfl, rfl⟩
  have hset : ∀ st st', { rec st with state := st' } = rec st' := fun st st' => by subst hrec; rfl
  have hset' : ∀ st st', { rec st with state := st', pending := none } = rec st' := fun st st' => by subst hrec; rfl
  let D := w.heap.size
  let L := w.heap.size + 1
  let W1 := (w.alloc (.deferred (some []))).alloc (.loop (rec .ready))
  have hlen1 : W1.heap.size = w.heap.size + 2 := by simp [W1]
  have hL1 : W1.heap[L]? = some (.loop (rec .ready)) := by
    have := World.alloc_heap_new (w.alloc (.deferred (some []))) (.loop (rec .ready))
    rwa [World.size_alloc] at this
  have hD1 : W1.heap[D]? = some (.deferred (some [])) := (Below.heap_alloc _ _ _ (by simp [D])).trans (World.alloc_heap_new w _)
  have hI1 : I [] W1 := hI.alloc _ (hI.alloc _ h0)
  have hb1 : Below w0.heap.size w0 W1 := (hb0.alloc hb0.size _).alloc (by simp; exact Nat.le_trans hb0.size (Nat.le_succ _)) _
  refine ⟨L, [{ target := .collected D, args := #[] }], W1, { target := .fn (.func gf) lb, args := #[.func (.yield L) #[] #[]] }, W1, gf, #[.func (.yield L) #[] #[]] ++ lb, W1, ?_, ?_, ?_, ?_, fun _ => h1, ?_⟩
  · have := run_enterLoop_outer (P := P) (w := w) fn a.tmps ps assign body
    rw [this]
    subst hrec; rfl
  · simp only [resolve, hg]
    simp [go_sem]
  · intro f' hf'
    simp [Target.leads] at hf'
    subst hf'
    exact hFg
  · simp [invoke, go_sem, eg]
  -- what the iterator is told to keep: the caller's own, the record that is ready, the calls that wait
  let J : List α → World → Prop := fun pre W => I pre W ∧ W.heap[L]? = some (.loop (rec .ready)) ∧ W.heap[D]? = some (.deferred (some []))
  have hJ : AbidesFrom W1.heap.size J := by
    rintro s A B row ⟨i1, i2, i3⟩ hgr hrow
    have hw : ∀ r, row = some r → ∃ o : Obj, A.heap[r]? = some o ∧ o.isWalk = true := fun r e => (hrow r e).2
    refine ⟨hI s A B row i1 hgr fun r e => ?_, (grownBy_keeps hgr hw i2 rfl).trans i2, (grownBy_keeps hgr hw i3 rfl).trans i3⟩
    obtain ⟨h2, o, h3, h4⟩ := hrow r e
    exact ⟨by omega, o, h3, Obj.not_cells_of_walk h4⟩
  refine (hseq L J (fun _ _ => False) W1 hb1 hJ (fun _ _ _ _ h _ _ => h) ?_ ⟨hI1, hL1, hD1⟩).mono ?_
  · rintro pre x W ⟨i1, i2, i3⟩ hpl
    have hLW : L < W.heap.size := (Array.getElem?_eq_some_iff.1 i2).1
    have hy := run_yield (P := P) (args := encs x) i2 (by rw [(hst _).2.1]; exact hps x)
    obtain ⟨_, e2, e3, e4, e5, e6, _⟩ := hst .ready
    rw [e2, e3, e4, e5, e6] at hy
    refine ⟨fn, _, assign, body, hy, roundIn_of_wpIn hfn (hassign _ x W _ ?_)⟩
    -- the variable's block lies there; the record says that a round is under way
    have j2 : (W.alloc (bx x)).heap[L]? = some (.loop (rec .ready)) := (Below.heap_alloc _ _ _ hLW).trans i2
    have hLA : L < (W.alloc (bx x)).heap.size := (Array.getElem?_eq_some_iff.1 j2).1
    have hbr := run_beginRound (P := P) j2 (hst _).1
    rw [hset] at hbr
    refine ⟨_, hbr, ?_⟩
    let W2 := (W.alloc (bx x)).putObj L (.loop (rec .busy))
    have hi2 : I pre W2 := hI.putObj _ (hI.alloc _ i1) (Nat.le_succ _) j2 rfl
    have hv2 : W2.heap[W.heap.size]? = some (bx x) := (World.putObj_heap_other (by omega)).trans (World.alloc_heap_new W _)
    have hd2 : W2.heap[D]? = some (.deferred (some [])) := (World.putObj_heap_other (by simp [D, L])).trans ((Below.heap_alloc _ _ _ (Array.getElem?_eq_some_iff.1 i3).1).trans i3)
    have hk2 : Kp W W2 := hKt (hKa W (bx x)) (hKb _ _ _ _ (Nat.le_succ _) j2 rfl rfl)
    refine wpIn_mono (hbody L pre x W2 W.heap.size hi2 hpl hv2 (by omega)) ?_
    rintro e a3 W3 ⟨rfl, k1, k2, k3⟩
    have hl3 : W3.heap[L]? = some (.loop (rec .busy)) := k1.same L _ (World.putObj_heap_same hLA) rfl
    have her := run_endRound (P := P) none hl3
    have hd3 := k1.same D _ hd2 rfl
    have hrd : ({ rec .busy with state := if (none : Option Code).isNone then LoopState.ready else LoopState.done, pending := none } : Loop) = rec .ready := hset' .busy .ready
    rw [hrd] at her
    refine ⟨_, _, her, .inl ⟨rfl, ⟨hI.putObj _ k3 (Nat.le_succ _) hl3 rfl, World.putObj_heap_same (Array.getElem?_eq_some_iff.1 hl3).1, (World.putObj_heap_other (by simp [D, L])).trans hd3⟩, hKt (hKt hk2 k2) (hKb _ _ _ _ (Nat.le_succ _) hl3 rfl rfl)⟩⟩
  · rintro e W2 ⟨⟨v, rfl⟩, (⟨xs, hS, i1, i2, i3⟩ | ⟨_, _, h⟩)⟩
    · have hel := run_endLoop (P := P) i2 (by rw [(hst _).1]; simp)
      rw [(hst _).2.2.2.2.2.2] at hel
      exact ⟨none, _, hel, hdone D xs _ (Nat.le_refl _) hS (hI.putObj _ i1 (Nat.le_succ _) i2 rfl) ((World.putObj_heap_other (by simp [D, L])).trans i3)⟩
    · exact h.elim
end
end Go.AM

set_option linter.unusedVariables false
set_option linter.unusedSimpArgs false
set_option maxRecDepth 100000
namespace Go.AM
section
variable {κ : Type} [DecidableEq κ]
def keysG (es : List (κ × Unit)) : List κ := es.map (·.1)
theorem keysG_put (k : κ) : ∀ (es : List (κ × Unit)) {x : κ}, x ∈ keysG (aput k () es) ↔ x = k ∨ x ∈ keysG es
  | [], x => by simp [aput, keysG]
  | p :: l, x => by
    unfold aput
    split
    · rename_i e; subst e; simp [keysG]
    · have ih := keysG_put k l (x := x)
      simp only [keysG, List.map_cons, List.mem_cons] at ih ⊢
      rw [ih]
      constructor
      · rintro (h | h | h) <;> simp [h]
      · rintro (h | h | h) <;> simp [h]
theorem keysG_nodup (k : κ) : ∀ {es : List (κ × Unit)}, (keysG es).Nodup → (keysG (aput k () es)).Nodup
  | [], _ => by simp [aput, keysG]
  | p :: l, h => by
    unfold aput
    obtain ⟨h1, h2⟩ := List.nodup_cons.1 (show (p.1 :: keysG l).Nodup from h)
    split
    · rename_i e
      exact List.nodup_cons.2 ⟨by rw [← e]; exact h1, h2⟩
    · rename_i e
      refine List.nodup_cons.2 ⟨fun hm => ?_, keysG_nodup k h2⟩
      rcases (keysG_put k l).1 hm with h3 | h3
      · exact e h3
      · exact h1 h3
theorem keysG_len (k : κ) : ∀ (es : List (κ × Unit)), (aput k () es).length ≤ es.length + 1
  | [] => by simp [aput]
  | p :: l => by
    unfold aput
    have := keysG_len k l
    split <;> simp only [List.length_cons] <;> omega
end
/-- at each node the same is kept -/
theorem walk_both {α β : Type} {R : α → β → Prop} {f : Xp → α → α} {g : Xp → β → β} (h : ∀ y a b, y.Wf → R a b → R (f y a) (g y b)) (x : Xp) : x.Wf → ∀ a b, R a b → R (walkF f x a) (walkF g x b) := by
  refine Xp.ind (Q := fun x => x.Wf → ∀ a b, R a b → R (walkF f x a) (walkF g x b)) ?_ x
  clear x
  intro x ih hx a b hab
  obtain ⟨k, o, n, s, v, sc, p, l⟩ := x
  have hl : ∀ (m : List Xp), (∀ y ∈ m, y ∈ l) → ∀ a b, R a b → R (walkL f m a) (walkL g m b) := by
    intro m
    induction m with
    | nil => intro _ a b h; rw [walkL_nil, walkL_nil]; exact h
    | cons y r ihr =>
      intro hm a b h
      rw [walkL_cons, walkL_cons]
      exact ihr (fun z hz => hm z (List.mem_cons_of_mem _ hz)) _ _ (ih y (hm y (List.mem_cons_self ..)) (hx.arg (hm y (List.mem_cons_self ..))) a b h)
  rw [walkF_mk, walkF_mk]
  exact hl l (fun y hy => hy) _ _ (h _ a b hx hab)
theorem walk_len2 {α : Type} (sz : α → Nat) {f : Xp → α → α} (h : ∀ y a, sz (f y a) ≤ sz a + 1) (x : Xp) : ∀ a, sz (walkF f x a) ≤ sz a + cntX x := by
  refine Xp.ind (Q := fun x => ∀ a, sz (walkF f x a) ≤ sz a + cntX x) ?_ x
  clear x
  intro x ih a
  obtain ⟨k, o, n, s, v, sc, p, l⟩ := x
  have hl : ∀ (m : List Xp), (∀ y ∈ m, y ∈ l) → ∀ a, sz (walkL f m a) ≤ sz a + cntL m := by
    intro m
    induction m with
    | nil => intro _ a; rw [walkL_nil, cntL_nil]; omega
    | cons y r ihr =>
      intro hm a
      rw [walkL_cons, cntL_cons]
      have h1 := ih y (hm y (List.mem_cons_self ..)) a
      have h2 := ihr (fun z hz => hm z (List.mem_cons_of_mem _ hz)) (walkF f y a)
      omega
  rw [walkF_mk, cntX_mk]
  have h1 := h (.mk k o n s v sc p l) a
  have h2 := hl l (fun y hy => hy) (f (.mk k o n s v sc p l) a)
  omega
/-! a list's row, one more element in its midst -/
/-! the document's lists -/
def nameR (y : Xp) (out : List ByteArray) : List ByteArray := if y.kind = 2 then putG ltN y.name out else out
def colR (y : Xp) (out : List CK) : List CK := if y.kind = 10 then putG ltK (colK y.op y.sect y.name) out else out
structure SameN (es : List (ByteArray × Unit)) (out : List ByteArray) : Prop where
  nd : (keysG es).Nodup
  ris : RisG ltN out
  mem : ∀ x, x ∈ keysG es ↔ x ∈ out
  fit : ∀ x ∈ out, x.size ≤ maxLen
structure SameC (es : List (CK × Unit)) (out : List CK) : Prop where
  nd : (keysG es).Nodup
  ris : RisG ltK out
  mem : ∀ x, x ∈ keysG es ↔ x ∈ out
  fit : ∀ x ∈ out, x.1.size ≤ maxLen ∧ x.2.size ≤ maxLen
theorem sameN (x : Xp) (hx : x.Wf) : SameN (walkF nameS x []) (walkF nameR x []) := by
  refine walk_both (R := SameN) (fun y a b hy h => ?_) x hx [] [] ⟨by simp [keysG], .nil, by simp [keysG], by simp⟩
  unfold nameS nameR
  by_cases hk : y.kind = 2
  · rw [if_pos hk, if_pos hk]
    refine ⟨keysG_nodup _ h.nd, putG_ris linN _ h.ris, fun z => ?_, fun z hz => ?_⟩
    · rw [keysG_put, putG_mem, h.mem]
    · rcases (putG_mem _ _).1 hz with rfl | hz
      · exact hy.one.name
      · exact h.fit z hz
  · rw [if_neg hk, if_neg hk]; exact h
theorem sameC (x : Xp) (hx : x.Wf) : SameC (walkF colS x []) (walkF colR x []) := by
  refine walk_both (R := SameC) (fun y a b hy h => ?_) x hx [] [] ⟨by simp [keysG], .nil, by simp [keysG], by simp⟩
  unfold colS colR
  by_cases hk : y.kind = 10
  · rw [if_pos hk, if_pos hk]
    refine ⟨keysG_nodup _ h.nd, putG_ris linK _ h.ris, fun z => ?_, fun z hz => ?_⟩
    · rw [keysG_put, putG_mem, h.mem]
    · rcases (putG_mem _ _).1 hz with rfl | hz
      · unfold colK
        split
        · exact ⟨hy.one.sect, by show (0 : Nat) ≤ _; omega⟩
        · exact ⟨hy.one.sect, hy.one.name⟩
      · exact h.fit z hz
  · rw [if_neg hk, if_neg hk]; exact h
theorem nameS_len (x : Xp) : (walkF nameS x []).length ≤ cntX x := by
  have := walk_len2 (fun l : List (ByteArray × Unit) => l.length) (f := nameS) (fun y a => by
    unfold nameS; split
    · exact keysG_len _ _
    · omega) x []
  simpa using this
theorem colS_len (x : Xp) : (walkF colS x []).length ≤ cntX x := by
  have := walk_len2 (fun l : List (CK × Unit) => l.length) (f := colS) (fun y a => by
    unfold colS; split
    · exact keysG_len _ _
    · omega) x []
  simpa using this
theorem nameR_len (x : Xp) (a : List ByteArray) : (walkF nameR x a).length ≤ a.length + cntX x := walk_len2 (fun l : List ByteArray => l.length) (f := nameR) (fun y a => by
    unfold nameR; split
    · exact putG_len _ _
    · omega) x a
theorem colR_len (x : Xp) (a : List CK) : (walkF colR x a).length ≤ a.length + cntX x := walk_len2 (fun l : List CK => l.length) (f := colR) (fun y a => by
    unfold colR; split
    · exact putG_len _ _
    · omega) x a
end Go.AM

