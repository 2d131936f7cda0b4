/- What is below an item: who reads it, by one step or more. -/
import Derived.Test.YtafiechoplbieaaAmIf
import Derived.Test.YtafiechoplbieaaAmHf
import Derived.Test.YtafiechoplbieaaAmHn
import Derived.Test.YtafiechoplbieaaAmGV
set_option linter.unusedVariables false
set_option linter.unusedSimpArgs false
set_option maxRecDepth 100000
namespace Go.AM
inductive Below (g : List (List Int)) (n : Int) : Int → Prop
  | one {k : Nat} (h : k < g.length) (hn : n ∈ g[k]) : Below g n (k : Int)
  | more {k : Nat} {j : Int} (h : k < g.length) (hj : j ∈ g[k]) (hb : Below g n j) : Below g n (k : Int)
/-- who was found to be below -/
structure BOk (g : List (List Int)) (n : Int) (B : List Bool) : Prop where
  len : B.length = g.length
  snd : ∀ k : Nat, k < g.length → B.getD k false = true → Below g n (k : Int)
theorem getB_set {B : List Bool} {k i : Nat} (h : k < B.length) : (B.set k true).getD i false = if i = k then true else B.getD i false := by
  rw [List.getD_eq_getElem?_getD, List.getElem?_set]
  by_cases hi : k = i
  · subst hi; simp [h]
  · rw [if_neg hi, if_neg (fun e => hi e.symm), ← List.getD_eq_getElem?_getD]
theorem BOk.set {g : List (List Int)} {n : Int} {B : List Bool} (h : BOk g n B) {k : Nat} (hk : k < g.length) {j : Int} (hj : j ∈ g[k]) (hjr : 0 ≤ j ∧ j < (g.length : Int)) (hb : j = n ∨ B.getD j.toNat false = true) : BOk g n (B.set k true) := by
  refine ⟨by rw [List.length_set]; exact h.len, fun i hi ht => ?_⟩
  rw [getB_set (by rw [h.len]; exact hk)] at ht
  split at ht
  · rename_i e
    subst e
    rcases hb with rfl | hb
    · exact .one hk hj
    · have := h.snd j.toNat (by omega) hb
      rw [Int.toNat_of_nonneg hjr.1] at this
      exact .more hk hj this
  · exact h.snd i hi ht
theorem count_set : ∀ {B : List Bool} {k : Nat}, k < B.length → B.getD k false = false → (B.set k true).count false + 1 = B.count false
  | [], _, h, _ => by simp at h
  | b :: B, 0, _, hf => by
    have : b = false := by simpa using hf
    subst this
    simp
  | b :: B, k + 1, h, hf => by
    have := count_set (B := B) (k := k) (by simpa using h) (by simpa using hf)
    rw [List.set_cons_succ, List.count_cons, List.count_cons]
    omega
end Go.AM

set_option linter.unusedVariables false
set_option linter.unusedSimpArgs false
set_option maxRecDepth 100000
namespace Go.AM
structure SOk (M : Nat) (es : List (Int × Unit)) : Prop where
  nd : (keysZ es).Nodup
  lt : ∀ k ∈ keysZ es, 0 ≤ k ∧ k < (M : Int)
theorem SOk.len {M : Nat} {es : List (Int × Unit)} (h : SOk M es) : es.length ≤ M := by
  have := nodup_lt h.nd h.lt
  simpa [keysZ] using this
theorem SOk.put {M : Nat} {es : List (Int × Unit)} (h : SOk M es) {k : Int} (hk : 0 ≤ k ∧ k < (M : Int)) (hn : ¬ (aget k es).isSome = true) : SOk M (aput k () es) ∧ (aput k () es).length = es.length + 1 := by
  have hn : k ∉ keysZ es := fun hm => hn (aget_some.2 hm)
  rw [aput_new hn]
  refine ⟨⟨?_, ?_⟩, by simp⟩
  · have : keysZ (es ++ [(k, ())]) = keysZ es ++ [k] := by simp [keysZ]
    rw [this]
    refine List.nodup_append.2 ⟨h.nd, by simp, fun a ha b hb => ?_⟩
    have : b = k := by simpa using hb
    subst this
    exact fun e => hn (e ▸ ha)
  · intro j hj
    have : keysZ (es ++ [(k, ())]) = keysZ es ++ [k] := by simp [keysZ]
    rw [this] at hj
    rcases List.mem_append.1 hj with hj | hj
    · exact h.lt j hj
    · obtain rfl : j = k := by simpa using hj
      exact hk
end Go.AM

set_option linter.unusedVariables false
set_option linter.unusedSimpArgs false
set_option maxRecDepth 100000
namespace Go.AM
end Go.AM

set_option linter.unusedVariables false
set_option linter.unusedSimpArgs false
set_option maxRecDepth 100000
namespace Go.AM
noncomputable section
open Go.RowKit

/-- What a piece of code does, whoever shows it. -/
structure Holds (P : Program) (n : Nat) (c : Code) (tm : List Val) (hp : List Blk) (K : Kont) : Prop where
  run : ∀ (w0 : World) (S : Nat → Prop) (φ0 : Prot) (ι0 : Map) (Q : Exit → Act → World → Prop) (a : Act) (w : World), St w0 S φ0 ι0 n tm hp a w →
    (∀ e tm hp a w, K e tm hp → St w0 S φ0 ι0 n tm hp a w → Q e.to a w) → c.wp P Q a w
theorem Holds.seq {P : Program} {n : Nat} {c d : Code} {tm : List Val} {hp : List Blk} {K : Kont} (h : Holds P n c tm hp (thenK (fun tm hp K => Holds P n d tm hp K) K)) : Holds P n (.seq c d) tm hp K := by
  refine ⟨fun w0 S φ0 ι0 Q a w hs hQ => ?_⟩
  refine wp_seq (h.run w0 S φ0 ι0 _ a w hs fun e tm hp a w hk hs => ?_)
  cases e with
  | normal => exact hk.run w0 S φ0 ι0 Q a w hs hQ
  | exit id => exact hQ (.exit id) tm hp a w hk hs
  | goto l => exact hQ (.goto l) tm hp a w hk hs
  | ret => exact hQ .ret tm hp a w hk hs

end
end Go.AM

set_option linter.unusedVariables false
set_option linter.unusedSimpArgs false
set_option maxRecDepth 100000
namespace Go.AM
noncomputable section
open Go.RowKit

def noM : Map := fun _ => none
def noH : Nat → Blk := fun _ => .gone
structure Grid (φ : Prot) (w : World) (O : Nat → Prop) (g0 : Nat) (tI : TypeId) (us : List (List Int)) (gU cU : Nat) (arr : Array Value) (G C : Nat → Nat) : Prop where
  box : ∃ t, w.heap[g0]? = some (.cells #[.slice (some ⟨gU, 0, none⟩) us.length cU] t (0, 0))
  row : ∃ t, w.heap[gU]? = some (.cells arr t (0, 0))
  size : arr.size = cU
  len : us.length ≤ cU
  one : ∀ i, i < arr.size → plain (arr.getD i undef) = true
  nil : ∀ i, i < us.length → us.getD i [] = [] → arr.getD i undef = .slice none 0 0
  inner : ∀ i, i < us.length → us.getD i [] ≠ [] → arr.getD i undef = .slice (some ⟨G i, 0, none⟩) (us.getD i []).length (C i) ∧ (us.getD i []).length ≤ C i ∧
    BlkOk (fun _ => some (G i, C i)) φ w 0 (.row tI 1 (us.getD i []).length (getL cI (us.getD i [])) 0) ∧ G i ≠ g0 ∧ G i ≠ gU ∧ O (G i)
  inj : ∀ i j, i < us.length → j < us.length → us.getD i [] ≠ [] → us.getD j [] ≠ [] → G i = G j → i = j
  ne : g0 ≠ gU
  lo0 : O g0
  loU : O gU
  free0 : ∀ off sp, φ ⟨g0, off, sp⟩ = none
  freeU : ∀ off sp, φ ⟨gU, off, sp⟩ = none
/-- a row's block under another name -/
theorem row_at {ι ι' : Map} {φ : Prot} {w : World} {b b' : Nat} {t : TypeId} {sz n pr : Nat} {get : Nat → List Val} (h : BlkOk ι φ w b (.row t sz n get pr)) (e : ι' b' = ι b) : BlkOk ι' φ w b' (.row t sz n get pr) := by
  obtain ⟨g, c, arr, e1, rest⟩ := h
  exact ⟨g, c, arr, e.trans e1, rest⟩
theorem row_lt {φ : Prot} {w : World} {g c b : Nat} {t : TypeId} {sz n pr : Nat} {get : Nat → List Val} (h : BlkOk (fun _ => some (g, c)) φ w b (.row t sz n get pr)) : g < w.heap.size ∧ (pr = 0 → ∀ off sp, φ ⟨g, off, sp⟩ = none) := by
  obtain ⟨g', c', arr, e1, hh, _, _, _, _, _, _, _, _, hf⟩ := h
  injection e1 with e1; injection e1 with e1 _; subst e1
  exact ⟨lt_of_get hh, fun hp off sp => hf off sp (by simp [hp])⟩
/-- Two runs, one after the other. -/
theorem Inv.next {w0 w w' : World} {S S' : Nat → Prop} {φ0 φ φ' : Prot} {ι ι' : Map} {H H' : Nat → Blk} (h : Inv w0 S φ0 ι φ H w) (k : Inv w S' φ ι' φ' H' w') (hS : ∀ g, S' g → S g ∨ w0.heap.size ≤ g) : Inv w0 S φ0 ι' φ' H' w' := by
  have hsz := h.keep.size
  refine ⟨k.sim, ⟨k.keep.os.trans h.keep.os, k.keep.tape.trans h.keep.tape, k.keep.output.trans h.keep.output, Nat.le_trans hsz k.keep.size, fun g hg hs => ?_⟩, fun b g c hb e => ?_, fun a ha => ?_, h.le.trans k.le⟩
  · rw [k.keep.block g (by omega) fun hs' => by
      rcases hS g hs' with h1 | h1
      · exact hs h1
      · omega]
    exact h.keep.block g hg hs
  · rcases k.own b g c hb e with h1 | h1
    · exact hS g h1
    · exact .inr (by omega)
  · rcases k.new a ha with h1 | h1 | h1
    · exact h.new a h1
    · exact .inr (hS _ h1)
    · exact .inr (.inr (by omega))
theorem Grid.frame {φ φ' : Prot} {w w' : World} {O : Nat → Prop} {g0 gU cU : Nat} {tI : TypeId} {us : List (List Int)} {arr : Array Value} {G C : Nat → Nat} (h : Grid φ w O g0 tI us gU cU arr G C)
    (hw : ∀ g, g < w.heap.size → w'.heap[g]? = w.heap[g]?) (hp : ProtLe φ φ') (hn : ∀ a, φ' a ≠ none → φ a ≠ none ∨ w.heap.size ≤ a.block) : Grid φ' w' O g0 tI us gU cU arr G C := by
  obtain ⟨t0, hb⟩ := h.box
  obtain ⟨tU, hr⟩ := h.row
  have free : ∀ g, g < w.heap.size → (∀ off sp, φ ⟨g, off, sp⟩ = none) → ∀ off sp, φ' ⟨g, off, sp⟩ = none := fun g hg hf off sp => by
    cases hx : φ' ⟨g, off, sp⟩ with
    | none => rfl
    | some v =>
      rcases hn ⟨g, off, sp⟩ (by rw [hx]; simp) with h1 | h1
      · exact absurd (hf off sp) h1
      · have h1 : w.heap.size ≤ g := h1
        omega
  refine ⟨⟨t0, (hw _ (lt_of_get hb)).trans hb⟩, ⟨tU, (hw _ (lt_of_get hr)).trans hr⟩, h.size, h.len, h.one, h.nil, fun i hi hu => ?_, h.inj, h.ne, h.lo0, h.loU, free _ (lt_of_get hb) h.free0, free _ (lt_of_get hr) h.freeU⟩
  obtain ⟨h1, h2, h3, h4, h5, h6⟩ := h.inner i hi hu
  obtain ⟨hl, hf⟩ := row_lt h3
  refine ⟨h1, h2, h3.mono (.refl _) hp (fun g c e _ => ?_) (fun g c e _ off sp hx => ?_), h4, h5, h6⟩
  · injection e with e; injection e with e1 _; subst e1; exact hw _ hl
  · injection e with e; injection e with e1 _; subst e1; exact free _ hl (hf rfl) off sp

section
variable (w0 : World) (S : Nat → Prop) (φ0 : Prot) (g0 : Nat) (tI : TypeId)
/-- The state where a grid stands. -/
def GS (us : List (List Int)) (tm : List Val) (a : Act) (w : World) : Prop :=
  ∃ φ gU cU arr G C, Inv w0 S φ0 noM φ noH w ∧ TmOk noM φ tm a.tmps ∧ a.defers = [] ∧ Grid φ w (fun g => S g ∨ w0.heap.size ≤ g) g0 tI us gU cU arr G C
abbrev KontG := Ex → List (List Int) → List Val → Prop
structure HoldsG (P : Program) (c : Code) (us : List (List Int)) (tm : List Val) (K : KontG) : Prop where
  run : ∀ (Q : Exit → Act → World → Prop) (a : Act) (w : World), GS w0 S φ0 g0 tI us tm a w → (∀ e us tm a w, K e us tm → GS w0 S φ0 g0 tI us tm a w → Q e.to a w) → c.wp P Q a w
variable {w0 S φ0 g0 tI} {P : Program} {T : TypeId → TD} {R : Nat → List Oper → Bool}
theorem HoldsG.seq {c d : Code} {us : List (List Int)} {tm : List Val} {K : KontG} (h : HoldsG w0 S φ0 g0 tI P c us tm fun e us tm => match e with
    | .normal => HoldsG w0 S φ0 g0 tI P d us tm K
    | e => K e us tm) : HoldsG w0 S φ0 g0 tI P (.seq c d) us tm K := by
  refine ⟨fun Q a w hs hQ => ?_⟩
  refine wp_seq (h.run _ a w hs fun e us tm a w hk hs => ?_)
  cases e with
  | normal => exact hk.run Q a w hs hQ
  | exit id => exact hQ (.exit id) us tm a w hk hs
  | goto l => exact hQ (.goto l) us tm a w hk hs
  | ret => exact hQ .ret us tm a w hk hs
theorem HoldsG.mono {c : Code} {us : List (List Int)} {tm : List Val} {K K' : KontG} (h : HoldsG w0 S φ0 g0 tI P c us tm K) (hk : ∀ e us tm, K e us tm → K' e us tm) : HoldsG w0 S φ0 g0 tI P c us tm K' :=
  ⟨fun Q a w hs hQ => h.run Q a w hs fun e us tm a w hk' hs => hQ e us tm a w (hk _ _ _ hk') hs⟩
theorem HoldsG.block {id : Nat} {c : Code} {us : List (List Int)} {tm : List Val} {K : KontG} (h : HoldsG w0 S φ0 g0 tI P c us tm fun e us tm => K (match e with
    | .exit i => match i == id with
      | true => .normal
      | false => .exit i
    | e => e) us tm) : HoldsG w0 S φ0 g0 tI P (.block id c) us tm K := by
  refine ⟨fun Q a w hs hQ => ?_⟩
  refine wp_block (h.run _ a w hs fun e us tm a w hk hs => ?_)
  cases e with
  | normal => exact hQ .normal us tm a w hk hs
  | exit i =>
    simp only [Ex.to, Exit.inBlock]
    cases hi : i == id with
    | true =>
      simp only [hi] at hk
      rw [beq_iff_eq] at hi; rw [if_pos hi]; exact hQ .normal us tm a w hk hs
    | false =>
      simp only [hi] at hk
      rw [beq_eq_false_iff_ne] at hi; rw [if_neg hi]; exact hQ (.exit i) us tm a w hk hs
  | goto l => exact hQ (.goto l) us tm a w hk hs
  | ret => exact hQ .ret us tm a w hk hs
theorem HoldsG.loop {c : Code} {K : KontG} {I : Nat → List (List Int) → List Val → Prop} (h : ∀ d us tm, I d us tm → HoldsG w0 S φ0 g0 tI P c us tm fun e us' tm' => match e with
    | .normal => ∃ d', d' < d ∧ I d' us' tm'
    | e => K e us' tm') : ∀ d us tm, I d us tm → HoldsG w0 S φ0 g0 tI P (.loop c) us tm K := by
  intro d us tm hI
  refine ⟨fun Q a w hs hQ => ?_⟩
  intro b k cs
  have key : ∀ d us tm, I d us tm → ∀ a w, GS w0 S φ0 g0 tI us tm a w → ∃ e a' w', Q e a' w' ∧ Arrives P (lone (b.at a (.code c :: .inLoop c :: k)) cs w) b k cs e a' w' := by
    intro d
    induction d using Nat.strongRecOn with
    | _ d ih =>
      intro us tm hI a w hs
      obtain ⟨e, a₁, w₁, hq, harr⟩ := (h d us tm hI).run (Exit.then (fun a w => ∃ d' us' tm', d' < d ∧ I d' us' tm' ∧ GS w0 S φ0 g0 tI us' tm' a w) Q) a w hs (fun e us' tm' a w hk hs => by
        cases e with
        | normal => obtain ⟨d', h1, h2⟩ := hk; exact ⟨d', us', tm', h1, h2, hs⟩
        | exit id => exact hQ (.exit id) us' tm' a w hk hs
        | goto l => exact hQ (.goto l) us' tm' a w hk hs
        | ret => exact hQ .ret us' tm' a w hk hs) b (.inLoop c :: k) cs
      cases e with
      | normal =>
        obtain ⟨d', us', tm', h1, h2, h3⟩ := hq
        obtain ⟨e₂, a₂, w₂, hq₂, harr₂⟩ := ih d' h1 us' tm' h2 a₁ w₁ h3
        exact ⟨e₂, a₂, w₂, hq₂, .of_steps (Steps.trans harr (.one step_inLoop)) harr₂⟩
      | exit id => exact ⟨_, a₁, w₁, hq, .pass (x := .inLoop c) rfl (fun _ _ => .inl (by simp)) harr⟩
      | goto l => exact ⟨_, a₁, w₁, hq, .pass (x := .inLoop c) rfl (fun _ _ => .inl (by simp)) harr⟩
      | ret => exact ⟨_, a₁, w₁, hq, .pass (x := .inLoop c) rfl (fun _ _ => .inl (by simp)) harr⟩
      | panic ch => exact ⟨_, a₁, w₁, hq, .pass (x := .inLoop c) rfl (fun _ _ => .inl (by simp)) harr⟩
      | outgrown => exact ⟨_, a₁, w₁, hq, .pass (x := .inLoop c) rfl (fun _ _ => .inl (by simp)) harr⟩
  obtain ⟨e, a', w', hq, harr⟩ := key d us tm hI a w hs
  exact ⟨e, a', w', hq, .of_steps (.one step_loop) harr⟩
end
end
end Go.AM

set_option linter.unusedVariables false
set_option linter.unusedSimpArgs false
set_option maxRecDepth 100000
namespace Go.AM
noncomputable section
theorem Holds.gc {P : Program} {n : Nat} {c : Code} {tm : List Val} {hp : List Blk} {K : Kont} (ks : List Nat) (m : List Bool) (hk : keepB n ks = true) (h : gcK ks m tm hp fun tm hp => Holds P n c tm hp K) : Holds P n c tm hp K :=
  ⟨fun w0 S φ0 ι0 Q a w hs hQ => by
    obtain ⟨tm', hp', h1, h2⟩ := hs.gc hk h
    exact h1.run w0 S φ0 ι0 Q a w h2 hQ⟩
/-- The second of two pieces shown ahead. -/
theorem Holds.cut {P : Program} {n : Nat} {c d : Code} {tm : List Val} {hp : List Blk} {K : Kont} (Q : Code → Kont → Prop) (h2 : Q d K) (h1 : ∀ d', Q d' K → Holds P n c tm hp (thenK (fun tm hp K => Holds P n d' tm hp K) K)) : Holds P n (.seq c d) tm hp K := Holds.seq (h1 d h2)
theorem TmOk.setV {ι : Map} {φ : Prot} {tm : List Val} {us : Array Value} (h : TmOk ι φ tm us) {t : Nat} {v : Val} (hv : t < tm.length → Rel ι φ v (us.getD t undef)) : TmOk ι φ (tm.set t v) us :=
  ⟨by rw [List.length_set]; exact h.len, fun i hi => by
    rw [List.length_set] at hi
    rw [List.getD_eq_getElem?_getD, List.getElem?_set]
    by_cases e : t = i
    · subst e; rw [if_pos rfl, if_pos hi]; exact hv hi
    · rw [if_neg e, ← List.getD_eq_getElem?_getD]; exact h.rel i hi⟩
/-- A row of the call's own, from here on memory that is read alone. -/
theorem Holds.lendL {α : Type} {P : Program} {n : Nat} {c : Code} {tm : List Val} {hp : List Blk} {K : Kont} (t b : Nat) {sz m pr : Nat} {e : TypeId} {get : Nat → List Val} {enc : α → List Val} {l : List α}
    (ht : tm.getD t .und = .row b m) (hb : getH hp b = .row e sz m get pr) (hx : ExtL enc m get l) (h : Holds P n c (tm.set t (eL sz enc l)) (hp.map raiseB) K) : Holds P n c tm hp K := by
  refine ⟨fun w0 S φ0 ι0 Q a w hs hQ => ?_⟩
  obtain ⟨ι, φ, hI, htm, hend, h0, hn, hdf⟩ := hs.raise
  have hb' : getH (hp.map raiseB) b = .row e sz m get m := by
    have : getH (hp.map raiseB) b = raiseB (getH hp b) := by
      simp only [getH, List.getD_eq_getElem?_getD, List.getElem?_map]
      cases hp[b]? <;> rfl
    rw [this, hb]; rfl
  by_cases hlt : t < tm.length
  · have hr := htm.rel t hlt
    rw [ht] at hr
    obtain ⟨g, cc, hm, hnc, hv⟩ := hr.row_
    obtain ⟨φ', hle, hI', hr'⟩ := hI.lend_row hm hb' (Nat.le_refl _) hnc
    refine h.run w0 S φ0 ι0 Q a w ⟨ι, φ', hI', (htm.mono (.refl _) hle).setV fun _ => ?_, hend, h0, hn, hdf⟩ hQ
    rw [hv]
    exact le_extL hx _ _ _ hr'
  · rw [List.getD_eq_getElem?_getD, List.getElem?_eq_none (by omega)] at ht; cases ht
end
end Go.AM

