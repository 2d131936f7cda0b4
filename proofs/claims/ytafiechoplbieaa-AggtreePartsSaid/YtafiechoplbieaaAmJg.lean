/- Trees of nodes: one turn, two turns. -/
import Derived.Test.YtafiechoplbieaaAmJf
import Derived.Test.YtafiechoplbieaaAmGV
set_option linter.unusedVariables false
set_option linter.unusedSimpArgs false
set_option maxRecDepth 100000
namespace Go.AM
/-- The same nodes in the same order, otherwise hung. -/
structure Next (x : Tst) (T : Tr) (c : Ctx) (y : Tst) (T' : Tr) : Prop where
  keep : Keep x y
  on : On y T' c
  says : Says y T'
  saysC : SaysC y c
  ps : T'.ps = T.ps
theorem Next.trans {x y z : Tst} {T T' T'' : Tr} {c : Ctx} (h : Next x T c y T') (k : Next y T' c z T'') : Next x T c z T'' := ⟨h.keep.trans k.keep, k.on, k.says, k.saysC, k.ps.trans h.ps⟩
theorem next0 {x : Tst} {a b r : Tr} {k n : Nat} {c : Ctx} (h : On x (.node (.node a k b) n r) c) (g : Says x (.node (.node a k b) n r)) (gc : SaysC x c) (hc : (Tr.node (.node a k b) n r).ps.length < 4611686018427387904) : Next x (.node (.node a k b) n r) c (x.turn n false k) (.node a k (.node b n r)) := by
  have ok := turn_ok0 h
  refine ⟨turn_keep ok, turn_on0 h, turn_good0 h g.1.1 g.1.2.1 g.2.1 hc, saysC_off (turn_keep ok) gc fun q hq => ?_, by simp [Tr.ps]⟩
  have hnd := (List.nodup_append.1 h.nodup).2.2
  exact turn_data ok (fun e => hnd n (by simp [Tr.ps]) q hq e.symm) (fun e => hnd k (by simp [Tr.ps]) q hq e.symm)
theorem next1 {x : Tst} {l a b : Tr} {k n : Nat} {c : Ctx} (h : On x (.node l n (.node a k b)) c) (g : Says x (.node l n (.node a k b))) (gc : SaysC x c) (hc : (Tr.node l n (.node a k b)).ps.length < 4611686018427387904) : Next x (.node l n (.node a k b)) c (x.turn n true k) (.node (.node l n a) k b) := by
  have ok := turn_ok1 h
  refine ⟨turn_keep ok, turn_on1 h, turn_good1 h g.1 g.2.1.1 g.2.1.2.1 hc, saysC_off (turn_keep ok) gc fun q hq => ?_, by simp [Tr.ps]⟩
  have hnd := (List.nodup_append.1 h.nodup).2.2
  exact turn_data ok (fun e => hnd n (by simp [Tr.ps]) q hq e.symm) (fun e => hnd k (by simp [Tr.ps]) q hq e.symm)
/-- a turn in a kid -/
theorem next_in0 {x y : Tst} {L L' r : Tr} {n : Nat} {c : Ctx} (h : On x (.node L n r) c) (g : Says x (.node L n r)) (gc : SaysC x c) (k : Next x L (⟨false, n, r⟩ :: c) y L') (hd : (y.nd n).data (x.nd n)) : Next x (.node L n r) c y (.node L' n r) := by
  obtain ⟨k1, k2, k3, ⟨k4, k5⟩, k6⟩ := k
  refine ⟨k1, k2.up, ⟨k3, k4, ?_, ?_⟩, k5, by simp [Tr.ps, k6]⟩
  · rw [hd.2.1, g.2.2.1]; simp [Tr.ps, k6]
  · rw [hd.2.2, g.2.2.2]
    have e : (Tr.node L' n r).ps = (Tr.node L n r).ps := by simp [Tr.ps, k6]
    rw [e]
    exact (cumsS_congr k1.vals k1.sc fun q _ => k1.vk q).symm
theorem next_in1 {x y : Tst} {l R R' : Tr} {n : Nat} {c : Ctx} (h : On x (.node l n R) c) (g : Says x (.node l n R)) (gc : SaysC x c) (k : Next x R (⟨true, n, l⟩ :: c) y R') (hd : (y.nd n).data (x.nd n)) : Next x (.node l n R) c y (.node l n R') := by
  obtain ⟨k1, k2, k3, ⟨k4, k5⟩, k6⟩ := k
  refine ⟨k1, k2.up, ⟨k4, k3, ?_, ?_⟩, k5, by simp [Tr.ps, k6]⟩
  · rw [hd.2.1, g.2.2.1]; simp [Tr.ps, k6]
  · rw [hd.2.2, g.2.2.2]
    have e : (Tr.node l n R').ps = (Tr.node l n R).ps := by simp [Tr.ps, k6]
    rw [e]
    exact (cumsS_congr k1.vals k1.sc fun q _ => k1.vk q).symm
theorem twice0 {x : Tst} {a b1 b2 r : Tr} {k m n : Nat} {c : Ctx} (h : On x (.node (.node a k (.node b1 m b2)) n r) c) (g : Says x (.node (.node a k (.node b1 m b2)) n r)) (gc : SaysC x c) (hc : (Tr.node (.node a k (.node b1 m b2)) n r).ps.length < 4611686018427387904) :
    TurnOk x k true m ∧ Next x (.node (.node a k (.node b1 m b2)) n r) c (x.turn k true m) (.node (.node (.node a k b1) m b2) n r) := by
  have hd := h.down0
  have ok := turn_ok1 hd
  have hl : (Tr.node a k (.node b1 m b2)).ps.length < 4611686018427387904 := by simp only [Tr.ps, List.length_append, List.length_cons] at hc ⊢; omega
  have nx := next1 hd g.1 (⟨g.2.1, gc⟩ : SaysC x (⟨false, n, r⟩ :: c)) hl
  have hnd := h.nodup
  simp only [Tr.ps, List.append_assoc, List.cons_append, List.nodup_append, List.nodup_cons, List.mem_cons, List.mem_append, not_or] at hnd
  refine ⟨ok, next_in0 h g gc nx (turn_data ok ?_ ?_)⟩
  · exact fun e => hnd.2.1.1.2.2.2.1 e.symm
  · exact fun e => hnd.2.1.2.2.1.1.2.1 e.symm
theorem twice1 {x : Tst} {l a1 a2 b : Tr} {k m n : Nat} {c : Ctx} (h : On x (.node l n (.node (.node a1 m a2) k b)) c) (g : Says x (.node l n (.node (.node a1 m a2) k b))) (gc : SaysC x c) (hc : (Tr.node l n (.node (.node a1 m a2) k b)).ps.length < 4611686018427387904) :
    TurnOk x k false m ∧ Next x (.node l n (.node (.node a1 m a2) k b)) c (x.turn k false m) (.node l n (.node a1 m (.node a2 k b))) := by
  have hd := h.down1
  have ok := turn_ok0 hd
  have hl : (Tr.node (.node a1 m a2) k b).ps.length < 4611686018427387904 := by simp only [Tr.ps, List.length_append, List.length_cons] at hc ⊢; omega
  have nx := next0 hd g.2.1 (⟨g.1, gc⟩ : SaysC x (⟨true, n, l⟩ :: c)) hl
  have hnd := h.nodup
  simp only [Tr.ps, List.append_assoc, List.cons_append, List.nodup_append, List.nodup_cons, List.mem_cons, List.mem_append, not_or] at hnd
  refine ⟨ok, next_in1 h g gc nx (turn_data ok ?_ ?_)⟩
  · exact hnd.2.1.1.2.2.2.1
  · exact hnd.2.1.1.2.1
end Go.AM

set_option linter.unusedVariables false
set_option linter.unusedSimpArgs false
set_option maxRecDepth 100000
namespace Go.AM
/-- one put into a list at a place -/
def ins (a : Nat) (p : Nat) (l : List Nat) : List Nat := l.take a ++ p :: l.drop a
theorem ins_left {a p n : Nat} {l r : List Nat} (h : a ≤ l.length) : ins a p (l ++ n :: r) = ins a p l ++ n :: r := by
  unfold ins
  rw [List.take_append_of_le_length h, List.drop_append_of_le_length h]
  simp
theorem ins_right {a p n : Nat} {l r : List Nat} (h : l.length < a) : ins a p (l ++ n :: r) = l ++ n :: ins (a - l.length - 1) p r := by
  unfold ins
  have e : a = l.length + ((a - l.length - 1) + 1) := by omega
  have h1 : (l ++ n :: r).take a = l ++ n :: r.take (a - l.length - 1) := by
    conv => lhs; rw [e]
    rw [List.take_length_add_append]; simp
  have h2 : (l ++ n :: r).drop a = r.drop (a - l.length - 1) := by
    conv => lhs; rw [e]
    rw [List.drop_length_add_append]; simp
  rw [h1, h2]; simp
theorem ins_nil (a p : Nat) : ins a p [] = [p] := by simp [ins]
/-- A leaf hung where there was none. -/
theorem On.leaf {x : Tst} {l r : Tr} {n p : Nat} {c : Ctx} (h : On x (.node l n r) c) (s : Bool) (sib : Tr) (hs : (s = false ∧ l = .nil ∧ r = sib) ∨ (s = true ∧ r = .nil ∧ l = sib)) (hp : p ∉ (Tr.node l n r).ps ++ cps c) (hd : x.dom p) (k0 : (x.nd p).k0 = none) (k1 : (x.nd p).k1 = none) : On (x.hang n s (some p)) (.node .nil p .nil) (⟨s, n, sib⟩ :: c) := by
  obtain ⟨⟨h1, h2, h3, h4, h5⟩, h6, h7, h8, h9⟩ := h
  have hpn : p ≠ n := fun e => hp (by simp [Tr.ps, e])
  have L := hang_nd x n s (some p) (by simp; exact hpn)
  have hps : ∀ q ∈ (Tr.node l n r).ps ++ cps c, q ≠ p := fun q hq e => hp (e ▸ hq)
  have other : ∀ q ∈ (Tr.node l n r).ps ++ cps c, q ≠ n → (x.hang n s (some p)).nd q = x.nd q := fun q hq hn => by
    rw [L, if_neg (by simp; exact fun e => hps q hq e.symm), if_neg hn]
  have hn : (x.hang n s (some p)).nd n = (x.nd n).setKid (some p) s := by
    rw [L, if_neg (by simp; exact hpn), if_pos rfl]
  have hpp : (x.hang n s (some p)).nd p = { x.nd p with up := some n } := by rw [L, if_pos rfl]
  have hnc : ∀ q ∈ cps c, q ≠ n := fun q hq e => (List.nodup_append.1 h8).2.2 n (by simp [Tr.ps]) q hq e.symm
  have ctx : CtxOn (x.hang n s (some p)).nd c (some n) := CtxOn.same h6 fun q hq => other q (List.mem_append_right _ hq) (hnc q hq)
  have nd := (List.nodup_append.1 h8).1
  have lf : TreeOn (x.hang n s (some p)).nd (.node .nil p .nil) (some n) := ⟨by rw [hpp], by rw [hpp]; exact k0, by rw [hpp]; exact k1, trivial, trivial⟩
  have dm : (x.hang n s (some p)).dom = x.dom := rfl
  rcases hs with ⟨rfl, rfl, rfl⟩ | ⟨rfl, rfl, rfl⟩
  · simp only [Tr.ps, List.nil_append, List.nodup_cons] at nd
    refine ⟨lf, ⟨by rw [hn]; rfl, by rw [hn]; exact h3, h5.same fun q hq => other q (by simp [Tr.ps, hq]) fun e => nd.1 (e ▸ hq), by rw [hn]; exact h1, ctx⟩, h7, ?_, ?_⟩
    · simp only [Tr.ps, List.nil_append, cps, List.cons_append] at h8 hp ⊢
      exact List.nodup_cons.2 ⟨hp, h8⟩
    · intro q hq
      simp only [Tr.ps, List.nil_append, cps, List.cons_append, List.mem_cons] at hq
      rcases hq with rfl | hq
      · exact hd
      · exact h9 q (by simp only [Tr.ps, List.nil_append, List.cons_append, List.mem_cons]; exact hq)
  · simp only [Tr.ps, List.nodup_append, List.mem_cons, List.not_mem_nil, or_false] at nd
    refine ⟨lf, ⟨by rw [hn]; rfl, by rw [hn]; exact h2, h4.same fun q hq => other q (by simp [Tr.ps, hq]) fun e => nd.2.2 q hq n rfl e, by rw [hn]; exact h1, ctx⟩, h7, ?_, ?_⟩
    · have e : List.Perm ((Tr.node .nil p .nil).ps ++ cps (⟨true, n, l⟩ :: c)) (p :: ((Tr.node l n .nil).ps ++ cps c)) := by
        simp only [Tr.ps, List.nil_append, cps, List.cons_append, List.append_assoc]
        exact List.Perm.cons p (by simpa using (List.perm_middle (a := n) (l₁ := l.ps) (l₂ := cps c)).symm)
      exact e.nodup_iff.2 (List.nodup_cons.2 ⟨hp, h8⟩)
    · intro q hq
      simp only [Tr.ps, List.nil_append, cps, List.cons_append, List.mem_cons, List.mem_append] at hq
      rcases hq with rfl | rfl | hq | hq
      · exact hd
      · exact h9 q (by simp [Tr.ps])
      · exact h9 q (by simp [Tr.ps, hq])
      · exact h9 q (by simp [hq])
end Go.AM

set_option linter.unusedVariables false
set_option linter.unusedSimpArgs false
set_option maxRecDepth 100000
namespace Go.AM
def blook (id : Int) : List (Int × Nat) → Option Nat
  | [] => none
  | e :: l => if e.1 = id then some e.2 else blook id l
def encB (l : List (Int × Nat)) : List MEnt := l.map fun e => ([.i .i64 e.1], [.ptr e.2 0])
theorem mfind_encB (id : Int) : ∀ l : List (Int × Nat), mfind [.i .i64 id] (encB l) = (blook id l).map fun p => [Val.ptr p 0]
  | [] => rfl
  | e :: l => by
    unfold encB blook
    simp only [List.map_cons, mfind]
    by_cases h : e.1 = id
    · rw [if_pos h, decide_eq_true (by rw [h])]; rfl
    · rw [if_neg h, decide_eq_false (by intro k; simp only [List.cons.injEq, Leaf.i.injEq, true_and, and_true] at k; exact h k)]
      exact mfind_encB id l
theorem mput_encB {id : Int} (p : Nat) : ∀ {l : List (Int × Nat)}, blook id l = none → mput [.i .i64 id] [.ptr p 0] (encB l) = encB (l ++ [(id, p)])
  | [], _ => rfl
  | e :: l, h => by
    unfold blook at h
    unfold encB
    simp only [List.map_cons, mput, List.cons_append]
    by_cases k : e.1 = id
    · rw [if_pos k] at h; cases h
    · rw [if_neg k] at h
      rw [decide_eq_false (by intro k'; simp only [List.cons.injEq, Leaf.i.injEq, true_and, and_true] at k'; exact k k')]
      simp only [List.cons.injEq, true_and]
      exact mput_encB p h
theorem blook_app (id : Int) (m : List (Int × Nat)) : ∀ l : List (Int × Nat), blook id (l ++ m) = match blook id l with
    | some p => some p
    | none => blook id m
  | [] => rfl
  | e :: l => by
    simp only [List.cons_append, blook]
    by_cases h : e.1 = id
    · rw [if_pos h, if_pos h]
    · rw [if_neg h, if_neg h]; exact blook_app id m l
/-- the map says which node is whose -/
structure ByOk (x : Tst) (T : Tr) : Prop where
  look : ∀ id p, blook id x.by_ = some p ↔ p ∈ T.ps ∧ (x.nd p).id = id
  len : x.by_.length = T.ps.length
/-- A whole tree. -/
structure Whole (x : Tst) (T : Tr) : Prop where
  on : On x T []
  says : Says x T
  by_ : ByOk x T
  few : T.ps.length ≤ 1024
/-- what stands in it -/
def rowsT (x : Tst) (T : Tr) : List (Int × List Vl) := T.ps.map fun p => ((x.nd p).id, x.vals (x.nd p).vk)
/-- A node more. -/
def Tst.more (x : Tst) (p : Nat) (r : Rec) (b : Nat) (vs : List Vl) : Tst :=
  { x with by_ := x.by_ ++ [(r.id, p)], nd := fun q => if q = p then r else x.nd q, sb := fun q => if q = p then b else x.sb q, vals := fun k => if k = r.vk then vs else x.vals k, dom := fun q => q = p ∨ x.dom q }
theorem ins_mem {k p q : Nat} {l : List Nat} : q ∈ ins k p l ↔ q = p ∨ q ∈ l := by
  unfold ins
  rw [List.mem_append, List.mem_cons]
  conv => rhs; rw [← List.take_append_drop k l, List.mem_append]
  constructor
  · rintro (h | h | h)
    · exact .inr (.inl h)
    · exact .inl h
    · exact .inr (.inr h)
  · rintro (h | h | h)
    · exact .inr (.inl h)
    · exact .inl h
    · exact .inr (.inr h)
theorem ins_len (k p : Nat) (l : List Nat) : (ins k p l).length = l.length + 1 := by
  unfold ins
  simp only [List.length_append, List.length_cons, List.length_take, List.length_drop]
  omega
end Go.AM

set_option linter.unusedVariables false
set_option linter.unusedSimpArgs false
set_option maxRecDepth 100000
namespace Go.AM
theorem cumS_congr' {x y : Tst} (hs : y.sc = x.sc) {ps : List Nat} (h : ∀ p ∈ ps, y.vals (y.nd p).vk = x.vals (x.nd p).vk) (c : Nat) : cumS y ps c = cumS x ps c := by
  unfold cumS
  rw [hs]
  congr 1
  exact List.map_congr_left fun p hp => by rw [h p hp]
theorem cumsS_congr' {x y : Tst} (hs : y.sc = x.sc) {ps : List Nat} (h : ∀ p ∈ ps, y.vals (y.nd p).vk = x.vals (x.nd p).vk) : cumsS y ps = cumsS x ps := by
  unfold cumsS
  rw [hs]
  exact List.map_congr_left fun c _ => cumS_congr' hs h c
theorem Says.congr' {x y : Tst} (hs : y.sc = x.sc) : ∀ {t : Tr}, Says x t → (∀ p ∈ t.ps, y.vals (y.nd p).vk = x.vals (x.nd p).vk ∧ (y.nd p).size = (x.nd p).size ∧ (y.nd p).sums = (x.nd p).sums) → Says y t
  | .nil, _, _ => trivial
  | .node l p r, ⟨h1, h2, h3, h4⟩, e => by
    have ep := e p (by simp [Tr.ps])
    exact ⟨h1.congr' hs fun q hq => e q (by simp [Tr.ps, hq]), h2.congr' hs fun q hq => e q (by simp [Tr.ps, hq]), ep.2.1.trans h3, ep.2.2.trans (h4.trans (cumsS_congr' hs fun q hq => (e q hq).1).symm)⟩
/-- the blocks that are a store's -/
def Own (x : Tst) (q : Nat) : Prop := ∃ p, x.dom p ∧ (q = p ∨ q = x.sb p ∨ (0 < x.sc.length ∧ q = (x.nd p).vk))
/-- What a call leaves alone, and takes. -/
structure Mov (t mb : Nat) (x : Tst) (M : Nat → Blk) (y : Tst) (M' : Nat → Blk) : Prop where
  fr : ∀ q, M q ≠ .gone → q ≠ t → q ≠ mb → ¬ Own x q → M' q = M q
  own : ∀ q, Own y q → Own x q ∨ M q = .gone
  sc : y.sc = x.sc
  tt : M' t ≠ .gone
  mm : M' mb ≠ .gone
theorem Mov.trans {t mb : Nat} {x y z : Tst} {M M' M'' : Nat → Blk} (h : Mov t mb x M y M') (k : Mov t mb y M' z M'') : Mov t mb x M z M'' := by
  refine ⟨fun q h0 h1 h2 h3 => ?_, fun q hq => ?_, k.sc.trans h.sc, k.tt, k.mm⟩
  · have e := h.fr q h0 h1 h2 h3
    rw [k.fr q (by rw [e]; exact h0) h1 h2 fun ho => ?_, e]
    rcases h.own q ho with ho | ho
    · exact h3 ho
    · exact h0 ho
  · by_cases hx : Own x q
    · exact .inl hx
    · rcases k.own q hq with ho | ho
      · exact h.own q ho
      · by_cases hg : M q = .gone
        · exact .inr hg
        · exfalso
          by_cases ht : q = t
          · subst ht; exact h.tt ho
          by_cases hm : q = mb
          · subst hm; exact h.mm ho
          rw [h.fr q hg ht hm hx] at ho
          exact hg ho
theorem Keep.own {x y : Tst} (k : Keep x y) {q : Nat} : Own y q ↔ Own x q := by
  unfold Own
  rw [k.dom, k.sb, k.sc]
  constructor
  · rintro ⟨p, h1, h2⟩; exact ⟨p, h1, by rw [← k.vk]; exact h2⟩
  · rintro ⟨p, h1, h2⟩; exact ⟨p, h1, by rw [k.vk]; exact h2⟩
theorem more_nd {x : Tst} {p : Nat} {r : Rec} {b : Nat} {vs : List Vl} {q : Nat} (h : q ≠ p) : (x.more p r b vs).nd q = x.nd q := if_neg h
theorem more_at {x : Tst} {p : Nat} {r : Rec} {b : Nat} {vs : List Vl} : (x.more p r b vs).nd p = r := if_pos rfl
/-- the tree is as it was, beside the new node -/
theorem On.more {x : Tst} {T : Tr} (h : On x T []) {p : Nat} (r : Rec) (b : Nat) (vs : List Vl) (hp : ¬ x.dom p) : On (x.more p r b vs) T [] := by
  have hne : ∀ q ∈ T.ps, q ≠ p := fun q hq e => hp (e ▸ h.mem hq)
  exact ⟨h.tree.same fun q hq => more_nd (hne q hq), trivial, h.root, h.nodup, fun q hq => .inr (h.dom q hq)⟩
theorem Says.more {x : Tst} {T : Tr} (h : Says x T) (hO : On x T []) {p : Nat} (r : Rec) (b : Nat) (vs : List Vl) (hp : ¬ x.dom p) (hv : ∀ q, x.dom q → (x.nd q).vk = r.vk → x.vals r.vk = vs) : Says (x.more p r b vs) T := by
  refine Says.congr' (x := x) (y := x.more p r b vs) rfl h fun q hq => ?_
  have hd := hO.mem hq
  have hne : q ≠ p := fun e => hp (e ▸ hd)
  rw [more_nd hne]
  refine ⟨?_, rfl, rfl⟩
  show (if (x.nd q).vk = r.vk then vs else x.vals (x.nd q).vk) = _
  by_cases e : (x.nd q).vk = r.vk
  · rw [if_pos e, e]; exact (hv q hd e).symm
  · rw [if_neg e]
/-- The new node, in its place. -/
theorem whole_more {x y : Tst} {T T' : Tr} {p : Nat} {r : Rec} {b : Nat} {vs : List Vl} {k : Nat} (hW : Whole x T) (hp : ¬ x.dom p) (hv : ∀ q, x.dom q → (x.nd q).vk = r.vk → x.vals r.vk = vs) (hid : blook r.id x.by_ = none) (hf : T.ps.length < 1024) (hk : k ≤ T.ps.length)
    (K : Keep (x.more p r b vs) y) (hO : On y T' []) (hS : Says y T') (hps : T'.ps = ins k p T.ps) : Whole y T' ∧ rowsT y T' = (rowsT x T).take k ++ (r.id, vs) :: (rowsT x T).drop k := by
  have hne : ∀ q ∈ T.ps, q ≠ p := fun q hq e => hp (e ▸ hW.on.mem hq)
  have ids : ∀ q ∈ T.ps, (y.nd q).id = (x.nd q).id := fun q hq => by rw [K.id, more_nd (hne q hq)]
  have idp : (y.nd p).id = r.id := by rw [K.id, more_at]
  have vals : ∀ q ∈ T.ps, y.vals (y.nd q).vk = x.vals (x.nd q).vk := fun q hq => by
    rw [K.vals, K.vk, more_nd (hne q hq)]
    show (if (x.nd q).vk = r.vk then vs else x.vals (x.nd q).vk) = _
    by_cases e : (x.nd q).vk = r.vk
    · rw [if_pos e, e]; exact (hv q (hW.on.mem hq) e).symm
    · rw [if_neg e]
  have valp : y.vals (y.nd p).vk = vs := by
    rw [K.vals, K.vk, more_at]
    show (if r.vk = r.vk then vs else x.vals r.vk) = _
    rw [if_pos rfl]
  refine ⟨⟨hO, hS, ⟨fun id q => ?_, ?_⟩, by rw [hps, ins_len]; omega⟩, ?_⟩
  · rw [K.by_]
    show blook id (x.by_ ++ [(r.id, p)]) = some q ↔ _
    rw [blook_app, hps, ins_mem]
    cases hb : blook id x.by_ with
    | some q' =>
      obtain ⟨h1, h2⟩ := (hW.by_.look id q').1 hb
      simp only
      constructor
      · intro e; injection e with e; subst e; exact ⟨.inr h1, (ids _ h1).trans h2⟩
      · rintro ⟨h3 | h3, h4⟩
        · subst h3
          rw [idp] at h4; rw [h4, hb] at hid; cases hid
        · rw [ids q h3] at h4
          have := (hW.by_.look id q).2 ⟨h3, h4⟩
          rw [hb] at this; exact this
    | none =>
      show blook id [(r.id, p)] = some q ↔ _
      unfold blook
      by_cases e : r.id = id
      · rw [if_pos e]
        constructor
        · intro e'; injection e' with e'; subst e'; exact ⟨.inl rfl, idp.trans e⟩
        · rintro ⟨h3 | h3, h4⟩
          · rw [h3]
          · rw [ids q h3] at h4
            have := (hW.by_.look id q).2 ⟨h3, h4⟩
            rw [hb] at this; cases this
      · rw [if_neg e]
        constructor
        · intro e'; unfold blook at e'; cases e'
        · rintro ⟨h3 | h3, h4⟩
          · subst h3; exact absurd (idp.symm.trans h4) e
          · rw [ids q h3] at h4
            have := (hW.by_.look id q).2 ⟨h3, h4⟩
            rw [hb] at this; cases this
  · rw [K.by_, hps, ins_len]
    show (x.by_ ++ [(r.id, p)]).length = _
    rw [List.length_append, hW.by_.len]; rfl
  · unfold rowsT
    rw [hps]
    unfold ins
    rw [List.map_append, List.map_cons, idp, valp, List.map_take, List.map_drop]
    have e : T.ps.map (fun p => ((y.nd p).id, y.vals (y.nd p).vk)) = T.ps.map (fun p => ((x.nd p).id, x.vals (x.nd p).vk)) := List.map_congr_left fun q hq => by rw [ids q hq, vals q hq]
    rw [← List.map_take, ← List.map_drop, List.map_take, List.map_drop, e]
end Go.AM

set_option linter.unusedVariables false
set_option linter.unusedSimpArgs false
set_option maxRecDepth 100000
namespace Go.AM
/-- the nodes from a place on, up to another one -/
def partS (l : List Nat) (a b : Int) : List Nat := (l.take b.toNat).drop a.toNat
theorem partS_none {l : List Nat} {a b : Int} (h : min b l.length ≤ max a 0) : partS l a b = [] := by
  unfold partS
  rw [List.drop_eq_nil_iff, List.length_take]
  omega
theorem partS_all {l : List Nat} {a b : Int} (h0 : a ≤ 0) (h1 : (l.length : Int) ≤ b) : partS l a b = l := by
  unfold partS
  rw [List.take_of_length_le (by omega), show a.toNat = 0 by omega, List.drop_zero]
theorem partS_clamp (l : List Nat) (a b : Int) : partS l (max a 0) (min b l.length) = partS l a b := by
  unfold partS
  rw [show (max a 0).toNat = a.toNat by omega]
  by_cases h : b ≤ l.length
  · rw [show (min b (l.length : Int)) = b by omega]
  · rw [show (min b (l.length : Int)) = (l.length : Int) by omega, Int.toNat_natCast, List.take_length, List.take_of_length_le (by omega)]
/-- Through a node: what is ahead of it, it, what is behind. -/
theorem partS_mid {l r : List Nat} {p : Nat} {a b : Int} (h0 : 0 ≤ a) (hb : 0 ≤ b) : partS (l ++ p :: r) a b = partS l a b ++ ((if a ≤ l.length ∧ (l.length : Int) < b then [p] else []) ++ partS r (a - l.length - 1) (b - l.length - 1)) := by
  unfold partS
  by_cases h1 : (l.length : Int) < b
  · have e1 : b.toNat = l.length + ((b - l.length - 1).toNat + 1) := by omega
    have e2 : (l ++ p :: r).take b.toNat = l ++ p :: r.take (b - l.length - 1).toNat := by
      rw [e1, List.take_length_add_append]; simp
    rw [e2, List.take_of_length_le (l := l) (by omega)]
    by_cases h2 : a ≤ l.length
    · rw [if_pos ⟨h2, h1⟩, List.drop_append_of_le_length (by omega), show (a - l.length - 1).toNat = 0 by omega, List.drop_zero]; rfl
    · have e3 : a.toNat = l.length + ((a - l.length - 1).toNat + 1) := by omega
      rw [if_neg (by omega), List.drop_of_length_le (l := l) (by omega)]
      conv => lhs; rw [e3]
      rw [List.drop_length_add_append]; simp
  · rw [if_neg (by omega), List.take_append_of_le_length (by omega), show (b - l.length - 1).toNat = 0 by omega]
    simp
theorem cumS_one (x : Tst) (p : Nat) (c : Nat) : cumS x [p] c = ofVl ((x.vals (x.nd p).vk).getD c Vl0) (x.sc.getD c 0) := by
  unfold cumS
  show two Sm0 _ = _
  exact two_0l (SG_of _ _)
theorem cumS_nil (x : Tst) (c : Nat) : cumS x [] c = Sm0 := rfl
theorem joinS_two' {c : Int} {a b : Sm} (ha : SG c a) (hb : SG c b) : joinS [a, b] = two a b := by
  show two (two Sm0 a) b = _
  rw [two_0l ha]
end Go.AM

set_option linter.unusedVariables false
set_option linter.unusedSimpArgs false
set_option maxRecDepth 100000
namespace Go.AM
structure Sop where
  d : Int
  at_ : Int
  id : Int
  v : List Vl
  c : Int
  fr : Int
  to : Int
def cOp (o : Sop) : List Val := [.int .i64 o.d, .int .i64 o.at_, .int .i64 o.id, .ext 10 o.v.length (getL cV o.v), .int .i64 o.c, .int .i64 o.fr, .int .i64 o.to]
theorem partS_three {l : List Nat} {a b : Nat} (h : a ≤ b) (hb : b ≤ l.length) : partS l (0 : Nat) a ++ (partS l a b ++ partS l b l.length) = l := by
  unfold partS
  simp only [Int.toNat_natCast, List.take_length, List.drop_zero]
  have e : l.drop a = (l.take b).drop a ++ l.drop b := by
    conv => lhs; rw [← List.take_append_drop b l]
    rw [List.drop_append_of_le_length (by rw [List.length_take]; omega)]
  rw [← e, List.take_append_drop]
end Go.AM

