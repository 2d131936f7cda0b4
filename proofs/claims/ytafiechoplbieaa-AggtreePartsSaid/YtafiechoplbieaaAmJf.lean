/- Trees of nodes that name each other: the store, what is done to it, and what it says of a tree. -/
import Derived.Test.YtafiechoplbieaaAmGV
import Derived.Test.YtafiechoplbieaaAmHg
set_option linter.unusedVariables false
set_option linter.unusedSimpArgs false
set_option maxRecDepth 100000
namespace Go.AM
/-- A node. -/
structure Rec where
  id : Int
  vk : Nat
  size : Int
  sums : List Sm
  up : Option Nat
  k0 : Option Nat
  k1 : Option Nat
/-- A tree's store. -/
structure Tst where
  sc : List Int
  root : Option Nat
  by_ : List (Int × Nat)
  nd : Nat → Rec
  sb : Nat → Nat
  vals : Nat → List Vl
  dom : Nat → Prop
def Rec.kid (r : Rec) : Bool → Option Nat
  | false => r.k0
  | true => r.k1
def Rec.setKid (r : Rec) (k : Option Nat) : Bool → Rec
  | false => { r with k0 := k }
  | true => { r with k1 := k }
def Tst.setN (x : Tst) (p : Nat) (r : Rec) : Tst := { x with nd := fun q => if q = p then r else x.nd q }
def Tst.hang (x : Tst) (p : Nat) (s : Bool) : Option Nat → Tst
  | none => x.setN p ((x.nd p).setKid none s)
  | some n => (x.setN p ((x.nd p).setKid (some n) s)).setN n { x.nd n with up := some p }
def Tst.side (x : Tst) (n u : Nat) : Bool := match (x.nd u).k1 with
  | none => false
  | some m => m == n
def Tst.place (x : Tst) : Option Nat → Tst
  | none => { x with root := none }
  | some n => { x.setN n { x.nd n with up := none } with root := some n }
def Tst.instead (x : Tst) (old : Nat) (n : Option Nat) : Tst := match (x.nd old).up with
  | some u => x.hang u (x.side old u) n
  | none => x.place n
def Tst.sizeO (x : Tst) : Option Nat → Int
  | none => 0
  | some p => (x.nd p).size
def Tst.sumsO (x : Tst) : Option Nat → List Sm
  | none => []
  | some p => (x.nd p).sums
/-- a column's sum at a node -/
def sumR (sc : List Int) (vs : List Vl) (la lb : List Sm) (c : Nat) : Sm := joinS [la.getD c Sm0, ofVl (vs.getD c Vl0) (sc.getD c 0), lb.getD c Sm0]
def sumsR (sc : List Int) (vs : List Vl) (la lb : List Sm) : List Sm := (List.range sc.length).map (sumR sc vs la lb)
def Tst.reck (x : Tst) (p : Nat) : Tst := x.setN p { x.nd p with
  size := IntKind.i64.wrap (IntKind.i64.wrap (x.sizeO (x.nd p).k0 + x.sizeO (x.nd p).k1) + 1)
  sums := sumsR x.sc (x.vals (x.nd p).vk) (x.sumsO (x.nd p).k0) (x.sumsO (x.nd p).k1) }
/-- node k, a kid of n on side s, is lifted -/
def Tst.turn (x : Tst) (n : Nat) (s : Bool) (k : Nat) : Tst :=
  let x1 := x.instead n (some k)
  let x2 := x1.hang n s ((x1.nd k).kid (!s))
  let x3 := x2.hang k (!s) (some n)
  (x3.reck n).reck k
section
variable (x : Tst)
theorem Tst.setN_at (p : Nat) (r : Rec) : (x.setN p r).nd p = r := by simp [Tst.setN]
theorem Tst.setN_off {p q : Nat} (r : Rec) (h : q ≠ p) : (x.setN p r).nd q = x.nd q := by simp [Tst.setN, h]
end
/-! ### trees -/
inductive Tr where
  | nil
  | node (l : Tr) (p : Nat) (r : Tr)
def Tr.root : Tr → Option Nat
  | .nil => none
  | .node _ p _ => some p
/-- the nodes, in order -/
def Tr.ps : Tr → List Nat
  | .nil => []
  | .node l p r => l.ps ++ p :: r.ps
def TreeOn (nd : Nat → Rec) : Tr → Option Nat → Prop
  | .nil, _ => True
  | .node l p r, up => (nd p).up = up ∧ (nd p).k0 = l.root ∧ (nd p).k1 = r.root ∧ TreeOn nd l (some p) ∧ TreeOn nd r (some p)
/-- what two records share: where they hang -/
def Rec.links (a b : Rec) : Prop := a.up = b.up ∧ a.k0 = b.k0 ∧ a.k1 = b.k1
theorem TreeOn.congr {nd nd' : Nat → Rec} : ∀ {t : Tr} {up : Option Nat}, TreeOn nd t up → (∀ p ∈ t.ps, (nd' p).links (nd p)) → TreeOn nd' t up
  | .nil, _, _, _ => trivial
  | .node l p r, up, ⟨h1, h2, h3, h4, h5⟩, h => by
    have hp := h p (by simp [Tr.ps])
    exact ⟨hp.1.trans h1, hp.2.1.trans h2, hp.2.2.trans h3, h4.congr fun q hq => h q (by simp [Tr.ps, hq]), h5.congr fun q hq => h q (by simp [Tr.ps, hq])⟩
theorem TreeOn.same {nd nd' : Nat → Rec} {t : Tr} {up : Option Nat} (h : TreeOn nd t up) (e : ∀ p ∈ t.ps, nd' p = nd p) : TreeOn nd' t up := h.congr fun p hp => by rw [e p hp]; exact ⟨rfl, rfl, rfl⟩
/-! ### a tree with a hole -/
structure Fm where
  s : Bool
  p : Nat
  sib : Tr
abbrev Ctx := List Fm
def Fm.plug (f : Fm) (t : Tr) : Tr := match f.s with
  | false => .node t f.p f.sib
  | true => .node f.sib f.p t
def plug : Ctx → Tr → Tr
  | [], t => t
  | f :: c, t => plug c (f.plug t)
def upOf : Ctx → Option Nat
  | [] => none
  | f :: _ => some f.p
def rootOf : Ctx → Option Nat → Option Nat
  | [], h => h
  | f :: c, _ => rootOf c (some f.p)
def CtxOn (nd : Nat → Rec) : Ctx → Option Nat → Prop
  | [], _ => True
  | f :: c, h => (nd f.p).kid f.s = h ∧ (nd f.p).kid (!f.s) = f.sib.root ∧ TreeOn nd f.sib (some f.p) ∧ (nd f.p).up = upOf c ∧ CtxOn nd c (some f.p)
def cps : Ctx → List Nat
  | [] => []
  | f :: c => f.p :: f.sib.ps ++ cps c
theorem CtxOn.congr {nd nd' : Nat → Rec} : ∀ {c : Ctx} {h : Option Nat}, CtxOn nd c h → (∀ p ∈ cps c, (nd' p).links (nd p)) → CtxOn nd' c h
  | [], _, _, _ => trivial
  | f :: c, h, ⟨h1, h2, h3, h4, h5⟩, e => by
    have hp := e f.p (by simp [cps])
    have kid : ∀ s, (nd' f.p).kid s = (nd f.p).kid s := fun s => by cases s; exact hp.2.1; exact hp.2.2
    exact ⟨(kid _).trans h1, (kid _).trans h2, h3.congr fun q hq => e q (by simp [cps, hq]), hp.1.trans h4, h5.congr fun q hq => e q (by simp [cps, hq])⟩
theorem CtxOn.same {nd nd' : Nat → Rec} {c : Ctx} {h : Option Nat} (hc : CtxOn nd c h) (e : ∀ p ∈ cps c, nd' p = nd p) : CtxOn nd' c h := hc.congr fun p hp => by rw [e p hp]; exact ⟨rfl, rfl, rfl⟩
/-- The store holds the tree t in the context c, and nothing twice. -/
structure On (x : Tst) (t : Tr) (c : Ctx) : Prop where
  tree : TreeOn x.nd t (upOf c)
  ctx : CtxOn x.nd c t.root
  root : x.root = rootOf c t.root
  nodup : (t.ps ++ cps c).Nodup
  dom : ∀ p ∈ t.ps ++ cps c, x.dom p
theorem Fm.plug_root (f : Fm) (t : Tr) : (f.plug t).root = some f.p := by cases h : f.s <;> simp [Fm.plug, h, Tr.root]
theorem plug_perm (f : Fm) (t : Tr) (c : Ctx) : List.Perm ((f.plug t).ps ++ cps c) (t.ps ++ cps (f :: c)) := by
  obtain ⟨s, p, sib⟩ := f
  cases s
  · simp only [Fm.plug, Tr.ps, cps, List.append_assoc, List.cons_append]; exact .refl _
  · simp only [Fm.plug, Tr.ps, cps, List.append_assoc, List.cons_append]
    refine (List.perm_append_comm_assoc sib.ps (p :: t.ps) (cps c) |>.trans ?_ : List.Perm (sib.ps ++ (p :: (t.ps ++ cps c))) _)
    have : List.Perm (p :: t.ps ++ (sib.ps ++ cps c)) (t.ps ++ p :: (sib.ps ++ cps c)) := by
      rw [List.cons_append]
      exact (List.perm_middle (a := p) (l₁ := t.ps) (l₂ := sib.ps ++ cps c)).symm
    exact this
theorem On.up {x : Tst} {t : Tr} {f : Fm} {c : Ctx} (h : On x t (f :: c)) : On x (f.plug t) c := by
  obtain ⟨h1, ⟨h2, h3, h4, h5, h6⟩, h7, h8, h9⟩ := h
  have perm := plug_perm f t c
  refine ⟨?_, ?_, ?_, perm.nodup_iff.2 h8, fun q hq => h9 q (perm.mem_iff.1 hq)⟩
  · obtain ⟨s, p, sib⟩ := f
    cases s
    · exact ⟨h5, h2, h3, h1, h4⟩
    · exact ⟨h5, h3, h2, h4, h1⟩
  · rw [Fm.plug_root]; exact h6
  · rw [Fm.plug_root]; exact h7
theorem On.down0 {x : Tst} {l r : Tr} {p : Nat} {c : Ctx} (h : On x (.node l p r) c) : On x l (⟨false, p, r⟩ :: c) := by
  obtain ⟨⟨h1, h2, h3, h4, h5⟩, h6, h7, h8, h9⟩ := h
  have perm := plug_perm ⟨false, p, r⟩ l c
  exact ⟨h4, ⟨h2, h3, h5, h1, h6⟩, h7, perm.nodup_iff.1 h8, fun q hq => h9 q (perm.mem_iff.2 hq)⟩
theorem On.down1 {x : Tst} {l r : Tr} {p : Nat} {c : Ctx} (h : On x (.node l p r) c) : On x r (⟨true, p, l⟩ :: c) := by
  obtain ⟨⟨h1, h2, h3, h4, h5⟩, h6, h7, h8, h9⟩ := h
  have perm := plug_perm ⟨true, p, l⟩ r c
  exact ⟨h5, ⟨h3, h2, h4, h1, h6⟩, h7, perm.nodup_iff.1 h8, fun q hq => h9 q (perm.mem_iff.2 hq)⟩
/-! ### links, step by step -/
theorem Rec.links.refl (a : Rec) : a.links a := ⟨rfl, rfl, rfl⟩
theorem Rec.links.trans {a b c : Rec} (h : a.links b) (k : b.links c) : a.links c := ⟨h.1.trans k.1, h.2.1.trans k.2.1, h.2.2.trans k.2.2⟩
theorem reck_links (x : Tst) (p q : Nat) : ((x.reck p).nd q).links (x.nd q) := by
  by_cases h : q = p
  · subst h; simp [Tst.reck, Tst.setN, Rec.links]
  · simp [Tst.reck, Tst.setN, h, Rec.links]
theorem hang_nd (x : Tst) (p : Nat) (s : Bool) (n : Option Nat) (h : n ≠ some p) (q : Nat) : (x.hang p s n).nd q = if n = some q then { x.nd q with up := some p } else if q = p then (x.nd p).setKid n s else x.nd q := by
  cases n with
  | none => simp [Tst.hang, Tst.setN]
  | some m =>
    have hm : m ≠ p := fun e => h (by rw [e])
    by_cases h1 : q = m
    · subst h1; simp [Tst.hang, Tst.setN]
    · have h2 : ¬ m = q := fun e => h1 e.symm
      simp [Tst.hang, Tst.setN, h1, h2]
theorem place_nd (x : Tst) (n : Option Nat) (q : Nat) : (x.place n).nd q = if n = some q then { x.nd q with up := none } else x.nd q := by
  cases n with
  | none => simp [Tst.place]
  | some m =>
    by_cases h1 : q = m
    · subst h1; simp [Tst.place, Tst.setN]
    · have h2 : ¬ m = q := fun e => h1 e.symm
      simp [Tst.place, Tst.setN, h1, h2]
theorem kid_set (r : Rec) (k : Option Nat) (s : Bool) : (r.setKid k s).kid s = k := by cases s <;> rfl
theorem kid_not (r : Rec) (k : Option Nat) (s : Bool) : (r.setKid k s).kid (!s) = r.kid (!s) := by cases s <;> rfl
theorem kid_up (r : Rec) (u : Option Nat) (s : Bool) : ({ r with up := u } : Rec).kid s = r.kid s := by cases s <;> rfl
theorem setKid_up (r : Rec) (k : Option Nat) (s : Bool) : (r.setKid k s).up = r.up := by cases s <;> rfl
/-- what a turn leaves, as links -/
def turned (x : Tst) (n : Nat) (s : Bool) (k : Nat) (q : Nat) : Rec :=
  if q = n then { (x.nd n).setKid ((x.nd k).kid (!s)) s with up := some k }
  else if q = k then { (x.nd k).setKid (some n) (!s) with up := (x.nd n).up }
  else if (x.nd k).kid (!s) = some q then { x.nd q with up := some n }
  else if (x.nd n).up = some q then (x.nd q).setKid (some k) (x.side n q)
  else x.nd q
theorem turn_links (x : Tst) (n : Nat) (s : Bool) (k : Nat) (hk : k ≠ n) (hu : (x.nd n).up ≠ some n) (hu' : (x.nd n).up ≠ some k) (hj : (x.nd k).kid (!s) ≠ some n) (hj' : (x.nd k).kid (!s) ≠ some k) (huj : ∀ q, (x.nd k).kid (!s) = some q → (x.nd n).up ≠ some q) (q : Nat) :
    ((x.turn n s k).nd q).links (turned x n s k q) := by
  have hk' : n ≠ k := fun e => hk e.symm
  -- the first step
  have e1 : ∀ q, (x.instead n (some k)).nd q = if q = k then { x.nd k with up := (x.nd n).up } else if (x.nd n).up = some q then (x.nd q).setKid (some k) (x.side n q) else x.nd q := fun q => by
    unfold Tst.instead
    cases hup : (x.nd n).up with
    | none =>
      simp only
      rw [place_nd]
      by_cases h : q = k
      · subst h; simp
      · rw [if_neg (by simp; exact fun e => h e.symm), if_neg h]; simp
    | some u =>
      simp only
      have hku : k ≠ u := fun e => hu' (by rw [hup, e])
      rw [hang_nd _ _ _ _ (by simp; exact hku)]
      by_cases h : q = k
      · subst h; simp
      · rw [if_neg (by simp; exact fun e => h e.symm), if_neg h]
        by_cases h2 : q = u
        · subst h2; simp
        · rw [if_neg h2, if_neg (by simp; exact fun e => h2 e.symm)]
  have ek : (x.instead n (some k)).nd k = { x.nd k with up := (x.nd n).up } := by rw [e1, if_pos rfl]
  have en : (x.instead n (some k)).nd n = x.nd n := by rw [e1, if_neg hk', if_neg hu]
  have ej : ((x.instead n (some k)).nd k).kid (!s) = (x.nd k).kid (!s) := by rw [ek, kid_up]
  unfold Tst.turn
  simp only
  refine (reck_links _ _ _).trans ((reck_links _ _ _).trans ?_)
  rw [ej, hang_nd _ _ _ _ (by simp; exact hk')]
  unfold turned
  by_cases h1 : q = n
  · subst h1
    rw [if_pos rfl, if_pos rfl, hang_nd _ _ _ _ hj, if_neg hj, if_pos rfl, en]
    exact ⟨rfl, by cases s <;> rfl, by cases s <;> rfl⟩
  · rw [if_neg (by simp; exact fun e => h1 e.symm), if_neg h1]
    by_cases h2 : q = k
    · subst h2
      rw [if_pos rfl, if_pos rfl, hang_nd _ _ _ _ hj, if_neg hj', if_neg h1, ek]
      exact ⟨by rw [setKid_up], by cases s <;> rfl, by cases s <;> rfl⟩
    · rw [if_neg h2, if_neg h2, hang_nd _ _ _ _ hj]
      by_cases h3 : (x.nd k).kid (!s) = some q
      · rw [if_pos h3, if_pos h3, e1, if_neg h2, if_neg (huj q h3)]
        exact .refl _
      · rw [if_neg h3, if_neg h3, if_neg h1, e1, if_neg h2]
        exact .refl _
theorem turn_root (x : Tst) (n : Nat) (s : Bool) (k : Nat) : (x.turn n s k).root = match (x.nd n).up with
    | none => some k
    | some _ => x.root := by
  have hang_root : ∀ (y : Tst) p s o, (y.hang p s o).root = y.root := fun y p s o => by cases o <;> rfl
  show ((((x.instead n (some k)).hang n s _).hang k (!s) (some n)).reck n).root = _
  show (((x.instead n (some k)).hang n s _).hang k (!s) (some n)).root = _
  rw [hang_root, hang_root]
  unfold Tst.instead
  cases (x.nd n).up with
  | none => rfl
  | some u => exact hang_root _ _ _ _
/-- what stays whatever is turned -/
structure Keep (x y : Tst) : Prop where
  sc : y.sc = x.sc
  by_ : y.by_ = x.by_
  sb : y.sb = x.sb
  vals : y.vals = x.vals
  dom : y.dom = x.dom
  id : ∀ p, (y.nd p).id = (x.nd p).id
  vk : ∀ p, (y.nd p).vk = (x.nd p).vk
theorem Keep.into {x y : Tst} (h : Keep x y) {p : Nat} (hp : x.dom p) : y.dom p := by rw [h.dom]; exact hp
theorem Keep.refl (x : Tst) : Keep x x := ⟨rfl, rfl, rfl, rfl, rfl, fun _ => rfl, fun _ => rfl⟩
theorem Keep.trans {x y z : Tst} (h : Keep x y) (k : Keep y z) : Keep x z := ⟨k.sc.trans h.sc, k.by_.trans h.by_, k.sb.trans h.sb, k.vals.trans h.vals, k.dom.trans h.dom, fun p => (k.id p).trans (h.id p), fun p => (k.vk p).trans (h.vk p)⟩
theorem Keep.setN {x : Tst} {p : Nat} {r : Rec} (h1 : r.id = (x.nd p).id) (h2 : r.vk = (x.nd p).vk) : Keep x (x.setN p r) := by
  refine ⟨rfl, rfl, rfl, rfl, rfl, fun q => ?_, fun q => ?_⟩
  · by_cases h : q = p
    · subst h; rw [Tst.setN_at]; exact h1
    · rw [Tst.setN_off _ _ h]
  · by_cases h : q = p
    · subst h; rw [Tst.setN_at]; exact h2
    · rw [Tst.setN_off _ _ h]
theorem setKid_id (r : Rec) (k : Option Nat) (s : Bool) : (r.setKid k s).id = r.id := by cases s <;> rfl
theorem setKid_vk (r : Rec) (k : Option Nat) (s : Bool) : (r.setKid k s).vk = r.vk := by cases s <;> rfl
theorem keep_hang (x : Tst) (p : Nat) (s : Bool) (n : Option Nat) (h : n ≠ some p) : Keep x (x.hang p s n) := by
  cases n with
  | none => exact .setN (setKid_id _ _ _) (setKid_vk _ _ _)
  | some m =>
    have hm : m ≠ p := fun e => h (by rw [e])
    exact Keep.trans (.setN (setKid_id _ _ _) (setKid_vk _ _ _)) (.setN (by rw [Tst.setN_off _ _ hm]) (by rw [Tst.setN_off _ _ hm]))
theorem keep_place (x : Tst) (n : Option Nat) : Keep x (x.place n) := by
  cases n with
  | none => exact ⟨rfl, rfl, rfl, rfl, rfl, fun _ => rfl, fun _ => rfl⟩
  | some m =>
    have := Keep.setN (x := x) (p := m) (r := { x.nd m with up := none }) rfl rfl
    exact ⟨rfl, rfl, rfl, rfl, rfl, this.id, this.vk⟩
theorem keep_reck (x : Tst) (p : Nat) : Keep x (x.reck p) := .setN rfl rfl
theorem keep_instead (x : Tst) (old : Nat) (n : Option Nat) (h : (x.nd old).up = none ∨ (x.nd old).up ≠ n) : Keep x (x.instead old n) := by
  unfold Tst.instead
  cases hu : (x.nd old).up with
  | none => exact keep_place x n
  | some u =>
    refine keep_hang x u _ n fun e => ?_
    rw [hu, e] at h
    rcases h with h | h
    · cases h
    · exact h rfl
theorem keep_turn (x : Tst) (n : Nat) (s : Bool) (k : Nat) (hk : k ≠ n) (hu : (x.nd n).up ≠ some n) (hu' : (x.nd n).up ≠ some k) (hj : (x.nd k).kid (!s) ≠ some n) : Keep x (x.turn n s k) := by
  have hk' : n ≠ k := fun e => hk e.symm
  have ej : ((x.instead n (some k)).nd k).kid (!s) = (x.nd k).kid (!s) := by
    unfold Tst.instead
    cases hup : (x.nd n).up with
    | none => simp only; rw [place_nd, if_pos rfl, kid_up]
    | some u =>
      simp only
      rw [hang_nd _ _ _ _ (by simp; exact fun e => hu' (by rw [hup, e])), if_pos rfl, kid_up]
  unfold Tst.turn
  simp only
  rw [ej]
  exact (keep_instead x n (some k) (.inr hu')).trans ((keep_hang _ _ _ _ hj).trans ((keep_hang _ _ _ _ (by simp; exact hk')).trans ((keep_reck _ _).trans (keep_reck _ _))))
theorem TreeOn.rehang' {nd nd' : Nat → Rec} : ∀ {t : Tr} {up up' : Option Nat}, TreeOn nd t up → t.ps.Nodup → (∀ p, t.root = some p → (nd' p).links { nd p with up := up' }) → (∀ p ∈ t.ps, t.root ≠ some p → (nd' p).links (nd p)) → TreeOn nd' t up'
  | .nil, _, _, _, _, _, _ => trivial
  | .node l p r, up, up', ⟨h1, h2, h3, h4, h5⟩, hn, hr, ho => by
    have hp := hr p rfl
    have hl : ∀ q ∈ l.ps, q ≠ p := fun q hq e => by
      subst e
      simp only [Tr.ps, List.nodup_append, List.nodup_cons, List.mem_cons] at hn
      exact hn.2.2 q hq q (.inl rfl) rfl
    have hr' : ∀ q ∈ r.ps, q ≠ p := fun q hq e => by
      subst e
      simp only [Tr.ps, List.nodup_append, List.nodup_cons] at hn
      exact hn.2.1.1 hq
    exact ⟨hp.1, hp.2.1.trans h2, hp.2.2.trans h3, h4.congr fun q hq => ho q (by simp [Tr.ps, hq]) fun e => hl q hq (by injection e with e; exact e.symm), h5.congr fun q hq => ho q (by simp [Tr.ps, hq]) fun e => hr' q hq (by injection e with e; exact e.symm)⟩
theorem root_mem {t : Tr} {p : Nat} (h : t.root = some p) : p ∈ t.ps := by
  cases t with
  | nil => cases h
  | node l q r => simp only [Tr.root, Option.some.injEq] at h; subst h; simp [Tr.ps]
theorem upOf_mem {c : Ctx} {u : Nat} (h : upOf c = some u) : u ∈ cps c := by
  cases c with
  | nil => cases h
  | cons f c => simp only [upOf, Option.some.injEq] at h; subst h; simp [cps]
theorem side_is {x : Tst} {n u : Nat} {s : Bool} {sib : Tr} (h1 : (x.nd u).kid s = some n) (h2 : (x.nd u).kid (!s) = sib.root) (hn : n ∉ sib.ps) : x.side n u = s := by
  unfold Tst.side
  cases s with
  | true =>
    have h1 : (x.nd u).k1 = some n := h1
    rw [h1]; simp
  | false =>
    have h2 : (x.nd u).k1 = sib.root := h2
    rw [h2]
    cases hr : sib.root with
    | none => rfl
    | some m =>
      have : m ≠ n := fun e => hn (by rw [← e]; exact root_mem hr)
      simp [this]
theorem turned_other {x : Tst} {n : Nat} {s : Bool} {k q : Nat} (h1 : q ≠ n) (h2 : q ≠ k) (h3 : (x.nd k).kid (!s) ≠ some q) (h4 : (x.nd n).up ≠ some q) : turned x n s k q = x.nd q := by
  unfold turned
  rw [if_neg h1, if_neg h2, if_neg h3, if_neg h4]
/-- What is above, its hole filled by k where n was. -/
theorem ctx_turn {x : Tst} {n : Nat} {s : Bool} {k : Nat} {nd' : Nat → Rec} {c : Ctx} (hL : ∀ q, (nd' q).links (turned x n s k q)) (hc : CtxOn x.nd c (some n)) (hup : (x.nd n).up = upOf c) (hd : (cps c).Nodup) (hn : n ∉ cps c) (hk : k ∉ cps c) (hj : ∀ q ∈ cps c, (x.nd k).kid (!s) ≠ some q) : CtxOn nd' c (some k) := by
  cases c with
  | nil => trivial
  | cons f c =>
    obtain ⟨h1, h2, h3, h4, h5⟩ := hc
    obtain ⟨fs, fp, sib⟩ := f
    simp only [cps, List.cons_append, List.nodup_cons, List.nodup_append, List.mem_append, not_or] at hd hn hk hj
    obtain ⟨⟨hd1, hd2⟩, hd3, hd4, hd5⟩ := hd
    simp only [List.mem_cons, List.mem_append, not_or] at hn hk
    have hup' : (x.nd n).up = some fp := hup
    have hside : x.side n fp = fs := side_is h1 h2 hn.2.1
    have hfp : turned x n s k fp = (x.nd fp).setKid (some k) fs := by
      unfold turned
      rw [if_neg (fun e => hn.1 e.symm), if_neg (fun e => hk.1 e.symm), if_neg (hj fp (by simp)), if_pos hup', hside]
    have hL' := hL fp
    rw [hfp] at hL'
    have kid : ∀ b, (nd' fp).kid b = ((x.nd fp).setKid (some k) fs).kid b := fun b => by cases b; exact hL'.2.1; exact hL'.2.2
    have other : ∀ q, q ∈ sib.ps ∨ q ∈ cps c → q ≠ fp → (nd' q).links (x.nd q) := fun q hq hqf => by
      have := hL q
      rwa [turned_other (fun e => by subst e; rcases hq with hq | hq; exact hn.2.1 hq; exact hn.2.2 hq) (fun e => by subst e; rcases hq with hq | hq; exact hk.2.1 hq; exact hk.2.2 hq) (hj q (by simp only [List.mem_cons, List.mem_append]; exact .inr hq)) (by rw [hup']; simp; exact fun e => hqf e.symm)] at this
    refine ⟨by rw [kid, kid_set], by rw [kid, kid_not]; exact h2, h3.congr fun q hq => other q (.inl hq) fun e => by subst e; exact hd1 hq, by rw [hL'.1, setKid_up]; exact h4, h5.congr fun q hq => other q (.inr hq) fun e => by subst e; exact hd2 hq⟩
theorem dom_turn (x : Tst) (n : Nat) (s : Bool) (k : Nat) : (x.turn n s k).dom = x.dom := by
  have hang_dom : ∀ (y : Tst) p s o, (y.hang p s o).dom = y.dom := fun y p s o => by cases o <;> rfl
  show (((x.instead n (some k)).hang n s _).hang k (!s) (some n)).dom = _
  rw [hang_dom, hang_dom]
  unfold Tst.instead
  cases (x.nd n).up with
  | none => rfl
  | some u => exact hang_dom _ _ _ _
theorem rootOf_turn {c : Ctx} {x : Tst} {n : Nat} {s : Bool} {k : Nat} (hr : x.root = rootOf c (some n)) (hup : (x.nd n).up = upOf c) : (x.turn n s k).root = rootOf c (some k) := by
  rw [turn_root, hup]
  cases c with
  | nil => rfl
  | cons f c => exact hr
theorem turn_on0 {x : Tst} {a b r : Tr} {k n : Nat} {c : Ctx} (h : On x (.node (.node a k b) n r) c) : On (x.turn n false k) (.node a k (.node b n r)) c := by
  obtain ⟨⟨hup, hk0, hk1, ⟨kup, kk0, kk1, ha, hb⟩, hr⟩, hc, hroot, hnd, hdom⟩ := h
  have e : (Tr.node a k (.node b n r)).ps = (Tr.node (.node a k b) n r).ps := by simp [Tr.ps]
  have hnd' := hnd
  simp only [Tr.ps, List.append_assoc, List.cons_append, List.nodup_append, List.nodup_cons, List.mem_cons, List.mem_append, not_or] at hnd'
  obtain ⟨da, ⟨⟨kb, kn, kr, kc⟩, db, ⟨⟨nr, nc⟩, dr, dc, drc⟩, dbn⟩, dan⟩ := hnd'
  have hj : (x.nd k).kid (!false) = b.root := kk1
  have bn : ∀ q, b.root = some q → q ∈ b.ps := fun q hq => root_mem hq
  have hL := turn_links x n false k kn (by rw [hup]; exact fun e => nc (upOf_mem e)) (by rw [hup]; exact fun e => kc (upOf_mem e)) (by rw [hj]; exact fun e => dbn n (bn n e) n (.inl rfl) rfl) (by rw [hj]; exact fun e => kb (bn k e))
    (fun q hq => by rw [hj] at hq; rw [hup]; exact fun e => dbn q (bn q hq) q (.inr (.inr (upOf_mem e))) rfl)
  have other : ∀ q, q ≠ n → q ≠ k → b.root ≠ some q → upOf c ≠ some q → ((x.turn n false k).nd q).links (x.nd q) := fun q h1 h2 h3 h4 => by
    have := hL q
    rwa [turned_other h1 h2 (by rw [hj]; exact h3) (by rw [hup]; exact h4)] at this
  have Ln := hL n
  have Lk := hL k
  unfold turned at Ln Lk
  rw [if_pos rfl, hj] at Ln
  rw [if_neg kn, if_pos rfl] at Lk
  refine ⟨⟨Lk.1.trans hup, Lk.2.1.trans kk0, Lk.2.2, ha.congr fun q hq => other q (fun e => dan q hq q (.inr (.inr (.inl e))) rfl) (fun e => dan q hq q (.inl e) rfl) (fun e => dan q hq q (.inr (.inl (bn q e))) rfl) (fun e => dan q hq q (.inr (.inr (.inr (.inr (upOf_mem e))))) rfl), Ln.1, Ln.2.1, Ln.2.2.trans hk1, ?_, hr.congr fun q hq => other q (fun e => nr (e ▸ hq)) (fun e => kr (e ▸ hq)) (fun e => dbn q (bn q e) q (.inr (.inl hq)) rfl) (fun e => drc q hq q (upOf_mem e) rfl)⟩,
    ctx_turn hL hc hup dc nc kc (fun q hq => by rw [hj]; exact fun e => dbn q (bn q e) q (.inr (.inr hq)) rfl), rootOf_turn hroot hup, by rw [e]; exact hnd, fun p hp => by rw [dom_turn]; exact hdom p (by rw [← e]; exact hp)⟩
  refine hb.rehang' db (fun q hq => ?_) (fun q hq hne => other q (fun e => dbn q hq q (.inl e) rfl) (fun e => kb (e ▸ hq)) hne (fun e => dbn q hq q (.inr (.inr (upOf_mem e))) rfl))
  have := hL q
  unfold turned at this
  have h1 : q ≠ n := fun e => dbn q (bn q hq) q (.inl e) rfl
  have h2 : q ≠ k := fun e => kb (e ▸ bn q hq)
  rwa [if_neg h1, if_neg h2, if_pos (by rw [hj]; exact hq)] at this
theorem turn_on1 {x : Tst} {l a b : Tr} {k n : Nat} {c : Ctx} (h : On x (.node l n (.node a k b)) c) : On (x.turn n true k) (.node (.node l n a) k b) c := by
  obtain ⟨⟨hup, hk0, hk1, hl, ⟨kup, kk0, kk1, ha, hb⟩⟩, hc, hroot, hnd, hdom⟩ := h
  have e : (Tr.node (.node l n a) k b).ps = (Tr.node l n (.node a k b)).ps := by simp [Tr.ps]
  have hnd' := hnd
  simp only [Tr.ps, List.append_assoc, List.cons_append, List.nodup_append, List.nodup_cons, List.mem_cons, List.mem_append, not_or] at hnd'
  obtain ⟨dl, ⟨⟨na, nk, nb, nc⟩, da, ⟨⟨kb, kc⟩, db, dc, dbc⟩, dan⟩, dln⟩ := hnd'
  have kn : k ≠ n := fun e => nk e.symm
  have hj : (x.nd k).kid (!true) = a.root := kk0
  have bn : ∀ q, a.root = some q → q ∈ a.ps := fun q hq => root_mem hq
  have hL := turn_links x n true k kn (by rw [hup]; exact fun e => nc (upOf_mem e)) (by rw [hup]; exact fun e => kc (upOf_mem e)) (by rw [hj]; exact fun e => na (bn n e)) (by rw [hj]; exact fun e => dan k (bn k e) k (.inl rfl) rfl)
    (fun q hq => by rw [hj] at hq; rw [hup]; exact fun e => dan q (bn q hq) q (.inr (.inr (upOf_mem e))) rfl)
  have other : ∀ q, q ≠ n → q ≠ k → a.root ≠ some q → upOf c ≠ some q → ((x.turn n true k).nd q).links (x.nd q) := fun q h1 h2 h3 h4 => by
    have := hL q
    rwa [turned_other h1 h2 (by rw [hj]; exact h3) (by rw [hup]; exact h4)] at this
  have Ln := hL n
  have Lk := hL k
  unfold turned at Ln Lk
  rw [if_pos rfl, hj] at Ln
  rw [if_neg kn, if_pos rfl] at Lk
  refine ⟨⟨Lk.1.trans hup, Lk.2.1, Lk.2.2.trans kk1, ⟨Ln.1, Ln.2.1.trans hk0, Ln.2.2, hl.congr fun q hq => other q (fun e => dln q hq q (.inl e) rfl) (fun e => dln q hq q (.inr (.inr (.inl e))) rfl) (fun e => dln q hq q (.inr (.inl (bn q e))) rfl) (fun e => dln q hq q (.inr (.inr (.inr (.inr (upOf_mem e))))) rfl), ?_⟩, hb.congr fun q hq => other q (fun e => nb (e ▸ hq)) (fun e => kb (e ▸ hq)) (fun e => dan q (bn q e) q (.inr (.inl hq)) rfl) (fun e => dbc q hq q (upOf_mem e) rfl)⟩,
    ctx_turn hL hc hup dc nc kc (fun q hq => by rw [hj]; exact fun e => dan q (bn q e) q (.inr (.inr hq)) rfl), rootOf_turn hroot hup, by rw [e]; exact hnd, fun p hp => by rw [dom_turn]; exact hdom p (by rw [← e]; exact hp)⟩
  refine ha.rehang' da (fun q hq => ?_) (fun q hq hne => other q (fun e => na (e ▸ hq)) (fun e => dan q hq q (.inl e) rfl) hne (fun e => dan q hq q (.inr (.inr (upOf_mem e))) rfl))
  have := hL q
  unfold turned at this
  have h1 : q ≠ n := fun e => na (e ▸ bn q hq)
  have h2 : q ≠ k := fun e => dan q (bn q hq) q (.inl e) rfl
  rwa [if_neg h1, if_neg h2, if_pos (by rw [hj]; exact hq)] at this
end Go.AM

set_option linter.unusedVariables false
set_option linter.unusedSimpArgs false
set_option maxRecDepth 100000
namespace Go.AM
/-- a column's sum over nodes -/
def cumS (x : Tst) (ps : List Nat) (c : Nat) : Sm := joinS (ps.map fun p => ofVl ((x.vals (x.nd p).vk).getD c Vl0) (x.sc.getD c 0))
def cumsS (x : Tst) (ps : List Nat) : List Sm := (List.range x.sc.length).map (cumS x ps)
/-- All nodes say what is at and below them. -/
def Says (x : Tst) : Tr → Prop
  | .nil => True
  | .node l p r => Says x l ∧ Says x r ∧ (x.nd p).size = ((Tr.node l p r).ps.length : Int) ∧ (x.nd p).sums = cumsS x (Tr.node l p r).ps
theorem cumS_congr {x y : Tst} (hv : y.vals = x.vals) (hs : y.sc = x.sc) {ps : List Nat} (h : ∀ p ∈ ps, (y.nd p).vk = (x.nd p).vk) (c : Nat) : cumS y ps c = cumS x ps c := by
  unfold cumS
  rw [hv, hs]
  congr 1
  exact List.map_congr_left fun p hp => by rw [h p hp]
theorem cumsS_congr {x y : Tst} (hv : y.vals = x.vals) (hs : y.sc = x.sc) {ps : List Nat} (h : ∀ p ∈ ps, (y.nd p).vk = (x.nd p).vk) : cumsS y ps = cumsS x ps := by
  unfold cumsS
  rw [hs]
  exact List.map_congr_left fun c _ => cumS_congr hv hs h c
theorem Says.congr {x y : Tst} (hv : y.vals = x.vals) (hs : y.sc = x.sc) : ∀ {t : Tr}, Says x t → (∀ p ∈ t.ps, (y.nd p).vk = (x.nd p).vk ∧ (y.nd p).size = (x.nd p).size ∧ (y.nd p).sums = (x.nd p).sums) → Says y t
  | .nil, _, _ => trivial
  | .node l p r, ⟨h1, h2, h3, h4⟩, e => by
    have ep := e p (by simp [Tr.ps])
    exact ⟨h1.congr hv hs fun q hq => e q (by simp [Tr.ps, hq]), h2.congr hv hs fun q hq => e q (by simp [Tr.ps, hq]), ep.2.1.trans h3, ep.2.2.trans (h4.trans (cumsS_congr hv hs fun q hq => (e q hq).1).symm)⟩
theorem cumS_G (x : Tst) (ps : List Nat) (c : Nat) : SG (x.sc.getD c 0) (cumS x ps c) := joinS_G fun s hs => by
  obtain ⟨p, _, rfl⟩ := List.mem_map.1 hs
  exact SG_of _ _
theorem cumS_append (x : Tst) (l r : List Nat) (c : Nat) : cumS x (l ++ r) c = two (cumS x l c) (cumS x r c) := by
  unfold cumS
  rw [List.map_append]
  exact joinS_append (c := x.sc.getD c 0) (fun s hs => by obtain ⟨p, _, rfl⟩ := List.mem_map.1 hs; exact SG_of _ _) (fun s hs => by obtain ⟨p, _, rfl⟩ := List.mem_map.1 hs; exact SG_of _ _)
theorem joinS_three {c : Int} {a b d : Sm} (ha : SG c a) (hb : SG c b) (hd : SG c d) : joinS [a, b, d] = two a (two b d) := by
  show two (two (two Sm0 a) b) d = _
  rw [two_0l ha, two_assoc ha hb hd]
theorem Says.sizeO {x : Tst} {t : Tr} (h : Says x t) : x.sizeO t.root = (t.ps.length : Int) := by
  cases t with
  | nil => rfl
  | node l p r => exact h.2.2.1
theorem Says.sumsO {x : Tst} {t : Tr} (h : Says x t) {c : Nat} (hc : c < x.sc.length) : (x.sumsO t.root).getD c Sm0 = cumS x t.ps c := by
  cases t with
  | nil => rfl
  | node l p r =>
    show ((x.nd p).sums).getD c Sm0 = _
    rw [h.2.2.2]
    unfold cumsS
    rw [List.getD_eq_getElem?_getD, List.getElem?_map, List.getElem?_range hc]; rfl
theorem wrap_cnt {a b : Nat} (h : a + b < 4611686018427387904) : IntKind.i64.wrap (IntKind.i64.wrap ((a : Int) + (b : Int)) + 1) = ((a + b + 1 : Nat) : Int) := by
  rw [wi64_id (n := (a : Int) + (b : Int)) (by omega) (by omega), wi64_id (by omega) (by omega)]; omega
theorem Says.reck {x : Tst} {l r : Tr} {p : Nat} (h0 : (x.nd p).k0 = l.root) (h1 : (x.nd p).k1 = r.root) (hl : Says x l) (hr : Says x r) (pl : p ∉ l.ps) (pr : p ∉ r.ps) (hc : l.ps.length + r.ps.length < 4611686018427387904) : Says (x.reck p) (.node l p r) := by
  have other : ∀ q, q ≠ p → (x.reck p).nd q = x.nd q := fun q hq => Tst.setN_off _ _ hq
  have here : (x.reck p).nd p = _ := Tst.setN_at x p _
  have vk : ∀ q, ((x.reck p).nd q).vk = (x.nd q).vk := (keep_reck x p).vk
  refine ⟨Says.congr (x := x) (y := x.reck p) rfl rfl hl fun q hq => ?_, Says.congr (x := x) (y := x.reck p) rfl rfl hr fun q hq => ?_, ?_, ?_⟩
  · have : q ≠ p := fun e => pl (e ▸ hq)
    rw [other q this]; exact ⟨rfl, rfl, rfl⟩
  · have : q ≠ p := fun e => pr (e ▸ hq)
    rw [other q this]; exact ⟨rfl, rfl, rfl⟩
  · rw [here]
    simp only
    rw [h0, h1, hl.sizeO, hr.sizeO, wrap_cnt hc]
    simp [Tr.ps]; omega
  · rw [here]
    simp only
    rw [cumsS_congr (x := x) (y := x.reck p) rfl rfl fun q _ => vk q]
    unfold sumsR cumsS
    refine List.map_congr_left fun c hcm => ?_
    have hc' : c < x.sc.length := List.mem_range.1 hcm
    unfold sumR
    rw [h0, h1, hl.sumsO hc', hr.sumsO hc']
    rw [joinS_three (cumS_G x l.ps c) (SG_of _ _) (cumS_G x r.ps c)]
    simp only [Tr.ps]
    rw [cumS_append]
    congr 1
    show _ = cumS x ([p] ++ r.ps) c
    rw [cumS_append]
    congr 1
    show _ = joinS [ofVl _ _]
    exact (joinS_mid' _ _).symm
where
  joinS_mid' (v : Vl) (c : Int) : joinS [ofVl v c] = ofVl v c := by
    show two Sm0 (ofVl v c) = _
    exact two_0l (SG_of v c)
/-! ### what hanging leaves -/
def Rec.data (a b : Rec) : Prop := a.vk = b.vk ∧ a.size = b.size ∧ a.sums = b.sums
theorem hang_data (x : Tst) (p : Nat) (s : Bool) (n : Option Nat) (h : n ≠ some p) (q : Nat) : ((x.hang p s n).nd q).data (x.nd q) := by
  rw [hang_nd x p s n h]
  by_cases h1 : n = some q
  · rw [if_pos h1]; exact ⟨rfl, rfl, rfl⟩
  · rw [if_neg h1]
    by_cases h2 : q = p
    · subst h2; rw [if_pos rfl]; cases s <;> exact ⟨rfl, rfl, rfl⟩
    · rw [if_neg h2]; exact ⟨rfl, rfl, rfl⟩
theorem place_data (x : Tst) (n : Option Nat) (q : Nat) : ((x.place n).nd q).data (x.nd q) := by
  rw [place_nd]
  by_cases h1 : n = some q
  · rw [if_pos h1]; exact ⟨rfl, rfl, rfl⟩
  · rw [if_neg h1]; exact ⟨rfl, rfl, rfl⟩
theorem instead_data (x : Tst) (old : Nat) (n : Option Nat) (h : (x.nd old).up = none ∨ (x.nd old).up ≠ n) (q : Nat) : ((x.instead old n).nd q).data (x.nd q) := by
  unfold Tst.instead
  cases hu : (x.nd old).up with
  | none => exact place_data x n q
  | some u =>
    refine hang_data x u _ n (fun e => ?_) q
    rw [hu, e] at h
    rcases h with h | h
    · cases h
    · exact h rfl
theorem Rec.data.trans {a b c : Rec} (h : a.data b) (k : b.data c) : a.data c := ⟨h.1.trans k.1, h.2.1.trans k.2.1, h.2.2.trans k.2.2⟩
/-- the store ahead of a turn's reckonings -/
def Tst.turn3 (x : Tst) (n : Nat) (s : Bool) (k : Nat) : Tst := ((x.instead n (some k)).hang n s (((x.instead n (some k)).nd k).kid (!s))).hang k (!s) (some n)
theorem turn_eq (x : Tst) (n : Nat) (s : Bool) (k : Nat) : x.turn n s k = ((x.turn3 n s k).reck n).reck k := rfl
theorem turn3_data {x : Tst} {n : Nat} {s : Bool} {k : Nat} (hk : k ≠ n) (hu' : (x.nd n).up ≠ some k) (hj : (x.nd k).kid (!s) ≠ some n) (q : Nat) : ((x.turn3 n s k).nd q).data (x.nd q) := by
  have hk' : n ≠ k := fun e => hk e.symm
  have ej : ((x.instead n (some k)).nd k).kid (!s) = (x.nd k).kid (!s) := by
    unfold Tst.instead
    cases hup : (x.nd n).up with
    | none => simp only; rw [place_nd, if_pos rfl, kid_up]
    | some u =>
      simp only
      rw [hang_nd _ _ _ _ (by simp; exact fun e => hu' (by rw [hup, e])), if_pos rfl, kid_up]
  unfold Tst.turn3
  rw [ej]
  exact (hang_data _ _ _ _ (by simp; exact hk') q).trans ((hang_data _ _ _ _ hj q).trans (instead_data x n (some k) (.inr hu') q))
theorem turn3_sc (x : Tst) (n : Nat) (s : Bool) (k : Nat) : (x.turn3 n s k).sc = x.sc ∧ (x.turn3 n s k).vals = x.vals := by
  have h1 : ∀ (y : Tst) p s o, (y.hang p s o).sc = y.sc ∧ (y.hang p s o).vals = y.vals := fun y p s o => by cases o <;> exact ⟨rfl, rfl⟩
  have h2 : (x.instead n (some k)).sc = x.sc ∧ (x.instead n (some k)).vals = x.vals := by
    unfold Tst.instead
    cases (x.nd n).up with
    | none => exact ⟨rfl, rfl⟩
    | some u => exact h1 _ _ _ _
  unfold Tst.turn3
  exact ⟨(h1 _ _ _ _).1.trans ((h1 _ _ _ _).1.trans h2.1), (h1 _ _ _ _).2.trans ((h1 _ _ _ _).2.trans h2.2)⟩
theorem turn3_links {x : Tst} {n : Nat} {s : Bool} {k : Nat} (q : Nat) : ((x.turn n s k).nd q).links ((x.turn3 n s k).nd q) := by
  rw [turn_eq]; exact (reck_links _ _ _).trans (reck_links _ _ _)
theorem turn_good0 {x : Tst} {a b r : Tr} {k n : Nat} {c : Ctx} (h : On x (.node (.node a k b) n r) c) (ga : Says x a) (gb : Says x b) (gr : Says x r) (hc : (Tr.node (.node a k b) n r).ps.length < 4611686018427387904) : Says (x.turn n false k) (.node a k (.node b n r)) := by
  have hT := (turn_on0 h).tree
  obtain ⟨⟨hup, hk0, hk1, ⟨kup, kk0, kk1, ha, hb⟩, hr⟩, _, _, hnd, _⟩ := h
  simp only [Tr.ps, List.append_assoc, List.cons_append, List.nodup_append, List.nodup_cons, List.mem_cons, List.mem_append, not_or] at hnd
  obtain ⟨da, ⟨⟨kb, kn, kr, kc⟩, db, ⟨⟨nr, nc⟩, dr, dc, drc⟩, dbn⟩, dan⟩ := hnd
  obtain ⟨-, t0, t1, -, -, n0, n1, -, -⟩ := hT
  have data := turn3_data (x := x) (s := false) kn (by rw [hup]; exact fun e => kc (upOf_mem e)) (by rw [show (x.nd k).kid (!false) = b.root from kk1]; exact fun e => dbn n (root_mem e) n (.inl rfl) rfl)
  obtain ⟨hsc, hvals⟩ := turn3_sc x n false k
  have L := fun q => turn3_links (x := x) (n := n) (s := false) (k := k) q
  have g : ∀ {t : Tr}, Says x t → Says (x.turn3 n false k) t := fun hg => hg.congr hvals hsc fun p _ => data p
  have n0' := (L n).2.1.symm.trans n0
  have n1' := (L n).2.2.symm.trans n1
  have k0' := ((reck_links (x.turn3 n false k) n k).2.1.trans (L k).2.1.symm).trans t0
  have k1' := ((reck_links (x.turn3 n false k) n k).2.2.trans (L k).2.2.symm).trans t1
  rw [turn_eq]
  simp only [Tr.ps, List.length_append, List.length_cons] at hc
  have gn := Says.reck n0' n1' (g gb) (g gr) (fun e => dbn n e n (.inl rfl) rfl) nr (by omega)
  have ga' : Says ((x.turn3 n false k).reck n) a := Says.congr (x := x.turn3 n false k) (y := (x.turn3 n false k).reck n) rfl rfl (g ga) fun q hq => by
    have : q ≠ n := fun e => dan q hq q (.inr (.inr (.inl e))) rfl
    rw [show ((x.turn3 n false k).reck n).nd q = (x.turn3 n false k).nd q from Tst.setN_off _ _ this]; exact ⟨rfl, rfl, rfl⟩
  refine Says.reck k0' k1' ga' gn (fun e => dan k e k (.inl rfl) rfl) ?_ (by simp only [Tr.ps, List.length_append, List.length_cons]; omega)
  simp only [Tr.ps, List.mem_append, List.mem_cons, not_or]
  exact ⟨kb, kn, kr⟩
theorem turn_good1 {x : Tst} {l a b : Tr} {k n : Nat} {c : Ctx} (h : On x (.node l n (.node a k b)) c) (gl : Says x l) (ga : Says x a) (gb : Says x b) (hc : (Tr.node l n (.node a k b)).ps.length < 4611686018427387904) : Says (x.turn n true k) (.node (.node l n a) k b) := by
  have hT := (turn_on1 h).tree
  obtain ⟨⟨hup, hk0, hk1, hl, ⟨kup, kk0, kk1, ha, hb⟩⟩, _, _, hnd, _⟩ := h
  simp only [Tr.ps, List.append_assoc, List.cons_append, List.nodup_append, List.nodup_cons, List.mem_cons, List.mem_append, not_or] at hnd
  obtain ⟨dl, ⟨⟨na, nk, nb, nc⟩, da, ⟨⟨kb, kc⟩, db, dc, dbc⟩, dan⟩, dln⟩ := hnd
  have kn : k ≠ n := fun e => nk e.symm
  obtain ⟨-, t0, t1, ⟨-, n0, n1, -, -⟩, -⟩ := hT
  have data := turn3_data (x := x) (s := true) kn (by rw [hup]; exact fun e => kc (upOf_mem e)) (by rw [show (x.nd k).kid (!true) = a.root from kk0]; exact fun e => na (root_mem e))
  obtain ⟨hsc, hvals⟩ := turn3_sc x n true k
  have L := fun q => turn3_links (x := x) (n := n) (s := true) (k := k) q
  have g : ∀ {t : Tr}, Says x t → Says (x.turn3 n true k) t := fun hg => hg.congr hvals hsc fun p _ => data p
  have n0' := (L n).2.1.symm.trans n0
  have n1' := (L n).2.2.symm.trans n1
  have k0' := ((reck_links (x.turn3 n true k) n k).2.1.trans (L k).2.1.symm).trans t0
  have k1' := ((reck_links (x.turn3 n true k) n k).2.2.trans (L k).2.2.symm).trans t1
  rw [turn_eq]
  simp only [Tr.ps, List.length_append, List.length_cons] at hc
  have gn := Says.reck n0' n1' (g gl) (g ga) (fun e => dln n e n (.inl rfl) rfl) na (by omega)
  have gb' : Says ((x.turn3 n true k).reck n) b := Says.congr (x := x.turn3 n true k) (y := (x.turn3 n true k).reck n) rfl rfl (g gb) fun q hq => by
    have : q ≠ n := fun e => nb (e ▸ hq)
    rw [show ((x.turn3 n true k).reck n).nd q = (x.turn3 n true k).nd q from Tst.setN_off _ _ this]; exact ⟨rfl, rfl, rfl⟩
  refine Says.reck k0' k1' gn gb' ?_ kb (by simp only [Tr.ps, List.length_append, List.length_cons]; omega)
  simp only [Tr.ps, List.mem_append, List.mem_cons, not_or]
  exact ⟨fun e => dln k e k (.inr (.inr (.inl rfl))) rfl, kn, fun e => dan k e k (.inl rfl) rfl⟩
end Go.AM

set_option linter.unusedVariables false
set_option linter.unusedSimpArgs false
set_option maxRecDepth 100000
namespace Go.AM
theorem On.mem {x : Tst} {t : Tr} {c : Ctx} (h : On x t c) {p : Nat} (hp : p ∈ t.ps) : x.dom p := h.dom p (List.mem_append_left _ hp)
/-- what stands above: the one there, and its kids -/
theorem On.above {x : Tst} {l r : Tr} {n : Nat} {c : Ctx} (h : On x (.node l n r) c) : ∀ u, (x.nd n).up = some u → x.dom u ∧ u ≠ n ∧ u ∉ l.ps ∧ u ∉ r.ps ∧ ∀ m, (x.nd u).k1 = some m → x.dom m := by
  intro u hu
  obtain ⟨⟨hup, _⟩, hc, _, hnd, hdom⟩ := h
  rw [hup] at hu
  have hm := upOf_mem hu
  have hd : ∀ q, q ∈ (Tr.node l n r).ps → q ≠ u := fun q hq e => by
    subst e
    exact (List.nodup_append.1 hnd).2.2 q hq q hm rfl
  refine ⟨hdom u (List.mem_append_right _ hm), fun e => hd n (by simp [Tr.ps]) e.symm, fun e => hd u (by simp [Tr.ps, e]) rfl, fun e => hd u (by simp [Tr.ps, e]) rfl, fun m hk => ?_⟩
  cases c with
  | nil => cases hu
  | cons f c =>
    simp only [upOf, Option.some.injEq] at hu; subst hu
    obtain ⟨h1, h2, h3, _⟩ := hc
    obtain ⟨s, p, sib⟩ := f
    cases s with
    | true =>
      have h1 : (x.nd p).k1 = some n := h1
      rw [h1] at hk; injection hk with hk; subst hk
      exact hdom _ (List.mem_append_left _ (by simp [Tr.ps]))
    | false =>
      have h2 : (x.nd p).k1 = sib.root := h2
      rw [h2] at hk
      exact hdom _ (List.mem_append_right _ (by simp [cps, root_mem hk]))
/-- what a turn asks for -/
structure TurnOk (x : Tst) (n : Nat) (s : Bool) (k : Nat) : Prop where
  hn : x.dom n
  hk : x.dom k
  hkid : (x.nd n).kid s = some k
  hkn : k ≠ n
  hu : ∀ u, (x.nd n).up = some u → x.dom u ∧ u ≠ k ∧ u ≠ n ∧ ∀ m, (x.nd u).k1 = some m → x.dom m
  hj : ∀ q, (x.nd k).kid (!s) = some q → x.dom q ∧ q ≠ n ∧ q ≠ k ∧ (x.nd n).up ≠ some q
  hks : ∀ q, (x.nd k).kid s = some q → x.dom q ∧ q ≠ k
  hns : ∀ q, (x.nd n).kid (!s) = some q → x.dom q ∧ q ≠ n
theorem turn_ok0 {x : Tst} {a b r : Tr} {k n : Nat} {c : Ctx} (h : On x (.node (.node a k b) n r) c) : TurnOk x n false k := by
  have ab := h.above
  obtain ⟨⟨hup, hk0, hk1, ⟨kup, kk0, kk1, ha, hb⟩, hr⟩, hc, _, hnd, hdom⟩ := h
  simp only [Tr.ps, List.append_assoc, List.cons_append, List.nodup_append, List.nodup_cons, List.mem_cons, List.mem_append, not_or] at hnd
  obtain ⟨da, ⟨⟨kb, kn, kr, kc⟩, db, ⟨⟨nr, nc⟩, dr, dc, drc⟩, dbn⟩, dan⟩ := hnd
  have D : ∀ q, q = n ∨ q = k ∨ q ∈ a.ps ∨ q ∈ b.ps ∨ q ∈ r.ps → x.dom q := fun q hq => hdom q (List.mem_append_left _ (by simp [Tr.ps]; rcases hq with h | h | h | h | h <;> simp [h]))
  refine ⟨D n (by simp), D k (by simp), hk0, kn, fun u hu => ?_, fun q hq => ?_, fun q hq => ?_, fun q hq => ?_⟩
  · obtain ⟨h1, h2, h3, h4, h5⟩ := ab u hu
    exact ⟨h1, fun e => h3 (by rw [e]; simp [Tr.ps]), h2, h5⟩
  · have hm : q ∈ b.ps := root_mem (kk1.symm.trans hq)
    exact ⟨D q (by simp [hm]), fun e => dbn q hm q (.inl e) rfl, fun e => kb (e ▸ hm), fun e => by rw [hup] at e; exact dbn q hm q (.inr (.inr (upOf_mem e))) rfl⟩
  · have hm : q ∈ a.ps := root_mem (kk0.symm.trans hq)
    exact ⟨D q (by simp [hm]), fun e => dan q hm q (.inl e) rfl⟩
  · have hm : q ∈ r.ps := root_mem (hk1.symm.trans hq)
    exact ⟨D q (by simp [hm]), fun e => nr (e ▸ hm)⟩
theorem turn_ok1 {x : Tst} {l a b : Tr} {k n : Nat} {c : Ctx} (h : On x (.node l n (.node a k b)) c) : TurnOk x n true k := by
  have ab := h.above
  obtain ⟨⟨hup, hk0, hk1, hl, ⟨kup, kk0, kk1, ha, hb⟩⟩, hc, _, hnd, hdom⟩ := h
  simp only [Tr.ps, List.append_assoc, List.cons_append, List.nodup_append, List.nodup_cons, List.mem_cons, List.mem_append, not_or] at hnd
  obtain ⟨dl, ⟨⟨na, nk, nb, nc⟩, da, ⟨⟨kb, kc⟩, db, dc, dbc⟩, dan⟩, dln⟩ := hnd
  have D : ∀ q, q = n ∨ q = k ∨ q ∈ l.ps ∨ q ∈ a.ps ∨ q ∈ b.ps → x.dom q := fun q hq => hdom q (List.mem_append_left _ (by simp [Tr.ps]; rcases hq with h | h | h | h | h <;> simp [h]))
  refine ⟨D n (by simp), D k (by simp), hk1, fun e => nk e.symm, fun u hu => ?_, fun q hq => ?_, fun q hq => ?_, fun q hq => ?_⟩
  · obtain ⟨h1, h2, h3, h4, h5⟩ := ab u hu
    exact ⟨h1, fun e => h4 (by rw [e]; simp [Tr.ps]), h2, h5⟩
  · have hm : q ∈ a.ps := root_mem (kk0.symm.trans hq)
    exact ⟨D q (by simp [hm]), fun e => na (e ▸ hm), fun e => dan q hm q (.inl e) rfl, fun e => by rw [hup] at e; exact dan q hm q (.inr (.inr (upOf_mem e))) rfl⟩
  · have hm : q ∈ b.ps := root_mem (kk1.symm.trans hq)
    exact ⟨D q (by simp [hm]), fun e => kb (e ▸ hm)⟩
  · have hm : q ∈ l.ps := root_mem (hk0.symm.trans hq)
    exact ⟨D q (by simp [hm]), fun e => dln q hm q (.inl e) rfl⟩
/-- all beside the path says what it should -/
def SaysC (x : Tst) : Ctx → Prop
  | [] => True
  | f :: c => Says x f.sib ∧ SaysC x c
theorem SaysC.congr {x y : Tst} (hv : y.vals = x.vals) (hs : y.sc = x.sc) : ∀ {c : Ctx}, SaysC x c → (∀ p ∈ cps c, (y.nd p).data (x.nd p)) → SaysC y c
  | [], _, _ => trivial
  | f :: c, ⟨h1, h2⟩, e => ⟨h1.congr hv hs fun q hq => e q (by simp [cps, hq]), h2.congr hv hs fun q hq => e q (by simp [cps, hq])⟩
theorem On.reck {x : Tst} {t : Tr} {c : Ctx} (h : On x t c) (p : Nat) : On (x.reck p) t c :=
  ⟨h.tree.congr fun q _ => reck_links x p q, h.ctx.congr fun q _ => reck_links x p q, h.root, h.nodup, h.dom⟩
theorem reck_data (x : Tst) {p q : Nat} (h : q ≠ p) : ((x.reck p).nd q).data (x.nd q) := by
  rw [show (x.reck p).nd q = x.nd q from Tst.setN_off _ _ h]; exact ⟨rfl, rfl, rfl⟩
theorem turn_data {x : Tst} {n : Nat} {s : Bool} {k : Nat} (h : TurnOk x n s k) {q : Nat} (h1 : q ≠ n) (h2 : q ≠ k) : ((x.turn n s k).nd q).data (x.nd q) := by
  rw [turn_eq]
  exact (reck_data _ h2).trans ((reck_data _ h1).trans (turn3_data h.hkn (fun e => (h.hu k e).2.1 rfl) (fun e => (h.hj n e).2.1 rfl) q))
theorem turn_keep {x : Tst} {n : Nat} {s : Bool} {k : Nat} (h : TurnOk x n s k) : Keep x (x.turn n s k) := keep_turn x n s k h.hkn (fun e => (h.hu n e).2.2.1 rfl) (fun e => (h.hu k e).2.1 rfl) (fun e => (h.hj n e).2.1 rfl)
theorem plug_ps (c : Ctx) : ∀ {t t' : Tr}, t.ps = t'.ps → (plug c t).ps = (plug c t').ps := by
  induction c with
  | nil => exact fun h => h
  | cons f c ih =>
    intro t t' h
    refine ih ?_
    obtain ⟨s, p, sib⟩ := f
    cases s <;> simp [Fm.plug, Tr.ps, h]
theorem says_up {x : Tst} {t : Tr} {f : Fm} {c : Ctx} (h : On x t (f :: c)) (ht : Says x t) (hf : Says x f.sib) (hlen : (f.plug t).ps.length < 4611686018427387904) : Says (x.reck f.p) (f.plug t) := by
  have hu := h.up
  obtain ⟨s, p, sib⟩ := f
  have hnd := (List.nodup_append.1 hu.nodup).1
  cases s with
  | false =>
    obtain ⟨⟨_, h0, h1, _⟩, _⟩ := hu
    simp only [Fm.plug, Tr.ps, List.nodup_append, List.nodup_cons, List.mem_cons] at hnd
    simp only [Fm.plug, Tr.ps, List.length_append, List.length_cons] at hlen
    exact Says.reck h0 h1 ht hf (fun e => hnd.2.2 p e p (.inl rfl) rfl) hnd.2.1.1 (by simp only; omega)
  | true =>
    obtain ⟨⟨_, h0, h1, _⟩, _⟩ := hu
    simp only [Fm.plug, Tr.ps, List.nodup_append, List.nodup_cons, List.mem_cons] at hnd
    simp only [Fm.plug, Tr.ps, List.length_append, List.length_cons] at hlen
    exact Says.reck h0 h1 hf ht (fun e => hnd.2.2 p e p (.inl rfl) rfl) hnd.2.1.1 (by simp only; omega)
theorem plug_len (c : Ctx) : ∀ t : Tr, (plug c t).ps.length = t.ps.length + (cps c).length := by
  induction c with
  | nil => intro t; simp [plug, cps]
  | cons f c ih =>
    intro t
    show (plug c (f.plug t)).ps.length = _
    rw [ih]
    have := (plug_perm f t c).length_eq
    simp only [List.length_append] at this
    omega
theorem saysC_off {x y : Tst} (k : Keep x y) {c : Ctx} (h : SaysC x c) (e : ∀ q ∈ cps c, (y.nd q).data (x.nd q)) : SaysC y c := h.congr k.vals k.sc e
end Go.AM

