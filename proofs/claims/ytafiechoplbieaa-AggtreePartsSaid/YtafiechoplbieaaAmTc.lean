/- aggtree: a tree's store, as it stands among the blocks; reckon, hang, instead, turn. -/
import Derived.Test.YtafiechoplbieaaAmJh
import Derived.Test.YtafiechoplbieaaAmJg
set_option linter.unusedVariables false
set_option linter.unusedSimpArgs false
set_option maxRecDepth 100000
namespace Go.Proofs.Ytafiechoplbieaa
open Go.AM
abbrev recC (x : Tst) (b : Nat) (r : Rec) : List Val := nodeC r.id (rowV r.vk x.sc.length) r.size (.row b x.sc.length) (pO r.up) (pO r.k0) (pO r.k1)
/-- A tree's store, in the heap. -/
structure TM (t mb : Nat) (M : Nat → Blk) (x : Tst) : Prop where
  tree : ∃ lk, M t = .cells (treeC (eL 1 cI x.sc) (pO x.root) (.map mb) lk)
  map : M mb = .pmap false [.i .i64] (encB x.by_)
  node : ∀ p, x.dom p → M p = .cells (recC x (x.sb p) (x.nd p))
  sums : ∀ p, x.dom p → M (x.sb p) = sumB (x.nd p).sums
  slen : ∀ p, x.dom p → (x.nd p).sums.length = x.sc.length
  vals : ∀ p, x.dom p → 0 < x.sc.length → M (x.nd p).vk = valB (x.vals (x.nd p).vk)
  vlen : ∀ p, x.dom p → (x.vals (x.nd p).vk).length = x.sc.length
  sbi : ∀ p q, x.dom p → x.dom q → x.sb p = x.sb q → p = q
  vki : ∀ p q, x.dom p → x.dom q → 0 < x.sc.length → (x.nd p).vk = (x.nd q).vk → p = q
  tn : ∀ p, x.dom p → t ≠ p
  small : x.sc.length ≤ 64
/-- all else is as it was -/
def Fr (t mb : Nat) (x : Tst) (M M' : Nat → Blk) : Prop := ∀ q, q ≠ t → q ≠ mb → (∀ p, x.dom p → q ≠ p ∧ q ≠ x.sb p ∧ (0 < x.sc.length → q ≠ (x.nd p).vk)) → M' q = M q
section
variable {t mb : Nat} {M : Nat → Blk} {x : Tst}
theorem TM.npm (h : TM t mb M x) {p : Nat} (hp : x.dom p) : p ≠ mb := ne_cm (h.node p hp) h.map
theorem TM.nps (h : TM t mb M x) {p q : Nat} (hp : x.dom p) (hq : x.dom q) : p ≠ x.sb q := ne_cr (h.node p hp) (h.sums q hq)
theorem TM.npv (h : TM t mb M x) {p q : Nat} (hp : x.dom p) (hq : x.dom q) (h0 : 0 < x.sc.length) : p ≠ (x.nd q).vk := ne_cr (h.node p hp) (h.vals q hq h0)
theorem TM.nsm (h : TM t mb M x) {p : Nat} (hp : x.dom p) : x.sb p ≠ mb := ne_rm (h.sums p hp) h.map
theorem TM.nst (h : TM t mb M x) {p : Nat} (hp : x.dom p) : t ≠ x.sb p := by obtain ⟨lk, ht⟩ := h.tree; exact ne_cr ht (h.sums p hp)
theorem TM.ntm (h : TM t mb M x) : t ≠ mb := by obtain ⟨lk, ht⟩ := h.tree; exact ne_cm ht h.map
theorem TM.nvm (h : TM t mb M x) {p : Nat} (hp : x.dom p) (h0 : 0 < x.sc.length) : (x.nd p).vk ≠ mb := ne_rm (h.vals p hp h0) h.map
theorem TM.nvt (h : TM t mb M x) {p : Nat} (hp : x.dom p) (h0 : 0 < x.sc.length) : t ≠ (x.nd p).vk := by obtain ⟨lk, ht⟩ := h.tree; exact ne_cr ht (h.vals p hp h0)
theorem TM.nsv (h : TM t mb M x) {p q : Nat} (hp : x.dom p) (hq : x.dom q) (h0 : 0 < x.sc.length) : (x.nd q).vk ≠ x.sb p := fun e => by
  have h1 := h.vals q hq h0
  rw [e, h.sums p hp] at h1
  injection h1 with e1; exact absurd e1 (by decide)
/-- a node's cells written -/
theorem TM.setNode (h : TM t mb M x) {p : Nat} (hp : x.dom p) (r : Rec) (hvk : r.vk = (x.nd p).vk) (hs : r.sums = (x.nd p).sums) : TM t mb (setH M p (.cells (recC x (x.sb p) r))) (x.setN p r) := by
  obtain ⟨lk, ht⟩ := h.tree
  have vk : ∀ q, ((x.setN p r).nd q).vk = (x.nd q).vk := fun q => by
    by_cases e : q = p
    · subst e; rw [Tst.setN_at]; exact hvk
    · rw [Tst.setN_off _ _ e]
  have sm : ∀ q, ((x.setN p r).nd q).sums = (x.nd q).sums := fun q => by
    by_cases e : q = p
    · subst e; rw [Tst.setN_at]; exact hs
    · rw [Tst.setN_off _ _ e]
  refine ⟨⟨lk, setH_off (h.tn p hp) ht⟩, setH_off (h.npm hp).symm h.map, fun q hq => ?_, fun q hq => ?_, fun q hq => ?_, fun q hq h0 => ?_, fun q hq => ?_, h.sbi, fun q q' hq hq' h0 e => ?_, h.tn, h.small⟩
  · by_cases e : q = p
    · subst e; rw [setH_at, Tst.setN_at]; rfl
    · rw [Tst.setN_off _ _ e]; exact setH_off e (h.node q hq)
  · rw [sm]; exact setH_off (h.nps hp hq).symm (h.sums q hq)
  · rw [sm]; exact h.slen q hq
  · rw [vk]; exact setH_off (h.npv hp hq h0).symm (h.vals q hq h0)
  · rw [vk]; exact h.vlen q hq
  · rw [vk, vk] at e; exact h.vki q q' hq hq' h0 e
theorem TM.setSums (h : TM t mb M x) {p : Nat} (hp : x.dom p) (l : List Sm) (hl : l.length = x.sc.length) : TM t mb (setH M (x.sb p) (sumB l)) (x.setN p { x.nd p with sums := l }) := by
  obtain ⟨lk, ht⟩ := h.tree
  have vk : ∀ q, ((x.setN p { x.nd p with sums := l }).nd q).vk = (x.nd q).vk := fun q => by
    by_cases e : q = p
    · subst e; rw [Tst.setN_at]
    · rw [Tst.setN_off _ _ e]
  refine ⟨⟨lk, setH_off (h.nst hp) ht⟩, setH_off (h.nsm hp).symm h.map, fun q hq => ?_, fun q hq => ?_, fun q hq => ?_, fun q hq h0 => ?_, fun q hq => ?_, h.sbi, fun q q' hq hq' h0 e => ?_, h.tn, h.small⟩
  · refine setH_off (h.nps hq hp) ?_
    by_cases e : q = p
    · subst e; rw [Tst.setN_at]; exact h.node q hq
    · rw [Tst.setN_off _ _ e]; exact h.node q hq
  · by_cases e : q = p
    · subst e; rw [Tst.setN_at]; exact setH_at _ _ _
    · rw [Tst.setN_off _ _ e]
      exact setH_off (fun e' => e (h.sbi q p hq hp e')) (h.sums q hq)
  · by_cases e : q = p
    · subst e; rw [Tst.setN_at]; exact hl
    · rw [Tst.setN_off _ _ e]; exact h.slen q hq
  · rw [vk]; exact setH_off (h.nsv hp hq h0) (h.vals q hq h0)
  · rw [vk]; exact h.vlen q hq
  · rw [vk, vk] at e; exact h.vki q q' hq hq' h0 e
theorem TM.setTree (h : TM t mb M x) (root : Option Nat) (lk : Int) : TM t mb (setH M t (.cells (treeC (eL 1 cI x.sc) (pO root) (.map mb) lk))) { x with root := root } :=
  ⟨⟨lk, setH_at _ _ _⟩, setH_off h.ntm.symm h.map, fun q hq => setH_off (h.tn q hq).symm (h.node q hq), fun q hq => setH_off (h.nst hq).symm (h.sums q hq), h.slen, fun q hq h0 => setH_off (h.nvt hq h0).symm (h.vals q hq h0), h.vlen, h.sbi, h.vki, h.tn, h.small⟩
theorem setN_twice (x : Tst) (p : Nat) (r r' : Rec) : (x.setN p r).setN p r' = x.setN p r' := by
  unfold Tst.setN
  congr 1
  funext q
  by_cases e : q = p <;> simp [e]
theorem Fr.refl (t mb : Nat) (x : Tst) (M : Nat → Blk) : Fr t mb x M M := fun _ _ _ _ => rfl
theorem Fr.trans {t mb : Nat} {x y : Tst} {M M' M'' : Nat → Blk} (k : Keep x y) (h : Fr t mb x M M') (h' : Fr t mb y M' M'') : Fr t mb x M M'' := fun q h1 h2 h3 => by
  rw [h' q h1 h2 fun p hp => by rw [k.dom] at hp; rw [k.sb, k.sc, k.vk]; exact h3 p hp]
  exact h q h1 h2 h3
theorem Fr.node {M : Nat → Blk} {p : Nat} (hp : x.dom p) (b : Blk) : Fr t mb x M (setH M p b) := fun q _ _ h3 => setH_off (h3 p hp).1 rfl
theorem Fr.sums {M : Nat → Blk} {p : Nat} (hp : x.dom p) (b : Blk) : Fr t mb x M (setH M (x.sb p) b) := fun q _ _ h3 => setH_off (h3 p hp).2.1 rfl
theorem Fr.tree {M : Nat → Blk} (b : Blk) : Fr t mb x M (setH M t b) := fun q h1 _ _ => setH_off h1 rfl
/-- a kid, as reckon sees it -/
theorem TM.kid (h : TM t mb M x) {n : Nat} (hn : x.dom n) (k : Option Nat) (hk : ∀ q, k = some q → x.dom q ∧ q ≠ n) : Kid M x.sc.length t n (x.sb n) (pO k) (x.sizeO k) (x.sumsO k) := by
  cases k with
  | none => exact .inl ⟨rfl, rfl, rfl⟩
  | some q =>
    obtain ⟨hq, hqn⟩ := hk q rfl
    have := h.node q hq
    have e := h.slen q hq
    refine .inr ⟨q, (x.nd q).id, rowV (x.nd q).vk x.sc.length, x.sb q, pO (x.nd q).up, pO (x.nd q).k0, pO (x.nd q).k1, rfl, (h.tn q hq).symm, hqn, fun e => hqn (h.sbi q n hq hn e), ?_, h.sums q hq, e⟩
    show M q = .cells (nodeC _ _ _ (.row (x.sb q) (x.nd q).sums.length) _ _ _)
    rw [e]; exact this
theorem reckon_s (N : Nat) (h : TM t mb M x) {n : Nat} (hn : x.dom n) (hk0 : ∀ q, (x.nd n).k0 = some q → x.dom q ∧ q ≠ n) (hk1 : ∀ q, (x.nd n).k1 = some q → x.dom q ∧ q ≠ n) :
    RetS Try.prog 57 [.ptr t 0, .ptr n 0] N M fun v _ M' => v = .tup [] ∧ TM t mb M' (x.reck n) ∧ Fr t mb x M M' := by
  obtain ⟨lk, ht⟩ := h.tree
  have hnode := h.node n hn
  have es := h.slen n hn
  have ev := h.vlen n hn
  have hnode' : M n = .cells (nodeC (x.nd n).id (rowV (x.nd n).vk (x.vals (x.nd n).vk).length) (x.nd n).size (.row (x.sb n) (x.nd n).sums.length) (pO (x.nd n).up) (pO (x.nd n).k0) (pO (x.nd n).k1)) := by rw [es, ev]; exact hnode
  refine (reckon_at N ht hnode' (fun h0 => h.vals n hn (by omega)) (h.sums n hn) (h.kid hn _ hk0) (h.kid hn _ hk1) ev es (h.tn n hn) (by have := h.small; omega)).mono fun v N' M' _ ⟨hv, hM⟩ => ⟨hv, ?_, ?_⟩
  · subst hM
    rw [es, ev]
    have h1 := h.setTree x.root (IntKind.i64.wrap (lk + 1))
    have h2 := h1.setNode hn { x.nd n with size := IntKind.i64.wrap (IntKind.i64.wrap (x.sizeO (x.nd n).k0 + x.sizeO (x.nd n).k1) + 1) } rfl rfl
    have h3 := h2.setSums (p := n) hn (sumsR x.sc (x.vals (x.nd n).vk) (x.sumsO (x.nd n).k0) (x.sumsO (x.nd n).k1)) (by simp [sumsR]; rfl)
    have e : (({ x with root := x.root } : Tst).setN n { x.nd n with size := IntKind.i64.wrap (IntKind.i64.wrap (x.sizeO (x.nd n).k0 + x.sizeO (x.nd n).k1) + 1) }).setN n { (({ x with root := x.root } : Tst).setN n { x.nd n with size := IntKind.i64.wrap (IntKind.i64.wrap (x.sizeO (x.nd n).k0 + x.sizeO (x.nd n).k1) + 1) }).nd n with sums := sumsR x.sc (x.vals (x.nd n).vk) (x.sumsO (x.nd n).k0) (x.sumsO (x.nd n).k1) } = x.reck n := by
      rw [setN_twice, Tst.setN_at]; rfl
    rw [e] at h3
    exact h3
  · subst hM
    exact fun q h1 h2 h3 => setH_off (h3 n hn).2.1 (setH_off (h3 n hn).1 (setH_off h1 rfl))
theorem cells_kid (x : Tst) (b : Nat) (r : Rec) (k : Option Nat) (s : Bool) : kidC r.id (rowV r.vk x.sc.length) r.size (.row b x.sc.length) (pO r.up) (pO r.k0) (pO r.k1) s (pO k) = recC x b (r.setKid k s) := by cases s <;> rfl
theorem hang_c (N : Nat) (h : TM t mb M x) {p : Nat} (hp : x.dom p) (s : Bool) (n : Option Nat) (hn : ∀ q, n = some q → x.dom q ∧ q ≠ p) : ∃ u r, CallC Try.prog 58 [.ptr p 0, .int .i64 (sI s), pO n] N M (.tup []) u r N ∧ TM t mb (applyF M u) (x.hang p s n) ∧ Fr t mb x M (applyF M u) := by
  cases n with
  | none =>
    refine ⟨_, _, hang_nil N s (h.node p hp), ?_, Fr.node hp _⟩
    have := h.setNode hp ((x.nd p).setKid none s) (setKid_vk _ _ _) (by cases s <;> rfl)
    rw [← cells_kid] at this
    exact this
  | some q =>
    obtain ⟨hq, hqp⟩ := hn q rfl
    refine ⟨_, _, hang_at N s (fun e => hqp e.symm) (h.node p hp) (h.node q hq), ?_, (Fr.node hp _).trans (.refl x) (Fr.node hq _)⟩
    have h1 := h.setNode hp ((x.nd p).setKid (some q) s) (setKid_vk _ _ _) (by cases s <;> rfl)
    rw [← cells_kid] at h1
    have h2 := h1.setNode (p := q) hq { x.nd q with up := some p } (by rw [Tst.setN_off _ _ hqp]) (by rw [Tst.setN_off _ _ hqp])
    exact h2
theorem hang_s (N : Nat) (h : TM t mb M x) {p : Nat} (hp : x.dom p) (s : Bool) {i : Int} (hi : i = sI s) (n : Option Nat) (hn : ∀ q, n = some q → x.dom q ∧ q ≠ p) : RetS Try.prog 58 [.ptr p 0, .int .i64 i, pO n] N M fun v _ M' => v = .tup [] ∧ TM t mb M' (x.hang p s n) ∧ Fr t mb x M M' := by
  subst hi
  obtain ⟨u, r, hc, h1, h2⟩ := hang_c N h hp s n hn
  exact (RetS.of_call hc).mono fun v N' M' _ ⟨e1, e2⟩ => by subst e2; exact ⟨e1, h1, h2⟩
theorem side_c (N : Nat) (h : TM t mb M x) {n u : Nat} (hn : x.dom n) (hu : x.dom u) (hup : (x.nd n).up = some u) (hm : ∀ m, (x.nd u).k1 = some m → x.dom m) : ∃ r, CallC Try.prog 64 [.ptr n 0] N M (.int .i64 (sI (x.side n u))) [] r N := by
  have h1 := h.node n hn
  have h2 := h.node u hu
  simp only [recC, hup] at h1
  unfold Tst.side
  cases hk : (x.nd u).k1 with
  | none =>
    simp only [recC, hk] at h2
    exact ⟨_, side_nil N h1 h2⟩
  | some m =>
    simp only [recC, hk] at h2
    exact ⟨_, side_at N _ rfl h1 h2 (h.node m (hm m hk))⟩
theorem instead_s (N : Nat) (h : TM t mb M x) {old : Nat} (ho : x.dom old) (n : Option Nat) (hn : ∀ q, n = some q → x.dom q) (hu : ∀ u, (x.nd old).up = some u → x.dom u ∧ n ≠ some u ∧ ∀ m, (x.nd u).k1 = some m → x.dom m) :
    RetS Try.prog 65 [.ptr t 0, .ptr old 0, pO n] N M fun v _ M' => v = .tup [] ∧ TM t mb M' (x.instead old n) ∧ Fr t mb x M M' := by
  have h1 := h.node old ho
  unfold Tst.instead
  cases hup : (x.nd old).up with
  | none =>
    obtain ⟨lk, ht⟩ := h.tree
    simp only [recC, hup, pO_some, pO_none] at h1
    cases n with
    | none =>
      refine RetS.of_body tok mixed Try.func65 (by kernel_rfl) rfl (k := 28) (rs := []) (by kernel_rfl) (by kernel_rfl) ?_; intro hN
      (conv => whnf) <;> repeat' (first | ((first | refine gA ?_ | refine wN ?_ | refine nA ?_ | refine fA ?_ | refine fB ?_ | refine wC ?_ | refine wD ?_ | refine fdA ?_ | refine fdB ?_ | refine vC ?_ | refine vD ?_ | refine feA ?_ | refine feB ?_ | refine uC ?_ | refine uD ?_); conv => whnf) | ((first | refine Pick.dec (fun h => ?_) (fun h => ?_) | refine Pick.beq (fun h => ?_) (fun h => ?_) | refine CondF.dec (fun h => ?_) (fun h => ?_) | refine CondF.beq (fun h => ?_) (fun h => ?_) | refine CondF.nb (fun h => ?_) (fun h => ?_) | refine CondF.nd (fun h => ?_) (fun h => ?_) | refine Pick.nd (fun h => ?_) (fun h => ?_) | refine Pick.mk (fun h => ?_) (fun h => ?_) | refine CondF.mk (fun h => ?_) (fun h => ?_)) <;> conv => whnf))
      exact .mk N _ ⟨rfl, h.setTree none lk, Fr.tree _⟩ (Less.refl _) (Nat.le_refl _) (Nat.le_refl _)
    | some q =>
      have hq := hn q rfl
      have h2 := h.node q hq
      have h3 := h.tn q hq
      refine RetS.of_body tok mixed Try.func65 (by kernel_rfl) rfl (k := 28) (rs := []) (by kernel_rfl) (by kernel_rfl) ?_; intro hN
      (conv => whnf) <;> repeat' (first | ((first | refine gA ?_ | refine wN ?_ | refine nA ?_ | refine fA ?_ | refine fB ?_ | refine wC ?_ | refine wD ?_ | refine fdA ?_ | refine fdB ?_ | refine vC ?_ | refine vD ?_ | refine feA ?_ | refine feB ?_ | refine uC ?_ | refine uD ?_); conv => whnf) | ((first | refine Pick.dec (fun h => ?_) (fun h => ?_) | refine Pick.beq (fun h => ?_) (fun h => ?_) | refine CondF.dec (fun h => ?_) (fun h => ?_) | refine CondF.beq (fun h => ?_) (fun h => ?_) | refine CondF.nb (fun h => ?_) (fun h => ?_) | refine CondF.nd (fun h => ?_) (fun h => ?_) | refine Pick.nd (fun h => ?_) (fun h => ?_) | refine Pick.mk (fun h => ?_) (fun h => ?_) | refine CondF.mk (fun h => ?_) (fun h => ?_)) <;> conv => whnf))
      refine .mk N _ ⟨rfl, ?_, (Fr.tree _).trans (.refl x) (Fr.node hq _)⟩ (Less.refl _) (Nat.le_refl _) (Nat.le_refl _)
      exact (h.setTree (some q) lk).setNode hq { x.nd q with up := none } rfl rfl
  | some u =>
    obtain ⟨hud, hnu, hm⟩ := hu u hup
    obtain ⟨r1, c1⟩ := side_c N h ho hud hup hm
    have hU := h.node u hud
    simp only [recC, hup, pO_some, pO_none] at h1
    cases n with
    | none =>
      refine RetS.of_body tok mixed Try.func65 (by kernel_rfl) rfl (k := 28) (rs := []) (by kernel_rfl) (by kernel_rfl) ?_; intro hN
      (conv => whnf) <;> repeat' (first | ((first | refine gA ?_ | refine wN ?_ | refine nA ?_ | refine fA ?_ | refine fB ?_ | refine wC ?_ | refine wD ?_ | refine CalledS.det (CalledF.mk _ _ _ _ (c1) ?_) | refine CalledF.mk _ _ _ _ (c1) ?_ | refine CalledS.det (CalledF.mk _ _ _ _ (hang_nil _ (x.side old u) hU) ?_) | refine CalledF.mk _ _ _ _ (hang_nil _ (x.side old u) hU) ?_ | refine fdA ?_ | refine fdB ?_ | refine vC ?_ | refine vD ?_ | refine feA ?_ | refine feB ?_ | refine uC ?_ | refine uD ?_); conv => whnf) | ((first | refine Pick.dec (fun h => ?_) (fun h => ?_) | refine Pick.beq (fun h => ?_) (fun h => ?_) | refine CondF.dec (fun h => ?_) (fun h => ?_) | refine CondF.beq (fun h => ?_) (fun h => ?_) | refine CondF.nb (fun h => ?_) (fun h => ?_) | refine CondF.nd (fun h => ?_) (fun h => ?_) | refine Pick.nd (fun h => ?_) (fun h => ?_) | refine Pick.mk (fun h => ?_) (fun h => ?_) | refine CondF.mk (fun h => ?_) (fun h => ?_)) <;> conv => whnf))
      refine .mk N _ ⟨rfl, ?_, Fr.node hud _⟩ (Less.refl _) (Nat.le_refl _) (Nat.le_refl _)
      have := h.setNode hud ((x.nd u).setKid none (x.side old u)) (setKid_vk _ _ _) (by cases x.side old u <;> rfl)
      rw [← cells_kid] at this
      exact this
    | some q =>
      have hq := hn q rfl
      have hqu : q ≠ u := fun e => hnu (by rw [e])
      have hQ := h.node q hq
      refine RetS.of_body tok mixed Try.func65 (by kernel_rfl) rfl (k := 28) (rs := []) (by kernel_rfl) (by kernel_rfl) ?_; intro hN
      (conv => whnf) <;> repeat' (first | ((first | refine gA ?_ | refine wN ?_ | refine nA ?_ | refine fA ?_ | refine fB ?_ | refine wC ?_ | refine wD ?_ | refine CalledS.det (CalledF.mk _ _ _ _ (c1) ?_) | refine CalledF.mk _ _ _ _ (c1) ?_ | refine CalledS.det (CalledF.mk _ _ _ _ (hang_at _ (x.side old u) (fun e => hqu e.symm) hU hQ) ?_) | refine CalledF.mk _ _ _ _ (hang_at _ (x.side old u) (fun e => hqu e.symm) hU hQ) ?_ | refine fdA ?_ | refine fdB ?_ | refine vC ?_ | refine vD ?_ | refine feA ?_ | refine feB ?_ | refine uC ?_ | refine uD ?_); conv => whnf) | ((first | refine Pick.dec (fun h => ?_) (fun h => ?_) | refine Pick.beq (fun h => ?_) (fun h => ?_) | refine CondF.dec (fun h => ?_) (fun h => ?_) | refine CondF.beq (fun h => ?_) (fun h => ?_) | refine CondF.nb (fun h => ?_) (fun h => ?_) | refine CondF.nd (fun h => ?_) (fun h => ?_) | refine Pick.nd (fun h => ?_) (fun h => ?_) | refine Pick.mk (fun h => ?_) (fun h => ?_) | refine CondF.mk (fun h => ?_) (fun h => ?_)) <;> conv => whnf))
      refine .mk N _ ⟨rfl, ?_, (Fr.node hud _).trans (.refl x) (Fr.node hq _)⟩ (Less.refl _) (Nat.le_refl _) (Nat.le_refl _)
      have h1 := h.setNode hud ((x.nd u).setKid (some q) (x.side old u)) (setKid_vk _ _ _) (by cases x.side old u <;> rfl)
      rw [← cells_kid] at h1
      exact h1.setNode (p := q) hq { x.nd q with up := some u } (by rw [Tst.setN_off _ _ hqu]) (by rw [Tst.setN_off _ _ hqu])
/-- A TURN. -/
theorem turn_s (N : Nat) (h : TM t mb M x) {n k : Nat} (s : Bool) (hn : x.dom n) (hk : x.dom k) (hkid : (x.nd n).kid s = some k) (hkn : k ≠ n) (hu : ∀ u, (x.nd n).up = some u → x.dom u ∧ u ≠ k ∧ u ≠ n ∧ ∀ m, (x.nd u).k1 = some m → x.dom m)
    (hj : ∀ q, (x.nd k).kid (!s) = some q → x.dom q ∧ q ≠ n ∧ q ≠ k ∧ (x.nd n).up ≠ some q) (hks : ∀ q, (x.nd k).kid s = some q → x.dom q ∧ q ≠ k) (hns : ∀ q, (x.nd n).kid (!s) = some q → x.dom q ∧ q ≠ n) :
    RetS Try.prog 74 [.ptr t 0, .ptr n 0, .int .i64 (sI s)] N M fun v _ M' => v = .ptr k 0 ∧ TM t mb M' (x.turn n s k) ∧ Fr t mb x M M' := by
  have hup : (x.nd n).up ≠ some k := fun e => (hu k e).2.1 rfl
  have hun : (x.nd n).up ≠ some n := fun e => (hu n e).2.2.1 rfl
  have hkn' : n ≠ k := fun e => hkn e.symm
  have hjn : (x.nd k).kid (!s) ≠ some n := fun e => (hj n e).2.1 rfl
  have hjk : (x.nd k).kid (!s) ≠ some k := fun e => (hj k e).2.2.1 rfl
  have hN0 := h.node n hn
  have ek : ((x.instead n (some k)).nd k).kid (!s) = (x.nd k).kid (!s) := by
    unfold Tst.instead
    cases hup' : (x.nd n).up with
    | none => simp only; rw [place_nd, if_pos rfl, kid_up]
    | some u =>
      simp only
      rw [hang_nd _ _ _ _ (by simp; exact fun e => hup (by rw [hup', e])), if_pos rfl, kid_up]
  have c1 := keep_instead x n (some k) (.inr hup)
  have k2 := keep_hang (x.instead n (some k)) n s (((x.instead n (some k)).nd k).kid (!s)) (by rw [ek]; exact hjn)
  have k3 := keep_hang ((x.instead n (some k)).hang n s (((x.instead n (some k)).nd k).kid (!s))) k (!s) (some n) (by simp; exact hkn')
  have c2 : Keep x ((x.instead n (some k)).hang n s (((x.instead n (some k)).nd k).kid (!s))) := c1.trans (keep_hang _ _ _ _ (by rw [ek]; exact hjn))
  have c3 : Keep x (x.turn3 n s k) := c2.trans (keep_hang _ _ _ _ (by simp; exact hkn'))
  have c4 : Keep x ((x.turn3 n s k).reck n) := c3.trans (keep_reck _ _)
  have L := fun q => turn3_links (x := x) (n := n) (s := s) (k := k) q
  have LT := turn_links x n s k hkn hun hup hjn hjk (fun q hq => (hj q hq).2.2.2)
  have kid3 : ∀ q b, ((x.turn3 n s k).nd q).kid b = (turned x n s k q).kid b := fun q b => by
    have h1 := L q
    have h2 := LT q
    cases b
    · exact h1.2.1.symm.trans h2.2.1
    · exact h1.2.2.symm.trans h2.2.2
  have kid4 : ∀ b, (((x.turn3 n s k).reck n).nd k).kid b = (turned x n s k k).kid b := fun b => by
    rw [show ((x.turn3 n s k).reck n).nd k = (x.turn3 n s k).nd k from Tst.setN_off _ _ hkn]; exact kid3 k b
  have tn : ∀ b q, (turned x n s k n).kid b = some q → x.dom q ∧ q ≠ n := fun b q hq => by
    unfold turned at hq
    rw [if_pos rfl, kid_up] at hq
    by_cases e : b = s
    · subst e; rw [kid_set] at hq; exact ⟨(hj q hq).1, (hj q hq).2.1⟩
    · have e : b = !s := by cases b <;> cases s <;> simp_all
      subst e; rw [kid_not] at hq; exact hns q hq
  have tk : ∀ b q, (turned x n s k k).kid b = some q → x.dom q ∧ q ≠ k := fun b q hq => by
    unfold turned at hq
    rw [if_neg hkn, if_pos rfl, kid_up] at hq
    by_cases e : b = !s
    · subst e; rw [kid_set] at hq; injection hq with hq; subst hq; exact ⟨hn, hkn'⟩
    · have e : b = s := by cases b <;> cases s <;> simp_all
      subst e
      have := kid_not (x.nd k) (some n) (!b)
      rw [Bool.not_not] at this
      rw [this] at hq; exact hks q hq
  cases s
  all_goals
    simp only [Rec.kid] at hkid
    simp only [recC, hkid, pO_some] at hN0
    simp only [sI]
    refine RetS.of_body tok mixed Try.func74 (by kernel_rfl) rfl (k := 40) (rs := [.tmp 6]) (by kernel_rfl) (by kernel_rfl) ?_; intro hN
    (conv => whnf) <;> repeat' (first | (refine CalledS.post _ (instead_s _ h hn (some k) (fun q hq => by injection hq with hq; subst hq; exact hk) (fun u hu' => ⟨(hu u hu').1, (fun e => (hu u hu').2.1 (by injection e with e; exact e.symm)), (hu u hu').2.2.2⟩)) ?_; rintro _ N1 M1 ⟨rfl, t1, f1⟩ l1; have hK1 := t1.node k (c1.into hk); conv => whnf) | (refine CalledS.post _ (hang_s _ t1 (p := n) (c1.into hn) false (by decide) (((x.instead n (some k)).nd k).kid true) (fun q hq => ⟨c1.into (hj q (ek.symm.trans hq)).1, (hj q (ek.symm.trans hq)).2.1⟩)) ?_; rintro _ N2 M2 ⟨rfl, t2, f2⟩ l2; conv => whnf) | (refine CalledS.post _ (hang_s _ t2 (p := k) (c2.into hk) true (by decide) (some n) (fun q hq => by injection hq with hq; subst hq; exact ⟨c2.into hn, hkn'⟩)) ?_; rintro _ N3 M3 ⟨rfl, t3, f3⟩ l3; conv => whnf) | (refine CalledS.post _ (hang_s _ t1 (p := n) (c1.into hn) true (by decide) (((x.instead n (some k)).nd k).kid false) (fun q hq => ⟨c1.into (hj q (ek.symm.trans hq)).1, (hj q (ek.symm.trans hq)).2.1⟩)) ?_; rintro _ N2 M2 ⟨rfl, t2, f2⟩ l2; conv => whnf) | (refine CalledS.post _ (hang_s _ t2 (p := k) (c2.into hk) false (by decide) (some n) (fun q hq => by injection hq with hq; subst hq; exact ⟨c2.into hn, hkn'⟩)) ?_; rintro _ N3 M3 ⟨rfl, t3, f3⟩ l3; conv => whnf) | (refine CalledS.post _ (reckon_s _ t3 (n := n) (c3.into hn) (fun q hq => ⟨c3.into (tn false q ((kid3 n false).symm.trans hq)).1, (tn false q ((kid3 n false).symm.trans hq)).2⟩) (fun q hq => ⟨c3.into (tn true q ((kid3 n true).symm.trans hq)).1, (tn true q ((kid3 n true).symm.trans hq)).2⟩)) ?_; rintro _ N4 M4 ⟨rfl, t4, f4⟩ l4; conv => whnf) | (refine CalledS.post _ (reckon_s _ t4 (n := k) (c4.into hk) (fun q hq => ⟨c4.into (tk false q ((kid4 false).symm.trans hq)).1, (tk false q ((kid4 false).symm.trans hq)).2⟩) (fun q hq => ⟨c4.into (tk true q ((kid4 true).symm.trans hq)).1, (tk true q ((kid4 true).symm.trans hq)).2⟩)) ?_; rintro _ N5 M5 ⟨rfl, t5, f5⟩ l5; conv => whnf) | ((first | refine gA ?_ | refine wN ?_ | refine nA ?_ | refine fA ?_ | refine fB ?_ | refine wC ?_ | refine wD ?_ | refine fdA ?_ | refine fdB ?_ | refine vC ?_ | refine vD ?_ | refine feA ?_ | refine feB ?_ | refine uC ?_ | refine uD ?_); conv => whnf) | ((first | refine Pick.dec (fun h => ?_) (fun h => ?_) | refine Pick.beq (fun h => ?_) (fun h => ?_) | refine CondF.dec (fun h => ?_) (fun h => ?_) | refine CondF.beq (fun h => ?_) (fun h => ?_) | refine CondF.nb (fun h => ?_) (fun h => ?_) | refine CondF.nd (fun h => ?_) (fun h => ?_) | refine Pick.nd (fun h => ?_) (fun h => ?_) | refine Pick.mk (fun h => ?_) (fun h => ?_) | refine CondF.mk (fun h => ?_) (fun h => ?_)) <;> conv => whnf))
    exact .mk N5 _ ⟨rfl, t5, f1.trans c1 (f2.trans k2 (f3.trans k3 (f4.trans (keep_reck _ _) f5)))⟩ (Less.refl _) (by omega) (Nat.le_refl _)
end
end Go.Proofs.Ytafiechoplbieaa

