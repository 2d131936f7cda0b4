/- Values that stand for the same, by their elements: a contract goes over to them; what was computed once is known (checkpoints). -/
import Derived.Test.YtafiechoplbieaaAmLib
import Derived.Test.YtafiechoplbieaaAmHg
set_option linter.unusedVariables false
set_option linter.unusedSimpArgs false
set_option maxRecDepth 100000
namespace Go.AM
noncomputable section
def allN : Nat → (Nat → Bool) → Bool
  | 0, _ => true
  | n + 1, p => p n && allN n p
theorem allN_ok {p : Nat → Bool} : ∀ {n : Nat}, allN n p = true → ∀ i, i < n → p i = true
  | n + 1, h, i, hi => by
    simp only [allN, Bool.and_eq_true] at h
    rcases Nat.lt_or_ge i n with k | k
    · exact allN_ok h.2 i k
    · rw [show i = n by omega]; exact h.1
def bytesB (a b : ByteArray) : Bool := decide (a.data.toList = b.data.toList)
theorem bytesB_ok {a b : ByteArray} (h : bytesB a b = true) : a = b := by
  have := of_decide_eq_true h
  cases a with | mk a => cases b with | mk b => cases a; cases b; simp_all
/-- Do two values stand for the same? -/
def eqlL (f : Val → Val → Bool) : List Val → List Val → Bool
  | [], [] => true
  | x :: l, y :: m => f x y && eqlL f l m
  | _, _ => false
def eqlV : Nat → Val → Val → Bool
  | 0, _, _ => false
  | k + 1, a, b => match a, b with
    | .int i n, .int j m => decide (i = j) && decide (n = m)
    | .bool x, .bool y => x == y
    | .str s, .str t => bytesB s t
    | .nilp, .nilp => true
    | .nils, .nils => true
    | .nils, .ext _ n _ => decide (n = 0)
    | .emp, .emp => true
    | .nilf, .nilf => true
    | .nilm, .nilm => true
    | .nili, .nili => true
    | .row i n, .row j m => decide (i = j) && decide (n = m)
    | .ext sz n g, .ext sz' n' g' => decide (sz = sz') && decide (n = n') && allN n fun i => eqlL (eqlV k) (g i) (g' i)
    | .agg cs, .agg cs' => eqlL (eqlV k) cs cs'
    | .tup cs, .tup cs' => eqlL (eqlV k) cs cs'
    | _, _ => false
theorem eqlL_len {f : Val → Val → Bool} : ∀ {l m : List Val}, eqlL f l m = true → l.length = m.length
  | [], [], _ => rfl
  | x :: l, y :: m, h => by
    simp only [eqlL, Bool.and_eq_true] at h
    simp [eqlL_len h.2]
  | [], _ :: _, h => by cases h
  | _ :: _, [], h => by cases h
theorem eqlL_at {f : Val → Val → Bool} : ∀ {l m : List Val}, eqlL f l m = true → ∀ i, i < l.length → f (l.getD i .und) (m.getD i .und) = true
  | x :: l, y :: m, h, i, hi => by
    simp only [eqlL, Bool.and_eq_true] at h
    cases i with
    | zero => exact h.1
    | succ i => exact eqlL_at h.2 i (by simpa using hi)
  | [], [], _, i, hi => by simp at hi
  | [], _ :: _, h, _, _ => by cases h
  | _ :: _, [], h, _, _ => by cases h
theorem eqlC {φ : Prot} : ∀ (k : Nat) {a b : Val} {u : Value}, eqlV k a b = true → RelC φ a u → RelC φ b u
  | 0, _, _, _, h, _ => by cases h
  | k + 1, a, b, u, h, hr => by
    cases hr <;> cases b <;> try (cases h; done)
    case bool.bool x y => obtain rfl : x = y := by simpa [eqlV] using h
                          exact .bool x
    case int.int i n j m =>
      obtain ⟨rfl, rfl⟩ : i = j ∧ n = m := by simpa [eqlV] using h
      exact .int i n
    case str.str s t => rw [← bytesB_ok (show bytesB s t = true from h)]; exact .str s
    case nilp.nilp => exact .nilp
    case nils.nils => exact .nils
    case nils.ext sz n g =>
      obtain rfl : n = 0 := by simpa [eqlV] using h
      exact .extNil sz g
    case emp.emp a => exact .emp a
    case nilf.nilf => exact .nilf
    case nilm.nilm => exact .nilm
    case nili.nili => exact .nili
    case ext.ext sz n g a c vals hc hl hφ h1 hr sz' n' g' =>
      simp only [eqlV, Bool.and_eq_true, decide_eq_true_eq] at h
      obtain ⟨⟨rfl, rfl⟩, h⟩ := h
      have h := fun i hi => allN_ok h i hi
      exact .ext sz n g' a c vals hc (fun i hi => (eqlL_len (h i hi)).symm.trans (hl i hi)) hφ h1 fun i j hi hj => eqlC k (eqlL_at (h i hi) j (by rw [hl i hi]; exact hj)) (hr i j hi hj)
    case extNil.ext sz g sz' n' g' =>
      simp only [eqlV, Bool.and_eq_true, decide_eq_true_eq] at h
      obtain ⟨⟨rfl, rfl⟩, h⟩ := h
      exact .extNil sz g'
theorem eqlR {ι : Map} {φ : Prot} : ∀ (k : Nat) {a b : Val} {u : Value}, eqlV k a b = true → Rel ι φ a u → Rel ι φ b u
  | 0, _, _, _, h, _ => by cases h
  | k + 1, a, b, u, h, hr => by
    cases hr with
    | c hc => exact .c (eqlC (k + 1) h hc)
    | row i n g c e hn =>
      cases b <;> try (cases h; done)
      rename_i j m
      obtain ⟨rfl, rfl⟩ : i = j ∧ n = m := by simpa [eqlV] using h
      exact .row i n g c e hn
    | agg cs us hs h1 hr =>
      cases b <;> try (cases h; done)
      rename_i cs'
      have h : eqlL (eqlV k) cs cs' = true := h
      have e := eqlL_len h
      exact .agg cs' us (hs.trans e) (fun i hi => h1 i (by omega)) fun i hi => eqlR k (eqlL_at h i (by omega)) (hr i (by omega))
    | tup cs us hs hr =>
      cases b <;> try (cases h; done)
      rename_i cs'
      have h : eqlL (eqlV k) cs cs' = true := h
      have e := eqlL_len h
      exact .tup cs' us (hs.trans e) fun i hi => eqlR k (eqlL_at h i (by omega)) (hr i (by omega))
    | ptr b off g c h' => cases b <;> cases h
    | ep b sz i j g c h' => cases b <;> cases h
    | asl b off n g c cap h' hn => cases b <;> cases h
    | map b g c h' => cases b <;> cases h
    | fn f fs cs us ws h1 h2 r1 r2 => cases b <;> cases h
    | ifc t v u h' => cases b <;> cases h
    | und u => cases b <;> cases h
    | raw u h1 => cases b <;> cases h
theorem eqlTm {ι : Map} {φ : Prot} {k : Nat} {as bs : List Val} {us : Array Value} (h : eqlL (eqlV k) as bs = true) (ht : TmOk ι φ as us) : TmOk ι φ bs us :=
  ⟨ht.len.trans (eqlL_len h), fun i hi => eqlR k (eqlL_at h i (by rw [eqlL_len h]; exact hi)) (ht.rel i (by rw [eqlL_len h]; exact hi))⟩
def eqlB (k : Nat) : Blk → Blk → Bool
  | .row e sz n g pr, .row e' sz' n' g' pr' => decide (e = e') && (decide (sz = sz') && (decide (n = n') && (decide (pr = pr') && allN n fun i => eqlL (eqlV k) (g i) (g' i))))
  | .gone, .gone => true
  | _, _ => false
def eqlH (k : Nat) : List Blk → List Blk → Bool
  | [], [] => true
  | x :: l, y :: m => eqlB k x y && eqlH k l m
  | _, _ => false
theorem eqlBlk {ι : Map} {φ : Prot} {w : World} {b k : Nat} {x y : Blk} (h : eqlB k x y = true) (hx : BlkOk ι φ w b x) : BlkOk ι φ w b y := by
  cases x <;> cases y <;> try (cases h; done)
  case row.row e sz n g pr e' sz' n' g' pr' =>
    simp only [eqlB, Bool.and_eq_true, decide_eq_true_eq] at h
    obtain ⟨rfl, rfl, rfl, rfl, h⟩ := h
    have h := fun i hi => allN_ok h i hi
    obtain ⟨g0, c, arr, h1, h2, h3, h4, h5, h6, h7, h8, h9, h10⟩ := hx
    exact ⟨g0, c, arr, h1, h2, h3, h4, h5, h6, h7, fun i hi => (eqlL_len (h i hi)).symm.trans (h8 i hi), fun i j hi hj => eqlC k (eqlL_at (h i hi) j (by rw [h8 i hi]; exact hj)) (h9 i j hi hj), h10⟩
  case gone.gone => exact trivial
theorem eqlB_gone {k : Nat} {x y : Blk} (h : eqlB k x y = true) : x = .gone ↔ y = .gone := by
  cases x <;> cases y <;> simp_all [eqlB]
theorem eqlH_len {k : Nat} : ∀ {l m : List Blk}, eqlH k l m = true → l.length = m.length
  | [], [], _ => rfl
  | x :: l, y :: m, h => by
    simp only [eqlH, Bool.and_eq_true] at h
    simp [eqlH_len h.2]
  | [], _ :: _, h => by cases h
  | _ :: _, [], h => by cases h
theorem eqlH_at {k : Nat} : ∀ {l m : List Blk}, eqlH k l m = true → ∀ i, eqlB k (getH l i) (getH m i) = true
  | [], [], _, i => rfl
  | x :: l, y :: m, h, i => by
    simp only [eqlH, Bool.and_eq_true] at h
    cases i with
    | zero => exact h.1
    | succ i => exact eqlH_at h.2 i
  | [], _ :: _, h, _ => by cases h
  | _ :: _, [], h, _ => by cases h
/-- The contract of a call, its arguments and its results named otherwise. -/
theorem Ret.same {P : Program} {f : FuncId} {as as' : List Val} {v v' : Val} {h h' : List Blk} {k : Nat} (hr : Ret P f as [] v h) (ha : eqlL (eqlV k) as' as = true) (hv : eqlV k v v' = true) (hh : eqlH k h h' = true) : Ret P f as' [] v' h' := by
  refine ⟨hr.1, fun ι φ w cargs hι hs ht => (hr.2 ι φ w cargs hι hs (eqlTm ha ht)).mono fun e w' => ?_⟩
  rintro ⟨cv, ι', φ', rfl, hm, hi, hrel, hn⟩
  refine ⟨cv, ι', φ', rfl, hm, ⟨⟨fun b => eqlBlk (eqlH_at hh b) (hi.sim.blk b), fun b b' g c c' hb hb' => hi.sim.inj b b' g c c' (fun e => hb ((eqlB_gone (eqlH_at hh b)).1 e)) (fun e => hb' ((eqlB_gone (eqlH_at hh b')).1 e)), hi.sim.prot⟩,
    hi.keep, fun b g c hb => hi.own b g c fun e => hb ((eqlB_gone (eqlH_at hh b)).1 e), hi.new, hi.le⟩, eqlR k hv hrel, fun b hb => hn b (by rw [eqlH_len hh]; exact hb)⟩
theorem Ret.args {P : Program} {f : FuncId} {as as' : List Val} {v : Val} {h : List Blk} {k : Nat} (hr : Ret P f as [] v h) (ha : eqlL (eqlV k) as' as = true) : Ret P f as' [] v h :=
  ⟨hr.1, fun ι φ w cargs hι hs ht => hr.2 ι φ w cargs hι hs (eqlTm ha ht)⟩
def bs (l : List UInt8) : ByteArray := ⟨⟨l⟩⟩
end
end Go.AM

