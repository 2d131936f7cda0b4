/- What is defined at the end changes no kind in section 0. -/
import Derived.Test.YthjgnmpnagmeoaaAmHy
import Derived.Test.YthjgnmpnagmeoaaAmGV
set_option linter.unusedVariables false
set_option linter.unusedSimpArgs false
set_option maxRecDepth 100000
namespace Go.AM
/-- a list of sections, one item more in the first, perhaps one section more at the end -/
structure Longer (l l' : List Se) : Prop where
  is : ∃ a a' i t r, l = a :: t ∧ l' = a' :: (t ++ r) ∧ a.par = -1 ∧ a'.par = -1 ∧ a'.items = a.items ++ [i]
theorem idxR_app (name : ByteArray) (m : List It) : ∀ (k : Nat) (l : List It), 0 ≤ idxR name k l → idxR name k (l ++ m) = idxR name k l
  | _, [], h => by simp [idxR] at h
  | k, t :: r, h => by
    show (if t.reads name then (k : Int) else idxR name (k + 1) (r ++ m)) = if t.reads name then (k : Int) else idxR name (k + 1) r
    unfold idxR at h
    split
    · rfl
    · rename_i hn
      rw [if_neg hn] at h
      exact idxR_app name m (k + 1) r h
theorem idxT_app (name : ByteArray) (m : List Tb) : ∀ (k : Nat) (l : List Tb), 0 ≤ idxT name k l → 0 ≤ idxT name k (l ++ m)
  | _, [], h => by simp [idxT] at h
  | k, t :: r, h => by
    show 0 ≤ idxT name k (t :: (r ++ m))
    unfold idxT at h ⊢
    split
    · omega
    · rename_i hn
      rw [if_neg hn] at h
      exact idxT_app name m (k + 1) r h
theorem find_ext {α : Type} {p q : α → Bool} : ∀ {l : List α}, (∀ i ∈ l, p i = q i) → l.find? p = l.find? q
  | [], _ => rfl
  | x :: r, h => by
    rw [List.find?_cons, List.find?_cons, h x (List.mem_cons_self ..), find_ext fun i hi => h i (List.mem_cons_of_mem _ hi)]
theorem kidsN_app (s : Int) (r : List Se) : ∀ (k : Nat) (l : List Se), kidsN s k (l ++ r) = kidsN s k l ++ kidsN s (k + l.length) r
  | k, [] => rfl
  | k, x :: l => by
    have ih := kidsN_app s r (k + 1) l
    have e : k + 1 + l.length = k + (x :: l).length := by rw [List.length_cons]; omega
    rw [e] at ih
    rw [List.cons_append]
    have c : ∀ m : List Se, kidsN s k (x :: m) = if 0 ≤ s ∧ x.par = s then (k : Int) :: kidsN s (k + 1) m else kidsN s (k + 1) m := fun m => by rw [kidsN]
    rw [c, c, ih]
    split <;> rfl
variable {l l' : List Se}
theorem Longer.kid (h : Longer l l') {name : ByteArray} (hk : (kidF l 0 name).2 = true) : kidF l' 0 name = kidF l 0 name ∧ seAt l' (kidF l 0 name).1 = seAt l (kidF l 0 name).1 := by
  obtain ⟨a, a', i, t, r, rfl, rfl, p, p', _⟩ := h.is
  have e1 : kidsF (a :: t) 0 = kidsN 0 1 t := by
    unfold kidsF
    rw [kidsN, if_neg (by omega)]
  have e2 : kidsF (a' :: (t ++ r)) 0 = kidsN 0 1 t ++ kidsN 0 (1 + t.length) r := by
    unfold kidsF
    rw [kidsN, if_neg (by omega)]
    exact kidsN_app 0 r 1 t
  have same : ∀ j ∈ kidsN 0 1 t, (a' :: (t ++ r))[j.toNat]? = (a :: t)[j.toNat]? := fun j hj => by
    have := kidsN_lt 0 1 t j hj
    obtain ⟨q, hq⟩ : ∃ q, j.toNat = q + 1 := ⟨j.toNat - 1, by omega⟩
    rw [hq, List.getElem?_cons_succ, List.getElem?_cons_succ, List.getElem?_append_left (by omega)]
  have e3 : (kidsF (a' :: (t ++ r)) 0).find? (fun i => decide ((((a' :: (t ++ r))[i.toNat]?).getD Se0).name = name)) =
      (((kidsF (a :: t) 0).find? (fun i => decide ((((a :: t)[i.toNat]?).getD Se0).name = name))).or ((kidsN 0 (1 + t.length) r).find? (fun i => decide ((((a' :: (t ++ r))[i.toNat]?).getD Se0).name = name)))) := by
    rw [e2, e1, List.find?_append]
    congr 1
    exact find_ext fun j hj => by rw [same j hj]
  unfold kidF at hk ⊢
  rw [e3]
  cases hf : (kidsF (a :: t) 0).find? (fun i => decide ((((a :: t)[i.toNat]?).getD Se0).name = name)) with
  | none => rw [hf] at hk; simp at hk
  | some j =>
    have hm := List.mem_of_find?_eq_some hf
    rw [e1] at hm
    have := kidsN_lt 0 1 t j hm
    refine ⟨rfl, ?_⟩
    show seAt _ j = seAt _ j
    unfold seAt
    rw [if_pos (by omega), if_pos (by omega)]
    exact same j hm
theorem Longer.name (h : Longer l l') {name : ByteArray} {na : Nat} {k : Int} (hk : nameF l 0 name na = (k, 0)) : nameF l' 0 name na = (k, 0) := by
  obtain ⟨a, a', i, t, r, rfl, rfl, p, p', hi⟩ := h.is
  have f1 : findF (a :: t) 0 name = if 0 ≤ idxR name 0 a.items then (0, idxR name 0 a.items, true) else (0, 0, false) := by
    unfold findF
    rw [findN]
    show (if 0 ≤ idxR name 0 a.items then _ else findN (a :: t) name (a :: t).length a.par) = _
    split
    · rfl
    · rw [p]; rfl
  have f2 : findF (a' :: (t ++ r)) 0 name = if 0 ≤ idxR name 0 a'.items then (0, idxR name 0 a'.items, true) else (0, 0, false) := by
    unfold findF
    rw [findN]
    show (if 0 ≤ idxR name 0 a'.items then _ else findN (a' :: (t ++ r)) name (a' :: (t ++ r)).length a'.par) = _
    split
    · rfl
    · rw [p']; rfl
  unfold nameF at hk ⊢
  rw [f1] at hk
  by_cases h0 : 0 ≤ idxR name 0 a.items
  · have e := idxR_app name [i] 0 a.items h0
    rw [← hi] at e
    rw [f2, e, if_pos h0]
    rw [if_pos h0] at hk
    have hit : itemAt (a' :: (t ++ r)) 0 (idxR name 0 a.items) = itemAt (a :: t) 0 (idxR name 0 a.items) := by
      show ((a'.items)[(idxR name 0 a.items).toNat]?).getD It0 = ((a.items)[(idxR name 0 a.items).toNat]?).getD It0
      rcases idxR_find name 0 a.items with ⟨_, e2⟩ | ⟨j, x, h1, _, e2⟩
      · omega
      · have hj : j < a.items.length := (List.getElem?_eq_some_iff.1 h1).1
        rw [hi, e2, Int.toNat_natCast, Nat.zero_add, List.getElem?_append_left hj]
    rw [hit]
    exact hk
  · rw [if_neg h0] at hk
    simp at hk
theorem unkF_ne (s op : Int) (name sect : ByteArray) : (unkF l s op name sect).2 ≠ 0 := by
  unfold unkF kNo
  split
  · split <;> simp
  · simp
theorem Longer.agg (h : Longer l l') {o : Int} {n s : ByteArray} {na : Nat} {k : Int} (hk : aggF l 0 o n s na = (k, 0)) : aggF l' 0 o n s na = (k, 0) := by
  unfold aggF at hk ⊢
  split at hk
  · exact absurd (congrArg Prod.snd hk) (unkF_ne 0 o n s)
  · rename_i h1
    rw [if_neg h1]
    by_cases hs : (kidF l 0 s).2 = true
    · obtain ⟨e1, e2⟩ := h.kid hs
      rw [e1]
      have e3 : rdAt l' (kidF l 0 s).1 n = rdAt l (kidF l 0 s).1 n := by unfold rdAt; rw [e2]
      rw [e3]
      exact hk
    · rw [if_neg hs] at hk
      simp at hk
section
variable {tabs : List Tb} {tb : Tb} (h : Longer l l')
theorem Longer.head (h : Longer l l') {k o : Int} {n s : ByteArray} {v : Vl} {sc p : Int} {na : Nat} {ks : List Int} {q : Int} (hk : headF tabs l 0 k o n s v sc p na ks = (q, 0)) : headF (tabs ++ [tb]) l' 0 k o n s v sc p na ks = (q, 0) := by
  unfold headF at hk ⊢
  by_cases k1 : k = 1
  · rw [if_pos k1] at hk ⊢; exact hk
  rw [if_neg k1] at hk ⊢
  by_cases k2 : k = 2
  · rw [if_pos k2] at hk ⊢; exact h.name hk
  rw [if_neg k2] at hk ⊢
  by_cases k3 : k = 3
  · rw [if_pos k3] at hk ⊢; exact hk
  rw [if_neg k3] at hk ⊢
  by_cases k4 : k = 4
  · rw [if_pos k4] at hk ⊢; exact hk
  rw [if_neg k4] at hk ⊢
  by_cases k9 : k = 9
  · rw [if_pos k9] at hk ⊢; exact hk
  rw [if_neg k9] at hk ⊢
  by_cases k5 : k = 5
  · rw [if_pos k5] at hk ⊢; exact hk
  rw [if_neg k5] at hk ⊢
  by_cases k6 : k = 6
  · rw [if_pos k6] at hk ⊢; exact hk
  rw [if_neg k6] at hk ⊢
  by_cases k7 : k = 7
  · rw [if_pos k7] at hk ⊢; exact hk
  rw [if_neg k7] at hk ⊢
  by_cases k8 : k = 8
  · rw [if_pos k8] at hk ⊢
    by_cases h0 : 0 ≤ idxT n 0 tabs
    · rw [if_pos h0] at hk
      rw [if_pos (idxT_app n [tb] 0 tabs h0)]
      exact hk
    · rw [if_neg h0] at hk; simp at hk
  rw [if_neg k8] at hk ⊢
  by_cases k10 : k = 10
  · rw [if_pos k10] at hk ⊢; exact h.agg hk
  rw [if_neg k10] at hk ⊢
  exact hk
theorem Longer.kinds (h : Longer l l') : ∀ (as1 : List Xp), (∀ y ∈ as1, ∀ q, kindF tabs l 0 y = (q, 0) → kindF (tabs ++ [tb]) l' 0 y = (q, 0)) → (kindsF tabs l 0 as1).1 = 0 → kindsF (tabs ++ [tb]) l' 0 as1 = kindsF tabs l 0 as1
  | [], _, _ => by rw [kindsF_nil, kindsF_nil]
  | x :: r, ih, h0 => by
    by_cases hx : (kindF tabs l 0 x).2 = 0
    · have e := ih x (List.mem_cons_self ..) (kindF tabs l 0 x).1 (Prod.ext rfl hx)
      rw [kindsF_ok hx] at h0 ⊢
      by_cases hr : (kindsF tabs l 0 r).1 = 0
      · have := h.kinds r (fun y hy => ih y (List.mem_cons_of_mem _ hy)) hr
        rw [kindsF_ok (by rw [e]), this, e]
      · rw [if_pos hr] at h0
        exact absurd h0 hr
    · rw [kindsF_bad hx] at h0
      exact absurd h0 hx
theorem Longer.kind (h : Longer l l') (x : Xp) : ∀ q, kindF tabs l 0 x = (q, 0) → kindF (tabs ++ [tb]) l' 0 x = (q, 0) := by
  refine Xp.ind (Q := fun x => ∀ q, kindF tabs l 0 x = (q, 0) → kindF (tabs ++ [tb]) l' 0 x = (q, 0)) ?_ x
  clear x
  intro x ih q hq
  obtain ⟨k, o, n, s, v, sc, p, a⟩ := x
  rw [kindF_mk] at hq ⊢
  by_cases h0 : (kindsF tabs l 0 a).1 = 0
  · rw [if_neg (by simpa using h0)] at hq
    have e := h.kinds (tb := tb) a ih h0
    rw [e, if_neg (by simpa using h0)]
    exact h.head hq
  · rw [if_pos h0] at hq
    exact absurd (congrArg Prod.snd hq) h0
end
end Go.AM

set_option linter.unusedVariables false
set_option linter.unusedSimpArgs false
set_option maxRecDepth 100000
namespace Go.AM
def Val.leC (v v' : Val) : Prop := ∀ φ u, RelC φ v u → RelC φ v' u
theorem Val.leC.refl (v : Val) : v.leC v := fun _ _ h => h
theorem leC_nils {sz : Nat} {g : Nat → List Val} : Val.nils.leC (.ext sz 0 g) := fun φ u h => by cases h; exact .extNil sz g
/-- a row whose elements are made otherwise -/
theorem le_extC {sz n : Nat} {g g' : Nat → List Val} (hl : ∀ i, i < n → (g' i).length = sz) (h : ∀ i j, i < n → j < sz → ((g i).getD j .und).leC ((g' i).getD j .und)) : (Val.ext sz n g).le (.ext sz n g') := fun ι φ u hr => by
  cases hr with
  | c hc =>
    refine .c ?_
    cases hc with
    | ext _ _ _ a c vals hc hl' hφ h1 hr => exact .ext sz n g' a c vals hc hl hφ h1 fun i j hi hj => h i j hi hj _ _ (hr i j hi hj)
    | extNil => exact .extNil sz g'
/-! ### the law's longer definition -/
/-- the first that is so, from k on; -1: there is none -/
def idxB {α : Type} (p : α → Bool) : Nat → List α → Int
  | _, [] => -1
  | k, t :: r => if p t = true then (k : Int) else idxB p (k + 1) r
/-! ### names -/
theorem i640 : I64 0 := by unfold I64; omega
theorem xp00_wf : xp00.Wf := .mk _ ⟨i640, i640, by decide, by decide, ⟨i640, i640, by decide, i640⟩, i640, i640, by decide⟩ fun y hy => absurd (show y ∈ [] from hy) (by simp)
theorem xp00_lens : xp00.Lens := .mk _ (by decide) fun y hy => absurd (show y ∈ [] from hy) (by simp)
end Go.AM

