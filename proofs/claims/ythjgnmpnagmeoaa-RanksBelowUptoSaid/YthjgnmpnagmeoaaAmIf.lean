/- Ranks: what items read, as it is: numbers, sets of numbers, sorted lists. -/
import Derived.Test.YthjgnmpnagmeoaaAmHy
import Derived.Test.YthjgnmpnagmeoaaAmHn
import Derived.Test.YthjgnmpnagmeoaaAmHr
import Derived.Test.YthjgnmpnagmeoaaAmIc
set_option linter.unusedVariables false
set_option linter.unusedSimpArgs false
set_option maxRecDepth 100000
namespace Go.AM
def kI (i : Int) : List Leaf := [.i .i64 i]
theorem kI_inj : ∀ a b, kI a = kI b → a = b := fun a b h => by simpa [kI] using h
abbrev setZ (l : List (Int × Unit)) : Blk := .map false false [.i .i64] (encM kI cT l)
abbrev mapZ (l : List (Int × Int)) : Blk := .map false false [.i .i64] (encM kI cI l)
abbrev leI (a b : Int) : Bool := decide (a ≤ b)
def sortZ (l : List Int) : List Int := l.mergeSort leI
theorem sortZ_perm (l : List Int) : (sortZ l).Perm l := List.mergeSort_perm l leI
theorem sortZ_sorted (l : List Int) : (sortZ l).Pairwise (· ≤ ·) := by
  have := List.pairwise_mergeSort (le := leI) (fun a b c h1 h2 => by simp only [leI, decide_eq_true_eq] at *; omega) (fun a b => by simp only [leI, Bool.or_eq_true, decide_eq_true_eq]; omega) l
  exact this.imp fun h => by simpa [leI] using h
theorem sorted_eq {l m : List Int} (hl : l.Pairwise (· ≤ ·)) (hm : m.Pairwise (· ≤ ·)) (h : l.Perm m) : l = m :=
  List.Perm.eq_of_pairwise (le := (· ≤ ·)) (fun a b _ _ h1 h2 => by omega) hl hm h
theorem sortZ_eq {l m : List Int} (h : l.Perm m) : sortZ l = sortZ m := sorted_eq (sortZ_sorted l) (sortZ_sorted m) (((sortZ_perm l).trans h).trans (sortZ_perm m).symm)
theorem mem_sortZ {l : List Int} {x : Int} : x ∈ sortZ l ↔ x ∈ l := (sortZ_perm l).mem_iff
/-- put to a rising list, once -/
def putO (n : Int) : List Int → List Int
  | [] => [n]
  | x :: r => if x < n then x :: putO n r else if x = n then x :: r else n :: x :: r
theorem putO_mem {n : Int} : ∀ {l : List Int}, (∀ x ∈ l, x ≤ n ∨ n ≤ x) → ∀ {y : Int}, y ∈ putO n l ↔ y = n ∨ y ∈ l
  | [], _, y => by simp [putO]
  | x :: r, h, y => by
    unfold putO
    split
    · rw [List.mem_cons, putO_mem (fun z hz => h z (List.mem_cons_of_mem _ hz)), List.mem_cons]
      constructor
      · rintro (h1 | h1 | h1) <;> simp [h1]
      · rintro (h1 | h1 | h1) <;> simp [h1]
    · split
      · rename_i _ e; subst e; simp
      · simp
theorem putO_has {n : Int} : ∀ {l : List Int}, l.Pairwise (· ≤ ·) → n ∈ l → putO n l = l
  | x :: r, h, hm => by
    unfold putO
    rcases List.mem_cons.1 hm with rfl | hm
    · rw [if_neg (by omega), if_pos rfl]
    · have h1 := (List.pairwise_cons.1 h).1 n hm
      by_cases h2 : x < n
      · rw [if_pos h2, putO_has (List.pairwise_cons.1 h).2 hm]
      · rw [if_neg h2, if_pos (by omega)]
theorem putO_perm {n : Int} : ∀ {l : List Int}, n ∉ l → (putO n l).Perm (n :: l)
  | [], _ => .refl _
  | x :: r, h => by
    unfold putO
    have h1 : ¬ x = n := fun e => h (by simp [e])
    by_cases h2 : x < n
    · rw [if_pos h2]
      exact ((putO_perm fun hm => h (List.mem_cons_of_mem _ hm)).cons x).trans (.swap n x r)
    · rw [if_neg h2, if_neg h1]
theorem putO_sorted {n : Int} : ∀ {l : List Int}, l.Pairwise (· ≤ ·) → (putO n l).Pairwise (· ≤ ·)
  | [], _ => by simp [putO]
  | x :: r, h => by
    obtain ⟨h1, h2⟩ := List.pairwise_cons.1 h
    unfold putO
    by_cases h3 : x < n
    · rw [if_pos h3]
      refine List.pairwise_cons.2 ⟨fun y hy => ?_, putO_sorted h2⟩
      rcases (putO_mem fun z _ => by omega).1 hy with rfl | hy
      · omega
      · exact h1 y hy
    · rw [if_neg h3]
      by_cases h4 : x = n
      · rw [if_pos h4]; exact h
      · rw [if_neg h4]
        refine List.pairwise_cons.2 ⟨fun y hy => ?_, h⟩
        rcases List.mem_cons.1 hy with rfl | hy
        · omega
        · have := h1 y hy; omega
theorem putO_len (n : Int) : ∀ l : List Int, (putO n l).length ≤ l.length + 1
  | [] => by simp [putO]
  | x :: r => by
    unfold putO
    split
    · have := putO_len n r; simp; omega
    · split <;> simp
/-! ### sets as lists of keys -/
def keysZ {α : Type} (l : List (Int × α)) : List Int := l.map (·.1)
theorem keysZ_put {α : Type} (k : Int) (v : α) : ∀ l : List (Int × α), keysZ (aput k v l) = if k ∈ keysZ l then keysZ l else keysZ l ++ [k]
  | [] => by simp [keysZ, aput]
  | p :: l => by
    have ih := keysZ_put k v l
    unfold aput
    by_cases h : p.1 = k
    · rw [if_pos h]
      have : k ∈ keysZ (p :: l) := by simp [keysZ, h]
      rw [if_pos this]; simp [keysZ, h]
    · rw [if_neg h]
      show p.1 :: keysZ (aput k v l) = _
      rw [ih]
      have e : k ∈ keysZ (p :: l) ↔ k ∈ keysZ l := by simp [keysZ]; intro h'; exact absurd h'.symm h
      by_cases h2 : k ∈ keysZ l
      · rw [if_pos h2, if_pos (e.2 h2)]; rfl
      · rw [if_neg h2, if_neg (fun h3 => h2 (e.1 h3))]; rfl
theorem aget_none {α : Type} {k : Int} : ∀ {l : List (Int × α)}, aget k l = none ↔ k ∉ keysZ l
  | [] => by simp [aget, keysZ]
  | p :: l => by
    unfold aget
    by_cases h : p.1 = k
    · rw [if_pos h]; simp [keysZ, h]
    · rw [if_neg h, aget_none]
      simp [keysZ]
      intro _ h'; exact absurd h'.symm h
theorem aget_some {α : Type} {k : Int} {l : List (Int × α)} : (aget k l).isSome = true ↔ k ∈ keysZ l := by
  cases h : aget k l with
  | none => simpa using aget_none.1 h
  | some v =>
    have := aget_mem h
    simp only [Option.isSome_some, true_iff]
    exact List.mem_map.2 ⟨_, this, rfl⟩
/-- sorted behind a put: put to what is sorted -/
theorem sortZ_put {k : Int} {l : List (Int × Unit)} : sortZ (keysZ (aput k () l)) = putO k (sortZ (keysZ l)) := by
  rw [keysZ_put]
  by_cases h : k ∈ keysZ l
  · rw [if_pos h, putO_has (sortZ_sorted _) (mem_sortZ.2 h)]
  · rw [if_neg h]
    refine sorted_eq (sortZ_sorted _) (putO_sorted (sortZ_sorted _)) ?_
    refine (sortZ_perm _).trans ?_
    refine .trans ?_ (putO_perm (fun hm => h (mem_sortZ.1 hm))).symm
    exact (List.perm_append_comm (l₁ := keysZ l) (l₂ := [k])).trans ((sortZ_perm _).symm.cons k)
/-! ### numbers -/
def manyN (l : List Se) : Nat := (l.map fun s => s.items.length).sum
def numN (l : List Se) (s : Nat) : Nat := manyN (l.take s)
def itemsAt (l : List Se) (s : Int) : List It := ((seAt l s).getD Se0).items
def numF (l : List Se) (s i : Int) : Int × Bool := if s < 0 ∨ (l.length : Int) ≤ s ∨ i < 0 ∨ ((itemsAt l s).length : Int) ≤ i then (0, false) else (i + (numN l s.toNat : Nat), true)
def ofN : Nat → List Se → Int → Int × Int × Bool
  | _, [], _ => (0, 0, false)
  | k, s :: r, n => if n < (s.items.length : Int) then ((k : Int), n, true) else ofN (k + 1) r (n - (s.items.length : Int))
def ofF (l : List Se) (n : Int) : Int × Int × Bool := if n < 0 then (0, 0, false) else ofN 0 l n
theorem manyN_cons (s : Se) (r : List Se) : manyN (s :: r) = s.items.length + manyN r := rfl
theorem numN_le {l : List Se} {s : Nat} {x : Se} (h : l[s]? = some x) : numN l s + x.items.length ≤ manyN l := by
  induction l generalizing s with
  | nil => simp at h
  | cons y r ih =>
    cases s with
    | zero =>
      simp only [List.getElem?_cons_zero, Option.some.injEq] at h
      subst h
      simp [numN, manyN]
    | succ s =>
      have := ih (s := s) (by simpa using h)
      simp only [numN, List.take_succ_cons, manyN_cons] at this ⊢
      omega
theorem numN_succ {l : List Se} {k : Nat} (h : k < l.length) : numN l (k + 1) = numN l k + l[k].items.length := by
  unfold numN manyN
  rw [List.take_succ_eq_append_getElem h, List.map_append, List.sum_append]
  simp
theorem numN_all (l : List Se) : numN l l.length = manyN l := by unfold numN; rw [List.take_length]
theorem numN_mono {l : List Se} {k : Nat} (h : k ≤ l.length) : numN l k ≤ manyN l := by
  rcases Nat.lt_or_ge k l.length with h1 | h1
  · have := numN_le (List.getElem?_eq_getElem h1); omega
  · obtain rfl : k = l.length := by omega
    rw [numN_all]; exact Nat.le_refl _
/-- what is asked of sections -/
structure LOk (l : List Se) : Prop where
  len : l.length ≤ 64
  many : manyN l ≤ 1048576
  ok : ∀ s ∈ l, s.Ok
  cnt : ∀ s ∈ l, ∀ i ∈ s.items, cntX i.expr ≤ 1048576
theorem numF_lt {l : List Se} {s i : Int} (h : (numF l s i).2 = true) : 0 ≤ (numF l s i).1 ∧ (numF l s i).1 < (manyN l : Int) := by
  unfold numF at h ⊢
  split at h
  · cases h
  · rename_i hn
    rw [if_neg hn]
    simp only [not_or] at hn
    obtain ⟨h1, h2, h3, h4⟩ := hn
    have hx : l[s.toNat]? = some l[s.toNat] := List.getElem?_eq_getElem (by omega)
    have h5 := numN_le hx
    have h6 : itemsAt l s = (l[s.toNat]'(by omega)).items := by unfold itemsAt; rw [seAt_some (by omega) (by omega)]; rfl
    rw [h6] at h4
    simp only
    omega
theorem ofN_true : ∀ {k : Nat} {l : List Se} {n : Int}, 0 ≤ n → (ofN k l n).2.2 = true → ∃ (j : Nat) (x : Se), l[j]? = some x ∧ (ofN k l n).1 = ((k + j : Nat) : Int) ∧ 0 ≤ (ofN k l n).2.1 ∧ (ofN k l n).2.1 < (x.items.length : Int) ∧ n = (ofN k l n).2.1 + (numN l j : Nat)
  | k, [], n, _, h => by simp [ofN] at h
  | k, s :: r, n, h0, h => by
    unfold ofN at h ⊢
    by_cases h1 : n < (s.items.length : Int)
    · rw [if_pos h1] at h ⊢
      exact ⟨0, s, rfl, rfl, h0, h1, by simp [numN, manyN]⟩
    · rw [if_neg h1] at h ⊢
      obtain ⟨j, x, e1, e2, e3, e4, e5⟩ := ofN_true (by omega) h
      refine ⟨j + 1, x, by simpa using e1, by rw [e2]; congr 1; omega, e3, e4, ?_⟩
      have : numN (s :: r) (j + 1) = s.items.length + numN r j := rfl
      rw [this]
      omega
/-! ### what is read -/
theorem findN_no {l : List Se} {name : ByteArray} : ∀ {n : Nat} {s : Int}, (findN l name n s).2.2 = false → findN l name n s = (0, 0, false)
  | 0, s, _ => rfl
  | n + 1, s, h => by
    unfold findN at h ⊢
    cases hx : seAt l s with
    | none => rfl
    | some x =>
      rw [hx] at h
      simp only at h ⊢
      by_cases hj : 0 ≤ idxR name 0 x.items
      · rw [if_pos hj] at h; cases h
      · rw [if_neg hj] at h ⊢
        exact findN_no h
theorem findF_no {l : List Se} {name : ByteArray} {s : Int} (h : (findF l s name).2.2 = false) : findF l s name = (0, 0, false) := findN_no h
/-- what a node reads by itself -/
def ownK (l : List Se) (sec : Int) (x : Xp) : Option Int :=
  if x.kind = 2 then (if (findF l sec x.name).2.2 = true then some (numF l (findF l sec x.name).1 (findF l sec x.name).2.1).1 else none) else
  if x.kind = 10 ∧ x.op ≠ 16 then (if (kidF l sec x.sect).2 = true ∧ 0 ≤ idxR x.name 0 (itemsAt l (kidF l sec x.sect).1) then some (numF l (kidF l sec x.sect).1 (idxR x.name 0 (itemsAt l (kidF l sec x.sect).1))).1 else none) else none
theorem numF_ok {l : List Se} {s i : Int} {x : Se} {it : It} (h : seAt l s = some x) (h0 : 0 ≤ i) (hi : x.items[i.toNat]? = some it) : (numF l s i).2 = true := by
  have hs : 0 ≤ s ∧ s.toNat < l.length := by
    unfold seAt at h
    split at h
    · exact ⟨by assumption, (List.getElem?_eq_some_iff.1 h).1⟩
    · cases h
  have hi2 : i.toNat < x.items.length := (List.getElem?_eq_some_iff.1 hi).1
  have e : itemsAt l s = x.items := by unfold itemsAt; rw [h]; rfl
  unfold numF
  rw [if_neg]
  rw [e]
  omega
theorem find_num {l : List Se} {s : Int} {name : ByteArray} (h : (findF l s name).2.2 = true) : (numF l (findF l s name).1 (findF l s name).2.1).2 = true := by
  obtain ⟨x, it, h1, h2, h3, _⟩ := findF_true h
  exact numF_ok h1 h2 h3
theorem kid_num {l : List Se} {s : Int} {name nm : ByteArray} (h : (kidF l s name).2 = true) (hi : 0 ≤ idxR nm 0 (itemsAt l (kidF l s name).1)) : (numF l (kidF l s name).1 (idxR nm 0 (itemsAt l (kidF l s name).1))).2 = true := by
  obtain ⟨x, _, h1⟩ := kidF_true h
  have e : itemsAt l (kidF l s name).1 = x.items := by unfold itemsAt; rw [h1]; rfl
  rw [e] at hi ⊢
  rcases idxR_find nm 0 x.items with ⟨_, e2⟩ | ⟨j, t, h2, _, e2⟩
  · omega
  · refine numF_ok h1 hi (it := t) ?_
    rw [e2, Nat.zero_add, Int.toNat_natCast]; exact h2
theorem ownK_lt {l : List Se} {sec : Int} {x : Xp} {k : Int} (h : ownK l sec x = some k) : 0 ≤ k ∧ k < (manyN l : Int) := by
  unfold ownK at h
  split at h
  · split at h
    · rename_i h1
      injection h with h
      subst h
      exact numF_lt (find_num h1)
    · cases h
  · split at h
    · split at h
      · rename_i h1
        injection h with h
        subst h
        exact numF_lt (kid_num h1.1 h1.2)
      · cases h
    · cases h
def setK (o : Option Int) (es : List (Int × Unit)) : List (Int × Unit) := match o with
  | none => es
  | some k => aput k () es
def putK' (o : Option Int) (l : List Int) : List Int := match o with
  | none => l
  | some k => putO k l
def readsW (l : List Se) (sec : Int) (x : Xp) (es : List (Int × Unit)) : List (Int × Unit) := walkF (fun y es => setK (ownK l sec y) es) x es
def readsO (l : List Se) (sec : Int) (x : Xp) (out : List Int) : List Int := walkF (fun y out => putK' (ownK l sec y) out) x out
theorem walk_rel {α β : Type} {R : α → β → Prop} {f : Xp → α → α} {g : Xp → β → β} (h : ∀ y a b, R a b → R (f y a) (g y b)) (x : Xp) : ∀ a b, R a b → R (walkF f x a) (walkF g x b) := by
  refine Xp.ind (Q := fun x => ∀ a b, R a b → R (walkF f x a) (walkF g x b)) ?_ x
  clear x
  intro x ih a b hab
  obtain ⟨k, o, n, s, v, sc, p, l⟩ := x
  rw [walkF_mk, walkF_mk]
  have : ∀ (l : List Xp), (∀ y ∈ l, ∀ a b, R a b → R (walkF f y a) (walkF g y b)) → ∀ a b, R a b → R (walkL f l a) (walkL g l b) := by
    intro l
    induction l with
    | nil => intro _ a b h; rw [walkL_nil, walkL_nil]; exact h
    | cons x r ihl =>
      intro hx a b hab
      rw [walkL_cons, walkL_cons]
      exact ihl (fun y hy => hx y (List.mem_cons_of_mem _ hy)) _ _ (hx x (List.mem_cons_self ..) _ _ hab)
  exact this l ih _ _ (h _ _ _ hab)
theorem reads_eq (l : List Se) (sec : Int) (x : Xp) : readsO l sec x [] = sortZ (keysZ (readsW l sec x [])) := by
  refine walk_rel (R := fun (out : List Int) (es : List (Int × Unit)) => out = sortZ (keysZ es)) ?_ x [] [] (by simp [sortZ, keysZ])
  rintro y out es rfl
  cases ownK l sec y with
  | none => rfl
  | some k => exact (sortZ_put).symm
theorem readsW_lt (l : List Se) (sec : Int) (x : Xp) : ∀ k ∈ keysZ (readsW l sec x []), 0 ≤ k ∧ k < (manyN l : Int) := by
  refine walk_rel (R := fun (es : List (Int × Unit)) (_ : Unit) => ∀ k ∈ keysZ es, 0 ≤ k ∧ k < (manyN l : Int)) (g := fun _ u => u) ?_ x [] () (by simp [keysZ])
  intro y es _ h k hk
  cases ho : ownK l sec y with
  | none => rw [ho] at hk; exact h k hk
  | some j =>
    rw [ho] at hk
    have hk : k ∈ keysZ (aput j () es) := hk
    rw [keysZ_put] at hk
    split at hk
    · exact h k hk
    · rcases List.mem_append.1 hk with h1 | h1
      · exact h k h1
      · obtain rfl : k = j := by simpa using h1
        exact ownK_lt ho
theorem walk_len {α : Type} (f : Xp → List α → List α) (hf : ∀ y a, (f y a).length ≤ a.length + 1) (x : Xp) : ∀ a, (walkF f x a).length ≤ a.length + cntX x := by
  refine Xp.ind (Q := fun x => ∀ a, (walkF f x a).length ≤ a.length + cntX x) ?_ x
  clear x
  intro x ih es
  obtain ⟨k, o, n, s, v, sc, p, ar⟩ := x
  rw [walkF_mk, cntX_mk]
  have : ∀ (ar : List Xp), (∀ y ∈ ar, ∀ es, (walkF f y es).length ≤ es.length + cntX y) → ∀ es, (walkL f ar es).length ≤ es.length + cntL ar := by
    intro ar
    induction ar with
    | nil => intro _ es; rw [walkL_nil]; omega
    | cons x r ihl =>
      intro hx es
      rw [walkL_cons, cntL_cons]
      have h1 := ihl (fun y hy => hx y (List.mem_cons_of_mem _ hy)) (walkF f x es)
      have h2 := hx x (List.mem_cons_self ..) es
      omega
  have h1 := this ar ih (f (.mk k o n s v sc p ar) es)
  have h2 := hf (.mk k o n s v sc p ar) es
  omega
theorem putK'_len (o : Option Int) (l : List Int) : (putK' o l).length ≤ l.length + 1 := by
  cases o with
  | none => show l.length ≤ _; omega
  | some k => exact putO_len k l
theorem readsO_len (l : List Se) (sec : Int) (x : Xp) (out : List Int) : (readsO l sec x out).length ≤ out.length + cntX x := walk_len _ (fun y a => putK'_len _ a) x out
abbrev rdsF (l : List Se) (sec : Int) (y : Xp) (out : List Int) : List Int := putK' (ownK l sec y) out
/-- what an item reads -/
def readsF (l : List Se) (n : Int) : List Int :=
  if (ofF l n).2.2 = true ∧ (itemAt l (ofF l n).1 (ofF l n).2.1).kind ≠ 1 then sortZ (keysZ (readsW l (ofF l n).1 (itemAt l (ofF l n).1 (ofF l n).2.1).expr [])) else []
theorem readsF_lt {l : List Se} {n k : Int} (h : k ∈ readsF l n) : 0 ≤ k ∧ k < (manyN l : Int) := by
  unfold readsF at h
  split at h
  · exact readsW_lt _ _ _ k (mem_sortZ.1 h)
  · cases h
def graphF (l : List Se) : List (List Int) := (List.range (manyN l)).map fun (n : Nat) => readsF l (n : Int)
theorem graphF_len (l : List Se) : (graphF l).length = manyN l := by simp [graphF]
theorem graphF_at {l : List Se} {k : Nat} (h : k < (graphF l).length) : (graphF l)[k] = readsF l (k : Int) := by simp [graphF]
theorem graphF_get {l : List Se} {k : Nat} (h : k < manyN l) : (graphF l)[k]? = some (readsF l (k : Int)) := by
  rw [List.getElem?_eq_getElem (by rw [graphF_len]; exact h), graphF_at]
end Go.AM

set_option linter.unusedVariables false
set_option linter.unusedSimpArgs false
set_option maxRecDepth 100000
namespace Go.AM
abbrev RkM := List (Int × Int)
def hasAll (es : RkM) (r : List Int) : Bool := r.all fun j => (aget j es).isSome
def mostOf (es : RkM) : Int → List Int → Int
  | m, [] => m
  | m, j :: r => mostOf es (pickM true m ((aget j es).getD 0)) r
def rkStep (k : Nat) (r : List Int) (es : RkM) : RkM := if (aget (k : Int) es).isSome = true then es else if hasAll es r = true then aput (k : Int) (mostOf es (-1) r + 1) es else es
def passL : Nat → List (List Int) → RkM → RkM
  | _, [], es => es
  | k, r :: g, es => passL (k + 1) g (rkStep k r es)
def fixE : Nat → List (List Int) → RkM → RkM
  | 0, _, es => es
  | f + 1, g, es => if (passL 0 g es).length = es.length then es else fixE f g (passL 0 g es)
def rankE (g : List (List Int)) : RkM := fixE (g.length + 1) g []
theorem aput_new {α : Type} {k : Int} {v : α} : ∀ {l : List (Int × α)}, k ∉ keysZ l → aput k v l = l ++ [(k, v)]
  | [], _ => rfl
  | p :: l, h => by
    unfold aput
    have h1 : ¬ p.1 = k := fun e => h (by simp [keysZ, e])
    rw [if_neg h1, aput_new (fun hm => h (by simp only [keysZ, List.map_cons, List.mem_cons] at *; exact .inr hm))]
    rfl
theorem aget_app {α : Type} {j : Int} : ∀ {l m : List (Int × α)}, aget j (l ++ m) = match aget j l with | some v => some v | none => aget j m
  | [], m => rfl
  | p :: l, m => by
    show (if p.1 = j then some p.2 else aget j (l ++ m)) = match (if p.1 = j then some p.2 else aget j l) with | some v => some v | none => aget j m
    by_cases h : p.1 = j
    · rw [if_pos h, if_pos h]
    · rw [if_neg h, if_neg h]; exact aget_app
theorem pickM_t (a b : Int) : (b > a → pickM true a b = b) ∧ (¬ b > a → pickM true a b = a) := ⟨fun h => if_pos h, fun h => if_neg h⟩
/-- what may be: keys below M, each once; a rank is less than how many there are -/
structure RkOk (M : Nat) (es : RkM) : Prop where
  nd : (keysZ es).Nodup
  lt : ∀ k ∈ keysZ es, 0 ≤ k ∧ k < (M : Int)
  val : ∀ k v, aget k es = some v → 0 ≤ v ∧ v < (es.length : Int)
theorem RkOk.nil (M : Nat) : RkOk M [] := ⟨by simp [keysZ], by simp [keysZ], fun k v h => by simp [aget] at h⟩
theorem nodup_lt {l : List Int} {M : Nat} (hn : l.Nodup) (h : ∀ k ∈ l, 0 ≤ k ∧ k < (M : Int)) : l.length ≤ M := by
  have : (l.map Int.toNat).Nodup := by
    refine List.nodup_iff_pairwise_ne.2 (List.pairwise_map.2 ((List.nodup_iff_pairwise_ne.1 hn).imp_of_mem fun {a b} ha hb hab e => hab ?_))
    have := h a ha; have := h b hb; omega
  have h2 := this.length_le_of_subset (l₂ := List.range M) fun x hx => by
    obtain ⟨k, hk, rfl⟩ := List.mem_map.1 hx
    have := h k hk
    rw [List.mem_range]; omega
  simpa using h2
theorem RkOk.len {M : Nat} {es : RkM} (h : RkOk M es) : es.length ≤ M := by
  have := nodup_lt h.nd h.lt
  simpa [keysZ] using this
theorem mostOf_lt {es : RkM} {n : Int} (h : ∀ k v, aget k es = some v → 0 ≤ v ∧ v < n) : ∀ {r : List Int} {m : Int}, hasAll es r = true → -1 ≤ m → m < n → -1 ≤ mostOf es m r ∧ mostOf es m r < n
  | [], m, _, h1, h2 => ⟨h1, h2⟩
  | j :: r, m, hr, h1, h2 => by
    simp only [hasAll, List.all_cons, Bool.and_eq_true] at hr
    cases hj : aget j es with
    | none => rw [hj] at hr; simp at hr
    | some v =>
      have hv := h j v hj
      have hp := pickM_t m v
      show -1 ≤ mostOf es (pickM true m ((aget j es).getD 0)) r ∧ mostOf es (pickM true m ((aget j es).getD 0)) r < n
      rw [hj, Option.getD_some]
      by_cases hb : v > m
      · rw [hp.1 hb]; exact mostOf_lt h hr.2 (by omega) (by omega)
      · rw [hp.2 hb]; exact mostOf_lt h hr.2 h1 h2
theorem rkStep_cases (k : Nat) (r : List Int) (es : RkM) : rkStep k r es = es ∨ ((k : Int) ∉ keysZ es ∧ hasAll es r = true ∧ rkStep k r es = es ++ [((k : Int), mostOf es (-1) r + 1)]) := by
  unfold rkStep
  by_cases h1 : (aget (k : Int) es).isSome = true
  · rw [if_pos h1]; exact .inl rfl
  · rw [if_neg h1]
    have h1' : (k : Int) ∉ keysZ es := fun h => h1 (aget_some.2 h)
    by_cases h2 : hasAll es r = true
    · rw [if_pos h2]; exact .inr ⟨h1', h2, aput_new h1'⟩
    · rw [if_neg h2]; exact .inl rfl
theorem rkStep_ok {M k : Nat} {r : List Int} {es : RkM} (hk : k < M) (h : RkOk M es) : RkOk M (rkStep k r es) := by
  rcases rkStep_cases k r es with e | ⟨h1, h2, e⟩
  · rw [e]; exact h
  · rw [e]
    have hm := mostOf_lt h.val (r := r) (m := -1) h2 (by omega) (by omega)
    have hv : ∀ j v, aget j (es ++ [((k : Int), mostOf es (-1) r + 1)]) = some v → 0 ≤ v ∧ v < ((es ++ [((k : Int), mostOf es (-1) r + 1)]).length : Int) := fun j v hj => by
      rw [aget_app] at hj
      rw [List.length_append]
      cases ha : aget j es with
      | some w =>
        rw [ha] at hj
        injection hj with hj
        subst hj
        have := h.val j w ha
        simp; omega
      | none =>
        rw [ha] at hj
        have hj : (if (k : Int) = j then some (mostOf es (-1) r + 1) else none) = some v := hj
        split at hj
        · injection hj with hj
          subst hj
          simp; omega
        · cases hj
    refine ⟨?_, fun j hj => ?_, hv⟩
    · simp only [keysZ, List.map_append, List.map_cons, List.map_nil]
      refine List.nodup_append.2 ⟨h.nd, by simp, fun a ha b hb => ?_⟩
      have : b = (k : Int) := by simpa using hb
      subst this
      exact fun e => h1 (e ▸ ha)
    · simp only [keysZ, List.map_append, List.map_cons, List.map_nil] at hj
      rcases List.mem_append.1 hj with hj | hj
      · exact h.lt j hj
      · have : j = (k : Int) := by simpa using hj
        subst this; omega
theorem passL_ok {M : Nat} : ∀ {k : Nat} {g : List (List Int)} {es : RkM}, k + g.length ≤ M → RkOk M es → RkOk M (passL k g es)
  | _, [], _, _, h => h
  | k, r :: g, es, hk, h => by
    unfold passL
    simp only [List.length_cons] at hk
    exact passL_ok (by omega) (rkStep_ok (by omega) h)
theorem rkStep_pre (k : Nat) (r : List Int) (es : RkM) : es <+: rkStep k r es := by
  rcases rkStep_cases k r es with e | ⟨_, _, e⟩
  · rw [e]; exact List.prefix_rfl
  · rw [e]; exact List.prefix_append _ _
theorem passL_pre : ∀ (k : Nat) (g : List (List Int)) (es : RkM), es <+: passL k g es
  | _, [], _ => List.prefix_rfl
  | k, r :: g, es => (rkStep_pre k r es).trans (passL_pre (k + 1) g _)
theorem pre_get {α : Type} {l m : List (Int × α)} (h : l <+: m) {j : Int} {v : α} (hj : aget j l = some v) : aget j m = some v := by
  obtain ⟨t, rfl⟩ := h
  rw [aget_app, hj]
theorem pre_len {α : Type} {l m : List α} (h : l <+: m) (hl : m.length ≤ l.length) : m = l := by
  exact (h.eq_of_length (by have := h.length_le; omega)).symm
theorem fixE_ok {M : Nat} {g : List (List Int)} (hg : g.length ≤ M) : ∀ {f : Nat} {es : RkM}, RkOk M es → RkOk M (fixE f g es)
  | 0, _, h => h
  | f + 1, es, h => by
    unfold fixE
    split
    · exact h
    · exact fixE_ok hg (passL_ok (by omega) h)
theorem fixE_fix {M : Nat} {g : List (List Int)} (hg : g.length ≤ M) : ∀ {f : Nat} {es : RkM}, RkOk M es → M < f + es.length → passL 0 g (fixE f g es) = fixE f g es
  | 0, es, h, hf => by have := h.len; omega
  | f + 1, es, h, hf => by
    unfold fixE
    split
    · rename_i e
      exact pre_len (passL_pre 0 g es) (by omega)
    · rename_i e
      have := (passL_pre 0 g es).length_le
      exact fixE_fix hg (passL_ok (by omega) h) (by omega)
theorem rankE_ok (g : List (List Int)) : RkOk g.length (rankE g) := fixE_ok (Nat.le_refl _) (.nil _)
theorem rankE_fix (g : List (List Int)) : passL 0 g (rankE g) = rankE g := fixE_fix (Nat.le_refl _) (.nil _) (by simp)
theorem pass_same : ∀ {k : Nat} {g : List (List Int)} {es : RkM}, passL k g es = es → ∀ (j : Nat) (h : j < g.length), rkStep (k + j) g[j] es = es
  | k, r :: g, es, h, j, hj => by
    have e : rkStep k r es = es := by
      have h1 := (rkStep_pre k r es).length_le
      have h2 := (passL_pre (k + 1) g (rkStep k r es)).length_le
      have h3 : passL (k + 1) g (rkStep k r es) = es := h
      rw [h3] at h2
      exact pre_len (rkStep_pre k r es) (by omega)
    cases j with
    | zero => exact e
    | succ j =>
      have h3 : passL (k + 1) g (rkStep k r es) = es := h
      rw [e] at h3
      have := pass_same h3 j (by simpa using hj)
      rw [show k + 1 + j = k + (j + 1) by omega] at this
      simpa using this
/-- who has no rank waits for one that has none -/
theorem rankE_stuck {g : List (List Int)} {k : Nat} (hk : k < g.length) (h : aget (k : Int) (rankE g) = none) : hasAll (rankE g) g[k] = false := by
  have h1 := pass_same (rankE_fix g) k hk
  rw [Nat.zero_add] at h1
  rcases rkStep_cases k g[k] (rankE g) with e | ⟨_, _, e⟩
  · cases hh : hasAll (rankE g) g[k] with
    | false => rfl
    | true =>
      unfold rkStep at e
      rw [h, if_neg (by simp), if_pos hh, aput_new (aget_none.1 h)] at e
      have := congrArg List.length e
      simp at this
  · rw [e] at h1
    have := congrArg List.length h1
    simp at this
/-! ### whoever has a rank: greater than those of what it reads -/
def Rises (g : List (List Int)) (es : RkM) : Prop := ∀ (k : Nat) (v : Int) (h : k < g.length), aget (k : Int) es = some v → ∀ j ∈ g[k], ∃ w, aget j es = some w ∧ w < v
theorem mostOf_ge {es : RkM} : ∀ {r : List Int} {m : Int}, m ≤ mostOf es m r ∧ ∀ j ∈ r, ∀ w, aget j es = some w → w ≤ mostOf es m r
  | [], m => ⟨by show m ≤ m; omega, fun j hj => absurd hj (by simp)⟩
  | i :: r, m => by
    obtain ⟨h1, h2⟩ := mostOf_ge (es := es) (r := r) (m := pickM true m ((aget i es).getD 0))
    have h3 : m ≤ pickM true m ((aget i es).getD 0) ∧ (aget i es).getD 0 ≤ pickM true m ((aget i es).getD 0) := by
      have hp := pickM_t m ((aget i es).getD 0)
      by_cases hb : (aget i es).getD 0 > m
      · rw [hp.1 hb]; omega
      · rw [hp.2 hb]; omega
    refine ⟨by show m ≤ mostOf es (pickM true m ((aget i es).getD 0)) r; omega, fun j hj w hw => ?_⟩
    show w ≤ mostOf es (pickM true m ((aget i es).getD 0)) r
    rcases List.mem_cons.1 hj with rfl | hj
    · rw [hw] at h1 h3 ⊢; simp only [Option.getD_some] at h1 h3 ⊢; omega
    · exact h2 j hj w hw
theorem rkStep_rises {g : List (List Int)} {k : Nat} (hk : k < g.length) {es : RkM} (h : Rises g es) : Rises g (rkStep k g[k] es) := by
  rcases rkStep_cases k g[k] es with e | ⟨h1, h2, e⟩
  · rw [e]; exact h
  · have hp := rkStep_pre k g[k] es
    rw [e] at hp ⊢
    intro i v hi hv j hj
    rw [aget_app] at hv
    cases ha : aget (i : Int) es with
    | some u =>
      rw [ha] at hv
      injection hv with hv
      subst hv
      obtain ⟨w, hw, hl⟩ := h i u hi ha j hj
      exact ⟨w, pre_get hp hw, hl⟩
    | none =>
      rw [ha] at hv
      have hv2 : (if (k : Int) = (i : Int) then some (mostOf es (-1) g[k] + 1) else none) = some v := hv
      clear hv
      split at hv2
      · rename_i hki
        have hki : k = i := by omega
        subst hki
        injection hv2 with hv2
        subst hv2
        have h3 := List.all_eq_true.1 h2 j hj
        cases hw : aget j es with
        | none => rw [hw] at h3; simp at h3
        | some w =>
          refine ⟨w, pre_get hp hw, ?_⟩
          have := (mostOf_ge (es := es) (r := g[k]) (m := -1)).2 j hj w hw
          omega
      · cases hv2
theorem passL_rises {G : List (List Int)} : ∀ {k : Nat} {g : List (List Int)} {es : RkM}, (∀ j (h : j < g.length), ∃ h' : k + j < G.length, g[j] = G[k + j]) → Rises G es → Rises G (passL k g es)
  | _, [], _, _, h => h
  | k, r :: g, es, hg, h => by
    unfold passL
    obtain ⟨h', e⟩ := hg 0 (by simp)
    have e : r = G[k] := e
    subst e
    refine passL_rises (fun j hj => ?_) (rkStep_rises h' h)
    obtain ⟨h2, e2⟩ := hg (j + 1) (by simpa using hj)
    have e3 : k + 1 + j = k + (j + 1) := by omega
    refine ⟨by omega, ?_⟩
    simp only [List.getElem_cons_succ] at e2
    rw [e2]
    congr 1
    omega
theorem fixE_rises {g : List (List Int)} : ∀ {f : Nat} {es : RkM}, Rises g es → Rises g (fixE f g es)
  | 0, _, h => h
  | f + 1, es, h => by
    unfold fixE
    split
    · exact h
    · exact fixE_rises (passL_rises (fun j hj => ⟨by omega, by congr 1; omega⟩) h)
theorem rankE_rises (g : List (List Int)) : Rises g (rankE g) := fixE_rises fun k v h hv => by simp [aget] at hv
/-! ### the document's: ranks in a list, -1 where there is none -/
def rkAt (r : List Int) (j : Int) : Int := r.getD j.toNat 0
def rankGo (r : List Int) : Int → List Int → Int
  | q, [] => q
  | q, j :: t => if q < 0 then q else rankGo r (if rkAt r j < 0 then -1 else pickM true q (rkAt r j + 1)) t
def stepR (k : Nat) (t : List Int) (r : List Int) : List Int := if 0 ≤ rankGo r 0 t ∧ rkAt r (k : Int) < 0 then r.set k (rankGo r 0 t) else r
/-- both say the same -/
structure Rl (M : Nat) (es : RkM) (r : List Int) : Prop where
  len : r.length = M
  at' : ∀ k : Nat, k < M → r.getD k 0 = (aget (k : Int) es).getD (-1)
theorem rankGo_neg (r : List Int) {q : Int} (h : q < 0) : ∀ t, rankGo r q t = q
  | [] => rfl
  | j :: t => by unfold rankGo; rw [if_pos h]
theorem Rl.go {M : Nat} {es : RkM} {r : List Int} (h : Rl M es r) (ho : RkOk M es) : ∀ {t : List Int} {q : Int}, (∀ j ∈ t, 0 ≤ j ∧ j < (M : Int)) → 0 ≤ q → rankGo r q t = if hasAll es t = true then mostOf es (q - 1) t + 1 else -1
  | [], q, _, h0 => by unfold rankGo mostOf; rw [show hasAll es [] = true from rfl, if_pos rfl]; omega
  | j :: t, q, ht, h0 => by
    have hj := ht j (List.mem_cons_self ..)
    have hr : rkAt r j = (aget j es).getD (-1) := by
      have := h.at' j.toNat (by omega)
      unfold rkAt
      rw [this, Int.toNat_of_nonneg hj.1]
    unfold rankGo
    rw [if_neg (by omega), hr]
    cases ha : aget j es with
    | none =>
      rw [Option.getD_none, if_pos (by omega), rankGo_neg r (by omega)]
      have : hasAll es (j :: t) = false := by simp [hasAll, ha]
      rw [this]; rfl
    | some v =>
      have hv := ho.val j v ha
      rw [Option.getD_some, if_neg (by omega)]
      have hq := pickM_t q (v + 1)
      have hp : 0 ≤ pickM true q (v + 1) := by
        by_cases hb : v + 1 > q
        · rw [hq.1 hb]; omega
        · rw [hq.2 hb]; omega
      rw [h.go ho (fun i hi => ht i (List.mem_cons_of_mem _ hi)) hp]
      have e1 : hasAll es (j :: t) = hasAll es t := by simp [hasAll, ha]
      have e2 : mostOf es (q - 1) (j :: t) = mostOf es (pickM true q (v + 1) - 1) t := by
        show mostOf es (pickM true (q - 1) ((aget j es).getD 0)) t = _
        rw [ha]
        congr 1
        rw [Option.getD_some]
        have hq2 := pickM_t (q - 1) v
        by_cases h5 : v > q - 1
        · rw [hq2.1 h5, hq.1 (by omega)]; omega
        · rw [hq2.2 h5, hq.2 (by omega)]
      rw [e1, e2]
theorem Rl.step {M k : Nat} {t : List Int} {es : RkM} {r : List Int} (h : Rl M es r) (ho : RkOk M es) (hk : k < M) (ht : ∀ j ∈ t, 0 ≤ j ∧ j < (M : Int)) : Rl M (rkStep k t es) (stepR k t r) ∧ (stepR k t r = r ↔ rkStep k t es = es) ∧ (0 ≤ rankGo r 0 t ∧ rkAt r (k : Int) < 0 ↔ (rkStep k t es).length ≠ es.length) := by
  have hg := h.go ho ht (q := 0) (by omega)
  have hm := fun h2 => mostOf_lt ho.val (r := t) (m := -1) h2 (by omega) (by omega)
  have hr : rkAt r (k : Int) = (aget (k : Int) es).getD (-1) := by
    have := h.at' k hk
    unfold rkAt
    rw [Int.toNat_natCast, this]
  unfold stepR rkStep
  rw [hg, hr]
  cases ha : aget (k : Int) es with
  | some v =>
    have hv := ho.val _ v ha
    rw [Option.getD_some]
    have hn : ¬ (0 ≤ (if hasAll es t = true then mostOf es (0 - 1) t + 1 else -1) ∧ v < 0) := by omega
    rw [if_neg hn, if_pos (by simp)]
    exact ⟨h, by simp, by simp; intro _; omega⟩
  | none =>
    rw [Option.getD_none, if_neg (by simp)]
    by_cases hh : hasAll es t = true
    · have := hm hh
      rw [if_pos hh, if_pos hh, if_pos ⟨by show 0 ≤ mostOf es (0 - 1) t + 1; have e : (0 : Int) - 1 = -1 := rfl; rw [e]; omega, by omega⟩]
      rw [aput_new (aget_none.1 ha)]
      refine ⟨⟨by simp [h.len], fun j hj => ?_⟩, ?_, ?_⟩
      · rw [List.getD_eq_getElem?_getD, List.getElem?_set, aget_app]
        by_cases e : k = j
        · subst e
          rw [if_pos rfl, if_pos (by rw [h.len]; exact hj), ha]
          simp [aget]
        · rw [if_neg e, ← List.getD_eq_getElem?_getD, h.at' j hj]
          cases aget (j : Int) es with
          | some v => rfl
          | none =>
            show _ = (if (k : Int) = (j : Int) then some (mostOf es (-1) t + 1) else none).getD (-1)
            rw [if_neg (by omega)]
      · constructor
        · intro e
          have h1 : (r.set k (mostOf es (0 - 1) t + 1)).getD k 0 = r.getD k 0 := by rw [e]
          rw [List.getD_eq_getElem?_getD, List.getElem?_set, if_pos rfl, if_pos (by rw [h.len]; exact hk), h.at' k hk, ha] at h1
          have h1 : mostOf es (0 - 1) t + 1 = -1 := h1
          have e : (0 : Int) - 1 = -1 := rfl
          rw [e] at h1
          omega
        · intro e
          have := congrArg List.length e
          simp at this
      · refine ⟨fun _ => by simp, fun _ => ⟨by show 0 ≤ mostOf es (0 - 1) t + 1; have e : (0 : Int) - 1 = -1 := rfl; rw [e]; omega, by omega⟩⟩
    · rw [if_neg hh, if_neg hh, if_neg (by omega)]
      exact ⟨h, by simp, by simp⟩
end Go.AM

set_option linter.unusedVariables false
set_option linter.unusedSimpArgs false
set_option maxRecDepth 100000
namespace Go.AM
def zeroTo (M : Nat) : List Int := (List.range M).map fun (n : Nat) => (n : Int)
theorem zeroTo_len (M : Nat) : (zeroTo M).length = M := by simp [zeroTo]
theorem mem_zeroTo {M : Nat} {k : Int} : k ∈ zeroTo M ↔ 0 ≤ k ∧ k < (M : Int) := by
  unfold zeroTo
  rw [List.mem_map]
  constructor
  · rintro ⟨n, hn, rfl⟩
    rw [List.mem_range] at hn
    omega
  · rintro ⟨h1, h2⟩
    exact ⟨k.toNat, by rw [List.mem_range]; omega, by omega⟩
theorem zeroTo_lt (M : Nat) : (zeroTo M).Pairwise (· < ·) := by
  unfold zeroTo
  refine List.pairwise_map.2 (List.pairwise_lt_range.imp fun h => ?_)
  omega
theorem zeroTo_nodup (M : Nat) : (zeroTo M).Nodup := List.nodup_iff_pairwise_ne.2 ((zeroTo_lt M).imp fun h => by omega)
/-- of no more than all: all -/
theorem perm_all {l m : List Int} (hl : l.Nodup) (hm : m.Nodup) (hs : l ⊆ m) (h : m.length ≤ l.length) : l.Perm m := by
  refine (List.perm_ext_iff_of_nodup hl hm).2 fun a => ⟨fun ha => hs ha, fun ha => Classical.byContradiction fun hn => ?_⟩
  have h1 : (a :: l).Nodup := List.nodup_cons.2 ⟨hn, hl⟩
  have h2 := h1.length_le_of_subset (l₂ := m) fun x hx => by
    rcases List.mem_cons.1 hx with rfl | hx
    · exact ha
    · exact hs hx
  simp at h2
  omega
def rkOf (es : RkM) (k : Int) : Int := (aget k es).getD (-1)
def rOf (M : Nat) (es : RkM) : List Int := (zeroTo M).map (rkOf es)
theorem rOf_len (M : Nat) (es : RkM) : (rOf M es).length = M := by simp [rOf, zeroTo_len]
theorem rOf_at {M : Nat} {es : RkM} {k : Nat} (h : k < (rOf M es).length) : (rOf M es)[k] = rkOf es (k : Int) := by
  simp [rOf, zeroTo]
/-! ### sorted by rank and number -/
def leR (f : Int → Int) (a b : Int) : Bool := decide (f a < f b ∨ f a = f b ∧ a ≤ b)
abbrev SortR (f : Int → Int) (l : List Int) : Prop := l.Pairwise fun a b => leR f a b = true
theorem leR_iff {f : Int → Int} {a b : Int} : leR f a b = true ↔ f a < f b ∨ f a = f b ∧ a ≤ b := by unfold leR; rw [decide_eq_true_eq]
theorem sortR_eq {f : Int → Int} {l m : List Int} (hl : SortR f l) (hm : SortR f m) (h : l.Perm m) : l = m :=
  List.Perm.eq_of_pairwise (le := fun a b => leR f a b = true) (fun a b _ _ h1 h2 => by rw [leR_iff] at h1 h2; omega) hl hm h
def ordF (f : Int → Int) (l : List Int) : List Int := l.mergeSort (leR f)
theorem ordF_perm (f : Int → Int) (l : List Int) : (ordF f l).Perm l := List.mergeSort_perm l _
theorem ordF_sorted (f : Int → Int) (l : List Int) : SortR f (ordF f l) :=
  List.pairwise_mergeSort (le := leR f) (fun a b c h1 h2 => by rw [leR_iff] at *; omega) (fun a b => by rw [Bool.or_eq_true, leR_iff, leR_iff]; omega) l
theorem readsW_nodup (l : List Se) (sec : Int) (x : Xp) : (keysZ (readsW l sec x [])).Nodup := by
  refine walk_rel (R := fun (es : List (Int × Unit)) (_ : Unit) => (keysZ es).Nodup) (g := fun _ u => u) ?_ x [] () (by simp [keysZ])
  intro y es _ h
  cases ownK l sec y with
  | none => exact h
  | some k =>
    show (keysZ (aput k () es)).Nodup
    rw [keysZ_put]
    split
    · exact h
    · rename_i hn
      refine List.nodup_append.2 ⟨h, by simp, fun a ha b hb => ?_⟩
      have : b = k := by simpa using hb
      subst this
      exact fun e => hn (e ▸ ha)
/-- who reads an item -/
def usersF (l : List Se) (n : Int) : List Int := (zeroTo (manyN l)).filter fun k => decide (n ∈ readsF l k)
theorem readsF_len (l : List Se) (n : Int) (hL : LOk l) : (readsF l n).length ≤ 1048576 := by
  unfold readsF
  split
  · rename_i h
    rw [(sortZ_perm _).length_eq]
    have h1 : (keysZ (readsW l (ofF l n).1 (itemAt l (ofF l n).1 (ofF l n).2.1).expr [])).length ≤ manyN l := nodup_lt (readsW_nodup ..) (readsW_lt l _ _)
    have := hL.many
    omega
  · exact Nat.zero_le _
/-! ### what both say -/
def stuckF (M : Nat) (es : RkM) : List Int := (zeroTo M).filter fun k => (aget k es).isNone
theorem stuck_iff {M : Nat} {es : RkM} (ho : RkOk M es) : es.length < M ↔ stuckF M es ≠ [] := by
  constructor
  · intro h he
    have : zeroTo M ⊆ keysZ es := fun k hk => by
      cases ha : aget k es with
      | some v => exact aget_some.1 (by rw [ha]; rfl)
      | none =>
        have : k ∈ stuckF M es := List.mem_filter.2 ⟨hk, by rw [ha]; rfl⟩
        rw [he] at this; cases this
    have := (zeroTo_nodup M).length_le_of_subset this
    rw [zeroTo_len] at this
    simp [keysZ] at this
    omega
  · intro h
    rcases Nat.lt_or_ge es.length M with h1 | h1
    · exact h1
    · exfalso
      apply h
      refine List.filter_eq_nil_iff.2 fun k hk => ?_
      have hs : keysZ es ⊆ zeroTo M := fun j hj => mem_zeroTo.2 (ho.lt j hj)
      have hp := perm_all ho.nd (zeroTo_nodup M) hs (by rw [zeroTo_len]; simpa [keysZ] using h1)
      have : k ∈ keysZ es := hp.mem_iff.2 hk
      have := aget_some.2 this
      cases ha : aget k es with
      | some v => simp
      | none => rw [ha] at this; cases this
def ranksF (g : List (List Int)) : List Int × Int := if (rankE g).length < g.length then ([], 110) else (rOf g.length (rankE g), 0)
def orderF (g : List (List Int)) : List Int × Int := if (rankE g).length < g.length then ([], 110) else (ordF (rkOf (rankE g)) (zeroTo g.length), 0)
theorem full_has {g : List (List Int)} (h : ¬ (rankE g).length < g.length) {k : Int} (h0 : 0 ≤ k) (h1 : k < (g.length : Int)) : ∃ v, aget k (rankE g) = some v ∧ 0 ≤ v ∧ v < (g.length : Int) := by
  have ho := rankE_ok g
  have he : stuckF g.length (rankE g) = [] := Classical.byContradiction fun hn => h ((stuck_iff ho).2 hn)
  have h2 := List.filter_eq_nil_iff.1 he k (mem_zeroTo.2 ⟨h0, h1⟩)
  cases ha : aget k (rankE g) with
  | none => rw [ha] at h2; simp at h2
  | some v =>
    have := ho.val k v ha
    have := ho.len
    exact ⟨v, rfl, by omega, by omega⟩
end Go.AM

set_option linter.unusedVariables false
set_option linter.unusedSimpArgs false
set_option maxRecDepth 100000
namespace Go.AM
theorem get_mid {A C : List Int} {x : Int} : (A ++ x :: C).getD A.length 0 = x := by
  rw [List.getD_eq_getElem?_getD, List.getElem?_append_right (Nat.le_refl _)]; simp
theorem set_mid {A C : List Int} {x y : Int} : (A ++ x :: C).set A.length y = A ++ y :: C := by
  rw [List.set_append_right _ _ (Nat.le_refl _)]; simp
theorem get_mid2 {A B C : List Int} {x y : Int} : (A ++ x :: (B ++ y :: C)).getD (A.length + 1 + B.length) 0 = y := by
  have h : A ++ x :: (B ++ y :: C) = (A ++ x :: B) ++ y :: C := by simp
  have hl : A.length + 1 + B.length = (A ++ x :: B).length := by simp; omega
  rw [h, hl]; exact get_mid
theorem set_mid2 {A B C : List Int} {x y z : Int} : (A ++ x :: (B ++ y :: C)).set (A.length + 1 + B.length) z = A ++ x :: (B ++ z :: C) := by
  have h : A ++ x :: (B ++ y :: C) = (A ++ x :: B) ++ y :: C := by simp
  have hl : A.length + 1 + B.length = (A ++ x :: B).length := by simp; omega
  rw [h, hl, set_mid]; simp
/-- sorted: two lists of which the first is no greater -/
theorem sortR_append {f : Int → Int} {l m : List Int} (hl : SortR f l) (hm : SortR f m) (h : ∀ a ∈ l, ∀ b ∈ m, leR f a b = true) : SortR f (l ++ m) := List.pairwise_append.2 ⟨hl, hm, h⟩
theorem ordF_eq {f : Int → Int} {l m : List Int} (hl : SortR f l) (h : l.Perm m) : ordF f m = l := (sortR_eq hl (ordF_sorted f m) (h.trans (ordF_perm f m).symm)).symm
theorem ordF_self {f : Int → Int} {l : List Int} (hl : SortR f l) : ordF f l = l := ordF_eq hl (.refl _)
theorem ordF_congr {f : Int → Int} {l m : List Int} (h : l.Perm m) : ordF f l = ordF f m := (ordF_eq (ordF_sorted f l) ((ordF_perm f l).trans h)).symm
theorem ordF_len (f : Int → Int) (l : List Int) : (ordF f l).length = l.length := (ordF_perm f l).length_eq
theorem mem_ordF {f : Int → Int} {l : List Int} {x : Int} : x ∈ ordF f l ↔ x ∈ l := (ordF_perm f l).mem_iff
/-- what is sorted, and cut where nothing on the left is greater than anything on the right -/
theorem ordF_split {f : Int → Int} {U1 U2 V1 V2 : List Int} (h : ∀ a ∈ U1 ++ V1, ∀ b ∈ U2 ++ V2, leR f a b = true) : ordF f (U1 ++ U2 ++ (V1 ++ V2)) = ordF f (U1 ++ V1) ++ ordF f (U2 ++ V2) := by
  refine ordF_eq (sortR_append (ordF_sorted f _) (ordF_sorted f _) fun a ha b hb => h a (mem_ordF.1 ha) b (mem_ordF.1 hb)) ?_
  refine ((ordF_perm f _).append (ordF_perm f _)).trans ?_
  have h1 : (U1 ++ V1 ++ (U2 ++ V2)).Perm (U1 ++ (V1 ++ U2) ++ V2) := by simp
  have h2 : (U1 ++ (V1 ++ U2) ++ V2).Perm (U1 ++ (U2 ++ V1) ++ V2) := ((List.perm_append_comm).append_left U1).append_right V2
  exact (h1.trans h2).trans (by simp)
/-- one more, greater by its number than all: it goes ahead of those of greater rank -/
theorem ordF_insert {f : Int → Int} {A S : List Int} {x : Int} (hs : SortR f (A ++ S)) (hA : ∀ a ∈ A, f a ≤ f x) (hS : ∀ s ∈ S, f x < f s) (hlt : ∀ a ∈ A, a < x) : ordF f (A ++ S ++ [x]) = A ++ x :: S := by
  obtain ⟨h1, h2, h3⟩ := List.pairwise_append.1 hs
  refine ordF_eq (List.pairwise_append.2 ⟨h1, List.pairwise_cons.2 ⟨fun s hs => leR_iff.2 (.inl (hS s hs)), h2⟩, fun a ha b hb => ?_⟩) ?_
  · rcases List.mem_cons.1 hb with rfl | hb
    · have := hA a ha; have := hlt a ha
      rw [leR_iff]; omega
    · exact h3 a ha b hb
  · refine .trans ?_ (by simp : (A ++ (S ++ [x])).Perm (A ++ S ++ [x]))
    exact (List.perm_append_comm (l₁ := [x]) (l₂ := S)).append_left A
/-- the same where the one that goes is the first: behind those of lesser rank -/
theorem ordF_insert' {f : Int → Int} {A S : List Int} {x : Int} (hs : SortR f (A ++ S)) (hA : ∀ a ∈ A, f a < f x) (hS : ∀ s ∈ S, f x ≤ f s) (hlt : ∀ s ∈ S, x < s) : ordF f (x :: (A ++ S)) = A ++ x :: S := by
  obtain ⟨h1, h2, h3⟩ := List.pairwise_append.1 hs
  refine ordF_eq (List.pairwise_append.2 ⟨h1, List.pairwise_cons.2 ⟨fun s hs => ?_, h2⟩, fun a ha b hb => ?_⟩) ?_
  · have := hS s hs; have := hlt s hs
    rw [leR_iff]; omega
  · rcases List.mem_cons.1 hb with rfl | hb
    · exact leR_iff.2 (.inl (hA a ha))
    · exact h3 a ha b hb
  · exact List.perm_middle
theorem sortR_rank {f : Int → Int} {l : List Int} (h : SortR f l) {i j : Nat} (hij : i ≤ j) (hj : j < l.length) : f (l[i]'(by omega)) ≤ f l[j] := by
  rcases Nat.eq_or_lt_of_le hij with rfl | hlt
  · exact Int.le_refl _
  · have := List.pairwise_iff_getElem.1 h i j (by omega) hj hlt
    rw [leR_iff] at this
    omega
theorem sortR_mono {f : Int → Int} {l : List Int} (h : SortR f l) {i j : Nat} (hij : i ≤ j) (hj : j < l.length) : f (l.getD i 0) ≤ f (l.getD j 0) := by
  rw [List.getD_eq_getElem?_getD, List.getD_eq_getElem?_getD, List.getElem?_eq_getElem hj, List.getElem?_eq_getElem (by omega : i < l.length)]
  exact sortR_rank h hij hj
/-- where two sorted lists may be cut -/
theorem sym_split {f : Int → Int} {U V : List Int} {i j : Nat} (hU : SortR f U) (hV : SortR f V) (hlt : ∀ u ∈ U, ∀ v ∈ V, u < v) (hi : i ≤ U.length) (hj : j ≤ V.length)
    (F1 : 0 < i → j < V.length → f (U.getD (i - 1) 0) ≤ f (V.getD j 0)) (F2 : i < U.length → 0 < j → f (V.getD (j - 1) 0) < f (U.getD i 0)) :
    ordF f (U ++ V) = ordF f (U.take i ++ V.take j) ++ ordF f (U.drop i ++ V.drop j) := by
  have hUV : U ++ V = U.take i ++ U.drop i ++ (V.take j ++ V.drop j) := by rw [List.take_append_drop, List.take_append_drop]
  have tk : ∀ (l : List Int) (n : Nat) (x : Int), x ∈ l.take n → ∃ t, t < n ∧ t < l.length ∧ x = l.getD t 0 := fun l n x hx => by
    obtain ⟨t, ht, rfl⟩ := List.mem_iff_getElem.1 hx
    rw [List.length_take] at ht
    refine ⟨t, by omega, by omega, ?_⟩
    rw [List.getElem_take, List.getD_eq_getElem?_getD, List.getElem?_eq_getElem (by omega)]; rfl
  have dr : ∀ (l : List Int) (n : Nat) (x : Int), x ∈ l.drop n → ∃ t, n ≤ t ∧ t < l.length ∧ x = l.getD t 0 := fun l n x hx => by
    obtain ⟨t, ht, rfl⟩ := List.mem_iff_getElem.1 hx
    rw [List.length_drop] at ht
    refine ⟨n + t, by omega, by omega, ?_⟩
    rw [List.getElem_drop, List.getD_eq_getElem?_getD, List.getElem?_eq_getElem (by omega)]; rfl
  have hin : ∀ (l : List Int), SortR f l → ∀ n, ∀ a ∈ l.take n, ∀ b ∈ l.drop n, leR f a b = true := fun l hl n a ha b hb => by
    rw [← List.take_append_drop n l] at hl
    exact (List.pairwise_append.1 hl).2.2 a ha b hb
  rw [hUV]
  refine ordF_split fun a ha b hb => ?_
  rcases List.mem_append.1 ha with ha | ha <;> rcases List.mem_append.1 hb with hb | hb
  · exact hin U hU i a ha b hb
  · have h1 := hlt a (List.mem_of_mem_take ha) b (List.mem_of_mem_drop hb)
    obtain ⟨t, t1, t2, rfl⟩ := tk U i a ha
    obtain ⟨s, s1, s2, rfl⟩ := dr V j b hb
    have h2 := F1 (by omega) (by omega)
    have h3 := sortR_mono hU (i := t) (j := i - 1) (by omega) (by omega)
    have h4 := sortR_mono hV (i := j) (j := s) s1 s2
    rw [leR_iff]; omega
  · obtain ⟨t, t1, t2, rfl⟩ := tk V j a ha
    obtain ⟨s, s1, s2, rfl⟩ := dr U i b hb
    have h2 := F2 (by omega) (by omega)
    have h3 := sortR_mono hV (i := t) (j := j - 1) (by omega) (by omega)
    have h4 := sortR_mono hU (i := i) (j := s) s1 s2
    rw [leR_iff]; omega
  · exact hin V hV j a ha b hb
theorem sortR_take {f : Int → Int} {l : List Int} (h : SortR f l) (n : Nat) : SortR f (l.take n) := List.Pairwise.sublist (List.take_sublist n l) h
theorem sortR_drop {f : Int → Int} {l : List Int} (h : SortR f l) (n : Nat) : SortR f (l.drop n) := List.Pairwise.sublist (List.drop_sublist n l) h
theorem get_U {pre U V post : List Int} {i : Nat} (h : i < U.length) : (pre ++ U ++ V ++ post).getD (pre.length + i) 0 = U.getD i 0 := by
  rw [List.getD_eq_getElem?_getD, List.getD_eq_getElem?_getD, List.append_assoc, List.append_assoc, List.getElem?_append_right (by omega), Nat.add_sub_cancel_left, List.getElem?_append_left h]
theorem get_V {pre U V post : List Int} {j : Nat} (h : j < V.length) : (pre ++ U ++ V ++ post).getD (pre.length + U.length + j) 0 = V.getD j 0 := by
  have := get_U (pre := pre ++ U) (U := V) (V := post) (post := []) h
  simp only [List.length_append, List.append_nil] at this
  exact this
end Go.AM

set_option linter.unusedVariables false
set_option linter.unusedSimpArgs false
set_option maxRecDepth 100000
namespace Go.AM
inductive Chunked (f : Int → Int) (B : Nat) : List Int → List Int → Prop
  | last {D} : D.length ≤ B → Chunked f B D (ordF f D)
  | cons {C D E} : C.length = B → Chunked f B D E → Chunked f B (C ++ D) (ordF f C ++ E)
theorem ordF_nil (f : Int → Int) : ordF f [] = [] := by simp [ordF]
theorem Chunked.small {f : Int → Int} {B : Nat} {D E : List Int} (h : Chunked f B D E) : D.length ≤ B → E = ordF f D := by
  induction h with
  | last _ => intro _; rfl
  | @cons C D E hC hc ih =>
    intro hl
    rw [List.length_append] at hl
    obtain rfl : D = [] := List.eq_nil_of_length_eq_zero (by omega)
    rw [ih (Nat.zero_le _), ordF_nil, List.append_nil, List.append_nil]
theorem Chunked.two {f : Int → Int} {B : Nat} {D E : List Int} (h : Chunked f B D E) (hB : 0 < B) (hl : 2 * B ≤ D.length) :
    ∃ C1 C2 R R', D = C1 ++ C2 ++ R ∧ C1.length = B ∧ C2.length = B ∧ E = ordF f C1 ++ ordF f C2 ++ R' ∧ Chunked f B R R' := by
  cases h with
  | last h => omega
  | @cons C D E hC hc =>
    rw [List.length_append] at hl
    cases hc with
    | last h => exact ⟨C, D, [], [], by simp, hC, by omega, by simp, by have := Chunked.last (f := f) (B := B) (D := []) (Nat.zero_le _); rwa [ordF_nil] at this⟩
    | @cons C2 D E hC2 hc => exact ⟨C, C2, D, E, by simp, hC, hC2, by simp, hc⟩
theorem Chunked.mid {f : Int → Int} {B : Nat} {D E : List Int} (h : Chunked f B D E) (h1 : B < D.length) (h2 : D.length < 2 * B) :
    ∃ C1 R, D = C1 ++ R ∧ C1.length = B ∧ E = ordF f C1 ++ ordF f R := by
  cases h with
  | last h => omega
  | @cons C D E hC hc =>
    rw [List.length_append] at h1 h2
    exact ⟨C, D, rfl, hC, by rw [hc.small (by omega)]⟩
theorem Chunked.perm {f : Int → Int} {B : Nat} {D E : List Int} (h : Chunked f B D E) : E.Perm D := by
  induction h with
  | last _ => exact ordF_perm f _
  | cons hC hc ih => exact (ordF_perm f _).append ih
theorem Chunked.step {f : Int → Int} {B : Nat} {C D E : List Int} (hC : C.length = B) (h : Chunked f B D E) : Chunked f B (C ++ D) (ordF f C ++ E) := .cons hC h
end Go.AM

set_option linter.unusedVariables false
set_option linter.unusedSimpArgs false
set_option maxRecDepth 100000
namespace Go.AM
def rdX (n : ByteArray) : Xp := .mk 2 0 n ByteArray.empty Vl0 0 0 []
def liA : It := ⟨⟨#[97]⟩, 1, 0, 0, false, 0, .mk 0 0 ByteArray.empty ByteArray.empty Vl0 0 0 []⟩
def liB : It := ⟨⟨#[98]⟩, 2, 0, 0, false, 0, rdX ⟨#[99]⟩⟩
def liC : It := ⟨⟨#[99]⟩, 2, 0, 0, false, 0, rdX ⟨#[97]⟩⟩
def liveL : List Se := [⟨-1, 1, ByteArray.empty, 0, [liA, liB, liC]⟩]
theorem rdX_wf (n : ByteArray) (h : n.size ≤ maxLen) : (rdX n).Wf := .mk _ ⟨(by show I64 2; unfold I64; omega), i640, h, (by show ByteArray.empty.size ≤ maxLen; decide), ⟨i640, i640, (by show ByteArray.empty.size ≤ maxLen; decide), i640⟩, i640, i640, (by show (0 : Nat) ≤ maxLen; decide)⟩ fun y hy => absurd (show y ∈ [] from hy) (by simp)
theorem rdX_lens (n : ByteArray) : (rdX n).Lens := .mk _ (by show 0 * 176 ≤ 140737488355328; decide) fun y hy => absurd (show y ∈ [] from hy) (by simp)
theorem liveL_ok : LOk liveL where
  len := by decide
  many := by decide
  ok := fun s hs => by
    obtain rfl : s = _ := List.mem_singleton.1 hs
    refine ⟨by decide, fun i hi => ?_⟩
    simp only [List.mem_cons, List.not_mem_nil, or_false] at hi
    rcases hi with rfl | rfl | rfl
    · exact ⟨xp00_wf, xp00_lens⟩
    · exact ⟨rdX_wf _ (by decide), rdX_lens _⟩
    · exact ⟨rdX_wf _ (by decide), rdX_lens _⟩
  cnt := fun s hs i hi => by
    obtain rfl : s = _ := List.mem_singleton.1 hs
    simp only [List.mem_cons, List.not_mem_nil, or_false] at hi
    rcases hi with rfl | rfl | rfl <;> decide
theorem live_r0 : readsF liveL 0 = [] := by
  unfold readsF
  rw [if_neg (by decide)]
theorem live_r1 : readsF liveL 1 = [2] := by
  unfold readsF
  rw [if_pos (by decide)]
  have : keysZ (readsW liveL (ofF liveL 1).1 (itemAt liveL (ofF liveL 1).1 (ofF liveL 1).2.1).expr []) = [2] := by rfl
  rw [this]; simp [sortZ]
theorem live_r2 : readsF liveL 2 = [0] := by
  unfold readsF
  rw [if_pos (by decide)]
  have : keysZ (readsW liveL (ofF liveL 2).1 (itemAt liveL (ofF liveL 2).1 (ofF liveL 2).2.1).expr []) = [0] := by rfl
  rw [this]; simp [sortZ]
theorem live_g : graphF liveL = [[], [2], [0]] := by
  show [readsF liveL 0, readsF liveL 1, readsF liveL 2] = _
  rw [live_r0, live_r1, live_r2]
theorem live_ranks : ranksF (graphF liveL) = ([0, 2, 1], 0) := by rw [live_g]; rfl
theorem live_order : orderF (graphF liveL) = ([0, 2, 1], 0) := by
  rw [live_g]
  have h : ordF (rkOf (rankE [[], [2], [0]])) (zeroTo 3) = [0, 2, 1] := ordF_eq (by decide) (by decide)
  show (if (rankE [[], [2], [0]]).length < 3 then (([] : List Int), (110 : Int)) else (ordF (rkOf (rankE [[], [2], [0]])) (zeroTo 3), 0)) = _
  rw [if_neg (by decide), h]
theorem live_users : usersF liveL 2 = [1] := by
  show ([0, 1, 2] : List Int).filter (fun k => decide (2 ∈ readsF liveL k)) = [1]
  rw [List.filter_cons, List.filter_cons, List.filter_cons, live_r0, live_r1, live_r2]
  rfl
/-! ### values made otherwise -/
theorem leC_extC {sz n : Nat} {g g' : Nat → List Val} (hl : ∀ i, i < n → (g' i).length = sz) (h : ∀ i j, i < n → j < sz → ((g i).getD j .und).leC ((g' i).getD j .und)) : (Val.ext sz n g).leC (.ext sz n g') := fun φ u hc => by
  cases hc with
  | ext _ _ _ a c vals hc hl' hφ h1 hr => exact .ext sz n g' a c vals hc hl hφ h1 fun i j hi hj => h i j hi hj _ _ (hr i j hi hj)
  | extNil => exact .extNil sz g'
abbrev litE (sz n : Nat) (l : List Val) : Val := .ext sz n fun i => (pieces sz n l).getD i []
theorem le_snocC {l l' : List Val} (h : l.length = l'.length) {v v' : Val} (hv : v.leC v') (hl : l = l') : ∀ j, j < l.length + 1 → ((l ++ [v]).getD j .und).leC ((l' ++ [v']).getD j .und) := fun j hj => by
  subst hl
  rcases Nat.lt_or_ge j l.length with h | h
  · rw [List.getD_eq_getElem?_getD, List.getD_eq_getElem?_getD, List.getElem?_append_left h, List.getElem?_append_left h]
    exact .refl _
  · obtain rfl : j = l.length := by omega
    simp only [List.getD_eq_getElem?_getD, List.getElem?_append_right (Nat.le_refl _), Nat.sub_self, List.getElem?_cons_zero, Option.getD_some]
    exact hv
end Go.AM

