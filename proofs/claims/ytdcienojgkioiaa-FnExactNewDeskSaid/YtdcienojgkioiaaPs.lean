import Derived.Test.YtdcienojgkioiaaSu
import Derived.Test.YtdcienojgkioiaaPl
/- Plain lemmas: loops over lists; texts cut at a letter. Nothing of a program. -/
namespace Go.Rg
open Go Go.Fl

/-- What a loop over a list comes to: a step for each element, that goes on or ends it. -/
def foldE {α A E : Type} (step : A → α → A ⊕ E) (fin : A → E) : A → List α → E
  | a, [] => fin a
  | a, x :: xs => match step a x with
    | .inl a' => foldE step fin a' xs
    | .inr e => e

theorem foldE_nil {α A E : Type} {step : A → α → A ⊕ E} {fin : A → E} {a : A} : foldE step fin a [] = fin a := rfl
theorem foldE_inl {α A E : Type} {step : A → α → A ⊕ E} {fin : A → E} {a a' : A} {x : α} {xs : List α} (h : step a x = .inl a') : foldE step fin a (x :: xs) = foldE step fin a' xs := by rw [foldE, h]
theorem foldE_inr {α A E : Type} {step : A → α → A ⊕ E} {fin : A → E} {a : A} {e : E} {x : α} {xs : List α} (h : step a x = .inr e) : foldE step fin a (x :: xs) = e := by rw [foldE, h]
theorem mapM_cons_some {α β : Type} {f : α → Option β} {x : α} {y : β} {xs : List α} {ys : List β} (h : f x = some y) (hs : xs.mapM f = some ys) : (x :: xs).mapM f = some (y :: ys) := by rw [List.mapM_cons, h, hs]; rfl
theorem mapM_cons_none {α β : Type} {f : α → Option β} {x : α} {xs : List α} (h : f x = none) : (x :: xs).mapM f = none := by rw [List.mapM_cons, h]; rfl
theorem mapM_cons_none2 {α β : Type} {f : α → Option β} {x : α} {y : β} {xs : List α} (h : f x = some y) (hs : xs.mapM f = none) : (x :: xs).mapM f = none := by rw [List.mapM_cons, h, hs]; rfl
theorem loopM_list {α S A E : Type} {B : S → Option (S ⊕ E)} (xs : List α) (pack : A → Nat → S) (step : A → α → A ⊕ E) (fin : A → E) (Inv : Nat → A → Prop)
    (h : ∀ k a x, xs[k]? = some x → Inv k a → (match step a x with
      | .inl a' => B (pack a k) = some (.inl (pack a' (k + 1))) ∧ Inv (k + 1) a'
      | .inr e => B (pack a k) = some (.inr e)))
    (he : ∀ a, Inv xs.length a → B (pack a xs.length) = some (.inr (fin a))) (a0 : A) (h0 : Inv 0 a0) {s0 : S} (hs : s0 = pack a0 0) : loopM B s0 = some (foldE step fin a0 xs) := by
  have key : ∀ (ys : List α) (k : Nat) (a : A), k ≤ xs.length → xs.drop k = ys → Inv k a → loopM B (pack a k) = some (foldE step fin a ys) := by
    intro ys
    induction ys with
    | nil =>
      intro k a hk hd hI
      have hk' : xs.length ≤ k := List.drop_eq_nil_iff.1 hd
      have e : k = xs.length := by omega
      subst e
      exact loopM_end (he a hI)
    | cons y ys ih =>
      intro k a hk hd hI
      have hx : xs[k]? = some y := by
        have : (xs.drop k)[0]? = some y := by rw [hd]; rfl
        simpa using this
      have hd' : xs.drop (k + 1) = ys := by
        have := congrArg (List.drop 1) hd
        rw [List.drop_drop] at this
        simpa using this
      have hlt := (List.getElem?_eq_some_iff.1 hx).1
      have := h k a y hx hI
      unfold foldE
      cases hst : step a y with
      | inl a' =>
        rw [hst] at this
        rw [loopM_next this.1]
        exact ih (k + 1) a' hlt hd' this.2
      | inr e =>
        rw [hst] at this
        exact loopM_end this
  rw [hs]
  exact key xs 0 a0 (Nat.zero_le _) rfl h0

/-- A text cut at a letter: what stands before it, and the rest's pieces. -/
def splitA (c : UInt8) : List UInt8 → List UInt8 → List (List UInt8)
  | cur, [] => [cur]
  | cur, b :: l => if b = c then cur :: splitA c [] l else splitA c (cur ++ [b]) l
def splitB (c : UInt8) (l : List UInt8) : List (List UInt8) := splitA c [] l

theorem splitA_miss {c : UInt8} : ∀ {l : List UInt8} (cur : List UInt8), Lib.indexByte l c = -1 → splitA c cur l = [cur ++ l] := by
  intro l
  induction l with
  | nil => intro cur _; simp [splitA]
  | cons b l ih =>
    intro cur h
    unfold Lib.indexByte at h
    by_cases e : b = c
    · subst e; simp at h
    · have e' : (b == c) = false := by simpa using e
      rw [e'] at h
      simp only [Bool.false_eq_true, if_false] at h
      have h2 : Lib.indexByte l c = -1 := by
        have hge := Lib.indexByte_ge l c
        by_cases e2 : Lib.indexByte l c = -1
        · exact e2
        · rw [if_neg (by simpa using e2)] at h; omega
      unfold splitA
      rw [if_neg e, ih _ h2]
      simp
theorem splitA_hit {c : UInt8} : ∀ {l : List UInt8} (cur : List UInt8) {m : Nat}, Lib.indexByte l c = m → splitA c cur l = (cur ++ l.take m) :: splitA c [] (l.drop (m + 1)) := by
  intro l
  induction l with
  | nil => intro cur m h; simp [Lib.indexByte] at h
  | cons b l ih =>
    intro cur m h
    unfold Lib.indexByte at h
    by_cases e : b = c
    · subst e
      simp at h
      have hm : m = 0 := by omega
      subst hm
      simp [splitA]
    · have e' : (b == c) = false := by simpa using e
      rw [e'] at h
      simp only [Bool.false_eq_true, if_false] at h
      split at h
      · omega
      · have hge := Lib.indexByte_ge l c
        rename_i e2
        have e3 : ¬ Lib.indexByte l c = -1 := by simpa using e2
        obtain ⟨j, rfl⟩ : ∃ j, m = j + 1 := ⟨m - 1, by omega⟩
        have h3 : Lib.indexByte l c = j := by omega
        rw [splitA, if_neg e, ih _ h3]
        simp
theorem splitB_miss {c : UInt8} {l : List UInt8} (h : Lib.indexByte l c = -1) : splitB c l = [l] := by
  unfold splitB; rw [splitA_miss _ h]; simp
theorem splitB_hit {c : UInt8} {l : List UInt8} {m : Nat} (h : Lib.indexByte l c = m) : splitB c l = l.take m :: splitB c (l.drop (m + 1)) := by
  unfold splitB; rw [splitA_hit _ h]; simp

theorem count_miss {c : UInt8} : ∀ {l : List UInt8}, Lib.indexByte l c = -1 → l.count c = 0 := by
  intro l
  induction l with
  | nil => intro _; rfl
  | cons b l ih =>
    intro h
    unfold Lib.indexByte at h
    by_cases e : b = c
    · subst e; simp at h
    · have e' : (b == c) = false := by simpa using e
      rw [e'] at h
      simp only [Bool.false_eq_true, if_false] at h
      have hge := Lib.indexByte_ge l c
      have h2 : Lib.indexByte l c = -1 := by
        by_cases e2 : Lib.indexByte l c = -1
        · exact e2
        · rw [if_neg (by simpa using e2)] at h; omega
      rw [List.count_cons, ih h2, e']; rfl
theorem count_hit {c : UInt8} : ∀ {l : List UInt8} {m : Nat}, Lib.indexByte l c = m → l.count c = 1 + (l.drop (m + 1)).count c ∧ m < l.length := by
  intro l
  induction l with
  | nil => intro m h; simp [Lib.indexByte] at h
  | cons b l ih =>
    intro m h
    unfold Lib.indexByte at h
    by_cases e : b = c
    · subst e
      simp at h
      have hm : m = 0 := by omega
      subst hm
      simp; omega
    · have e' : (b == c) = false := by simpa using e
      rw [e'] at h
      simp only [Bool.false_eq_true, if_false] at h
      split at h
      · omega
      · have hge := Lib.indexByte_ge l c
        rename_i e2
        have e3 : ¬ Lib.indexByte l c = -1 := by simpa using e2
        obtain ⟨j, rfl⟩ : ∃ j, m = j + 1 := ⟨m - 1, by omega⟩
        have h3 : Lib.indexByte l c = j := by omega
        obtain ⟨a1, a2⟩ := ih h3
        rw [List.count_cons, e', List.drop_succ_cons]
        exact ⟨by simpa using a1, by simpa using a2⟩

theorem splitA_ne (c : UInt8) : ∀ (l cur : List UInt8), splitA c cur l ≠ [] := by
  intro l
  induction l with
  | nil => intro cur; simp [splitA]
  | cons b l ih =>
    intro cur
    unfold splitA
    split
    · simp
    · exact ih _
theorem splitA_len (c : UInt8) : ∀ (l cur : List UInt8), (splitA c cur l).length = l.count c + 1 := by
  intro l
  induction l with
  | nil => intro cur; simp [splitA]
  | cons b l ih =>
    intro cur
    unfold splitA
    split
    · rename_i e; subst e; simp [ih]
    · rename_i e; rw [ih, List.count_cons, if_neg (by simpa using e)]
theorem splitB_len (c : UInt8) (l : List UInt8) : (splitB c l).length = l.count c + 1 := splitA_len c l []
theorem splitB_le (c : UInt8) (l : List UInt8) : (splitB c l).length ≤ l.length + 1 := by
  rw [splitB_len]; have := List.count_le_length (a := c) (l := l); omega

theorem splitA_mem (c : UInt8) : ∀ (l cur p : List UInt8), p ∈ splitA c cur l → p.length ≤ cur.length + l.length := by
  intro l
  induction l with
  | nil => intro cur p h; simp [splitA] at h; subst h; simp
  | cons b l ih =>
    intro cur p h
    unfold splitA at h
    split at h
    · rcases List.mem_cons.1 h with h | h
      · subst h; simp
      · have := ih _ _ h; simp at this; simp; omega
    · have := ih _ _ h
      simp at this
      simp; omega
theorem splitB_mem {c : UInt8} {l p : List UInt8} (h : p ∈ splitB c l) : p.length ≤ l.length := by simpa using splitA_mem c l [] p h
theorem sidx_nat (l : List UInt8) (k : Nat) : sidx l (k : Int) = (l[k]?).map fun b => (b.toNat : Int) := by
  unfold sidx; rw [idx_nat]
theorem sidx_lt {l : List UInt8} {k : Nat} (h : k < l.length) : sidx l (k : Int) = some ((l[k].toNat : Int)) := by
  rw [sidx_nat, List.getElem?_eq_getElem h]; rfl
theorem ssub_nat {α : Type} (l : List α) {a b : Nat} (h1 : a ≤ b) (h2 : b ≤ l.length) : ssub l (a : Int) (b : Int) = some ((l.drop a).take (b - a)) := by
  unfold ssub; rw [if_pos (by omega)]; simp
theorem mkl_ok {α : Type} {bytes : Nat} {n : Nat} {z : α} (h : bytes * n ≤ 140737488355328) : mkl bytes (n : Int) (n : Int) z = some (List.replicate n z) := by
  unfold mkl
  have : (bytes : Int) * (n : Int) = ((bytes * n : Nat) : Int) := by simp
  rw [if_pos ⟨by omega, by omega, by rw [this]; omega⟩]
  simp
theorem byte_inj {a b : UInt8} : (a.toNat : Int) = (b.toNat : Int) ↔ a = b := by
  constructor
  · intro h; exact UInt8.toNat_inj.1 (by omega)
  · rintro rfl; rfl

end Go.Rg
