import Derived.WalkKit
import Derived.WalkLawsBesides
import Derived.WalkSpells
import Derived.Deep.Draws
import Derived.Orders
import Derived.Still
namespace Go.Rg
open Go Go.RowKit

/-- A frame's slots as a function. -/
abbrev Sig := Nat → Value

def ev (σ : Sig) : Operand → Value
  | .tmp t => σ t
  | .const v => v
  | .global g => .pointer (some ⟨g, 0, none⟩)
  | .func f => .func (.func f) #[] #[]

def up (σ : Sig) (d : Option Tmp) (v : Value) : Sig :=
  match d with
  | none => σ
  | some d => fun i => bif Nat.beq i d then v else σ i

structure St (n : Nat) (a : Act) (σ : Sig) : Prop where
  size : a.tmps.size = n
  defers : a.defers = []
  val : ∀ i, a.tmps.getD i undef = σ i

section
variable {P : Program} {n : Nat} {a : Act} {σ : Sig} {w : World}

theorem St.eval (h : St n a σ) : a.eval = ev σ := by
  funext x
  cases x with
  | tmp t => exact h.val t
  | _ => rfl

theorem St.put (h : St n a σ) (d : Option Tmp) (hd : ∀ t, d = some t → t < n) (v : Value) : St n (a.put d v) (up σ d v) := by
  cases d with
  | none => exact h
  | some t =>
    refine ⟨by simp [Act.put, h.size], h.defers, fun i => ?_⟩
    have ht := hd t rfl
    have hs := h.size
    simp only [Act.put, up]
    by_cases e : i = t
    · subst e
      have : Nat.beq i i = true := by simp
      rw [this]
      simp [hs, ht]
    · have : Nat.beq i t = false := Bool.eq_false_iff.2 (fun h => e (Nat.eq_of_beq_eq_true h))
      rw [this]
      have h2 := h.val i
      simp only [Array.getD_eq_getD_getElem?] at h2 ⊢
      rw [Array.getElem?_setIfInBounds_ne (Ne.symm e)]
      exact h2

/-- What an operation of the region has yielded, if it is a bool. -/
def yl (ops : Array Oper) (σ : Sig) (j : Nat) : Option Bool :=
  match (ops[j]?).bind (·.dst) with
  | some t => (match σ t with | .bool b => some b | _ => none)
  | none => none

theorem St.yielded (h : St n a σ) (ops : Array Oper) : Go.yielded ops a.tmps = yl ops σ := by
  funext j
  unfold Go.yielded yl
  cases (ops[j]?).bind (·.dst) with
  | none => rfl
  | some t =>
    simp only [Option.bind_some]
    have hv := h.val t
    simp only [Array.getD_eq_getD_getElem?] at hv
    cases ht : a.tmps[t]? with
    | none => rw [ht] at hv; simp only [Option.getD_none] at hv; rw [← hv]; rfl
    | some v => rw [ht] at hv; simp only [Option.getD_some] at hv; rw [hv]; cases σ t <;> rfl

/-- The operation, its operands read by ρ, comes to an end in the world w; R tells of its value and the world then. -/
def Does (P : Program) (o : Oper) (ρ : Operand → Value) (w : World) (R : Value → World → Prop) : Prop :=
  match (execOp ρ o).run P w with
  | .ok (.value v) w' => R v w'
  | .ok .skip w' => R undef w'
  | .ok (.enter f args) w' => Calls P f args w' fun e w'' => ∃ v, e = .returned v ∧ R v w''
  | _ => False

theorem Does.mono {o : Oper} {ρ : Operand → Value} {R R' : Value → World → Prop} (h : Does P o ρ w R) (hr : ∀ v w', R v w' → R' v w') : Does P o ρ w R' := by
  unfold Does at *
  generalize (execOp ρ o).run P w = r at *
  cases r with
  | ok nx w' =>
    cases nx <;> simp only at h ⊢
    · exact hr _ _ h
    · exact hr _ _ h
    · exact h.mono fun e w'' ⟨v, he, hv⟩ => ⟨v, he, hr _ _ hv⟩
  | halt x w' => simp only at h

theorem Does.wp {o : Oper} {K : Act → World → Prop} {Q : Exit → Act → World → Prop} {R : Value → World → Prop} (h : Does P o a.eval w R)
    (hK : ∀ v w', R v w' → K (a.put o.dst v) w') : o.wp P a w K Q := by
  unfold Does at h
  unfold Oper.wp
  generalize (execOp a.eval o).run P w = r at *
  cases r with
  | ok nx w' =>
    cases nx <;> simp only at h <;> simp only [Oper.upon]
    · exact hK _ _ h
    · exact hK _ _ h
    · exact h.mono fun e w'' ⟨v, he, hv⟩ => by subst he; exact hK _ _ hv
  | halt x w' => simp only at h

/-- With its guard. -/
def DoesG (P : Program) (ops : Array Oper) (o : Oper) (σ : Sig) (w : World) (R : Value → World → Prop) : Prop :=
  if Region.wanted o (yl ops σ) then Does P o (ev σ) w R else R undef w

/-- The operations of a list, one after another. -/
def doAll (P : Program) (ops : Array Oper) (K : Sig → World → Prop) : List Oper → Sig → World → Prop
  | [], σ, w => K σ w
  | o :: rest, σ, w => DoesG P ops o σ w fun v w' => doAll P ops K rest (up σ o.dst v) w'

theorem wpList_of_doAll {ops : Array Oper} {K : Sig → World → Prop} {Q : Exit → Act → World → Prop} (hQ : ∀ a σ w, St n a σ → K σ w → Q .normal a w) :
    ∀ (l : List Oper) (a : Act) (σ : Sig) (w : World), (∀ o ∈ l, ∀ t, o.dst = some t → t < n) → St n a σ → doAll P ops K l σ w → wpList P ops Q l a w
  | [], a, σ, w, _, hs, h => hQ a σ w hs h
  | o :: rest, a, σ, w, hn, hs, h => by
    have ho := hn o (by simp)
    have ih := wpList_of_doAll (ops := ops) hQ rest
    unfold wpList
    rw [hs.yielded]
    simp only [doAll, DoesG] at h
    split
    · rename_i hw
      rw [if_pos hw] at h
      rw [← hs.eval] at h
      exact .inl (h.wp fun v w' hv => ih _ _ _ (fun o' h' => hn o' (by simp [h'])) (hs.put o.dst ho v) hv)
    · rename_i hw
      rw [if_neg hw] at h
      exact ih _ _ _ (fun o' h' => hn o' (by simp [h'])) (hs.put o.dst ho _) h

/-- The slots that a list writes lie in the frame. -/
def fits (n : Nat) (l : List Oper) : Bool := l.all fun o => match o.dst with | some t => decide (t < n) | none => true

theorem fits_spec {l : List Oper} (h : fits n l = true) : ∀ o ∈ l, ∀ t, o.dst = some t → t < n := by
  intro o ho t ht
  have := List.all_eq_true.1 h o ho
  rw [ht] at this
  simpa using this

/-- A piece of code over slots as a function: n slots, no deferred calls. -/
def W (P : Program) (n : Nat) (c : Code) (Q : Exit → Sig → World → Prop) (σ : Sig) (w : World) : Prop :=
  ∀ a, St n a σ → c.wp P (fun e a' w' => ∃ σ', St n a' σ' ∧ Q e σ' w') a w

def thenS (next : Sig → World → Prop) (Q : Exit → Sig → World → Prop) : Exit → Sig → World → Prop
  | .normal, σ, w => next σ w
  | e, σ, w => Q e σ w

def inBlockS (id : Nat) (Q : Exit → Sig → World → Prop) : Exit → Sig → World → Prop
  | .exit id', σ, w => if id' = id then Q .normal σ w else Q (.exit id') σ w
  | e, σ, w => Q e σ w

variable {Q : Exit → Sig → World → Prop}

theorem W.mono {c : Code} {Q' : Exit → Sig → World → Prop} (h : W P n c Q σ w) (hq : ∀ e σ w, Q e σ w → Q' e σ w) : W P n c Q' σ w :=
  fun a hs => wp_mono (h a hs) fun _ _ _ ⟨σ', h1, h2⟩ => ⟨σ', h1, hq _ _ _ h2⟩

theorem W_seq {x y : Code} (h : W P n x (thenS (W P n y Q) Q) σ w) : W P n (.seq x y) Q σ w := fun a hs => by
  refine wp_seq (wp_mono (h a hs) ?_)
  rintro e a' w' ⟨σ', h1, h2⟩
  cases e
  · exact h2 a' h1
  all_goals exact ⟨σ', h1, h2⟩

theorem W_region {id : Nat} {l : List Oper} (hn : fits n l = true) (h : doAll P l.toArray (Q .normal) l σ w) : W P n (.region id l.toArray false) Q σ w := fun a hs =>
  wp_region_lit (wpList_of_doAll (K := Q .normal) (fun _ σ' _ h1 h2 => ⟨σ', h1, h2⟩) l a σ w (fits_spec hn) hs h)

theorem W_cond {c : Operand} {x y : Code} {b : Bool} (hc : ev σ c = .bool b) (ht : b = true → W P n x Q σ w) (hf : b = false → W P n y Q σ w) : W P n (.cond c x y) Q σ w := fun a hs =>
  wp_cond_split (by rw [hs.eval, hc]) (fun h => ht h a hs) (fun h => hf h a hs)

theorem W_true {c : Operand} {x y : Code} (hc : ev σ c = .bool true) (ht : W P n x Q σ w) : W P n (.cond c x y) Q σ w := fun a hs =>
  wp_cond_true (by rw [hs.eval, hc]) (ht a hs)
theorem W_false {c : Operand} {x y : Code} (hc : ev σ c = .bool false) (hf : W P n y Q σ w) : W P n (.cond c x y) Q σ w := fun a hs =>
  wp_cond_false (by rw [hs.eval, hc]) (hf a hs)

theorem W_block {id : Nat} {c : Code} (h : W P n c (inBlockS id Q) σ w) : W P n (.block id c) Q σ w := fun a hs => by
  refine wp_block (wp_mono (h a hs) ?_)
  rintro e a' w' ⟨σ', h1, h2⟩
  cases e
  case exit id' =>
    simp only [inBlockS] at h2
    simp only [Exit.inBlock]
    split
    · rename_i e; rw [if_pos e] at h2; exact ⟨σ', h1, h2⟩
    · rename_i e; rw [if_neg e] at h2; exact ⟨σ', h1, h2⟩
  all_goals exact ⟨σ', h1, h2⟩

theorem W_skip (h : Q .normal σ w) : W P n .skip Q σ w := fun _ hs => wp_skip ⟨σ, hs, h⟩
theorem W_exit {id : Nat} (h : Q (.exit id) σ w) : W P n (.exit id) Q σ w := fun _ hs => wp_exit ⟨σ, hs, h⟩
theorem W_ret (h : Q .ret σ w) : W P n .ret Q σ w := fun _ hs => wp_ret ⟨σ, hs, h⟩
theorem W_label {l : Nat} (h : Q .normal σ w) : W P n (.label l) Q σ w := fun _ hs => wp_label ⟨σ, hs, h⟩

theorem W_loop {c : Code} (I : Sig → World → Prop) (μ : Sig → World → Nat) (h₀ : I σ w)
    (round : ∀ σ w, I σ w → W P n c (thenS (fun σ' w' => I σ' w' ∧ μ σ' w' < μ σ w) Q) σ w) : W P n (.loop c) Q σ w := fun a hs => by
  refine wp_loop (fun a w => ∃ σ, St n a σ ∧ I σ w) (fun a w => μ (fun i => a.tmps.getD i undef) w) ⟨σ, hs, h₀⟩ ?_
  rintro a w ⟨σ, hs, hI⟩
  refine wp_mono (round σ w hI a hs) ?_
  rintro e a' w' ⟨σ', h1, h2⟩
  have e1 : (fun i => a.tmps.getD i undef) = σ := funext hs.val
  have e2 : (fun i => a'.tmps.getD i undef) = σ' := funext h1.val
  cases e
  · rw [Exit.then]
    refine ⟨⟨σ', h1, h2.1⟩, ?_⟩
    rw [e1, e2]; exact h2.2
  all_goals exact ⟨σ', h1, h2⟩

/-- What a function hands back, its slots a function. -/
def resS (rs : Array ResultVar) (σ : Sig) : Sem Value := do
  let vs ← rs.mapM fun
    | .tmp t => pure (σ t)
    | .cell a t => do loadVar t (← asAddr (σ a))
  pure (if h : vs.size = 1 then vs[0] else .tuple vs)

theorem results_eq {fn : Func} (hs : St n a σ) : results fn a.tmps = resS fn.results σ := by
  unfold results resS
  have : (fun i => a.tmps.getD i undef) = σ := funext hs.val
  subst this
  rfl

def bodyQ (P : Program) (rs : Array ResultVar) (R : Ending → World → Prop) : Exit → Sig → World → Prop
  | .normal, σ, w | .ret, σ, w => ∃ v, (resS rs σ).run P w = .ok v w ∧ R (.returned v) w
  | _, _, _ => False

/-- The slots at a function's begin. -/
def args0 (args : Array Value) : Sig := fun i => args.getD i undef

theorem calls_of_W {f : FuncId} {fn : Func} {c : Code} {args : Array Value} {R : Ending → World → Prop}
    (hf : P.funcs[f]? = some fn) (hb : fn.body = some c) (hsz : args.size ≤ fn.ntmps) (h : W P fn.ntmps c (bodyQ P fn.results R) (args0 args) w) : Calls P f args w R := by
  refine calls_of_wp hf hb (wp_mono (h _ ⟨by simp; omega, rfl, fun i => ?_⟩) ?_)
  · simp only [args0, Array.getD_eq_getD_getElem?, Array.getElem?_append]
    split
    · rfl
    · rename_i hlt
      rw [Array.getElem?_eq_none (xs := args) (by omega)]
      rw [Array.getElem?_replicate]
      split <;> rfl
  · rintro e a' w' ⟨σ', h1, h2⟩
    cases e
    case normal => obtain ⟨v, hv, hR⟩ := h2; exact ⟨h1.defers, v, by rw [results_eq h1]; exact hv, hR⟩
    case ret => obtain ⟨v, hv, hR⟩ := h2; exact ⟨h1.defers, v, by rw [results_eq h1]; exact hv, hR⟩
    all_goals exact h2.elim

end
end Go.Rg
