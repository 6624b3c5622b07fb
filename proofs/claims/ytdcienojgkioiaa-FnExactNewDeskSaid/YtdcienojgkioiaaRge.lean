import Derived.Test.YtdcienojgkioiaaRgo
namespace Go.Rg
open Go Go.RowKit Go.Fl

section
variable {P : Program} {n : Nat} {ops : Array Oper} {K : Sig → World → Prop} {Q : Exit → Sig → World → Prop} {σ : Sig} {w : World} {rest : List Oper}
  {dst : Option Tmp} {ty : TypeId} {pos : String} {after : Array Edge} {g : Option (Nat × Bool)} {ρ : Operand → Value} {R : Value → World → Prop}

theorem d_mv {x : Operand} {v : Value} (hx : ρ x = v) (h : R v w) : Does P ⟨dst, .move x, ty, pos, after, g⟩ ρ w R := by subst hx; exact h
theorem d_as {x : Operand} {v : Value} (hx : ρ x = v) (h : R v w) : Does P ⟨dst, .assign x, ty, pos, after, g⟩ ρ w R := by subst hx; exact h
theorem d_nil {x : Operand} {a : Addr} (hx : ρ x = .pointer (some a)) (h : R (.pointer (some a)) w) : Does P ⟨dst, .nilCheck x, ty, pos, after, g⟩ ρ w R :=
  d_run (v := .pointer (some a)) (w' := w) (by simp only [execOp, hx]; rfl) h
theorem arr_map {α β : Type} (f : α → β) (xs : Array α) : (xs.toList.map f).toArray = xs.map f := by cases xs; simp
theorem d_fn {fn : Fn} {cs : Array Operand} {vs : List Value} (hv : cs.toList.map ρ = vs) (h : R (.func fn #[] vs.toArray) w) : Does P ⟨dst, .makeFunc fn #[] cs, ty, pos, after, g⟩ ρ w R := by
  subst hv
  exact d_run (v := .func fn #[] (cs.toList.map ρ).toArray) (w' := w) (by rw [arr_map]; simp [execOp, Instr.makeFunc]) h

theorem pc {i : Nat} {a b : Value} {l m : List (Nat × Value)} (h : a = b) (t : l = m) : (i, a) :: l = (i, b) :: m := by rw [h, t]
theorem ac {a b : Value} {l m : List Value} (h : a = b) (t : l = m) : a :: l = b :: m := by rw [h, t]

theorem d_bd {t : TypeId} {parts : Array (Nat × Operand)} {vs : List (Nat × Value)} {cs : Array Value} (hp : (parts.toList.map fun p => (p.1, ρ p.2)) = vs) (hb : P.built t vs = some cs) (h : R (.agg cs) w) :
    Does P ⟨dst, .build t parts, ty, pos, after, g⟩ ρ w R :=
  d_build (by rw [← hp, Array.toList_map]) hb h

theorem d_cl {f : FuncId} {args : Array Operand} {ats : Array TypeId} {vs : List Value} (he : Enters P f) (hv : args.toList.map ρ = vs) (hfn : ρ (.func f) = .func (.func f) #[] #[])
    (h : Calls P f vs.toArray w fun e w' => ∃ v, e = .returned v ∧ R v w') : Does P ⟨dst, .call { callee := .value (.func f), args := args, argTypes := ats }, ty, pos, after, g⟩ ρ w R :=
  d_call he (show args.map ρ = vs.toArray by rw [← hv, arr_map]) hfn h

theorem d_clv {x : Operand} {f : FuncId} {cap vs : List Value} {args : Array Operand} {ats : Array TypeId} (he : Enters P f) (hx : ρ x = .func (.func f) #[] cap.toArray) (hv : args.toList.map ρ = vs)
    (h : Calls P f (vs ++ cap).toArray w fun e w' => ∃ v, e = .returned v ∧ R v w') : Does P ⟨dst, .call { callee := .value x, args := args, argTypes := ats }, ty, pos, after, g⟩ ρ w R :=
  d_callv he hx (show args.map ρ ++ cap.toArray = (vs ++ cap).toArray by rw [← hv, ← arr_map]; simp) h

theorem lt_heap {b : Nat} {o : Obj} (h : w.heap[b]? = some o) : b < w.heap.size := (Array.getElem?_eq_some_iff.1 h).1

/-- A store's run, told from its end. -/
theorem put_of_run {T E : TypeId} {x y : Operand} {b o : Nat} {cur vs : Array Value} {w2 : World} (hr : (execOp ρ ⟨dst, .store T x y, ty, pos, after, g⟩).run P w = .ok .skip w2) (hx : ρ x = .pointer (some ⟨b, o, none⟩)) (hy : (ρ y).cells = vs)
    (hb : w.heap[b]? = some (.cells cur E (0, 0))) (hn : ∀ w, (sizeOf T).run P w = .ok vs.size w) (hl : o + vs.size ≤ cur.size) (h1 : vs.toList.all (·.oneCell') = true) : Put w w2 b (splice cur o vs) E := by
  rw [run_store_op hx hy hb hn hl h1] at hr
  cases hr
  exact Put.setRow hb _ (size_splice hl)

/-- What a region's operations do not write stays. -/
theorem doAll_out {l : List Oper} : ∀ {σ : Sig} {w : World}, doAll P ops K l σ w → doAll P ops (fun σ' w' => (∀ t, (l.any fun o => o.dst == some t) = false → σ' t = σ t) ∧ K σ' w') l σ w := by
  have monoAll : ∀ (l : List Oper) (K K' : Sig → World → Prop) (σ : Sig) (w : World), (∀ σ w, K σ w → K' σ w) → doAll P ops K l σ w → doAll P ops K' l σ w := by
    intro l
    induction l with
    | nil => intro K K' σ w h hd; exact h _ _ hd
    | cons o l ih =>
      intro K K' σ w h hd
      simp only [doAll, DoesG] at hd ⊢
      split
      · rename_i hw; rw [if_pos hw] at hd; exact hd.mono fun v w' hv => ih K K' _ _ h hv
      · rename_i hw; rw [if_neg hw] at hd; exact ih K K' _ _ h hd
  induction l with
  | nil => intro σ w h; exact ⟨fun _ _ => rfl, h⟩
  | cons o l ih =>
    intro σ w h
    have step : ∀ v w', doAll P ops K l (up σ o.dst v) w' → doAll P ops (fun σ' w' => (∀ t, ((o :: l).any fun o => o.dst == some t) = false → σ' t = σ t) ∧ K σ' w') l (up σ o.dst v) w' := by
      intro v w' hv
      refine monoAll _ _ _ _ _ ?_ (ih hv)
      rintro σ' w'' ⟨h1, h2⟩
      refine ⟨fun t ht => ?_, h2⟩
      simp only [List.any_cons, Bool.or_eq_false_iff] at ht
      rw [h1 t ht.2, up_ne (fun e => by rw [e] at ht; simp at ht)]
    simp only [doAll, DoesG] at h ⊢
    split
    · rename_i hw; rw [if_pos hw] at h; exact h.mono step
    · rename_i hw; rw [if_neg hw] at h; exact step _ _ h

/-- A region, and what is kept of it: Mid; slots that it does not write are as they were. -/
theorem W_cut {id : Nat} {l : List Oper} (Mid : Sig → World → Prop) (hn : fits n l = true) (h : doAll P l.toArray Mid l σ w)
    (hq : ∀ σ' w', (∀ t, (l.any fun o => o.dst == some t) = false → σ' t = σ t) → Mid σ' w' → Q .normal σ' w') : W P n (.region id l.toArray false) Q σ w := fun a hs =>
  wp_region_lit (wpList_of_doAll (K := fun σ' w' => (∀ t, (l.any fun o => o.dst == some t) = false → σ' t = σ t) ∧ Mid σ' w') (fun _ σ' w' h1 h2 => ⟨σ', h1, hq σ' w' h2.1 h2.2⟩) l a σ w (fits_spec hn) hs (doAll_out h))

theorem W_draw_none {id : Nat} {l : List Oper} (sp : List Spec) (hm : P.follows .mixedOrders = true) (hB : drawB n l.toArray sp = true) (hno : sp.all (fun s => !s.isStore) = true) (hob : Obs P l.toArray sp σ w.drew l sp)
    (hfin : ∀ σ' w1, Agree l.toArray σ σ' → Ext w w1 → (∀ j, j < l.length → vAt sp j (sl l.toArray σ' j) w1) → Q .normal σ' w1) : W P n (.region id l.toArray true) Q σ w :=
  W_draw sp hm hB hob fun σ' w1 w2 h1 h2 h3 h4 => by
    rcases h4 with ⟨_, rfl⟩ | ⟨s, os, hs, _, _⟩
    · exact hfin σ' _ h1 h2 h3
    · have := List.all_eq_true.1 hno _ (List.mem_of_getElem? hs)
      simp [Spec.isStore] at this

theorem W_draw_store {id : Nat} {l : List Oper} (sp : List Spec) (k : Nat) (os : Oper) (hm : P.follows .mixedOrders = true) (hB : drawB n l.toArray sp = true) (hk : sp[k]? = some .store) (hos : l[k]? = some os) (hob : Obs P l.toArray sp σ w.drew l sp)
    (hfin : ∀ σ' w1 w2, Agree l.toArray σ σ' → Ext w w1 → (∀ j, j < l.length → vAt sp j (sl l.toArray σ' j) w1) → (execOp (ev σ') os).run P w1 = .ok .skip w2 → Q .normal σ' w2) : W P n (.region id l.toArray true) Q σ w :=
  W_draw sp hm hB hob fun σ' w1 w2 h1 h2 h3 h4 => by
    have hB' := hB
    simp only [drawB, Bool.and_eq_true, beq_iff_eq] at hB'
    obtain ⟨⟨⟨_, hlast⟩, _⟩, _⟩ := hB'
    rcases h4 with ⟨h5, _⟩ | ⟨s, os', hs, hos', hr⟩
    · exact absurd hk (h5 k)
    · have hek : s = k := by
        refine Classical.byContradiction fun hne => ?_
        have h6 := (storeLast_spec hlast hk (by simpa using hos)).2.2 s os' .store hos' hs hne
        simp [Spec.isStore] at h6
      subst hek
      have : os' = os := by
        have : l.toArray[s]? = some os := by simpa using hos
        rw [this] at hos'; cases hos'; rfl
      subst this
      exact hfin σ' w1 w2 h1 h2 h3 hr

theorem fAdd : BinOp.add = .add ∨ BinOp.add = .sub ∨ BinOp.add = .mul ∨ BinOp.add = .quo := .inl rfl
theorem fSub : BinOp.sub = .add ∨ BinOp.sub = .sub ∨ BinOp.sub = .mul ∨ BinOp.sub = .quo := .inr (.inl rfl)
theorem fMul : BinOp.mul = .add ∨ BinOp.mul = .sub ∨ BinOp.mul = .mul ∨ BinOp.mul = .quo := .inr (.inr (.inl rfl))
theorem fQuo : BinOp.quo = .add ∨ BinOp.quo = .sub ∨ BinOp.quo = .mul ∨ BinOp.quo = .quo := .inr (.inr (.inr rfl))
theorem cEql : BinOp.eql = .eql ∨ BinOp.eql = .neq ∨ BinOp.eql = .lss ∨ BinOp.eql = .leq ∨ BinOp.eql = .gtr ∨ BinOp.eql = .geq := .inl rfl
theorem cNeq : BinOp.neq = .eql ∨ BinOp.neq = .neq ∨ BinOp.neq = .lss ∨ BinOp.neq = .leq ∨ BinOp.neq = .gtr ∨ BinOp.neq = .geq := .inr (.inl rfl)
theorem cLss : BinOp.lss = .eql ∨ BinOp.lss = .neq ∨ BinOp.lss = .lss ∨ BinOp.lss = .leq ∨ BinOp.lss = .gtr ∨ BinOp.lss = .geq := .inr (.inr (.inl rfl))
theorem cLeq : BinOp.leq = .eql ∨ BinOp.leq = .neq ∨ BinOp.leq = .lss ∨ BinOp.leq = .leq ∨ BinOp.leq = .gtr ∨ BinOp.leq = .geq := .inr (.inr (.inr (.inl rfl)))
theorem cGtr : BinOp.gtr = .eql ∨ BinOp.gtr = .neq ∨ BinOp.gtr = .lss ∨ BinOp.gtr = .leq ∨ BinOp.gtr = .gtr ∨ BinOp.gtr = .geq := .inr (.inr (.inr (.inr (.inl rfl))))
theorem cGeq : BinOp.geq = .eql ∨ BinOp.geq = .neq ∨ BinOp.geq = .lss ∨ BinOp.geq = .leq ∨ BinOp.geq = .gtr ∨ BinOp.geq = .geq := .inr (.inr (.inr (.inr (.inr rfl))))

/-- A 32-bit number as a 64-bit one. -/
def widen (x : Nat) : Nat := cn .f64 ((floatToFloatBits .f32 x .f64).getD (qnan .f64))
end
end Go.Rg
