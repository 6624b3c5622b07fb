import Derived.Test.YtdcienojgkioiaaRgf
namespace Go.Rg
open Go Go.RowKit Go.Fl

/-- The type that a block of cells bears. -/
def tyOf : Obj → Option TypeId
  | .cells _ T _ => some T
  | _ => none
/-- Every block has the shape that it had. -/
def Shp (w w' : World) : Prop := ∀ (k : Nat) (cs : Array Value) (T : TypeId) (fr : Nat × Nat), w.heap[k]? = some (.cells cs T fr) → ∃ cs' : Array Value, w'.heap[k]? = some (.cells cs' T fr) ∧ cs'.size = cs.size
/-- Nothing but what D names (a block's number, its type) has turned. -/
structure Frm (D : Nat → Option TypeId → Prop) (w w' : World) : Prop where
  os : w'.os = w.os
  tape : w'.tape = w.tape
  output : w'.output = w.output
  size : w.heap.size ≤ w'.heap.size
  block : ∀ (k : Nat) (o : Obj), w.heap[k]? = some o → ¬ D k (tyOf o) → w'.heap[k]? = some o
  shape : Shp w w'

theorem Frm.refl (D : Nat → Option TypeId → Prop) (w : World) : Frm D w w := ⟨rfl, rfl, rfl, Nat.le_refl _, fun _ _ h _ => h, fun _ cs _ _ h => ⟨cs, h, rfl⟩⟩
theorem shape_trans {a b c : World} (h : Shp a b)
    (h' : Shp b c) : Shp a c := fun k cs T fr hk => by
  obtain ⟨c1, h1, h2⟩ := h k cs T fr hk
  obtain ⟨c2, h3, h4⟩ := h' k c1 T fr h1
  exact ⟨c2, h3, h4.trans h2⟩
theorem Frm.trans {D : Nat → Option TypeId → Prop} {a b c : World} (h : Frm D a b) (k : Frm D b c) : Frm D a c :=
  ⟨k.os.trans h.os, k.tape.trans h.tape, k.output.trans h.output, Nat.le_trans h.size k.size, fun i o hi hd => k.block i o (h.block i o hi hd) hd, shape_trans h.shape k.shape⟩
theorem Frm.mono {D D' : Nat → Option TypeId → Prop} {w w' : World} (h : Frm D w w') (hd : ∀ k t, D k t → D' k t) : Frm D' w w' := ⟨h.os, h.tape, h.output, h.size, fun k o hk hn => h.block k o hk fun h => hn (hd k _ h), h.shape⟩
theorem Ext.frm {D : Nat → Option TypeId → Prop} {w w' : World} (h : Ext w w') : Frm D w w' := ⟨h.os, h.tape, h.output, h.size, fun _ _ hk _ => h.heap hk, fun _ cs _ _ hk => ⟨cs, h.heap hk, rfl⟩⟩
theorem ext_of_blocks {w w' : World} (h1 : w'.os = w.os) (h2 : w'.tape = w.tape) (h3 : w'.output = w.output) (h4 : w.heap.size ≤ w'.heap.size) (h : ∀ (k : Nat) (o : Obj), w.heap[k]? = some o → w'.heap[k]? = some o) : Ext w w' :=
  ⟨h1, h2, h3, h4, fun k hk => by rw [h k w.heap[k] (Array.getElem?_eq_getElem hk), Array.getElem?_eq_getElem hk]⟩
theorem Frm.ext {D : Nat → Option TypeId → Prop} {w w' : World} (h : Frm D w w') (hd : ∀ k t, k < w.heap.size → ¬ D k t) : Ext w w' :=
  ext_of_blocks h.os h.tape h.output h.size fun k o hk => h.block k o hk (hd k _ (Array.getElem?_eq_some_iff.1 hk).1)
theorem Frm.heap {D : Nat → Option TypeId → Prop} {w w' : World} (h : Frm D w w') {b : Nat} {o : Obj} (hn : ¬ D b (tyOf o)) (hb : w.heap[b]? = some o) : w'.heap[b]? = some o := h.block b o hb hn
/-- A step within blocks of the call's own. -/
theorem Ext.step {D : Nat → Option TypeId → Prop} {w0 w w' : World} (h : Ext w0 w) (f : Frm D w w') (hd : ∀ k t, D k t → w0.heap.size ≤ k) : Ext w0 w' :=
  ext_of_blocks (f.os.trans h.os) (f.tape.trans h.tape) (f.output.trans h.output) (Nat.le_trans h.size f.size) fun k o hk => f.block k o (h.heap hk) fun e => Nat.lt_irrefl _ (Nat.lt_of_lt_of_le (Array.getElem?_eq_some_iff.1 hk).1 (hd k _ e))
/-- A step within what the call may turn, or its own. -/
theorem Frm.step {D D' : Nat → Option TypeId → Prop} {w0 w w' : World} (h : Frm D w0 w) (f : Frm D' w w') (hd : ∀ k t, D' k t → D k t ∨ w0.heap.size ≤ k) : Frm D w0 w' :=
  ⟨f.os.trans h.os, f.tape.trans h.tape, f.output.trans h.output, Nat.le_trans h.size f.size, fun k o hk hn => f.block k o (h.block k o hk hn) fun e => by
    rcases hd k _ e with h1 | h1
    · exact hn h1
    · exact Nat.lt_irrefl _ (Nat.lt_of_lt_of_le (Array.getElem?_eq_some_iff.1 hk).1 h1), shape_trans h.shape f.shape⟩
theorem Put.frm {w w' : World} {b : Nat} {cs : Array Value} {E : TypeId} (h : Put w w' b cs E) : Frm (fun k t => k = b ∧ t = some E) w w' :=
  ⟨h.os, h.tape, h.output, by rw [h.size]; exact Nat.le_refl _, fun k o ho hk => by
    by_cases e : k = b
    · subst e
      obtain ⟨cur, h1, h2⟩ := h.old
      rw [h1] at ho; cases ho
      exact absurd ⟨rfl, rfl⟩ hk
    · rw [h.there k e]; exact ho, fun k cs' T fr hk => by
    by_cases e : k = b
    · subst e
      obtain ⟨cur, h1, h2⟩ := h.old
      rw [h1] at hk; cases hk
      exact ⟨cs, h.here, h2⟩
    · exact ⟨cs', by rw [h.there k e]; exact hk, rfl⟩⟩
theorem Put.frmb {w w' : World} {b : Nat} {cs : Array Value} {E : TypeId} (h : Put w w' b cs E) : Frm (fun k _ => k = b) w w' := h.frm.mono fun _ _ h => h.1
theorem grown_frm {w w' : World} {v : Value} (h : w.grownBy w' v.ownBlock) (hs : Shp w w') : Frm (fun k _ => v.ownBlock = some k) w w' :=
  ⟨h.os, h.tape, h.output, h.size, fun k o ho hn => by rw [h.block k (Array.getElem?_eq_some_iff.1 ho).1 fun e => hn e.symm]; exact ho, hs⟩

/-- What the operations but number d may turn. -/
def Oth (Ds : List (Nat → Option TypeId → Prop)) (d : Option Nat) (k : Nat) (t : Option TypeId) : Prop := ∃ j D, Ds[j]? = some D ∧ d ≠ some j ∧ D k t
/-- What operation number d may turn. -/
def Own (Ds : List (Nat → Option TypeId → Prop)) (d : Option Nat) (k : Nat) (t : Option TypeId) : Prop := ∃ j D, d = some j ∧ Ds[j]? = some D ∧ D k t

theorem not_oth0 {d : Option Nat} {k : Nat} {t : Option TypeId} : ¬ Oth [] d k t := fun ⟨_, _, h, _⟩ => by simp at h
theorem not_oth1 {D : Nat → Option TypeId → Prop} {d : Option Nat} {k : Nat} {t : Option TypeId} (h : ¬ D k t) : ¬ Oth [D] d k t := fun ⟨j, D', h1, _, h3⟩ => by
  cases j with
  | zero => simp at h1; subst h1; exact h h3
  | succ j => simp at h1
theorem not_oth1s {D : Nat → Option TypeId → Prop} {k : Nat} {t : Option TypeId} : ¬ Oth [D] (some 0) k t := fun ⟨j, D', h1, h2, h3⟩ => by
  cases j with
  | zero => exact h2 rfl
  | succ j => simp at h1
theorem not_oth2 {D D2 : Nat → Option TypeId → Prop} {d : Option Nat} {k : Nat} {t : Option TypeId} (h : ¬ D k t) (h' : ¬ D2 k t) : ¬ Oth [D, D2] d k t := fun ⟨j, D', h1, _, h3⟩ => by
  cases j with
  | zero => simp at h1; subst h1; exact h h3
  | succ j => cases j with
    | zero => simp at h1; subst h1; exact h' h3
    | succ j => simp at h1
theorem not_oth2a {D D2 : Nat → Option TypeId → Prop} {k : Nat} {t : Option TypeId} (h : ¬ D2 k t) : ¬ Oth [D, D2] (some 0) k t := fun ⟨j, D', h1, h2, h3⟩ => by
  cases j with
  | zero => exact h2 rfl
  | succ j => cases j with
    | zero => simp at h1; subst h1; exact h h3
    | succ j => simp at h1
theorem not_oth2b {D D2 : Nat → Option TypeId → Prop} {k : Nat} {t : Option TypeId} (h : ¬ D k t) : ¬ Oth [D, D2] (some 1) k t := fun ⟨j, D', h1, h2, h3⟩ => by
  cases j with
  | zero => simp at h1; subst h1; exact h h3
  | succ j => cases j with
    | zero => exact h2 rfl
    | succ j => simp at h1
theorem own_none {Ds : List (Nat → Option TypeId → Prop)} {w w' : World} (h : Ext w w') : Frm (Own Ds none) w w' := h.frm
theorem own_some {Ds : List (Nat → Option TypeId → Prop)} {w w' : World} {j : Nat} {D : Nat → Option TypeId → Prop} (hj : Ds[j]? = some D) (h : Frm D w w') : Frm (Own Ds (some j)) w w' := h.mono fun _ _ hk => ⟨j, D, rfl, hj, hk⟩

/-- How an operation of a region that draws its order is told: of its value and the world V speaks; d numbers what it turns, if it turns something; Pre is what stands as long as it has not come up. -/
structure Sp where
  V : Sig → Value → World → Prop
  d : Option Nat := none
  Pre : World → Prop := fun _ => True

def vAtA (sp : List Sp) (j : Nat) : Sig → Value → World → Prop := match sp[j]? with | some s => s.V | none => fun _ _ _ => True

section
variable (P : Program) (ops : Array Oper) (Ds : List (Nat → Option TypeId → Prop)) (sp : List Sp) (σ0 : Sig) (w0 : World)

def ObA (i : Nat) (o : Oper) (s : Sp) : Prop :=
  (∀ σ σ' v w w', (∀ j, dep o j = true → sl ops σ' j = sl ops σ j) → s.V σ v w → Frm (Oth Ds s.d) w w' → s.V σ' v w') ∧ (∀ w w', s.Pre w → Frm (Oth Ds s.d) w w' → s.Pre w') ∧
  ∀ σ w, Agree ops σ0 σ → Frm (Oth Ds none) w0 w → (∀ j, dep o j = true → vAtA sp j σ (sl ops σ j) w) →
    (∀ (m : Nat) (om : Oper) (sm : Sp), ops[m]? = some om → sp[m]? = some sm → (m = i ∨ dep om i = true) → sm.Pre w ∧ ∀ t, om.dst = some t → σ t = σ0 t) →
    DoesG P ops o σ w (fun v w' => s.V (up σ o.dst v) (slv o v) w' ∧ Frm (Own Ds s.d) w w')

def ObsA : Nat → List Oper → List Sp → Prop
  | i, o :: l, s :: r => ObA P ops Ds sp σ0 w0 i o s ∧ ObsA (i + 1) l r
  | _, [], [] => True
  | _, _, _ => False

def PresA : List Sp → World → Prop
  | [], _ => True
  | s :: r, w => s.Pre w ∧ PresA r w

def dsApart (ds : List (Option Nat)) : Bool := (List.range ds.length).all fun i => (List.range ds.length).all fun j => i == j || (match ds[i]?, ds[j]? with
  | some (some a), some (some b) => a != b
  | _, _ => true)
def anyB (n : Nat) (ops : Array Oper) (ds : List (Option Nat)) : Bool := fits n ops.toList && depsBelow ops && dstsApart ops && dsApart ds && Region.noSelect ops && ops.size == ds.length
end

section
variable {P : Program} {n : Nat} {ops : Array Oper} {Ds : List (Nat → Option TypeId → Prop)} {sp : List Sp} {σ0 : Sig} {w0 : World}

theorem obsA_get {o : Oper} {s : Sp} : ∀ {l : List Oper} {r : List Sp} {b i : Nat}, ObsA P ops Ds sp σ0 w0 b l r → l[i]? = some o → r[i]? = some s → ObA P ops Ds sp σ0 w0 (b + i) o s := by
  intro l
  induction l with
  | nil => intro r b i _ ho; simp at ho
  | cons o' l ih =>
    intro r b i h ho hs
    cases r with
    | nil => exact h.elim
    | cons s' r =>
      cases i with
      | zero => simp at ho hs; subst ho; subst hs; exact h.1
      | succ i =>
        have := ih (b := b + 1) h.2 (by simpa using ho) (by simpa using hs)
        rw [show b + (i + 1) = b + 1 + i by omega]; exact this

theorem pres_get {s : Sp} {w : World} : ∀ {r : List Sp} {i : Nat}, PresA r w → r[i]? = some s → s.Pre w := by
  intro r
  induction r with
  | nil => intro i _ h; simp at h
  | cons s' r ih =>
    intro i h hs
    cases i with
    | zero => simp at hs; subst hs; exact h.1
    | succ i => exact ih h.2 (by simpa using hs)

structure InvA (P : Program) (n : Nat) (ops : Array Oper) (Ds : List (Nat → Option TypeId → Prop)) (sp : List Sp) (σ0 : Sig) (w0 : World) (listed : Array Bool) (a : Act) (w : World) (σ : Sig) : Prop where
  lsize : listed.size = ops.size
  st : St n a σ
  out : Agree ops σ0 σ
  frm : Frm (Oth Ds none) w0 w
  vals : ∀ j, j < ops.size → listed.getD j true = true → vAtA sp j σ (sl ops σ j) w
  pres : ∀ (j : Nat) (s : Sp), sp[j]? = some s → listed.getD j true = false → s.Pre w
  closed : ∀ (j : Nat) (o : Oper), ops[j]? = some o → listed.getD j true = true → ∀ k, dep o k = true → listed.getD k true = true
  unread : ∀ (j : Nat) (o : Oper) (t : Nat), ops[j]? = some o → o.dst = some t → listed.getD j true = false → σ t = σ0 t

theorem own_oth {ds : List (Option Nat)} (hd : dsApart ds = true) {i j : Nat} {d e : Option Nat} (hi : ds[i]? = some d) (hj : ds[j]? = some e) (hne : j ≠ i) : ∀ k t, Own Ds d k t → Oth Ds e k t := by
  rintro k t ⟨m, D, rfl, h2, h3⟩
  refine ⟨m, D, h2, fun he => ?_, h3⟩
  subst he
  have hil := (List.getElem?_eq_some_iff.1 hi).1
  have hjl := (List.getElem?_eq_some_iff.1 hj).1
  have h1 := List.all_eq_true.1 (List.all_eq_true.1 hd j (by simpa using hjl)) i (by simpa using hil)
  simp only [hi, hj, bne_self_eq_false, Bool.or_false, beq_iff_eq] at h1
  exact hne h1

theorem own_any {d : Option Nat} : ∀ k t, Own Ds d k t → Oth Ds none k t := by
  rintro k t ⟨m, D, rfl, h2, h3⟩
  exact ⟨m, D, h2, by simp, h3⟩

theorem invA_step {Q : Exit → Act → World → Prop} (hB : anyB n ops (sp.map Sp.d) = true) (hob : ObsA P ops Ds sp σ0 w0 0 ops.toList sp) {listed : Array Bool} {a : Act} {w : World} {σ : Sig}
    (hI : InvA P n ops Ds sp σ0 w0 listed a w σ) {i : Nat} (hr : i ∈ Region.ready .any ops listed) {K : Act → World → Prop}
    (hK : ∀ a' w' σ', InvA P n ops Ds sp σ0 w0 (listed.setIfInBounds i true) a' w' σ' → K a' w') : wpOp P ops Q i K a w := by
  simp only [anyB, Bool.and_eq_true, beq_iff_eq] at hB
  obtain ⟨⟨⟨⟨⟨hfit, hbelow⟩, hapart⟩, hds⟩, hsel⟩, hlen⟩ := hB
  rw [List.length_map] at hlen
  obtain ⟨hun, o, ho, hall⟩ := mem_ready.1 hr
  have hi := (Array.getElem?_eq_some_iff.1 ho).1
  have hil : i < listed.size := by rw [hI.lsize]; exact hi
  have hol : ops.toList[i]? = some o := by simpa using ho
  obtain ⟨s, hs⟩ : ∃ s, sp[i]? = some s := ⟨sp[i]'(by omega), List.getElem?_eq_getElem (by omega)⟩
  have hO := obsA_get hob hol hs
  rw [Nat.zero_add] at hO
  have hfo := fits_spec hfit o (by simpa using Array.mem_of_getElem? ho)
  have hdl : ∀ j, dep o j = true → listed.getD j true = true := fun j hj => by
    have h1 := dep_listed hall hj
    have hjl : j < listed.size := by
      rcases Nat.lt_or_ge j listed.size with h | h
      · exact h
      · simp [Array.getElem?_eq_none h] at h1
    rw [getD_lt hjl true false]; exact h1
  have hdeps : ∀ j, dep o j = true → vAtA sp j σ (sl ops σ j) w := fun j hj => by
    have h1 := dep_listed hall hj
    have hjl : j < listed.size := by
      rcases Nat.lt_or_ge j listed.size with h | h
      · exact h
      · simp [Array.getElem?_eq_none h] at h1
    exact hI.vals j (by rw [← hI.lsize]; exact hjl) (hdl j hj)
  have hpre : ∀ (m : Nat) (om : Oper) (sm : Sp), ops[m]? = some om → sp[m]? = some sm → (m = i ∨ dep om i = true) → sm.Pre w ∧ ∀ t, om.dst = some t → σ t = σ0 t := fun m om sm hom hsm hmi => by
    have hlm : listed.getD m true = false := by
      rcases hmi with rfl | hdm
      · exact hun
      · refine Bool.eq_false_iff.2 fun hlm => ?_
        have := hI.closed m om hom hlm i hdm
        rw [hun] at this; cases this
    exact ⟨hI.pres m sm hsm hlm, fun t ht => hI.unread m om t hom ht hlm⟩
  have hsz : (listed.setIfInBounds i true).size = ops.size := by simp [hI.lsize]
  unfold wpOp
  simp only [ho]
  rw [hI.st.yielded]
  have next : ∀ v w', s.V (up σ o.dst v) (slv o v) w' ∧ Frm (Own Ds s.d) w w' → K (a.put o.dst v) w' := fun v w' ⟨hv, hf⟩ => by
    have oth : ∀ (j : Nat) (s' : Sp), sp[j]? = some s' → j ≠ i → Frm (Oth Ds s'.d) w w' := fun j s' hs' hne =>
      hf.mono (own_oth hds (i := i) (j := j) (by rw [List.getElem?_map, hs]; rfl) (by rw [List.getElem?_map, hs']; rfl) hne)
    refine hK _ _ (up σ o.dst v) ⟨hsz, hI.st.put o.dst hfo v, agree_up ho hI.out v, hI.frm.trans (hf.mono own_any), ?_, ?_, ?_, ?_⟩
    · intro j hj hlj
      by_cases e : j = i
      · subst e
        rw [sl_up_same ho]
        unfold vAtA; rw [hs]; exact hv
      · rw [getD_setT hil, if_neg e] at hlj
        rw [sl_up_ne hapart ho e]
        have h1 := hI.vals j hj hlj
        unfold vAtA at h1 ⊢
        cases hsj : sp[j]? with
        | none => simp
        | some s' =>
          rw [hsj] at h1
          have hoj : ops.toList[j]? = some (ops.toList[j]'(by simpa using hj)) := List.getElem?_eq_getElem _
          have h2 := obsA_get hob hoj hsj
          refine h2.1 _ _ _ _ _ (fun q hq => ?_) h1 (oth j s' hsj e)
          have hq' := hI.closed j (ops.toList[j]'(by simpa using hj)) (by simp [hj]) hlj q hq
          have hne : q ≠ i := fun e => by subst e; rw [hun] at hq'; cases hq'
          exact sl_up_ne hapart ho hne v
    · intro j s' hsj hlj
      by_cases e : j = i
      · subst e; rw [getD_setT hil, if_pos rfl] at hlj; cases hlj
      · rw [getD_setT hil, if_neg e] at hlj
        have hjl : j < ops.size := by rw [hlen]; exact (List.getElem?_eq_some_iff.1 hsj).1
        have hoj : ops.toList[j]? = some (ops.toList[j]'(by simpa using hjl)) := List.getElem?_eq_getElem _
        have h2 := obsA_get hob hoj hsj
        exact h2.2.1 _ _ (hI.pres j s' hsj hlj) (oth j s' hsj e)
    · intro j oj hoj hlj k hk
      rw [getD_setT hil]
      split
      · rfl
      · by_cases e : j = i
        · subst e
          rw [ho] at hoj; cases hoj
          exact hdl k hk
        · rw [getD_setT hil, if_neg e] at hlj
          exact hI.closed j oj hoj hlj k hk
    · intro j oj t hoj ht hlj
      have e : j ≠ i := fun e => by subst e; rw [getD_setT hil, if_pos rfl] at hlj; cases hlj
      rw [getD_setT hil, if_neg e] at hlj
      have h1 := sl_up_ne (σ := σ) hapart ho e v
      unfold sl at h1
      rw [hoj] at h1
      simp only [Option.bind_some, ht] at h1
      rw [h1]; exact hI.unread j oj t hoj ht hlj
  have hg := hO.2.2 σ w hI.out hI.frm hdeps hpre
  unfold DoesG at hg
  split
  · rename_i hw
    rw [if_pos hw] at hg
    rw [← hI.st.eval] at hg
    exact .inl (hg.wp next)
  · rename_i hw
    rw [if_neg hw] at hg
    exact next _ _ hg

theorem wpAnyA_spec {Q : Exit → Act → World → Prop} (hB : anyB n ops (sp.map Sp.d) = true) (hob : ObsA P ops Ds sp σ0 w0 0 ops.toList sp)
    (hfin : ∀ a σ w, St n a σ → Agree ops σ0 σ → Frm (Oth Ds none) w0 w → (∀ j, j < ops.size → vAtA sp j σ (sl ops σ j) w) → Q .normal a w) :
    ∀ (fuel : Nat) (listed : Array Bool) (a : Act) (w : World) (σ : Sig), toCome ops listed ≤ fuel → InvA P n ops Ds sp σ0 w0 listed a w σ → wpAny P .any ops Q fuel listed a w := by
  have hbelow : depsBelow ops = true := by
    simp only [anyB, Bool.and_eq_true] at hB
    exact hB.1.1.1.1.2
  have done : ∀ (listed : Array Bool) (a : Act) (w : World) (σ : Sig), InvA P n ops Ds sp σ0 w0 listed a w σ → Region.ready .any ops listed = [] → Q .normal a w := by
    intro listed a w σ hI hr
    have hall := all_listed hbelow hI.lsize hr
    exact hfin a σ w hI.st hI.out hI.frm (fun j hj => hI.vals j hj (hall j hj))
  intro fuel
  induction fuel with
  | zero =>
    intro listed a w σ hc hI
    have hr : Region.ready .any ops listed = [] := by
      cases hr : Region.ready .any ops listed with
      | nil => rfl
      | cons i l =>
        exfalso
        have hm : i ∈ Region.ready .any ops listed := by rw [hr]; simp
        obtain ⟨hun, o, ho, _⟩ := mem_ready.1 hm
        have hi := (Array.getElem?_eq_some_iff.1 ho).1
        have := toCome_lt hI.lsize hi hun
        omega
    exact ⟨hr, done listed a w σ hI hr⟩
  | succ fuel ih =>
    intro listed a w σ hc hI
    refine ⟨fun hr => done listed a w σ hI hr, fun i hi => ?_⟩
    refine invA_step hB hob hI hi fun a' w' σ' hI' => ih _ a' w' σ' ?_ hI'
    obtain ⟨hun, o, ho, _⟩ := mem_ready.1 hi
    have := toCome_lt hI.lsize (Array.getElem?_eq_some_iff.1 ho).1 hun
    omega

end

/-- **A REGION THAT DRAWS ITS ORDER**: each operation told by itself. -/
theorem W_any {P : Program} {n : Nat} {id : Nat} {l : List Oper} {σ : Sig} {w : World} {Q : Exit → Sig → World → Prop} (Ds : List (Nat → Option TypeId → Prop)) (sp : List Sp)
    (hm : P.follows .mixedOrders = true) (hB : anyB n l.toArray (sp.map Sp.d) = true) (hpre : PresA sp w.drew) (hob : ObsA P l.toArray Ds sp σ w 0 l sp)
    (hfin : ∀ σ' w1, Agree l.toArray σ σ' → Frm (Oth Ds none) w w1 → (∀ j, j < l.length → vAtA sp j σ' (sl l.toArray σ' j) w1) → Q .normal σ' w1) :
    W P n (.region id l.toArray true) Q σ w := fun a hs => by
  refine wp_region_any hm ?_
  have hd : Frm (Oth Ds none) w w.drew := (Ext.drewN w 1).frm
  refine wpAnyA_spec (P := P) (n := n) (Ds := Ds) (sp := sp) (σ0 := σ) (w0 := w) hB (by simpa using hob) ?_ _ _ a w.drew σ ?_ ?_
  · intro a' σ' w1 h1 h2 h3 h4
    exact ⟨σ', h1, hfin σ' w1 h2 h3 (fun j hj => h4 j (by simpa using hj))⟩
  · unfold toCome
    exact Nat.le_trans (List.length_filter_le _ _) (by simp)
  · refine ⟨by simp, hs, fun _ _ => rfl, hd, fun j hj hl => ?_, fun j s hsj _ => pres_get hpre hsj, fun j o hoj hl k hk => ?_, fun _ _ _ _ _ _ => rfl⟩
    · exfalso
      have hj' : j < l.length := by simpa using hj
      simp [hj'] at hl
    · exfalso
      have hj' : j < l.length := by simpa using (Array.getElem?_eq_some_iff.1 hoj).1
      simp [hj'] at hl

end Go.Rg
