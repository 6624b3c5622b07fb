import Derived.Test.YtdcienojgkioiaaRg
namespace Go.Rg
open Go Go.RowKit

/-- What was there is there still. -/
def Ext (w w' : World) : Prop := Below w.heap.size w w'
theorem Ext.refl (w : World) : Ext w w := Below.refl _ _
theorem Ext.trans {a b c : World} (h : Ext a b) (k : Ext b c) : Ext a c := Below.trans h (Below.mono k h.size)
theorem Ext.heap {w w' : World} (h : Ext w w') {b : Nat} {o : Obj} (hb : w.heap[b]? = some o) : w'.heap[b]? = some o := by
  rw [h.block b (Array.getElem?_eq_some_iff.1 hb).1]; exact hb
theorem Ext.drewN (w : World) (n : Nat) : Ext w (w.drewN n) := ⟨rfl, rfl, rfl, Nat.le_refl _, fun _ _ => rfl⟩
theorem Ext.alloc (w : World) (o : Obj) : Ext w (w.alloc o) := (Below.refl _ _).alloc (Nat.le_refl _) o

/-- How an operation of a region that draws its order is told: what its value is (in every world that comes); late: it touches no world; store: the one store. -/
inductive Spec where
  | norm (V : Value → World → Prop)
  | late (V : Value → World → Prop)
  | store

def Spec.V : Spec → Value → World → Prop
  | .norm V | .late V => V
  | .store => fun _ _ => True
def Spec.isLate : Spec → Bool
  | .late _ => true
  | _ => false
def Spec.isStore : Spec → Bool
  | .store => true
  | _ => false

def dep (o : Oper) (j : Nat) : Bool := o.after.toList.any fun e => Region.binds .any e && e.on == j
def sl (ops : Array Oper) (σ : Sig) (j : Nat) : Value := match (ops[j]?).bind (·.dst) with | some t => σ t | none => undef
def inD (ops : Array Oper) (t : Nat) : Bool := ops.toList.any fun o => o.dst == some t
def vAt (sp : List Spec) (j : Nat) : Value → World → Prop := match sp[j]? with | some s => s.V | none => fun _ _ => True

section
variable (P : Program) (ops : Array Oper) (sp : List Spec) (σ0 : Sig) (w0 : World)

def Agree (σ : Sig) : Prop := ∀ t, inD ops t = false → σ t = σ0 t
def Deps (o : Oper) (σ : Sig) (w : World) : Prop := ∀ j, dep o j = true → vAt sp j (sl ops σ j) w

/-- What lies in the slot when the operation has yielded v. -/
def slv (o : Oper) (v : Value) : Value := match o.dst with | some _ => v | none => undef

/-- What is asked of each operation. -/
def Ob (o : Oper) : Spec → Prop
  | .norm V => (∀ v w w', V v w → Ext w w' → V v w') ∧ ∀ σ w, Agree ops σ0 σ → Ext w0 w → Deps ops sp o σ w → DoesG P ops o σ w (fun v w' => V (slv o v) w' ∧ Ext w w')
  | .late V => (∀ v w w', V v w → Ext w w' → V v w') ∧ ∀ σ w, Agree ops σ0 σ → Ext w0 w → Deps ops sp o σ w → ∃ v, (∀ w', (execOp (ev σ) o).run P w' = .ok (.value v) w') ∧ V (slv o v) w
  | .store => ∀ σ w, Agree ops σ0 σ → Ext w0 w → Deps ops sp o σ w → ∃ w2, (execOp (ev σ) o).run P w = .ok .skip w2

def Obs : List Oper → List Spec → Prop
  | o :: l, s :: r => Ob P ops sp σ0 w0 o s ∧ Obs l r
  | [], [] => True
  | _, _ => False

def depsBelow (ops : Array Oper) : Bool := (List.range ops.size).all fun i => match ops[i]? with | some o => o.after.all fun e => !Region.binds .any e || decide (e.on < i) | none => true
def dstsApart (ops : Array Oper) : Bool := (List.range ops.size).all fun i => (List.range ops.size).all fun j => match ops[i]?, ops[j]? with
  | some a, some b => i == j || a.dst.isNone || a.dst != b.dst
  | _, _ => true
/-- The store (if there is one) waits for all but the late ones; the late ones have no guard, and the store does not look at what they write. -/
def storeLast (ops : Array Oper) (sp : List Spec) : Bool := (List.range ops.size).all fun s => match ops[s]?, sp[s]? with
  | some os, some .store => os.dst.isNone && os.guard.isNone && (List.range ops.size).all fun i => match ops[i]?, sp[i]? with
    | some oi, some si => i == s || (!si.isStore && (if si.isLate then oi.guard.isNone && (match oi.dst with | some d => !(os.looksAt ops).contains d | none => true) else dep os i))
    | _, _ => false
  | _, some (.late _) => (match ops[s]? with | some o => o.guard.isNone | none => true)
  | _, _ => true
def drawB (n : Nat) (ops : Array Oper) (sp : List Spec) : Bool := fits n ops.toList && depsBelow ops && dstsApart ops && storeLast ops sp && Region.noSelect ops && ops.size == sp.length
end

section
variable {P : Program} {n : Nat} {ops : Array Oper} {sp : List Spec} {σ0 : Sig} {w0 : World}

theorem obs_get {i : Nat} {o : Oper} {s : Spec} : ∀ {l : List Oper} {r : List Spec}, Obs P ops sp σ0 w0 l r → l[i]? = some o → r[i]? = some s → Ob P ops sp σ0 w0 o s := by
  intro l
  induction l generalizing i with
  | nil => intro r _ ho; simp at ho
  | cons o' l ih =>
    intro r h ho hs
    cases r with
    | nil => exact h.elim
    | cons s' r =>
      cases i with
      | zero => simp at ho hs; subst ho; subst hs; exact h.1
      | succ i => exact ih h.2 (by simpa using ho) (by simpa using hs)

def StoreRun (P : Program) (ops : Array Oper) (sp : List Spec) (σ : Sig) (w1 w2 : World) : Prop :=
  ((∀ s : Nat, sp[s]? ≠ some .store) ∧ w2 = w1) ∨ ∃ (s : Nat) (os : Oper), sp[s]? = some .store ∧ ops[s]? = some os ∧ (execOp (ev σ) os).run P w1 = .ok .skip w2

structure Inv (P : Program) (n : Nat) (ops : Array Oper) (sp : List Spec) (σ0 : Sig) (w0 : World) (listed : Array Bool) (a : Act) (w : World) (σ : Sig) (w1 : World) : Prop where
  lsize : listed.size = ops.size
  st : St n a σ
  out : Agree ops σ0 σ
  ext : Ext w0 w1
  vals : ∀ j, j < ops.size → listed.getD j true = true → vAt sp j (sl ops σ j) w1
  world : ((∀ s : Nat, sp[s]? = some .store → listed.getD s true = false) ∧ w = w1) ∨
    ∃ (s : Nat) (os : Oper), sp[s]? = some .store ∧ ops[s]? = some os ∧ listed.getD s true = true ∧ (execOp (ev σ) os).run P w1 = .ok .skip w ∧
      ∀ j, j < ops.size → j ≠ s → ((sp[j]?).map Spec.isLate).getD false = false → listed.getD j true = true

theorem getD_lt {listed : Array Bool} {j : Nat} (h : j < listed.size) (b c : Bool) : listed.getD j b = listed.getD j c := by
  simp [h]

theorem getD_setT {listed : Array Bool} {i j : Nat} (hi : i < listed.size) : (listed.setIfInBounds i true).getD j true = (if j = i then true else listed.getD j true) := by
  simp only [Array.getD_eq_getD_getElem?]
  by_cases e : j = i
  · subst e; simp [hi]
  · rw [if_neg e, Array.getElem?_setIfInBounds_ne (Ne.symm e)]

theorem up_ne {σ : Sig} {d : Option Tmp} {v : Value} {t : Nat} (h : d ≠ some t) : up σ d v t = σ t := by
  cases d with
  | none => rfl
  | some d =>
    have hne : t ≠ d := fun e => h (by rw [e])
    simp only [up]
    rw [Bool.eq_false_iff.2 (fun h => hne (Nat.eq_of_beq_eq_true h) : ¬ Nat.beq t d = true)]
    rfl

theorem up_same {σ : Sig} {d : Nat} {v : Value} : up σ (some d) v d = v := by simp [up]

theorem agree_up {σ : Sig} {i : Nat} {o : Oper} (ho : ops[i]? = some o) (h : Agree ops σ0 σ) (v : Value) : Agree ops σ0 (up σ o.dst v) := by
  intro t ht
  rw [up_ne, h t ht]
  intro e
  have : inD ops t = true := by
    unfold inD
    rw [List.any_eq_true]
    exact ⟨o, by simpa using Array.mem_of_getElem? ho, by rw [e]; simp⟩
  rw [ht] at this; cases this

theorem sl_up_same {σ : Sig} {i : Nat} {o : Oper} (ho : ops[i]? = some o) (v : Value) : sl ops (up σ o.dst v) i = slv o v := by
  unfold sl slv
  rw [ho]
  cases hd : o.dst with
  | none => simp [hd]
  | some t => simp [hd, up_same]

theorem sl_up_ne (hA : dstsApart ops = true) {σ : Sig} {i j : Nat} {o : Oper} (ho : ops[i]? = some o) (hne : j ≠ i) (v : Value) : sl ops (up σ o.dst v) j = sl ops σ j := by
  unfold sl
  cases hj : ops[j]? with
  | none => rfl
  | some oj =>
    simp only [Option.bind_some]
    cases hd : oj.dst with
    | none => rfl
    | some t =>
      refine up_ne (fun e => ?_)
      have hi := (Array.getElem?_eq_some_iff.1 ho).1
      have hjl := (Array.getElem?_eq_some_iff.1 hj).1
      have h1 := List.all_eq_true.1 (List.all_eq_true.1 hA j (by simpa using hjl)) i (by simpa using hi)
      simp only [hj, ho, hd, e, Bool.or_eq_true, beq_iff_eq, Option.isNone_some, Bool.false_eq_true, or_false, bne_self_eq_false] at h1
      exact hne h1

theorem storeLast_spec (h : storeLast ops sp = true) {s : Nat} {os : Oper} (hs : sp[s]? = some .store) (ho : ops[s]? = some os) :
    os.dst = none ∧ os.guard = none ∧ ∀ (i : Nat) (oi : Oper) (si : Spec), ops[i]? = some oi → sp[i]? = some si → i ≠ s →
      si.isStore = false ∧ (si.isLate = false → dep os i = true) ∧ (si.isLate = true → oi.guard = none ∧ ∀ d, oi.dst = some d → d ∉ os.looksAt ops) := by
  have hlt := (Array.getElem?_eq_some_iff.1 ho).1
  have h1 := List.all_eq_true.1 h s (by simpa using hlt)
  simp only [ho, hs, Bool.and_eq_true, Option.isNone_iff_eq_none] at h1
  obtain ⟨⟨hd, hg⟩, hall⟩ := h1
  refine ⟨hd, hg, fun i oi si hoi hsi hne => ?_⟩
  have hil := (Array.getElem?_eq_some_iff.1 hoi).1
  have h2 := List.all_eq_true.1 hall i (by simpa using hil)
  simp only [hoi, hsi, Bool.or_eq_true, beq_iff_eq, hne, false_or, Bool.and_eq_true, Bool.not_eq_true'] at h2
  refine ⟨h2.1, fun hl => ?_, fun hl => ?_⟩
  · have := h2.2; rw [hl] at this; simpa using this
  · have := h2.2
    rw [hl] at this
    simp only [if_true, Bool.and_eq_true, Option.isNone_iff_eq_none] at this
    refine ⟨this.1, fun d hd => ?_⟩
    have h3 := this.2
    rw [hd] at h3
    simpa using h3

theorem late_guard (h : storeLast ops sp = true) {i : Nat} {o : Oper} {V : Value → World → Prop} (ho : ops[i]? = some o) (hs : sp[i]? = some (.late V)) : o.guard = none := by
  have hlt := (Array.getElem?_eq_some_iff.1 ho).1
  have h1 := List.all_eq_true.1 h i (by simpa using hlt)
  simp only [ho, hs, Option.isNone_iff_eq_none] at h1
  exact h1

theorem dep_listed {o : Oper} {listed : Array Bool} (hall : ∀ e ∈ o.after, Region.binds .any e = true → listed.getD e.on false = true) {j : Nat} (hd : dep o j = true) : listed.getD j false = true := by
  unfold dep at hd
  rw [List.any_eq_true] at hd
  obtain ⟨k, hk, he⟩ := hd
  simp only [Bool.and_eq_true, beq_iff_eq] at he
  have := hall k (by simpa using hk) he.1
  rw [he.2] at this
  exact this

theorem inv_step {Q : Exit → Act → World → Prop} (hB : drawB n ops sp = true) (hob : Obs P ops sp σ0 w0 ops.toList sp) {listed : Array Bool} {a : Act} {w : World} {σ : Sig} {w1 : World}
    (hI : Inv P n ops sp σ0 w0 listed a w σ w1) {i : Nat} (hr : i ∈ Region.ready .any ops listed) {K : Act → World → Prop}
    (hK : ∀ a' w' σ' w1', Inv P n ops sp σ0 w0 (listed.setIfInBounds i true) a' w' σ' w1' → K a' w') : wpOp P ops Q i K a w := by
  simp only [drawB, Bool.and_eq_true, beq_iff_eq] at hB
  obtain ⟨⟨⟨⟨⟨hfit, hbelow⟩, hapart⟩, hlast⟩, hsel⟩, hlen⟩ := hB
  obtain ⟨hun, o, ho, hall⟩ := mem_ready.1 hr
  have hi := (Array.getElem?_eq_some_iff.1 ho).1
  have hil : i < listed.size := by rw [hI.lsize]; exact hi
  have hol : ops.toList[i]? = some o := by simpa using ho
  obtain ⟨s, hs⟩ : ∃ s, sp[i]? = some s := ⟨sp[i]'(by omega), List.getElem?_eq_getElem (by omega)⟩
  have hO := obs_get hob hol hs
  have hfo := fits_spec hfit o (by simpa using Array.mem_of_getElem? ho)
  have hdeps : Deps ops sp o σ w1 := fun j hj => by
    have h1 := dep_listed hall hj
    have hjl : j < listed.size := by
      rcases Nat.lt_or_ge j listed.size with h | h
      · exact h
      · simp [Array.getElem?_eq_none h] at h1
    exact hI.vals j (by rw [← hI.lsize]; exact hjl) (by rw [getD_lt hjl true false]; exact h1)
  have hsz : (listed.setIfInBounds i true).size = ops.size := by simp [hI.lsize]
  unfold wpOp
  simp only [ho]
  rw [hI.st.yielded]
  -- the store has not been: for what is no late one
  have nostore : s.isLate = false → w = w1 ∧ ∀ s' : Nat, sp[s']? = some .store → listed.getD s' true = false := by
    intro hl
    rcases hI.world with ⟨h1, h2⟩ | ⟨s', os, hs', hos, hls, hrun, hrest⟩
    · exact ⟨h2, h1⟩
    · exfalso
      by_cases e : i = s'
      · subst e; rw [hun] at hls; cases hls
      · have := hrest i hi e (by rw [hs]; simpa using hl)
        rw [hun] at this; cases this
  have valsUp : ∀ (v : Value) (w1' : World), Ext w1 w1' → vAt sp i (slv o v) w1' → (∀ (j : Nat) (s' : Spec), sp[j]? = some s' → ∀ v w w', s'.V v w → Ext w w' → s'.V v w') →
      ∀ j, j < ops.size → (listed.setIfInBounds i true).getD j true = true → vAt sp j (sl ops (up σ o.dst v) j) w1' := by
    intro v w1' he hv hstab j hj hlj
    by_cases e : j = i
    · subst e; rw [sl_up_same ho]; exact hv
    · rw [getD_setT hil, if_neg e] at hlj
      rw [sl_up_ne hapart ho e]
      have h1 := hI.vals j hj hlj
      unfold vAt at h1 ⊢
      cases hsj : sp[j]? with
      | none => simp
      | some s' => rw [hsj] at h1; exact hstab j s' hsj _ _ _ h1 he
  have stab : ∀ (j : Nat) (s' : Spec), sp[j]? = some s' → ∀ v w w', s'.V v w → Ext w w' → s'.V v w' := by
    intro j s' hsj
    have hjl : j < sp.length := (List.getElem?_eq_some_iff.1 hsj).1
    have hoj : ops.toList[j]? = some (ops.toList[j]'(by simp; omega)) := List.getElem?_eq_getElem _
    have h1 := obs_get hob hoj hsj
    cases s' with
    | norm V => exact h1.1
    | late V => exact h1.1
    | store => intro v w w' _ _; trivial
  cases s with
  | norm V =>
    obtain ⟨rfl, hns⟩ := nostore rfl
    have hg := hO.2 σ w hI.out hI.ext hdeps
    have next : ∀ v w', V (slv o v) w' ∧ Ext w w' → K (a.put o.dst v) w' := fun v w' ⟨hv, he⟩ => by
      refine hK _ _ (up σ o.dst v) w' ⟨hsz, hI.st.put o.dst hfo v, agree_up ho hI.out v, hI.ext.trans he, ?_, ?_⟩
      · exact valsUp v w' he (by unfold vAt; rw [hs]; exact hv) stab
      · refine .inl ⟨fun s' hs' => ?_, rfl⟩
        rw [getD_setT hil, if_neg (fun e => by subst e; rw [hs] at hs'; cases hs')]
        exact hns s' hs'
    unfold DoesG at hg
    split
    · rename_i hw
      rw [if_pos hw] at hg
      rw [← hI.st.eval] at hg
      exact .inl (hg.wp next)
    · rename_i hw
      rw [if_neg hw] at hg
      exact next _ _ hg
  | late V =>
    obtain ⟨v, hrun, hv⟩ := hO.2 σ w1 hI.out hI.ext hdeps
    rw [if_pos (by simp [Region.wanted, late_guard hlast ho hs])]
    left
    unfold Oper.wp
    rw [hI.st.eval, hrun]
    simp only [Oper.upon]
    refine hK _ _ (up σ o.dst v) w1 ⟨hsz, hI.st.put o.dst hfo v, agree_up ho hI.out v, hI.ext, ?_, ?_⟩
    · exact valsUp v w1 (Ext.refl _) (by unfold vAt; rw [hs]; exact hv) stab
    · rcases hI.world with ⟨h1, h2⟩ | ⟨s', os, hs', hos, hls, hrun', hrest⟩
      · refine .inl ⟨fun s' hs' => ?_, h2⟩
        rw [getD_setT hil, if_neg (fun e => by subst e; rw [hs] at hs'; cases hs')]
        exact h1 s' hs'
      · have hne : i ≠ s' := fun e => by subst e; rw [hs] at hs'; cases hs'
        obtain ⟨_, _, hsp⟩ := storeLast_spec hlast hs' hos
        obtain ⟨_, _, h3⟩ := hsp i o _ ho hs hne
        refine .inr ⟨s', os, hs', hos, ?_, ?_, fun j hj hjs hjl => ?_⟩
        · rw [getD_setT hil]; split
          · rfl
          · exact hls
        · have h4 := execOp_put (ops := ops) os (fun cs b => Region.noSelect_spec hsel s' os cs b hos) a o.dst v (h3 rfl).2
          rw [(hI.st.put o.dst hfo v).eval, hI.st.eval] at h4
          rw [h4]; exact hrun'
        · rw [getD_setT hil]; split
          · rfl
          · exact hrest j hj hjs hjl
  | store =>
    obtain ⟨rfl, hns⟩ := nostore rfl
    obtain ⟨w2, hrun⟩ := hO σ w hI.out hI.ext hdeps
    obtain ⟨hd, hg, hsp⟩ := storeLast_spec hlast hs ho
    rw [if_pos (by simp [Region.wanted, hg])]
    left
    unfold Oper.wp
    rw [hI.st.eval, hrun]
    simp only [Oper.upon]
    rw [hd]
    refine hK _ _ σ w ⟨hsz, hI.st, hI.out, hI.ext, fun j hj hlj => ?_, ?_⟩
    · by_cases e : j = i
      · subst e; unfold vAt; rw [hs]; trivial
      · rw [getD_setT hil, if_neg e] at hlj
        exact hI.vals j hj hlj
    · refine .inr ⟨i, o, hs, ho, by rw [getD_setT hil, if_pos rfl], hrun, fun j hj hjs hjl => ?_⟩
      rw [getD_setT hil, if_neg hjs]
      have hjo : ops[j]? = some ops[j] := Array.getElem?_eq_getElem hj
      have hjsp : sp[j]? = some (sp[j]'(by omega)) := List.getElem?_eq_getElem _
      rw [hjsp] at hjl
      have h5 := (hsp j _ _ hjo hjsp hjs).2.1 (by simpa using hjl)
      have h6 := dep_listed hall h5
      have hjl' : j < listed.size := by rw [hI.lsize]; exact hj
      rw [getD_lt hjl' true false]; exact h6

/-- How many are still to come. -/
def toCome (ops : Array Oper) (listed : Array Bool) : Nat := ((List.range ops.size).filter fun j => !listed.getD j true).length

theorem toCome_lt {listed : Array Bool} {i : Nat} (hs : listed.size = ops.size) (hi : i < ops.size) (hun : listed.getD i true = false) : toCome ops (listed.setIfInBounds i true) < toCome ops listed := by
  unfold toCome
  have hil : i < listed.size := by omega
  have key : ∀ l : List Nat, i ∈ l → l.Nodup → (l.filter fun j => !(listed.setIfInBounds i true).getD j true).length < (l.filter fun j => !listed.getD j true).length := by
    intro l
    induction l with
    | nil => intro h; cases h
    | cons x l ih =>
      intro hm hnd
      have hx := List.nodup_cons.1 hnd
      by_cases e : x = i
      · subst e
        have h1 : (l.filter fun j => !(listed.setIfInBounds x true).getD j true) = (l.filter fun j => !listed.getD j true) := by
          refine List.filter_congr fun j hj => ?_
          rw [getD_setT hil, if_neg (fun e => hx.1 (by rw [← e]; exact hj))]
        rw [List.filter_cons_of_neg (by rw [getD_setT hil, if_pos rfl]; simp), List.filter_cons_of_pos (by rw [hun]; rfl), h1]
        simp
      · have hm' : i ∈ l := by rcases List.mem_cons.1 hm with h | h; exact absurd h.symm e; exact h
        have h2 := ih hm' hx.2
        by_cases hlx : listed.getD x true = true
        · rw [List.filter_cons_of_neg (by rw [getD_setT hil, if_neg e, hlx]; simp), List.filter_cons_of_neg (by rw [hlx]; simp)]
          exact h2
        · have hlx' : listed.getD x true = false := by simpa using hlx
          rw [List.filter_cons_of_pos (by rw [getD_setT hil, if_neg e, hlx']; rfl), List.filter_cons_of_pos (by rw [hlx']; rfl)]
          simpa using h2
  exact key _ (by simpa using hi) List.nodup_range

/-- Where nothing may come up, all has come. -/
theorem all_listed (hbelow : depsBelow ops = true) {listed : Array Bool} (hs : listed.size = ops.size) (hr : Region.ready .any ops listed = []) : ∀ j, j < ops.size → listed.getD j true = true := by
  intro j
  induction j using Nat.strongRecOn with
  | _ j ih =>
    intro hj
    refine Classical.byContradiction fun hun => ?_
    have hun' : listed.getD j true = false := by simpa using hun
    have hjo : ops[j]? = some ops[j] := Array.getElem?_eq_getElem hj
    have hmem : j ∈ Region.ready .any ops listed := mem_ready.2 ⟨hun', ops[j], hjo, fun e he hb => by
      have h1 := List.all_eq_true.1 hbelow j (by simpa using hj)
      simp only [hjo] at h1
      rw [Array.all_eq_true_iff_forall_mem] at h1
      have h2 := h1 e he
      rw [hb] at h2
      have hlt : e.on < j := by simpa using h2
      have h3 := ih e.on hlt (by omega)
      rw [getD_lt (by omega) false true]; exact h3⟩
    rw [hr] at hmem; cases hmem

theorem wpAny_spec {Q : Exit → Act → World → Prop} (hB : drawB n ops sp = true) (hob : Obs P ops sp σ0 w0 ops.toList sp)
    (hfin : ∀ a σ w1 w2, St n a σ → Agree ops σ0 σ → Ext w0 w1 → (∀ j, j < ops.size → vAt sp j (sl ops σ j) w1) → StoreRun P ops sp σ w1 w2 → Q .normal a w2) :
    ∀ (fuel : Nat) (listed : Array Bool) (a : Act) (w : World) (σ : Sig) (w1 : World), toCome ops listed ≤ fuel → Inv P n ops sp σ0 w0 listed a w σ w1 → wpAny P .any ops Q fuel listed a w := by
  have hbelow : depsBelow ops = true := by
    simp only [drawB, Bool.and_eq_true] at hB
    exact hB.1.1.1.1.2
  have done : ∀ (listed : Array Bool) (a : Act) (w : World) (σ : Sig) (w1 : World), Inv P n ops sp σ0 w0 listed a w σ w1 → Region.ready .any ops listed = [] → Q .normal a w := by
    intro listed a w σ w1 hI hr
    have hall := all_listed hbelow hI.lsize hr
    have hlen : ops.size = sp.length := by
      simp only [drawB, Bool.and_eq_true, beq_iff_eq] at hB
      exact hB.2
    refine hfin a σ w1 w hI.st hI.out hI.ext (fun j hj => hI.vals j hj (hall j hj)) ?_
    rcases hI.world with ⟨h1, h2⟩ | ⟨s', os, hs', hos, hls, hrun, _⟩
    · refine .inl ⟨fun s hs => ?_, h2⟩
      have hlt : s < ops.size := by rw [hlen]; exact (List.getElem?_eq_some_iff.1 hs).1
      have h3 := h1 s hs
      rw [hall s hlt] at h3; cases h3
    · exact .inr ⟨s', os, hs', hos, hrun⟩
  intro fuel
  induction fuel with
  | zero =>
    intro listed a w σ w1 hc hI
    have hr : Region.ready .any ops listed = [] := by
      cases hr : Region.ready .any ops listed with
      | nil => rfl
      | cons i l =>
        exfalso
        have hm : i ∈ Region.ready .any ops listed := by rw [hr]; simp
        obtain ⟨hun, o, ho, _⟩ := mem_ready.1 hm
        have hi := (Array.getElem?_eq_some_iff.1 ho).1
        have := toCome_lt hI.lsize hi hun
        omega
    exact ⟨hr, done listed a w σ w1 hI hr⟩
  | succ fuel ih =>
    intro listed a w σ w1 hc hI
    refine ⟨fun hr => done listed a w σ w1 hI hr, fun i hi => ?_⟩
    refine inv_step hB hob hI hi fun a' w' σ' w1' hI' => ih _ a' w' σ' w1' ?_ hI'
    obtain ⟨hun, o, ho, _⟩ := mem_ready.1 hi
    have := toCome_lt hI.lsize (Array.getElem?_eq_some_iff.1 ho).1 hun
    omega

end

/-- **A REGION THAT DRAWS ITS ORDER**: each operation told by itself. -/
theorem W_draw {P : Program} {n : Nat} {id : Nat} {l : List Oper} {σ : Sig} {w : World} {Q : Exit → Sig → World → Prop} (sp : List Spec)
    (hm : P.follows .mixedOrders = true) (hB : drawB n l.toArray sp = true) (hob : Obs P l.toArray sp σ w.drew l sp)
    (hfin : ∀ σ' w1 w2, Agree l.toArray σ σ' → Ext w w1 → (∀ j, j < l.length → vAt sp j (sl l.toArray σ' j) w1) → StoreRun P l.toArray sp σ' w1 w2 → Q .normal σ' w2) :
    W P n (.region id l.toArray true) Q σ w := fun a hs => by
  refine wp_region_any hm ?_
  have hd : Ext w w.drew := Ext.drewN w 1
  refine wpAny_spec (P := P) (n := n) (sp := sp) (σ0 := σ) (w0 := w.drew) hB (by simpa using hob) ?_ _ _ a w.drew σ w.drew ?_ ?_
  · intro a' σ' w1 w2 h1 h2 h3 h4 h5
    exact ⟨σ', h1, hfin σ' w1 w2 h2 (hd.trans h3) (fun j hj => h4 j (by simpa using hj)) h5⟩
  · unfold toCome
    exact Nat.le_trans (List.length_filter_le _ _) (by simp)
  · refine ⟨by simp, hs, fun _ _ => rfl, Ext.refl _, fun j hj hl => ?_, .inl ⟨fun s hs' => ?_, rfl⟩⟩
    · exfalso
      have : j < (Array.replicate l.toArray.size false).size := by simpa using hj
      have hj' : j < l.length := by simpa using hj
      simp [hj'] at hl
    · have hlt : s < l.length := by
        have h1 := (List.getElem?_eq_some_iff.1 hs').1
        simp only [drawB, Bool.and_eq_true, beq_iff_eq] at hB
        have h2 := hB.2
        simp only [List.size_toArray] at h2
        omega
      simp [hlt]

end Go.Rg
