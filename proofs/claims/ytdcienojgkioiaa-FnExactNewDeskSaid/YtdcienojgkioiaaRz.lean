import Derived.Test.YtdcienojgkioiaaRy
/- A region that draws its order and whose last operations come one after another, behind all others but moves of what never turns, which may come at any time. -/
namespace Go.Rg
open Go Go.RowKit

theorem or_f1 {a b : Bool} (h : (bif a then true else b) = false) : a = false := by cases a <;> simp_all
theorem or_f2 {a b : Bool} (h : (bif a then true else b) = false) : b = false := by cases a <;> simp_all
section
variable {E1 E2 : Type} {e1 : Enc E1} {e2 : Enc E2} {T1 T2 : TypeId} {xs : List E1} {ys : List E2} {X Y A B S : Value} {w0 w' : World}
theorem OS.ty (h : OS w' T1 e1 X xs) : ∀ k, X.ownBlock = some k → ∃ cur, w'.heap[k]? = some (.cells cur T1 (0, 0)) := by
  obtain ⟨cells, _, _, h3⟩ := h
  intro k hk
  rcases h3 with ⟨rfl, _⟩ | ⟨g, cap, cur, rfl, _, hg, _⟩
  · cases hk
  · cases hk; exact ⟨cur, hg⟩
/-- Rows of two types lie apart. -/
theorem os_ty (h : OS w' T1 e1 X xs) (h2 : OS w' T2 e2 Y ys) (ht : T1 ≠ T2) : ∀ k, X.ownBlock = some k → ¬ Y.ownBlock = some k := fun k hk hy => by
  obtain ⟨c1, g1⟩ := h.ty k hk
  obtain ⟨c2, g2⟩ := h2.ty k hy
  rw [g1] at g2
  cases g2
  exact ht rfl
/-- A row that was appended to lies apart from one that was appended to before. -/
theorem app_ap (hS : S = X) (hL : ∀ k, X.ownBlock = some k → A.ownBlock = some k ∨ w0.heap.size ≤ k) (hX : OS w' T1 e1 X xs) (hN : Y.ownBlock = B.ownBlock ∨ Y.ownBlock = some w'.heap.size) (hAB : ∀ k, A.ownBlock = some k → ¬ B.ownBlock = some k) (hB : OS w0 T2 e2 B ys) : ∀ k, S.ownBlock = some k → ¬ Y.ownBlock = some k := by
  subst hS
  intro k hk hy
  rcases hN with h | h
  · rw [h] at hy
    rcases hL k hk with h1 | h1
    · exact hAB k h1 hy
    · exact Nat.lt_irrefl _ (Nat.lt_of_lt_of_le (hB.lt k hy) h1)
  · rw [h] at hy
    cases hy
    exact Nat.lt_irrefl _ (hX.lt _ hk)
theorem app_ap0 (hS : S = X) (hX : OS w' T1 e1 X xs) (hN : Y.ownBlock = (Value.slice none 0 0).ownBlock ∨ Y.ownBlock = some w'.heap.size) : ∀ k, S.ownBlock = some k → ¬ Y.ownBlock = some k := by
  subst hS
  intro k hk hy
  rcases hN with h | h
  · rw [h] at hy; cases hy
  · rw [h] at hy
    cases hy
    exact Nat.lt_irrefl _ (hX.lt _ hk)
end
def isMv (o : Oper) : Option (Nat × Nat) := match o with
  | ⟨some t, .move (.tmp x), _, _, _, none⟩ => some (t, x)
  | _ => none
def noSel (o : Oper) : Bool := match o.op with | .select _ _ => false | _ => true
def fltB (ops : Array Oper) (p : Nat) (fl : List Nat) : Bool := fl.all fun f => decide (f < p) && (match ops[f]? with | some o => (match isMv o with | some (_, x) => (!inD ops x) && (List.range p).all (fun j => !(dep o j && fl.contains j)) | none => false) | none => false)
/-- What must have come up before an operation, one below another. -/
def covL (ops : Array Oper) (o : Oper) : Nat → List Nat → List Nat
  | 0, acc => acc
  | j + 1, acc => covL ops o j (if dep o j || acc.any (fun k => match ops[k]? with | some ok => dep ok j | none => false) then j :: acc else acc)
def tailFB (ops : Array Oper) (p : Nat) (fl : List Nat) : Bool := (List.range ops.size).all fun i => decide (i < p) || (match ops[i]? with
  | some o => ((List.range p).all fun j => fl.contains j || (covL ops o p []).contains j) && (decide (i ≤ p) || dep o (i - 1)) && noSel o && fl.all (fun f => match ops[f]? with | some m => (match m.dst with | some d => !(o.looksAt ops).contains d || dep o f | none => true) | none => true)
  | none => true)
def anyFB (n : Nat) (ops : Array Oper) (p : Nat) (fl : List Nat) (ds : List (Option Nat)) : Bool := fits n ops.toList && depsBelow ops && dstsApart ops && dsApart ds && p == ds.length && decide (p ≤ ops.size) && fltB ops p fl && tailFB ops p fl

section
variable {P : Program} {n : Nat} {ops : Array Oper} {Ds : List (Nat → Option TypeId → Prop)} {sp : List Sp} {σ0 : Sig} {w0 : World}

theorem anyFB_spec {p : Nat} {fl : List Nat} {ds : List (Option Nat)} (h : anyFB n ops p fl ds = true) : fits n ops.toList = true ∧ depsBelow ops = true ∧ dstsApart ops = true ∧ dsApart ds = true ∧ ds.length = p ∧ p ≤ ops.size ∧ fltB ops p fl = true ∧ tailFB ops p fl = true := by
  simp only [anyFB, Bool.and_eq_true, beq_iff_eq, decide_eq_true_eq] at h
  obtain ⟨⟨⟨⟨⟨⟨⟨h1, h2⟩, h3⟩, h4⟩, h5⟩, h6⟩, h7⟩, h8⟩ := h
  exact ⟨h1, h2, h3, h4, h5.symm, h6, h7, h8⟩
theorem isMv_spec {o : Oper} {t x : Nat} (h : isMv o = some (t, x)) : o.dst = some t ∧ o.guard = none ∧ o.op = .move (.tmp x) := by
  unfold isMv at h
  split at h
  · cases h; exact ⟨rfl, rfl, rfl⟩
  · cases h
theorem fltB_spec {p : Nat} {fl : List Nat} (h : fltB ops p fl = true) {f : Nat} (hf : f ∈ fl) : f < p ∧ ∃ o t x, ops[f]? = some o ∧ isMv o = some (t, x) ∧ inD ops x = false ∧ ∀ j, j < p → dep o j = true → j ∉ fl := by
  have h1 := List.all_eq_true.1 h f hf
  rw [Bool.and_eq_true, decide_eq_true_eq] at h1
  refine ⟨h1.1, ?_⟩
  have h2 := h1.2
  split at h2
  · rename_i o ho
    split at h2
    · rename_i t x hm
      rw [Bool.and_eq_true] at h2
      refine ⟨o, t, x, ho, hm, by simpa using h2.1, fun j hj hd hjf => ?_⟩
      have h3 := List.all_eq_true.1 h2.2 j (by simpa using hj)
      simp [hd, hjf] at h3
    · cases h2
  · cases h2
theorem tailFB_spec {p : Nat} {fl : List Nat} (h : tailFB ops p fl = true) {i : Nat} {o : Oper} (hp : p ≤ i) (ho : ops[i]? = some o) : (∀ j, j < p → j ∉ fl → j ∈ covL ops o p []) ∧ (p < i → dep o (i - 1) = true) ∧ noSel o = true ∧ ∀ f ∈ fl, ∀ m d, ops[f]? = some m → m.dst = some d → d ∈ o.looksAt ops → dep o f = true := by
  have hi := (Array.getElem?_eq_some_iff.1 ho).1
  have h1 := List.all_eq_true.1 h i (by simpa using hi)
  simp only [ho, Bool.or_eq_true, Bool.and_eq_true, decide_eq_true_eq] at h1
  rcases h1 with h1 | ⟨⟨⟨h1, h2⟩, h3⟩, h4⟩
  · omega
  · refine ⟨fun j hj hjf => ?_, fun hlt => h2.resolve_left (by omega), h3, fun f hf m d hm hd hl => ?_⟩
    · have h5 := List.all_eq_true.1 h1 j (by simpa using hj)
      rw [Bool.or_eq_true] at h5
      rcases h5 with h5 | h5
      · exact absurd (by simpa using h5) hjf
      · simpa using h5
    · have h5 := List.all_eq_true.1 h4 f hf
      simp only [hm, hd, Bool.or_eq_true] at h5
      rcases h5 with h5 | h5
      · simp at h5; exact absurd hl h5
      · exact h5
theorem covL_listed {o : Oper} {listed : Array Bool} (hd : ∀ j, dep o j = true → listed.getD j true = true) (hc : ∀ (k : Nat) (ok : Oper), ops[k]? = some ok → listed.getD k true = true → ∀ j, dep ok j = true → listed.getD j true = true) :
    ∀ (n : Nat) (acc : List Nat), (∀ j ∈ acc, listed.getD j true = true) → ∀ j ∈ covL ops o n acc, listed.getD j true = true := by
  intro n
  induction n with
  | zero => intro acc h j hj; exact h j hj
  | succ n ih =>
    intro acc h j hj
    unfold covL at hj
    refine ih _ ?_ j hj
    split
    · rename_i hs
      intro k hk
      rcases List.mem_cons.1 hk with rfl | hk
      · rw [Bool.or_eq_true] at hs
        rcases hs with hs | hs
        · exact hd _ hs
        · rw [List.any_eq_true] at hs
          obtain ⟨k, hk, hs⟩ := hs
          split at hs
          · rename_i ok hok
            exact hc k ok hok (h k hk) _ hs
          · cases hs
      · exact h k hk
    · exact h
theorem ops_listed {o : Oper} {listed : Array Bool} {i : Nat} (ho : ops[i]? = some o) (hr : i ∈ Region.ready .any ops listed) {j : Nat} (hd : dep o j = true) : listed.getD j true = true := by
  obtain ⟨hun, o', ho', hall⟩ := mem_ready.1 hr
  rw [ho] at ho'; cases ho'
  have h1 := dep_listed hall hd
  have hjl : j < listed.size := by
    rcases Nat.lt_or_ge j listed.size with h | h
    · exact h
    · simp [Array.getElem?_eq_none h] at h1
  rw [getD_lt hjl true false]; exact h1

/-- What an operation that has come up leaves. -/
theorem inv_next {p : Nat} (hfit : fits n ops.toList = true) (hapart : dstsApart ops = true) (hds : dsApart (sp.map Sp.d) = true) (hlen : sp.length = p) (hple : p ≤ ops.size) (hob : ObsA P ops Ds sp σ0 w0 0 (ops.toList.take p) sp) {listed : Array Bool} {a : Act} {w : World} {σ : Sig}
    (hI : InvA P n ops Ds sp σ0 w0 listed a w σ) {i : Nat} {o : Oper} {s : Sp} (ho : ops[i]? = some o) (hs : sp[i]? = some s) (hun : listed.getD i true = false) (hdl : ∀ j, dep o j = true → listed.getD j true = true) {v : Value} {w' : World}
    (hv : s.V (up σ o.dst v) (slv o v) w') (hf : Frm (Own Ds s.d) w w') : InvA P n ops Ds sp σ0 w0 (listed.setIfInBounds i true) (a.put o.dst v) w' (up σ o.dst v) := by
  have hi := (Array.getElem?_eq_some_iff.1 ho).1
  have hil : i < listed.size := by rw [hI.lsize]; exact hi
  have hfo := fits_spec hfit o (by simpa using Array.mem_of_getElem? ho)
  have hsz : (listed.setIfInBounds i true).size = ops.size := by simp [hI.lsize]
  have oth : ∀ (j : Nat) (s' : Sp), sp[j]? = some s' → j ≠ i → Frm (Oth Ds s'.d) w w' := fun j s' hs' hne =>
    hf.mono (own_oth hds (i := i) (j := j) (by rw [List.getElem?_map, hs]; rfl) (by rw [List.getElem?_map, hs']; rfl) hne)
  refine ⟨hsz, hI.st.put o.dst hfo v, agree_up ho hI.out v, hI.frm.trans (hf.mono own_any), ?_, ?_, ?_, ?_⟩
  · intro j hj hlj
    by_cases e : j = i
    · subst e
      rw [sl_up_same ho]
      unfold vAtA; rw [hs]; exact hv
    · rw [getD_setT hil, if_neg e] at hlj
      rw [sl_up_ne hapart ho e]
      have h1 := hI.vals j hj hlj
      unfold vAtA at h1 ⊢
      cases hsj : sp[j]? with
      | none => simp
      | some s' =>
        rw [hsj] at h1
        have hjp : j < p := by rw [← hlen]; exact (List.getElem?_eq_some_iff.1 hsj).1
        have hoj : (ops.toList.take p)[j]? = some (ops.toList[j]'(by simpa using hj)) := by rw [List.getElem?_take_of_lt hjp]; exact List.getElem?_eq_getElem _
        have h2 := obsA_get hob hoj hsj
        refine h2.1 _ _ _ _ _ (fun q hq => ?_) h1 (oth j s' hsj e)
        have hq' := hI.closed j (ops.toList[j]'(by simpa using hj)) (by simp [hj]) hlj q hq
        have hne : q ≠ i := fun e => by subst e; rw [hun] at hq'; cases hq'
        exact sl_up_ne hapart ho hne v
  · intro j s' hsj hlj
    by_cases e : j = i
    · subst e; rw [getD_setT hil, if_pos rfl] at hlj; cases hlj
    · rw [getD_setT hil, if_neg e] at hlj
      have hjp : j < p := by rw [← hlen]; exact (List.getElem?_eq_some_iff.1 hsj).1
      have hjl : j < ops.size := Nat.lt_of_lt_of_le hjp hple
      have hoj : (ops.toList.take p)[j]? = some (ops.toList[j]'(by simpa using hjl)) := by rw [List.getElem?_take_of_lt hjp]; exact List.getElem?_eq_getElem _
      have h2 := obsA_get hob hoj hsj
      exact h2.2.1 _ _ (hI.pres j s' hsj hlj) (oth j s' hsj e)
  · intro j oj hoj hlj k hk
    rw [getD_setT hil]
    split
    · rfl
    · by_cases e : j = i
      · subst e
        rw [ho] at hoj; cases hoj
        exact hdl k hk
      · rw [getD_setT hil, if_neg e] at hlj
        exact hI.closed j oj hoj hlj k hk
  · intro j oj t hoj ht hlj
    have e : j ≠ i := fun e => by subst e; rw [getD_setT hil, if_pos rfl] at hlj; cases hlj
    rw [getD_setT hil, if_neg e] at hlj
    have h1 := sl_up_ne (σ := σ) hapart ho e v
    unfold sl at h1
    rw [hoj] at h1
    simp only [Option.bind_some, ht] at h1
    rw [h1]; exact hI.unread j oj t hoj ht hlj

/-- What an operation does when its turn has come. -/
theorem inv_does {p : Nat} (hob : ObsA P ops Ds sp σ0 w0 0 (ops.toList.take p) sp) {listed : Array Bool} {a : Act} {w : World} {σ : Sig}
    (hI : InvA P n ops Ds sp σ0 w0 listed a w σ) {i : Nat} {o : Oper} {s : Sp} (hip : i < p) (ho : ops[i]? = some o) (hs : sp[i]? = some s) (hun : listed.getD i true = false) (hdl : ∀ j, dep o j = true → listed.getD j true = true) (hbd : ∀ j, dep o j = true → j < ops.size) :
    DoesG P ops o σ w fun v w' => s.V (up σ o.dst v) (slv o v) w' ∧ Frm (Own Ds s.d) w w' := by
  have hol : (ops.toList.take p)[i]? = some o := by rw [List.getElem?_take_of_lt hip]; simpa using ho
  have hO := obsA_get hob hol hs
  rw [Nat.zero_add] at hO
  have hdeps : ∀ j, dep o j = true → vAtA sp j σ (sl ops σ j) w := fun j hj => hI.vals j (hbd j hj) (hdl j hj)
  have hpre : ∀ (m : Nat) (om : Oper) (sm : Sp), ops[m]? = some om → sp[m]? = some sm → (m = i ∨ dep om i = true) → sm.Pre w ∧ ∀ t, om.dst = some t → σ t = σ0 t := fun m om sm hom hsm hmi => by
    have hlm : listed.getD m true = false := by
      rcases hmi with rfl | hdm
      · exact hun
      · refine Bool.eq_false_iff.2 fun hlm => ?_
        have := hI.closed m om hom hlm i hdm
        rw [hun] at this; cases this
    exact ⟨hI.pres m sm hsm hlm, fun t ht => hI.unread m om t hom ht hlm⟩
  exact hO.2.2 σ w hI.out hI.frm hdeps hpre
theorem does_mv {o : Oper} {t x : Nat} {σ : Sig} {w : World} {R : Value → World → Prop} (hm : isMv o = some (t, x)) (h : DoesG P ops o σ w R) : R (σ x) w := by
  obtain ⟨dst, op, ty, pos, after, g⟩ := o
  obtain ⟨h1, h2, h3⟩ := isMv_spec hm
  simp only at h1 h2 h3
  subst h1 h2 h3
  unfold DoesG at h
  have hw : Region.wanted ⟨some t, .move (.tmp x), ty, pos, after, none⟩ (yl ops σ) = true := rfl
  rw [if_pos hw] at h
  exact h
theorem deps_size (hbelow : depsBelow ops = true) {i : Nat} {o : Oper} (ho : ops[i]? = some o) {j : Nat} (hd : dep o j = true) : j < i := by
  have hi := (Array.getElem?_eq_some_iff.1 ho).1
  have h1 := List.all_eq_true.1 hbelow i (by simpa using hi)
  simp only [ho] at h1
  unfold dep at hd
  rw [List.any_eq_true] at hd
  obtain ⟨e, he, hb⟩ := hd
  rw [Bool.and_eq_true, beq_iff_eq] at hb
  have h2 := Array.all_eq_true'.1 h1 e (by simpa using he)
  rw [hb.1] at h2
  simp at h2
  omega

/-- The moves that have not come up yet, carried out in thought. -/
theorem complete {p : Nat} {fl : List Nat} (hfit : fits n ops.toList = true) (hbelow : depsBelow ops = true) (hapart : dstsApart ops = true) (hds : dsApart (sp.map Sp.d) = true) (hlen : sp.length = p) (hple : p ≤ ops.size) (hflt : fltB ops p fl = true) (hob : ObsA P ops Ds sp σ0 w0 0 (ops.toList.take p) sp) {w : World} :
    ∀ (todo : List Nat) (listed : Array Bool) (a : Act) (σ : Sig), (∀ f ∈ todo, f ∈ fl) → (∀ j, j < p → j ∉ fl → listed.getD j true = true) → InvA P n ops Ds sp σ0 w0 listed a w σ →
      ∃ listed' a' σ', InvA P n ops Ds sp σ0 w0 listed' a' w σ' ∧ (∀ j, listed.getD j true = true → listed'.getD j true = true) ∧ (∀ f ∈ todo, listed'.getD f true = true) ∧ (∀ j, j ∉ fl → listed'.getD j true = listed.getD j true) ∧
        (∀ t, (∀ f o, f ∈ fl → ops[f]? = some o → listed.getD f true = false → o.dst ≠ some t) → σ' t = σ t) ∧
        (∀ f o t x, f ∈ fl → ops[f]? = some o → isMv o = some (t, x) → listed.getD f true = false → listed'.getD f true = true → σ' t = σ x) := by
  intro todo
  induction todo with
  | nil => intro listed a σ _ _ hI; exact ⟨listed, a, σ, hI, fun _ h => h, (fun _ h => by cases h), fun _ _ => rfl, fun _ _ => rfl, (fun f o t x _ _ _ h1 h2 => by rw [h1] at h2; cases h2)⟩
  | cons f todo ih =>
    intro listed a σ hsub hall hI
    have hf := hsub f (by simp)
    obtain ⟨hfp, o, t, x, ho, hm, hx, hdf⟩ := fltB_spec hflt hf
    have hfs := (Array.getElem?_eq_some_iff.1 ho).1
    have hfl : f < listed.size := by rw [hI.lsize]; exact hfs
    obtain ⟨hdst, _, _⟩ := isMv_spec hm
    cases hun : listed.getD f true with
    | true =>
      obtain ⟨listed', a', σ', h1, h2, h3, h4, h5, h6⟩ := ih listed a σ (fun g hg => hsub g (by simp [hg])) hall hI
      refine ⟨listed', a', σ', h1, h2, ?_, h4, h5, h6⟩
      intro g hg
      rcases List.mem_cons.1 hg with rfl | hg
      · exact h2 _ hun
      · exact h3 g hg
    | false =>
      obtain ⟨s, hs⟩ : ∃ s, sp[f]? = some s := ⟨sp[f]'(by omega), List.getElem?_eq_getElem (by omega)⟩
      have hdl : ∀ j, dep o j = true → listed.getD j true = true := fun j hj => by
        have hjf := deps_size hbelow ho hj
        exact hall j (by omega) (hdf j (by omega) hj)
      have hD := inv_does hob hI hfp ho hs hun hdl (fun j hj => by have := deps_size hbelow ho hj; omega)
      obtain ⟨hV, hF⟩ := does_mv hm hD
      have hI' := inv_next hfit hapart hds hlen hple hob hI ho hs hun hdl hV hF
      obtain ⟨listed', a', σ', h1, h2, h3, h4, h5, h6⟩ := ih (listed.setIfInBounds f true) (a.put o.dst (σ x)) (up σ o.dst (σ x)) (fun g hg => hsub g (by simp [hg])) (fun j hj hjf => by
        rw [getD_setT hfl]
        split
        · rfl
        · exact hall j hj hjf) hI'
      have hdiff : ∀ y, y ≠ t → up σ o.dst (σ x) y = σ y := fun y hy => up_ne (fun e => hy (by rw [hdst] at e; exact (Option.some.inj e).symm))
      refine ⟨listed', a', σ', h1, ?_, ?_, ?_, ?_, ?_⟩
      · intro j hj
        refine h2 j ?_
        rw [getD_setT hfl]
        split
        · rfl
        · exact hj
      · intro g hg
        rcases List.mem_cons.1 hg with rfl | hg
        · exact h2 _ (by rw [getD_setT hfl, if_pos rfl])
        · exact h3 g hg
      · intro j hj
        rw [h4 j hj, getD_setT hfl, if_neg (fun e => hj (by rw [e]; exact hf))]
      · intro y hy
        rw [h5 y ?_]
        · exact hdiff y (fun e => hy f o hf ho hun (by rw [e]; exact hdst))
        · intro g og hg hog hlg
          refine hy g og hg hog ?_
          rw [getD_setT hfl] at hlg
          split at hlg
          · cases hlg
          · exact hlg
      · intro g og u y hg hog hmg hlg hlg'
        by_cases e : g = f
        · subst e
          rw [ho] at hog; cases hog
          rw [hm] at hmg; cases hmg
          rw [h5 t ?_, hdst]
          · simp [up]
          · intro k ok hk hok hlk hdk
            rw [getD_setT hfl] at hlk
            split at hlk
            · cases hlk
            · rename_i hne
              have := sl_up_ne (σ := fun _ => undef) hapart ho hne (.bool true)
              unfold sl at this
              rw [hok] at this
              simp only [Option.bind_some, hdk, hdst, up] at this
              simp [undef] at this
        · rw [h6 g og u y hg hog hmg (by rw [getD_setT hfl, if_neg e]; exact hlg) hlg']
          refine hdiff y (fun ey => ?_)
          obtain ⟨_, o2, t2, x2, ho2, hm2, hx2, _⟩ := fltB_spec hflt hg
          rw [hog] at ho2; cases ho2
          rw [hmg] at hm2; cases hm2
          subst ey
          have : inD ops y = true := by
            unfold inD
            rw [List.any_eq_true]
            exact ⟨o, by simpa using Array.mem_of_getElem? ho, by simpa using hdst⟩
          rw [this] at hx2; cases hx2

theorem ev_agree {o : Oper} (hs : noSel o = true) {σ τ : Sig} (h : ∀ t ∈ o.looksAt ops, σ t = τ t) {w : World} {R : Value → World → Prop} (hD : DoesG P ops o τ w R) : DoesG P ops o σ w R := by
  have e1 : execOp (ev σ) o = execOp (ev τ) o := by
    refine execOp_congr o (fun cs b e => by unfold noSel at hs; rw [e] at hs; cases hs) fun x hx => ?_
    cases x with
    | tmp t =>
      exact h t (List.mem_append_left _ (List.mem_filterMap.2 ⟨.tmp t, by simpa using hx, rfl⟩))
    | _ => rfl
  have e2 : Region.wanted o (yl ops σ) = Region.wanted o (yl ops τ) := by
    unfold Region.wanted
    cases hg : o.guard with
    | none => rfl
    | some gw =>
      obtain ⟨g, want⟩ := gw
      have hy : yl ops σ g = yl ops τ g := by
        unfold yl
        cases ht : (ops[g]?).bind (·.dst) with
        | none => rfl
        | some t =>
          have : σ t = τ t := h t (by unfold Oper.looksAt; rw [hg]; simp [ht])
          simp only [this]
      simp only [hy]
  unfold DoesG at hD ⊢
  rw [e2]
  split
  · rename_i hw
    rw [if_pos hw] at hD
    unfold Does at hD ⊢
    rw [e1]
    exact hD
  · rename_i hw
    rw [if_neg hw] at hD
    exact hD

/-- The last ones, one after another; moves may come between. τ: the slots as if all moves had come. -/
theorem wpTailF {Q : Exit → Act → World → Prop} {K : Sig → World → Prop} {p : Nat} {fl : List Nat} (hfit : fits n ops.toList = true) (hbelow : depsBelow ops = true) (hflt : fltB ops p fl = true) (hapart : dstsApart ops = true) (htail : tailFB ops p fl = true) (hQ : ∀ a σ w, St n a σ → K σ w → Q .normal a w) :
    ∀ (fuel q : Nat) (listed : Array Bool) (a : Act) (w : World) (σ τ : Sig), p ≤ q → listed.size = ops.size → (∀ j, j < ops.size → j ∉ fl → listed.getD j true = decide (j < q)) → toCome ops listed ≤ fuel → St n a σ →
      (∀ t, (∀ f o, f ∈ fl → ops[f]? = some o → listed.getD f true = false → o.dst ≠ some t) → σ t = τ t) → (∀ f o t x, f ∈ fl → ops[f]? = some o → isMv o = some (t, x) → listed.getD f true = false → τ t = τ x) →
      doAll P ops K (ops.toList.drop q) τ w → wpAny P .any ops Q fuel listed a w := by
  have fin : ∀ (q : Nat) (listed : Array Bool) (a : Act) (w : World) (σ τ : Sig), listed.size = ops.size → (∀ j, j < ops.size → j ∉ fl → listed.getD j true = decide (j < q)) → p ≤ q → St n a σ →
      (∀ t, (∀ f o, f ∈ fl → ops[f]? = some o → listed.getD f true = false → o.dst ≠ some t) → σ t = τ t) → doAll P ops K (ops.toList.drop q) τ w → Region.ready .any ops listed = [] → Q .normal a w := by
    intro q listed a w σ τ hls hl hp hs ha h hr
    have hall := all_listed hbelow hls hr
    have hq : ops.size ≤ q := by
      rcases Nat.lt_or_ge q ops.size with hlt | hge
      · have h1 := hall q hlt
        rw [hl q hlt (fun hqf => by have := (fltB_spec hflt hqf).1; omega)] at h1
        simp at h1
      · exact hge
    rw [List.drop_of_length_le (by simpa using hq)] at h
    have e : σ = τ := by
      funext t
      refine ha t fun f o hf ho hlf => ?_
      have := hall f (Array.getElem?_eq_some_iff.1 ho).1
      rw [hlf] at this; cases this
    subst e
    exact hQ a σ w hs h
  intro fuel
  induction fuel with
  | zero =>
    intro q listed a w σ τ hp hls hl hc hs ha hmv h
    have hr : Region.ready .any ops listed = [] := by
      cases hr : Region.ready .any ops listed with
      | nil => rfl
      | cons i l =>
        exfalso
        have hm : i ∈ Region.ready .any ops listed := by rw [hr]; simp
        obtain ⟨hun, o, ho, _⟩ := mem_ready.1 hm
        have hi := (Array.getElem?_eq_some_iff.1 ho).1
        have := toCome_lt hls hi hun
        omega
    exact ⟨hr, fin q listed a w σ τ hls hl hp hs ha h hr⟩
  | succ fuel ih =>
    intro q listed a w σ τ hp hls hl hc hs ha hmv h
    refine ⟨fun hr => fin q listed a w σ τ hls hl hp hs ha h hr, fun i hi => ?_⟩
    obtain ⟨hun, o, ho, hall⟩ := mem_ready.1 hi
    have hil := (Array.getElem?_eq_some_iff.1 ho).1
    have hils : i < listed.size := by omega
    have hfo := fits_spec hfit o (by simpa using Array.mem_of_getElem? ho)
    by_cases hif : i ∈ fl
    · -- a move
      obtain ⟨hip, o2, t, x, ho2, hm, hx, _⟩ := fltB_spec hflt hif
      rw [ho] at ho2; cases ho2
      obtain ⟨hdst, hg, hop⟩ := isMv_spec hm
      have hxa : σ x = τ x := ha x fun f of hf hof hlf hd => by
        have : inD ops x = true := by
          unfold inD
          rw [List.any_eq_true]
          exact ⟨of, by simpa using Array.mem_of_getElem? hof, by simpa using hd⟩
        rw [this] at hx; cases hx
      have next : wpAny P .any ops Q fuel (listed.setIfInBounds i true) (a.put o.dst (σ x)) w := by
        refine ih q _ _ w (up σ o.dst (σ x)) τ hp (by simp [hls]) ?_ ?_ (hs.put o.dst hfo (σ x)) ?_ ?_ h
        · intro j hj hjf
          rw [getD_setT hils, if_neg (fun e => hjf (by rw [e]; exact hif))]
          exact hl j hj hjf
        · have := toCome_lt hls hil hun
          omega
        · intro u hu
          by_cases e : u = t
          · subst e
            rw [hdst]
            have : up σ (some u) (σ x) u = σ x := by simp [up]
            rw [this, hxa]
            exact (hmv i o u x hif ho hm hun).symm
          · rw [up_ne (fun e2 => e (by rw [hdst] at e2; exact (Option.some.inj e2).symm))]
            refine ha u fun f of hf hof hlf => ?_
            by_cases e3 : f = i
            · subst e3
              rw [ho] at hof; cases hof
              rw [hdst]
              exact fun e2 => e (Option.some.inj e2).symm
            · exact hu f of hf hof (by rw [getD_setT hils, if_neg e3]; exact hlf)
        · intro f of u y hf hof hmf hlf
          rw [getD_setT hils] at hlf
          split at hlf
          · cases hlf
          · exact hmv f of u y hf hof hmf hlf
      obtain ⟨dst, op, ty, pos, after, g⟩ := o
      simp only at hdst hg hop
      subst hdst hg hop
      unfold wpOp
      simp only [ho]
      rw [hs.yielded]
      have hw : Region.wanted ⟨some t, .move (.tmp x), ty, pos, after, none⟩ (yl ops σ) = true := rfl
      rw [if_pos hw]
      have hD : Does P ⟨some t, .move (.tmp x), ty, pos, after, none⟩ a.eval w fun v w' => v = σ x ∧ w' = w := by
        rw [hs.eval]
        exact ⟨rfl, rfl⟩
      refine .inl (hD.wp ?_)
      rintro v w' ⟨rfl, rfl⟩
      exact next
    · have hqi : q ≤ i := by
        rw [hl i hil hif] at hun
        simp at hun
        exact hun
      -- it is the next one
      have hiq : i = q := by
        rcases Nat.lt_or_ge q i with hlt | hge
        · exfalso
          have hd := (tailFB_spec htail (Nat.le_trans hp hqi) ho).2.1 (by omega)
          have h1 := ops_listed ho hi hd
          rw [hl (i - 1) (by omega) (fun hf => by have := (fltB_spec hflt hf).1; omega)] at h1
          simp at h1
          omega
        · omega
      subst hiq
      have hd : ops.toList.drop i = o :: ops.toList.drop (i + 1) := by
        have hoe : ops.toList[i]'(by simpa using hil) = o := by
          have := Array.getElem?_eq_some_iff.1 ho
          simpa using this.2
        rw [List.drop_eq_getElem_cons (by simpa using hil), hoe]
      rw [hd] at h
      unfold doAll at h
      obtain ⟨_, _, hsel, hlook⟩ := tailFB_spec htail hp ho
      have hsame : ∀ t ∈ o.looksAt ops, σ t = τ t := fun t ht => ha t fun f of hf hof hlf hdf => by
        have hdep := hlook f hf of t hof hdf ht
        have := ops_listed ho hi hdep
        rw [hlf] at this; cases this
      have h' := ev_agree hsel hsame h
      have next : ∀ v w', doAll P ops K (ops.toList.drop (i + 1)) (up τ o.dst v) w' → wpAny P .any ops Q fuel (listed.setIfInBounds i true) (a.put o.dst v) w' := fun v w' hv => by
        refine ih (i + 1) _ _ _ (up σ o.dst v) (up τ o.dst v) (by omega) (by simp [hls]) ?_ ?_ (hs.put o.dst hfo v) ?_ ?_ hv
        · intro j hj hjf
          rw [getD_setT hils]
          by_cases e : j = i
          · subst e; rw [if_pos rfl, decide_eq_true (by omega)]
          · rw [if_neg e, hl j hj hjf]
            exact decide_eq_decide.2 (by omega)
        · have := toCome_lt hls hil hun
          omega
        · intro t ht
          have hb : ∀ f of, f ∈ fl → ops[f]? = some of → listed.getD f true = false → of.dst ≠ some t := fun f of hf hof hlf => ht f of hf hof (by rw [getD_setT hils, if_neg (fun e => hif (by rw [← e]; exact hf))]; exact hlf)
          have := ha t hb
          cases hdo : o.dst with
          | none => exact this
          | some d =>
            unfold up
            simp only [this]
        · intro f of t x hf hof hm hlf
          have hne : f ≠ i := fun e => hif (by rw [← e]; exact hf)
          rw [getD_setT hils, if_neg hne] at hlf
          have hbase := hmv f of t x hf hof hm hlf
          obtain ⟨_, o2, t2, x2, ho2, hm2, hx2, _⟩ := fltB_spec hflt hf
          rw [hof] at ho2; cases ho2
          rw [hm] at hm2; cases hm2
          obtain ⟨hdst, _, _⟩ := isMv_spec hm
          rw [up_ne ?_, up_ne ?_]
          · exact hbase
          · intro e
            have : inD ops x = true := by
              unfold inD
              rw [List.any_eq_true]
              exact ⟨o, by simpa using Array.mem_of_getElem? ho, by simpa using e⟩
            rw [this] at hx2; cases hx2
          · intro e
            have := sl_up_ne (σ := fun _ => undef) hapart ho hne (.bool true)
            unfold sl at this
            rw [hof] at this
            simp only [Option.bind_some, hdst, e, up] at this
            simp [undef] at this
      unfold wpOp
      simp only [ho]
      rw [hs.yielded]
      unfold DoesG at h'
      split
      · rename_i hw
        rw [if_pos hw] at h'
        rw [← hs.eval] at h'
        exact .inl (h'.wp next)
      · rename_i hw
        rw [if_neg hw] at h'
        exact next _ _ h'

theorem wpAnyF_spec {Q : Exit → Act → World → Prop} {K : Sig → World → Prop} {p : Nat} {fl : List Nat} (hB : anyFB n ops p fl (sp.map Sp.d) = true) (hob : ObsA P ops Ds sp σ0 w0 0 (ops.toList.take p) sp) (hQ : ∀ a σ w, St n a σ → K σ w → Q .normal a w)
    (hfin : ∀ σ w, Agree (ops.toList.take p).toArray σ0 σ → Frm (Oth Ds none) w0 w → (∀ j, j < p → vAtA sp j σ (sl ops σ j) w) → doAll P ops K (ops.toList.drop p) σ w) :
    ∀ (fuel : Nat) (listed : Array Bool) (a : Act) (w : World) (σ : Sig), toCome ops listed ≤ fuel → (∀ j, p ≤ j → j < ops.size → listed.getD j true = false) → InvA P n ops Ds sp σ0 w0 listed a w σ → wpAny P .any ops Q fuel listed a w := by
  obtain ⟨hfit, hbelow, hapart, hds, hlen, hple, hflt, htail⟩ := anyFB_spec hB
  rw [List.length_map] at hlen
  have flp : ∀ f ∈ fl, f < p := fun f hf => (fltB_spec hflt hf).1
  -- all but the last ones and moves have come up
  have over : ∀ (listed : Array Bool) (a : Act) (w : World) (σ : Sig), (∀ j, p ≤ j → j < ops.size → listed.getD j true = false) → InvA P n ops Ds sp σ0 w0 listed a w σ → (∀ j, j < p → j ∉ fl → listed.getD j true = true) → ∀ fuel, toCome ops listed ≤ fuel → wpAny P .any ops Q fuel listed a w := by
    intro listed a w σ hun hI hall fuel hc
    obtain ⟨listed', a', τ, hI', c1, c2, c3, c4, c5⟩ := complete hfit hbelow hapart hds hlen hple hflt hob fl listed a σ (fun _ h => h) hall hI
    have all' : ∀ j, j < p → listed'.getD j true = true := fun j hj => by
      by_cases hf : j ∈ fl
      · exact c2 j hf
      · exact c1 j (hall j hj hf)
    have un' : ∀ j, p ≤ j → j < ops.size → listed'.getD j true = false := fun j hj hjs => by
      rw [c3 j (fun hf => by have := flp j hf; omega)]
      exact hun j hj hjs
    refine wpTailF hfit hbelow hflt hapart htail hQ fuel p listed a w σ τ (Nat.le_refl _) hI.lsize ?_ hc hI.st (fun t ht => (c4 t ht).symm) ?_ ?_
    · intro j hj hjf
      by_cases e : j < p
      · rw [hall j e hjf, decide_eq_true e]
      · rw [hun j (by omega) hj, decide_eq_false e]
    · intro f o t x hf ho hm hlf
      rw [c5 f o t x hf ho hm hlf (c2 f hf)]
      obtain ⟨_, o2, t2, x2, ho2, hm2, hx2, _⟩ := fltB_spec hflt hf
      rw [ho] at ho2; cases ho2
      rw [hm] at hm2; cases hm2
      refine (c4 x fun g og _ hog _ hd => ?_).symm
      have : inD ops x = true := by
        unfold inD
        rw [List.any_eq_true]
        exact ⟨og, by simpa using Array.mem_of_getElem? hog, by simpa using hd⟩
      rw [this] at hx2; cases hx2
    · refine hfin τ w ?_ hI'.frm (fun j hj => hI'.vals j (Nat.lt_of_lt_of_le hj hple) (all' j hj))
      intro t ht
      by_cases hin : inD ops t = true
      · unfold inD at hin
        rw [List.any_eq_true] at hin
        obtain ⟨o, ho, hot⟩ := hin
        obtain ⟨j, hj⟩ := List.getElem?_of_mem ho
        have hoj : ops[j]? = some o := by simpa using hj
        have hjl := (Array.getElem?_eq_some_iff.1 hoj).1
        have hot' : o.dst = some t := by simpa using hot
        have hjp : p ≤ j := by
          rcases Nat.lt_or_ge j p with hlt | hge
          · exfalso
            have : inD (ops.toList.take p).toArray t = true := by
              unfold inD
              rw [List.any_eq_true]
              refine ⟨o, ?_, hot⟩
              have h1 : (ops.toList.take p)[j]? = some o := by rw [List.getElem?_take_of_lt hlt]; exact hj
              exact List.mem_of_getElem? h1
            rw [ht] at this; cases this
          · exact hge
        exact hI'.unread j o t hoj hot' (un' j hjp hjl)
      · exact hI'.out t (by simpa using hin)
  intro fuel
  induction fuel with
  | zero =>
    intro listed a w σ hc hun hI
    have hr : Region.ready .any ops listed = [] := by
      cases hr : Region.ready .any ops listed with
      | nil => rfl
      | cons i l =>
        exfalso
        have hm : i ∈ Region.ready .any ops listed := by rw [hr]; simp
        obtain ⟨hui, o, ho, _⟩ := mem_ready.1 hm
        have hi := (Array.getElem?_eq_some_iff.1 ho).1
        have := toCome_lt hI.lsize hi hui
        omega
    exact over listed a w σ hun hI (fun j hj _ => all_listed hbelow hI.lsize hr j (Nat.lt_of_lt_of_le hj hple)) 0 hc
  | succ fuel ih =>
    intro listed a w σ hc hun hI
    by_cases hall : ∀ j, j < p → j ∉ fl → listed.getD j true = true
    · exact over listed a w σ hun hI hall _ hc
    · refine ⟨fun hr => absurd (fun j hj _ => all_listed hbelow hI.lsize hr j (Nat.lt_of_lt_of_le hj hple)) hall, fun i hi => ?_⟩
      obtain ⟨hui, o, ho, _⟩ := mem_ready.1 hi
      have hil := (Array.getElem?_eq_some_iff.1 ho).1
      have hip : i < p := by
        rcases Nat.lt_or_ge i p with h | h
        · exact h
        · exfalso
          exact hall fun j hj hjf => covL_listed (fun k hk => ops_listed ho hi hk) hI.closed p [] (fun _ h => by cases h) j ((tailFB_spec htail h ho).1 j hj hjf)
      obtain ⟨s, hs⟩ : ∃ s, sp[i]? = some s := ⟨sp[i]'(by omega), List.getElem?_eq_getElem (by omega)⟩
      have hdl : ∀ j, dep o j = true → listed.getD j true = true := fun j hj => ops_listed ho hi hj
      have hg := inv_does hob hI hip ho hs hui hdl (fun j hj => by have := deps_size hbelow ho hj; omega)
      have next : ∀ v w', s.V (up σ o.dst v) (slv o v) w' ∧ Frm (Own Ds s.d) w w' → wpAny P .any ops Q fuel (listed.setIfInBounds i true) (a.put o.dst v) w' := fun v w' ⟨hv, hf⟩ => by
        refine ih _ _ _ (up σ o.dst v) ?_ ?_ (inv_next hfit hapart hds hlen hple hob hI ho hs hui hdl hv hf)
        · have := toCome_lt hI.lsize hil hui
          omega
        · intro j hj hjl
          rw [getD_setT (by rw [hI.lsize]; omega), if_neg (by omega)]
          exact hun j hj hjl
      unfold wpOp
      simp only [ho]
      rw [hI.st.yielded]
      unfold DoesG at hg
      split
      · rename_i hw
        rw [if_pos hw] at hg
        rw [← hI.st.eval] at hg
        exact .inl (hg.wp next)
      · rename_i hw
        rw [if_neg hw] at hg
        exact next _ _ hg
end

/-- **A REGION THAT DRAWS ITS ORDER, BUT FOR ITS LAST OPERATIONS; MOVES MAY COME AMONG THEM.** -/
theorem W_anyF {P : Program} {n : Nat} {id : Nat} {l : List Oper} {σ : Sig} {w : World} {Q : Exit → Sig → World → Prop} (p : Nat) (fl : List Nat) (Ds : List (Nat → Option TypeId → Prop)) (sp : List Sp)
    (hm : P.follows .mixedOrders = true) (hB : anyFB n l.toArray p fl (sp.map Sp.d) = true) (hpre : PresA sp w.drew) (hob : ObsA P l.toArray Ds sp σ w 0 (l.take p) sp)
    (hfin : ∀ σ' w1, Agree (l.take p).toArray σ σ' → Frm (Oth Ds none) w w1 → (∀ j, j < p → vAtA sp j σ' (sl l.toArray σ' j) w1) → doAll P l.toArray (Q .normal) (l.drop p) σ' w1) :
    W P n (.region id l.toArray true) Q σ w := fun a hs => by
  refine wp_region_any hm ?_
  have hd : Frm (Oth Ds none) w w.drew := (Ext.drewN w 1).frm
  refine wpAnyF_spec (P := P) (n := n) (Ds := Ds) (sp := sp) (σ0 := σ) (w0 := w) (K := Q .normal) (p := p) (fl := fl) hB (by simpa using hob) (fun a' σ' w' h1 h2 => ⟨σ', h1, h2⟩) ?_ _ _ a w.drew σ ?_ ?_ ?_
  · intro σ' w1 h1 h2 h3
    have := hfin σ' w1 (by simpa using h1) h2 h3
    simpa using this
  · unfold toCome
    exact Nat.le_trans (List.length_filter_le _ _) (by simp)
  · intro j _ hj
    have hj' : j < l.length := by simpa using hj
    simp [hj']
  · refine ⟨by simp, hs, fun _ _ => rfl, hd, fun j hj hl => ?_, fun j s hsj _ => pres_get hpre hsj, fun j o hoj hl k hk => ?_, fun _ _ _ _ _ _ => rfl⟩
    · exfalso
      have hj' : j < l.length := by simpa using hj
      simp [hj'] at hl
    · exfalso
      have hj' : j < l.length := by simpa using (Array.getElem?_eq_some_iff.1 hoj).1
      simp [hj'] at hl

end Go.Rg
