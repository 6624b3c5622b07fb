import Derived.Test.YtdcienojgkioiaaSx
/- A region that draws its order and whose last operations come one after another, behind all others. -/
namespace Go.Rg
open Go Go.RowKit

def tailB (ops : Array Oper) (p : Nat) : Bool := (List.range ops.size).all fun i => decide (i < p) || (match ops[i]? with | some o => ((List.range p).all fun j => dep o j) && (decide (i ≤ p) || dep o (i - 1)) | none => true)
def anyTB (n : Nat) (ops : Array Oper) (p : Nat) (ds : List (Option Nat)) : Bool := fits n ops.toList && depsBelow ops && dstsApart ops && dsApart ds && p == ds.length && decide (p ≤ ops.size) && tailB ops p

section
variable {P : Program} {n : Nat} {ops : Array Oper} {Ds : List (Nat → Option TypeId → Prop)} {sp : List Sp} {σ0 : Sig} {w0 : World}

theorem anyTB_spec {p : Nat} {ds : List (Option Nat)} (h : anyTB n ops p ds = true) : fits n ops.toList = true ∧ depsBelow ops = true ∧ dstsApart ops = true ∧ dsApart ds = true ∧ ds.length = p ∧ p ≤ ops.size ∧ tailB ops p = true := by
  simp only [anyTB, Bool.and_eq_true, beq_iff_eq, decide_eq_true_eq] at h
  obtain ⟨⟨⟨⟨⟨⟨h1, h2⟩, h3⟩, h4⟩, h5⟩, h6⟩, h7⟩ := h
  exact ⟨h1, h2, h3, h4, h5.symm, h6, h7⟩
theorem tailB_spec {p : Nat} (h : tailB ops p = true) {i : Nat} {o : Oper} (hp : p ≤ i) (ho : ops[i]? = some o) : (∀ j, j < p → dep o j = true) ∧ (p < i → dep o (i - 1) = true) := by
  have hi := (Array.getElem?_eq_some_iff.1 ho).1
  have h1 := List.all_eq_true.1 h i (by simpa using hi)
  simp only [ho, Bool.or_eq_true, Bool.and_eq_true, decide_eq_true_eq] at h1
  rcases h1 with h1 | ⟨h1, h2⟩
  · omega
  · exact ⟨fun j hj => List.all_eq_true.1 h1 j (by simpa using hj), fun hlt => h2.resolve_left (by omega)⟩

theorem invT_step {Q : Exit → Act → World → Prop} {p : Nat} (hB : anyTB n ops p (sp.map Sp.d) = true) (hob : ObsA P ops Ds sp σ0 w0 0 (ops.toList.take p) sp) {listed : Array Bool} {a : Act} {w : World} {σ : Sig}
    (hI : InvA P n ops Ds sp σ0 w0 listed a w σ) {i : Nat} (hip : i < p) (hr : i ∈ Region.ready .any ops listed) {K : Act → World → Prop}
    (hK : ∀ a' w' σ', InvA P n ops Ds sp σ0 w0 (listed.setIfInBounds i true) a' w' σ' → K a' w') : wpOp P ops Q i K a w := by
  obtain ⟨hfit, hbelow, hapart, hds, hlen, hple, _⟩ := anyTB_spec hB
  rw [List.length_map] at hlen
  obtain ⟨hun, o, ho, hall⟩ := mem_ready.1 hr
  have hi := (Array.getElem?_eq_some_iff.1 ho).1
  have hil : i < listed.size := by rw [hI.lsize]; exact hi
  have hol : (ops.toList.take p)[i]? = some o := by rw [List.getElem?_take_of_lt hip]; simpa using ho
  obtain ⟨s, hs⟩ : ∃ s, sp[i]? = some s := ⟨sp[i]'(by omega), List.getElem?_eq_getElem (by omega)⟩
  have hO := obsA_get hob hol hs
  rw [Nat.zero_add] at hO
  have hfo := fits_spec hfit o (by simpa using Array.mem_of_getElem? ho)
  have hdl : ∀ j, dep o j = true → listed.getD j true = true := fun j hj => by
    have h1 := dep_listed hall hj
    have hjl : j < listed.size := by
      rcases Nat.lt_or_ge j listed.size with h | h
      · exact h
      · simp [Array.getElem?_eq_none h] at h1
    rw [getD_lt hjl true false]; exact h1
  have hdeps : ∀ j, dep o j = true → vAtA sp j σ (sl ops σ j) w := fun j hj => by
    have h1 := dep_listed hall hj
    have hjl : j < listed.size := by
      rcases Nat.lt_or_ge j listed.size with h | h
      · exact h
      · simp [Array.getElem?_eq_none h] at h1
    exact hI.vals j (by rw [← hI.lsize]; exact hjl) (hdl j hj)
  have hpre : ∀ (m : Nat) (om : Oper) (sm : Sp), ops[m]? = some om → sp[m]? = some sm → (m = i ∨ dep om i = true) → sm.Pre w ∧ ∀ t, om.dst = some t → σ t = σ0 t := fun m om sm hom hsm hmi => by
    have hlm : listed.getD m true = false := by
      rcases hmi with rfl | hdm
      · exact hun
      · refine Bool.eq_false_iff.2 fun hlm => ?_
        have := hI.closed m om hom hlm i hdm
        rw [hun] at this; cases this
    exact ⟨hI.pres m sm hsm hlm, fun t ht => hI.unread m om t hom ht hlm⟩
  have hsz : (listed.setIfInBounds i true).size = ops.size := by simp [hI.lsize]
  unfold wpOp
  simp only [ho]
  rw [hI.st.yielded]
  have next : ∀ v w', s.V (up σ o.dst v) (slv o v) w' ∧ Frm (Own Ds s.d) w w' → K (a.put o.dst v) w' := fun v w' ⟨hv, hf⟩ => by
    have oth : ∀ (j : Nat) (s' : Sp), sp[j]? = some s' → j ≠ i → Frm (Oth Ds s'.d) w w' := fun j s' hs' hne =>
      hf.mono (own_oth hds (i := i) (j := j) (by rw [List.getElem?_map, hs]; rfl) (by rw [List.getElem?_map, hs']; rfl) hne)
    refine hK _ _ (up σ o.dst v) ⟨hsz, hI.st.put o.dst hfo v, agree_up ho hI.out v, hI.frm.trans (hf.mono own_any), ?_, ?_, ?_, ?_⟩
    · intro j hj hlj
      by_cases e : j = i
      · subst e
        rw [sl_up_same ho]
        unfold vAtA; rw [hs]; exact hv
      · rw [getD_setT hil, if_neg e] at hlj
        rw [sl_up_ne hapart ho e]
        have h1 := hI.vals j hj hlj
        unfold vAtA at h1 ⊢
        cases hsj : sp[j]? with
        | none => simp
        | some s' =>
          rw [hsj] at h1
          have hjp : j < p := by rw [← hlen]; exact (List.getElem?_eq_some_iff.1 hsj).1
          have hoj : (ops.toList.take p)[j]? = some (ops.toList[j]'(by simpa using hj)) := by rw [List.getElem?_take_of_lt hjp]; exact List.getElem?_eq_getElem _
          have h2 := obsA_get hob hoj hsj
          refine h2.1 _ _ _ _ _ (fun q hq => ?_) h1 (oth j s' hsj e)
          have hq' := hI.closed j (ops.toList[j]'(by simpa using hj)) (by simp [hj]) hlj q hq
          have hne : q ≠ i := fun e => by subst e; rw [hun] at hq'; cases hq'
          exact sl_up_ne hapart ho hne v
    · intro j s' hsj hlj
      by_cases e : j = i
      · subst e; rw [getD_setT hil, if_pos rfl] at hlj; cases hlj
      · rw [getD_setT hil, if_neg e] at hlj
        have hjp : j < p := by rw [← hlen]; exact (List.getElem?_eq_some_iff.1 hsj).1
        have hjl : j < ops.size := Nat.lt_of_lt_of_le hjp hple
        have hoj : (ops.toList.take p)[j]? = some (ops.toList[j]'(by simpa using hjl)) := by rw [List.getElem?_take_of_lt hjp]; exact List.getElem?_eq_getElem _
        have h2 := obsA_get hob hoj hsj
        exact h2.2.1 _ _ (hI.pres j s' hsj hlj) (oth j s' hsj e)
    · intro j oj hoj hlj k hk
      rw [getD_setT hil]
      split
      · rfl
      · by_cases e : j = i
        · subst e
          rw [ho] at hoj; cases hoj
          exact hdl k hk
        · rw [getD_setT hil, if_neg e] at hlj
          exact hI.closed j oj hoj hlj k hk
    · intro j oj t hoj ht hlj
      have e : j ≠ i := fun e => by subst e; rw [getD_setT hil, if_pos rfl] at hlj; cases hlj
      rw [getD_setT hil, if_neg e] at hlj
      have h1 := sl_up_ne (σ := σ) hapart ho e v
      unfold sl at h1
      rw [hoj] at h1
      simp only [Option.bind_some, ht] at h1
      rw [h1]; exact hI.unread j oj t hoj ht hlj
  have hg := hO.2.2 σ w hI.out hI.frm hdeps hpre
  unfold DoesG at hg
  split
  · rename_i hw
    rw [if_pos hw] at hg
    rw [← hI.st.eval] at hg
    exact .inl (hg.wp next)
  · rename_i hw
    rw [if_neg hw] at hg
    exact next _ _ hg


/-- The last ones, one after another: those below q have come up. -/
theorem wpTail {Q : Exit → Act → World → Prop} {K : Sig → World → Prop} {p : Nat} (hfit : fits n ops.toList = true) (htail : tailB ops p = true) (hbelow : depsBelow ops = true) (hQ : ∀ a σ w, St n a σ → K σ w → Q .normal a w) :
    ∀ (fuel q : Nat) (listed : Array Bool) (a : Act) (w : World) (σ : Sig), p ≤ q → listed.size = ops.size → (∀ j, j < ops.size → listed.getD j true = decide (j < q)) → toCome ops listed ≤ fuel → St n a σ → doAll P ops K (ops.toList.drop q) σ w → wpAny P .any ops Q fuel listed a w := by
  have fin : ∀ (q : Nat) (listed : Array Bool) (a : Act) (w : World) (σ : Sig), listed.size = ops.size → (∀ j, j < ops.size → listed.getD j true = decide (j < q)) → St n a σ → doAll P ops K (ops.toList.drop q) σ w → Region.ready .any ops listed = [] → Q .normal a w := by
    intro q listed a w σ hls hl hs h hr
    have hall := all_listed hbelow hls hr
    have hq : ops.size ≤ q := by
      rcases Nat.lt_or_ge q ops.size with hlt | hge
      · have h1 := hall q hlt
        rw [hl q hlt] at h1
        simp at h1
      · exact hge
    rw [List.drop_of_length_le (by simpa using hq)] at h
    exact hQ a σ w hs h
  intro fuel
  induction fuel with
  | zero =>
    intro q listed a w σ hp hls hl hc hs h
    have hr : Region.ready .any ops listed = [] := by
      cases hr : Region.ready .any ops listed with
      | nil => rfl
      | cons i l =>
        exfalso
        have hm : i ∈ Region.ready .any ops listed := by rw [hr]; simp
        obtain ⟨hun, o, ho, _⟩ := mem_ready.1 hm
        have hi := (Array.getElem?_eq_some_iff.1 ho).1
        have := toCome_lt hls hi hun
        omega
    exact ⟨hr, fin q listed a w σ hls hl hs h hr⟩
  | succ fuel ih =>
    intro q listed a w σ hp hls hl hc hs h
    refine ⟨fun hr => fin q listed a w σ hls hl hs h hr, fun i hi => ?_⟩
    obtain ⟨hun, o, ho, hall⟩ := mem_ready.1 hi
    have hil := (Array.getElem?_eq_some_iff.1 ho).1
    have hqi : q ≤ i := by
      rw [hl i hil] at hun
      simp at hun
      exact hun
    -- it is the next one
    have hiq : i = q := by
      rcases Nat.lt_or_ge q i with hlt | hge
      · exfalso
        have hd := (tailB_spec htail (Nat.le_trans hp hqi) ho).2 (by omega)
        have h1 := dep_listed hall hd
        have hql : i - 1 < ops.size := by omega
        have h2 : listed.getD (i - 1) true = listed.getD (i - 1) false := getD_lt (by omega) true false
        rw [h1, hl (i - 1) hql] at h2
        simp at h2
        omega
      · omega
    subst hiq
    have hfo := fits_spec hfit o (by simpa using Array.mem_of_getElem? ho)
    have hd : ops.toList.drop i = o :: ops.toList.drop (i + 1) := by
      have hoe : ops.toList[i]'(by simpa using hil) = o := by
        have := Array.getElem?_eq_some_iff.1 ho
        simpa using this.2
      rw [List.drop_eq_getElem_cons (by simpa using hil), hoe]
    rw [hd] at h
    unfold doAll at h
    have next : ∀ v w', doAll P ops K (ops.toList.drop (i + 1)) (up σ o.dst v) w' → wpAny P .any ops Q fuel (listed.setIfInBounds i true) (a.put o.dst v) w' := fun v w' hv => by
      refine ih (i + 1) _ _ _ _ (by omega) (by simp [hls]) ?_ ?_ (hs.put o.dst hfo v) hv
      · intro j hj
        rw [getD_setT (by omega)]
        by_cases e : j = i
        · subst e; rw [if_pos rfl, decide_eq_true (by omega)]
        · rw [if_neg e, hl j hj]
          exact decide_eq_decide.2 (by omega)
      · have := toCome_lt hls hil hun
        omega
    unfold wpOp
    simp only [ho]
    rw [hs.yielded]
    unfold DoesG at h
    split
    · rename_i hw
      rw [if_pos hw] at h
      rw [← hs.eval] at h
      exact .inl (h.wp next)
    · rename_i hw
      rw [if_neg hw] at h
      exact next _ _ h

theorem wpAnyT_spec {Q : Exit → Act → World → Prop} {K : Sig → World → Prop} {p : Nat} (hB : anyTB n ops p (sp.map Sp.d) = true) (hob : ObsA P ops Ds sp σ0 w0 0 (ops.toList.take p) sp) (hQ : ∀ a σ w, St n a σ → K σ w → Q .normal a w)
    (hfin : ∀ σ w, Agree (ops.toList.take p).toArray σ0 σ → Frm (Oth Ds none) w0 w → (∀ j, j < p → vAtA sp j σ (sl ops σ j) w) → doAll P ops K (ops.toList.drop p) σ w) :
    ∀ (fuel : Nat) (listed : Array Bool) (a : Act) (w : World) (σ : Sig), toCome ops listed ≤ fuel → (∀ j, p ≤ j → j < ops.size → listed.getD j true = false) → InvA P n ops Ds sp σ0 w0 listed a w σ → wpAny P .any ops Q fuel listed a w := by
  obtain ⟨hfit, hbelow, hapart, hds, hlen, hple, htail⟩ := anyTB_spec hB
  -- all but the last ones have come up
  have over : ∀ (listed : Array Bool) (a : Act) (w : World) (σ : Sig), (∀ j, p ≤ j → j < ops.size → listed.getD j true = false) → InvA P n ops Ds sp σ0 w0 listed a w σ → (∀ j, j < p → listed.getD j true = true) → ∀ fuel, toCome ops listed ≤ fuel → wpAny P .any ops Q fuel listed a w := by
    intro listed a w σ hun hI hall fuel hc
    refine wpTail hfit htail hbelow hQ fuel p listed a w σ (Nat.le_refl _) hI.lsize ?_ hc hI.st ?_
    · intro j hj
      by_cases e : j < p
      · rw [hall j e, decide_eq_true e]
      · rw [hun j (by omega) hj, decide_eq_false e]
    · refine hfin σ w ?_ hI.frm (fun j hj => hI.vals j (Nat.lt_of_lt_of_le hj hple) (hall j hj))
      intro t ht
      by_cases hin : inD ops t = true
      · unfold inD at hin
        rw [List.any_eq_true] at hin
        obtain ⟨o, ho, hot⟩ := hin
        obtain ⟨j, hj⟩ := List.getElem?_of_mem ho
        have hoj : ops[j]? = some o := by simpa using hj
        have hjl := (Array.getElem?_eq_some_iff.1 hoj).1
        have hot' : o.dst = some t := by simpa using hot
        have hjp : p ≤ j := by
          rcases Nat.lt_or_ge j p with hlt | hge
          · exfalso
            have : inD (ops.toList.take p).toArray t = true := by
              unfold inD
              rw [List.any_eq_true]
              refine ⟨o, ?_, hot⟩
              have h1 : (ops.toList.take p)[j]? = some o := by rw [List.getElem?_take_of_lt hlt]; exact hj
              exact List.mem_of_getElem? h1
            rw [ht] at this; cases this
          · exact hge
        exact hI.unread j o t hoj hot' (hun j hjp hjl)
      · exact hI.out t (by simpa using hin)
  intro fuel
  induction fuel with
  | zero =>
    intro listed a w σ hc hun hI
    have hr : Region.ready .any ops listed = [] := by
      cases hr : Region.ready .any ops listed with
      | nil => rfl
      | cons i l =>
        exfalso
        have hm : i ∈ Region.ready .any ops listed := by rw [hr]; simp
        obtain ⟨hun, o, ho, _⟩ := mem_ready.1 hm
        have hi := (Array.getElem?_eq_some_iff.1 ho).1
        have := toCome_lt hI.lsize hi hun
        omega
    exact over listed a w σ hun hI (fun j hj => all_listed hbelow hI.lsize hr j (Nat.lt_of_lt_of_le hj hple)) 0 hc
  | succ fuel ih =>
    intro listed a w σ hc hun hI
    by_cases hall : ∀ j, j < p → listed.getD j true = true
    · exact over listed a w σ hun hI hall _ hc
    · refine ⟨fun hr => absurd (fun j hj => all_listed hbelow hI.lsize hr j (Nat.lt_of_lt_of_le hj hple)) hall, fun i hi => ?_⟩
      obtain ⟨hui, o, ho, hdeps⟩ := mem_ready.1 hi
      have hil := (Array.getElem?_eq_some_iff.1 ho).1
      have hip : i < p := by
        rcases Nat.lt_or_ge i p with h | h
        · exact h
        · exfalso
          refine hall fun j hj => ?_
          have hd := (tailB_spec htail h ho).1 j hj
          have h1 := dep_listed hdeps hd
          have h2 : listed.getD j true = listed.getD j false := getD_lt (by rw [hI.lsize]; omega) true false
          rw [h2]; exact h1
      refine invT_step hB hob hI hip hi fun a' w' σ' hI' => ih _ a' w' σ' ?_ ?_ hI'
      · have := toCome_lt hI.lsize hil hui
        omega
      · intro j hj hjl
        rw [getD_setT (by rw [hI.lsize]; omega), if_neg (by omega)]
        exact hun j hj hjl
end

/-- **A REGION THAT DRAWS ITS ORDER, BUT FOR ITS LAST OPERATIONS.** -/
theorem W_anyT {P : Program} {n : Nat} {id : Nat} {l : List Oper} {σ : Sig} {w : World} {Q : Exit → Sig → World → Prop} (p : Nat) (Ds : List (Nat → Option TypeId → Prop)) (sp : List Sp)
    (hm : P.follows .mixedOrders = true) (hB : anyTB n l.toArray p (sp.map Sp.d) = true) (hpre : PresA sp w.drew) (hob : ObsA P l.toArray Ds sp σ w 0 (l.take p) sp)
    (hfin : ∀ σ' w1, Agree (l.take p).toArray σ σ' → Frm (Oth Ds none) w w1 → (∀ j, j < p → vAtA sp j σ' (sl l.toArray σ' j) w1) → doAll P l.toArray (Q .normal) (l.drop p) σ' w1) :
    W P n (.region id l.toArray true) Q σ w := fun a hs => by
  refine wp_region_any hm ?_
  have hd : Frm (Oth Ds none) w w.drew := (Ext.drewN w 1).frm
  refine wpAnyT_spec (P := P) (n := n) (Ds := Ds) (sp := sp) (σ0 := σ) (w0 := w) (K := Q .normal) (p := p) hB (by simpa using hob) (fun a' σ' w' h1 h2 => ⟨σ', h1, h2⟩) ?_ _ _ a w.drew σ ?_ ?_ ?_
  · intro σ' w1 h1 h2 h3
    have := hfin σ' w1 (by simpa using h1) h2 h3
    simpa using this
  · unfold toCome
    exact Nat.le_trans (List.length_filter_le _ _) (by simp)
  · intro j _ hj
    have hj' : j < l.length := by simpa using hj
    simp [hj']
  · refine ⟨by simp, hs, fun _ _ => rfl, hd, fun j hj hl => ?_, fun j s hsj _ => pres_get hpre hsj, fun j o hoj hl k hk => ?_, fun _ _ _ _ _ _ => rfl⟩
    · exfalso
      have hj' : j < l.length := by simpa using hj
      simp [hj'] at hl
    · exfalso
      have hj' : j < l.length := by simpa using (Array.getElem?_eq_some_iff.1 hoj).1
      simp [hj'] at hl

end Go.Rg
