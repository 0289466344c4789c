import Derived.Test.YtkjddlgaldnbnaaKB
import Derived.Deep.LoopGhost

/-
  THE CALCULUS, PART 13: regions whose order is drawn, concluded.
-/
section
set_option linter.unusedSimpArgs false
set_option linter.unusedVariables false
namespace Go.Proofs.Ytkjddlgaldnbnaa

section
variable {P : Program} {M : Nat} {pf : FuncId → Option (List Value → Option Value)} {ops : Array Oper} {N : Nat} {u0 : View} {w0 : World}

/-- a pending operation's fact stays, when further operations are done in the symbolic run -/
theorem PY.stays {pl pu pl' pu' : Bool} {st st' : St} {k : Nat} (h : PY P ops N pf pl pu st k) (hL : LExt st.L st'.L) (hok : ∀ t, okSV st.L.length (st.ρ t))
    (hs : ∀ o d, ops[k]? = some o → o.dst = some d → st'.ρ d = st.ρ d ∧ ∀ t ∈ o.looksAt ops, st'.ρ t = st.ρ t)
    (hpl : pl = true → pl' = true) (hpu : pu = true → pu' = true) (hl : pl = true → ∀ w, LocOK st'.L w → LocOK st.L w) (hu : pu = true → ∀ w, Sub st'.u w → Sub st.u w) : PY P ops N pf pl' pu' st' k := by
  obtain ⟨o, d, uL, uU, ho, hd, hlt, hq, h1, h2, hy⟩ := h
  obtain ⟨e1, e2⟩ := hs o d ho hd
  refine ⟨o, d, uL, uU, ho, hd, hlt, hq, fun h => hpl (h1 h), fun h => hpu (h2 h), fun a w Q next hlook hU hLo hn => hy a w Q next (fun t ht => ?_) (fun h => hu (h2 h) w (hU h)) (fun h => hl (h1 h) w (hLo h)) fun w' hw' => ?_⟩
  · rw [hlook t ht, e2 t ht, tv_ext hL (hok t)]
  · have := hn w' hw'
    rwa [e1, tv_ext hL (hok d)] at this

theorem mem_done_I {I : Array Bool} {done : List Nat} (hdn : ∀ k, k ∈ done ↔ I.getD k false = true) {i : Nat} (hi : i < I.size) : ∀ k, k ∈ i :: done ↔ (I.setIfInBounds i true).getD k false = true := by
  intro k
  rw [getD_set, List.mem_cons, hdn k]
  constructor
  · rintro (rfl | h)
    · rw [if_pos ⟨rfl, hi⟩]
    · split
      · rfl
      · exact h
  · intro h
    split at h
    · rename_i e; exact .inl e.1.symm
    · exact .inr h

theorem cl_cons {I : Array Bool} {done : List Nat} (hdn : ∀ k, k ∈ done ↔ I.getD k false = true) (hcl : ∀ l1 i l2, done = l1 ++ i :: l2 → ∀ o, ops[i]? = some o → ∀ e ∈ o.after, Region.binds .any e = true → e.on ∈ l2)
    {i : Nat} {o : Oper} (ho : ops[i]? = some o) (hall : ∀ e ∈ o.after, Region.binds .any e = true → I.getD e.on false = true) :
    ∀ l1 j l2, i :: done = l1 ++ j :: l2 → ∀ o, ops[j]? = some o → ∀ e ∈ o.after, Region.binds .any e = true → e.on ∈ l2 := by
  intro l1 j l2 he oj hoj e hem hb
  cases l1 with
  | nil =>
    simp at he
    obtain ⟨rfl, rfl⟩ := he
    rw [ho] at hoj
    cases hoj
    exact (hdn _).2 (hall e hem hb)
  | cons x l1 =>
    simp at he
    exact hcl l1 j l2 he.2 oj hoj e hem hb

theorem ready_lt {md : Region.Mode} {I : Array Bool} {i : Nat} (h : i ∈ Region.ready md ops I) : i < ops.size ∧ i < I.size := by
  obtain ⟨h0, o, ho, _⟩ := mem_ready.1 h
  refine ⟨(Array.getElem?_eq_some_iff.1 ho).1, ?_⟩
  rcases Nat.lt_or_ge i I.size with h' | h'
  · exact h'
  · simp [Array.getElem?_eq_none h'] at h0

/-- how many are still to come up -/
def unlisted (listed : Array Bool) : Nat := listed.toList.countP (· == false)

theorem unlisted_set {listed : Array Bool} {i : Nat} (h : listed.getD i true = false) : unlisted (listed.setIfInBounds i true) + 1 = unlisted listed := by
  have hl : i < listed.size := by
    rcases Nat.lt_or_ge i listed.size with h' | h'
    · exact h'
    · simp [Array.getElem?_eq_none h'] at h
  have hv : listed.toList[i]'(by simpa using hl) = false := by simpa [hl] using h
  unfold unlisted
  rw [Array.toList_setIfInBounds, List.countP_set (by simpa using hl)]
  rw [hv]
  have : 0 < List.countP (fun x => x == false) listed.toList := List.countP_pos_iff.2 ⟨false, by rw [← hv]; exact List.getElem_mem _, rfl⟩
  rw [if_pos (by rfl), if_neg (by decide)]
  omega

theorem unlisted_zero {listed : Array Bool} (h : unlisted listed = 0) (i : Nat) : listed.getD i true = true := by
  unfold unlisted at h
  rw [List.countP_eq_zero] at h
  rcases Nat.lt_or_ge i listed.size with hl | hl
  · have := h (listed[i]) (by simp)
    simp [hl]
    simpa using this
  · simp [Array.getElem?_eq_none hl]


theorem DR.done_post {I listed : Array Bool} {done : List Nat} {pl pu : Bool} {st : St} {a : Act} {w : World} (h : DR P ops N pf u0 w0 I listed done pl pu st a w)
    (hr : Region.ready .any ops listed = []) : Inv N u0 w0 st a w :=
  ⟨⟨h.size, h.nodef, fun t => h.val t fun k o hk hl _ _ => h.some_ready hk hl hr, h.ok⟩, h.wok⟩

/-- the symbolic run is through: what is pending comes up -/
theorem drain {K : Exit → St → Prop} {st0 : St} {ch : Nat → Prop} {I : Array Bool} {done : List Nat} {pl pu : Bool} {st : St} (hI : Region.ready .any ops I = []) (hk : K .normal st)
    (hL : LExt st0.L st.L) (hρ : ∀ s, ¬ ch s → st.ρ s = st0.ρ s) :
    ∀ (fuel : Nat) (listed : Array Bool) (a : Act) (w : World), unlisted listed ≤ fuel → DR P ops N pf u0 w0 I listed done pl pu st a w →
      wpAny P .any ops (QPost N u0 w0 st0 ch K) fuel listed a w := by
  intro fuel
  induction fuel with
  | zero =>
    intro listed a w hm h
    have hr : Region.ready .any ops listed = [] := by
      cases hr : Region.ready .any ops listed with
      | nil => rfl
      | cons i rs =>
        have : i ∈ Region.ready .any ops listed := by rw [hr]; exact List.mem_cons_self ..
        obtain ⟨h0, _⟩ := mem_ready.1 this
        rw [unlisted_zero (by omega) i] at h0
        cases h0
    exact ⟨hr, st, h.done_post hr, hL, hρ, hk⟩
  | succ fuel ih =>
    intro listed a w hm h
    refine ⟨fun hr => ⟨st, h.done_post hr, hL, hρ, hk⟩, fun i hi => ?_⟩
    obtain ⟨h0, o, ho, hall⟩ := mem_ready.1 hi
    have hIi : I.getD i false = true := by
      cases hIi : I.getD i false with
      | true => rfl
      | false =>
        have hlt := ready_lt hi
        have : i ∈ Region.ready .any ops I := mem_ready.2 ⟨by rw [← getD_false_true (by rw [h.isz]; exact hlt.1)]; exact hIi, o, ho, fun e he hb => h.sub _ (hall e he hb)⟩
        rw [hI] at this
        cases this
    exact h.run hIi h0 hi fun a' w' h' => ih _ a' w' (by have := unlisted_set h0; omega) h'

/-- a guard, by the symbolic state's own frame -/
theorem guard_ghost {o : Oper} {st : St} {run skip : St → Prop} {g : Act} (hg : FR N st.L st.ρ g) (h : guardV ops o st run skip) :
    ∃ ρ', (∀ t, tv st.L (ρ' t) = tv st.L (st.ρ t)) ∧ (∀ t, okSV st.L.length (ρ' t)) ∧ (∀ s, (∀ (j : Nat) (o' : Oper), ops[j]? = some o' → o'.dst ≠ some s) → ρ' s = st.ρ s) ∧
      ((Region.wanted o (yielded ops g.tmps) = true ∧ run { st with ρ := ρ' }) ∨ (Region.wanted o (yielded ops g.tmps) = false ∧ skip { st with ρ := ρ' })) := by
  obtain ⟨ρ', hf, hs, hc⟩ := guardV_of hg h
  exact ⟨ρ', fun t => (hf.val t).symm.trans (hg.val t), hf.ok, hs, hc⟩

theorem DR.reρ {I listed : Array Bool} {done : List Nat} {pl pu : Bool} {st : St} {a : Act} {w : World} (h : DR P ops N pf u0 w0 I listed done pl pu st a w) {ρ' : Nat → SV}
    (h1 : ∀ t, tv st.L (ρ' t) = tv st.L (st.ρ t)) (h2 : ∀ t, okSV st.L.length (ρ' t)) : DR P ops N pf u0 w0 I listed done pl pu { st with ρ := ρ' } a w where
  isz := h.isz
  lsz := h.lsz
  sub := h.sub
  dn := h.dn
  cl := h.cl
  pend k hk hl := by
    obtain ⟨o, d, uL, uU, ho, hd, hlt, hq, e1, e2, hy⟩ := h.pend k hk hl
    exact ⟨o, d, uL, uU, ho, hd, hlt, hq, e1, e2, fun a w Q next hlook hU hLo hn => hy a w Q next (fun t ht => (hlook t ht).trans (h1 t)) hU hLo fun w' hw' => by
      have := hn w' hw'; rwa [h1 d] at this⟩
  pd := h.pd
  lc := h.lc
  size := h.size
  nodef := h.nodef
  val t ht := (h.val t ht).trans (h1 t).symm
  ok := h2
  wok := h.wok

theorem looks_at {I listed : Array Bool} {done : List Nat} {pl pu : Bool} {st : St} {a : Act} {w : World} (h : DR P ops N pf u0 w0 I listed done pl pu st a w) {o : Oper}
    (hp : ∀ (k : Nat) (ok : Oper) (d : Nat), I.getD k false = true → listed.getD k true = false → ops[k]? = some ok → ok.dst = some d → d ∉ o.looksAt ops) :
    ∀ t ∈ o.looksAt ops, a.tmps.getD t undef = tv st.L (st.ρ t) := fun t ht => h.val t fun k ok hk hl hok hd => hp k ok t hk hl hok hd ht

end
end Go.Proofs.Ytkjddlgaldnbnaa
end

/-
  THE CALCULUS, PART 14: 'drawV' is right.
-/
section
set_option linter.unusedSimpArgs false
set_option linter.unusedVariables false
namespace Go.Proofs.Ytkjddlgaldnbnaa

section
variable {P : Program} {M : Nat} {pf : FuncId → Option (List Value → Option Value)} {ops : Array Oper} {N : Nat} {u0 : View} {w0 : World}

/-- a quiet operation is done in the symbolic run -/
theorem DR.quiet {I listed : Array Bool} {done : List Nat} {pl pu pl' pu' : Bool} {st : St} {a : Act} {w : World} (h : DR P ops N pf u0 w0 I listed done pl pu st a w)
    {i : Nat} {o : Oper} (hi : i ∈ Region.ready .any ops I) (ho : ops[i]? = some o) (hN : ∀ d, o.dst = some d → d < N) (hq : isQuiet P pf o = true) (hokQ : okQ ops o done = true)
    (hpl : pl = true → pl' = true) (hpu : pu = true → pu' = true) {y : SV} (hy : okSV st.L.length y) {uL uU : Bool} (h1 : uL = true → pl' = true) (h2 : uU = true → pu' = true)
    (hrun : ∀ (a : Act) (w : World) (Q : Exit → Act → World → Prop) (next : Act → World → Prop), (∀ t ∈ o.looksAt ops, a.tmps.getD t undef = tv st.L (st.ρ t)) → (uU = true → Sub st.u w) → (uL = true → LocOK st.L w) →
      (∀ w', WEvo w w' → next (a.put o.dst (tv st.L y)) w') → wpOp P ops Q i next a w) :
    DR P ops N pf u0 w0 (I.setIfInBounds i true) listed (i :: done) pl' pu' (st.put o.dst y) a w := by
  obtain ⟨hIi, o', ho', hall⟩ := mem_ready.1 hi
  rw [ho] at ho'
  cases ho'
  have hlt := ready_lt hi
  have hIf : I.getD i false = false := by rw [getD_false_true hlt.2]; exact hIi
  unfold okQ at hokQ
  cases hd : o.dst with
  | none => rw [hd] at hokQ; simp at hokQ
  | some d =>
    rw [hd] at hokQ
    simp only [Bool.and_eq_true, Bool.not_eq_true', List.all_eq_true] at hokQ
    obtain ⟨hself, hdone⟩ := hokQ
    have hself : d ∉ o.looksAt ops := by simpa using hself
    have hk' : ∀ (k : Nat) (ok : Oper), I.getD k false = true → ops[k]? = some ok → (d ∉ ok.looksAt ops ∧ ok.dst ≠ some d) ∧ (depsOf ops o k = true ∨ ∀ e, ok.dst = some e → e ∉ o.looksAt ops) := by
      intro k ok hk hok
      have := hdone k ((h.dn k).2 hk)
      rw [hok] at this
      simp only [Bool.and_eq_true, Bool.or_eq_true, Bool.not_eq_true'] at this
      refine ⟨⟨by simpa using this.1.1, by simpa using this.1.2⟩, this.2.imp id fun h e he => ?_⟩
      rw [he] at h
      simpa using h
    have hput : ∀ s, s ≠ d → (st.put (some d) y).ρ s = st.ρ s := fun s hs => put_ρ _ _ _ (fun e => hs (by cases e; rfl))
    have hself' : (st.put (some d) y).ρ d = y := upd_self _ _ _
    refine ⟨by simp [h.isz], h.lsz, fun k hk => ?_, mem_done_I h.dn hlt.2, cl_cons h.dn h.cl ho hall, fun k hk hl => ?_, fun k k' ok o2 dd hk hl hk2 hl2 hok ho2 hdd hmem => ?_, h.lc, h.size, h.nodef, fun t ht => ?_, fun t => ?_, ?_⟩
    · rw [getD_set]
      split
      · rfl
      · exact h.sub k hk
    · by_cases e : k = i
      · subst e
        refine ⟨o, d, uL, uU, ho, hd, hN d hd, hq, h1, h2, fun a w Q next hlook hU hLo hn => hrun a w Q next (fun t ht => ?_) (by rw [put_u] at hU; exact hU) (by rw [put_L] at hLo; exact hLo) fun w' hw' => ?_⟩
        · rw [hlook t ht, put_L, hput t (fun e => hself (e ▸ ht))]
        · have := hn w' hw'
          rwa [hself', put_L] at this
      · rw [getD_set, if_neg (fun h => e h.1.symm)] at hk
        refine (h.pend k hk hl).stays (by rw [put_L]; exact LExt.refl _) h.ok (fun ok e hok hoe => ?_) hpl hpu (by rw [put_L]; exact fun _ _ h => h) (by rw [put_u]; exact fun _ _ h => h)
        obtain ⟨⟨hn1, hn2⟩, _⟩ := hk' k ok hk hok
        exact ⟨hput e (fun h => hn2 (by rw [hoe, h])), fun t ht => hput t (fun h => hn1 (h ▸ ht))⟩
    · by_cases e : k = i
      · subst e
        rw [ho] at ho2
        cases ho2
        by_cases e' : k' = k
        · subst e'
          rw [ho] at hok
          cases hok
          rw [hd] at hdd
          cases hdd
          exact absurd hmem hself
        · rw [getD_set, if_neg (fun h => e' h.1.symm)] at hk2
          rcases (hk' k' ok hk2 hok).2 with h' | h'
          · exact h'
          · exact absurd hmem (h' dd hdd)
      · rw [getD_set, if_neg (fun h => e h.1.symm)] at hk
        by_cases e' : k' = i
        · subst e'
          rw [ho] at hok
          cases hok
          rw [hd] at hdd
          cases hdd
          exact absurd hmem (hk' k o2 hk ho2).1.1
        · rw [getD_set, if_neg (fun h => e' h.1.symm)] at hk2
          exact h.pd k k' ok o2 dd hk hl hk2 hl2 hok ho2 hdd hmem
    · rw [put_L]
      by_cases e : t = d
      · subst e
        cases hli : listed.getD i true with
        | false => exact absurd hd (ht i o (by rw [getD_set, if_pos ⟨rfl, hlt.2⟩]) hli ho)
        | true =>
          have hls : i < listed.size := by rw [h.lsz]; exact hlt.1
          have := h.sub i (by rw [getD_false_true hls]; exact hli)
          rw [hIf] at this
          cases this
      · rw [hput t e]
        refine h.val t fun k ok hk hl hok hdk => ht k ok (by rw [getD_set]; split; rfl; exact hk) hl hok hdk
    · rw [put_L]
      by_cases e : t = d
      · subst e; rw [hself']; exact hy
      · rw [hput t e]; exact h.ok t
    · rw [put_L, put_u]; exact h.wok

/-- an operation that is not quiet is done in both runs -/
theorem DR.loud {I listed : Array Bool} {done : List Nat} {pl pu : Bool} {st : St} {a : Act} {w : World} (h : DR P ops N pf u0 w0 I listed done pl pu st a w)
    {i : Nat} {o : Oper} (hi : i ∈ Region.ready .any ops I) (hil : i ∈ Region.ready .any ops listed) (ho : ops[i]? = some o) (hN : ∀ d, o.dst = some d → d < N) (hokL : okL P pf ops o done = true)
    {L' : List LB} {u' : View} {w' : World} {y : SV} (hL : LExt st.L L') (hy : okSV L'.length y) (hw : WOK u0 w0 L' u' w')
    (hkl : (pl && !allDep P pf ops o done) = true → ∀ (k : Nat) (lb : LB), st.L[k]? = some lb → L'[k]? = some lb)
    (hku : (pu && !allDep P pf ops o done) = true → st.u.lim ≤ u'.lim ∧ ∀ b o, st.u.m b = some o → u'.m b = some o) :
    DR P ops N pf u0 w0 (I.setIfInBounds i true) (listed.setIfInBounds i true) (i :: done) pl pu ((⟨st.ρ, L', u'⟩ : St).put o.dst y) (a.put o.dst (tv L' y)) w' := by
  obtain ⟨hIi, o', ho', hall⟩ := mem_ready.1 hi
  rw [ho] at ho'
  cases ho'
  obtain ⟨hli, o', ho', halll⟩ := mem_ready.1 hil
  rw [ho] at ho'
  cases ho'
  have hlt := ready_lt hi
  have hltl := ready_lt hil
  have hIf : I.getD i false = false := by rw [getD_false_true hlt.2]; exact hIi
  -- a pending one is quiet, so it is apart, and 'all are waited for' does not hold
  have hpend : ∀ (k : Nat), I.getD k false = true → listed.getD k true = false → ∃ ok d, ops[k]? = some ok ∧ ok.dst = some d ∧ ok.apart ops o = true ∧ allDep P pf ops o done = false := by
    intro k hk hl
    obtain ⟨ok, d, uL, uU, hok, hd, _, hq, _⟩ := h.pend k hk hl
    have hnd : depsOf ops o k = false := h.no_dep halll hl
    have hin := (h.dn k).2 hk
    refine ⟨ok, d, hok, hd, ?_, ?_⟩
    · unfold okL at hokL
      have := List.all_eq_true.1 hokL k hin
      rw [hok] at this
      simpa [hnd, hq] using this
    · cases hal : allDep P pf ops o done with
      | false => rfl
      | true =>
        unfold allDep at hal
        have := List.all_eq_true.1 hal k hin
        rw [hok] at this
        simp [hnd, hq] at this
  refine ⟨by simp [h.isz], by simp [h.lsz], fun k hk => ?_, mem_done_I h.dn hlt.2, cl_cons h.dn h.cl ho hall, fun k hk hl => ?_, fun k k' ok o2 dd hk hl hk2 hl2 hok ho2 hdd hmem => ?_, lc_set h.lc ho halll, by cases hod : o.dst <;> simp [Act.put, h.size], by cases hod : o.dst <;> simp [Act.put, h.nodef],
    fun t ht => ?_, fun t => ?_, by rw [put_L, put_u]; exact hw⟩
  · rw [getD_set] at hk ⊢
    split at hk
    · rename_i e; rw [if_pos ⟨e.1, hlt.2⟩]
    · split
      · rfl
      · exact h.sub k hk
  · rw [getD_set] at hl
    split at hl
    · cases hl
    · rename_i e
      have e : i ≠ k := fun h => e ⟨h, hltl.2⟩
      rw [getD_set, if_neg (fun h => e h.1)] at hk
      obtain ⟨ok, d, hok, hd, hap, hal⟩ := hpend k hk hl
      obtain ⟨h1, h2, h3⟩ := Oper.apart_spec hap
      refine (h.pend k hk hl).stays (by rw [put_L]; exact hL) h.ok (fun ok' e' hok' hoe => ?_) (fun h => h) (fun h => h) (fun hp w hlo => ?_) (fun hp w hs => ?_)
      · rw [hok] at hok'
        cases hok'
        rw [hd] at hoe
        cases hoe
        exact ⟨put_ρ _ _ _ (h2 d hd), fun t ht => put_ρ _ _ _ (fun ho' => h3 t ho' ht)⟩
      · rw [put_L] at hlo
        exact fun j lb hj => hlo j lb (hkl (by simp [hp, hal]) j lb hj)
      · rw [put_u] at hs
        obtain ⟨g1, g2⟩ := hku (by simp [hp, hal])
        exact ⟨Nat.le_trans g1 hs.1, fun b o hb => hs.2 b o (g2 b o hb)⟩
  · rw [getD_set] at hl hl2
    split at hl
    · cases hl
    · split at hl2
      · cases hl2
      · rename_i e e'
        have e : i ≠ k := fun h => e ⟨h, hltl.2⟩
        have e' : i ≠ k' := fun h => e' ⟨h, hltl.2⟩
        rw [getD_set, if_neg (fun h => e h.1)] at hk
        rw [getD_set, if_neg (fun h => e' h.1)] at hk2
        exact h.pd k k' ok o2 dd hk hl hk2 hl2 hok ho2 hdd hmem
  · have ht' : ∀ (k : Nat) (ok : Oper), I.getD k false = true → listed.getD k true = false → ops[k]? = some ok → ok.dst ≠ some t := fun k ok hk hl hok hd => by
      have e : i ≠ k := fun e => by
        subst e; rw [hIf] at hk; cases hk
      exact ht k ok (by rw [getD_set, if_neg (fun h => e h.1)]; exact hk) (by rw [getD_set, if_neg (fun h => e h.1)]; exact hl) hok hd
    rw [put_L]
    cases hod : o.dst with
    | none => exact (h.val t ht').trans (tv_ext hL (h.ok t)).symm
    | some d =>
      simp only [Act.put, St.put]
      by_cases e : t = d
      · subst e
        rw [upd_self]
        have : t < a.tmps.size := by rw [h.size]; exact hN t hod
        simp [this]
      · rw [upd_ne _ _ e, tv_ext hL (h.ok t), ← h.val t ht']
        simp [Array.getElem?_setIfInBounds_ne (Ne.symm e)]
  · rw [put_L]
    cases hod : o.dst with
    | none => exact (h.ok t).ext hL.length
    | some d =>
      simp only [St.put]
      by_cases e : t = d
      · subst e; rw [upd_self]; exact hy
      · rw [upd_ne _ _ e]; exact (h.ok t).ext hL.length

end
end Go.Proofs.Ytkjddlgaldnbnaa
end

/-
  THE CALCULUS, PART 15: a region whose order is drawn does what 'drawV' says.
-/
section
set_option linter.unusedSimpArgs false
set_option linter.unusedVariables false
namespace Go.Proofs.Ytkjddlgaldnbnaa

section
variable {P : Program} {M : Nat} {pf : FuncId → Option (List Value → Option Value)} {ops : Array Oper} {N : Nat} {u0 : View} {w0 : World}

theorem draw_sound (hM : CK P M) (hpf : PureOK P pf) {K : Exit → St → Prop} {st0 : St} {ch : Nat → Prop} (hch : ∀ (j : Nat) (o : Oper) (d : Nat), ops[j]? = some o → o.dst = some d → ch d ∧ d < N) :
    ∀ (n : Nat) (I : Array Bool) (done : List Nat) (pl pu : Bool) (st : St), drawV P M pf ops n I done pl pu (K .normal) st → LExt st0.L st.L → (∀ s, ¬ ch s → st.ρ s = st0.ρ s) →
      ∀ (fuel : Nat) (listed : Array Bool) (a : Act) (w : World), unlisted listed ≤ fuel → DR P ops N pf u0 w0 I listed done pl pu st a w → wpAny P .any ops (QPost N u0 w0 st0 ch K) fuel listed a w := by
  intro n
  induction n with
  | zero =>
    intro I done pl pu st h hL hρ fuel listed a w hm hd
    simp only [drawV] at h
    split at h
    · rename_i hI; exact drain hI h hL hρ fuel listed a w hm hd
    · exact h.elim
  | succ n ih =>
    intro I done pl pu st h hL hρ fuel listed a w hm hd
    simp only [drawV] at h
    split at h
    · rename_i hI; exact drain hI h hL hρ fuel listed a w hm hd
    rename_i i0 rs hI
    have hch' : ∀ {j : Nat} {o : Oper}, ops[j]? = some o → ∀ s, ¬ ch s → o.dst ≠ some s := fun ho s hs hd => hs (hch _ _ s ho hd).1
    split at h
    · -- a quiet one
      rename_i i hfind
      have hin := List.mem_of_find?_eq_some hfind
      have hpred := List.find?_some hfind
      rw [← hI] at hin
      split at h
      · rename_i o ho
        rw [ho] at hpred
        simp only [Bool.and_eq_true] at hpred
        obtain ⟨g, hg⟩ := hd.ghost
        obtain ⟨ρ', e1, e2, e3, hc⟩ := guard_ghost hg h
        have hd' := hd.reρ e1 e2
        have hρ' : ∀ s, ¬ ch s → ρ' s = st0.ρ s := fun s hs => (e3 s fun j o' ho' hd => hs (hch j o' s ho' hd).1).trans (hρ s hs)
        have hwant : ∀ (a : Act), (∀ t ∈ o.looksAt ops, a.tmps.getD t undef = tv st.L (ρ' t)) → Region.wanted o (yielded ops a.tmps) = Region.wanted o (yielded ops g.tmps) := fun a hlook =>
          wanted_eq fun j want hgd d hdd => by rw [hlook d (guard_of_looks hgd hdd), hg.val d, e1 d]
        rcases hc with ⟨hw, hrun⟩ | ⟨hw, hskip⟩
        · obtain ⟨y, hy, hk, hY⟩ := quiet_step (st := { st with ρ := ρ' }) hM hpf hpred.1 (fun x _ => by
            cases x with
            | tmp t => exact e2 t
            | const v => cases v <;> trivial
            | global g => trivial
            | func f => exact fun p hp => by cases hp) hrun
          have hD := hd'.quiet hin ho (fun d hd => (hch i o d ho hd).2) hpred.1 hpred.2 (pl' := pl || usesL o { st with ρ := ρ' }) (pu' := pu || usesU o { st with ρ := ρ' }) (by intro h; simp [h]) (by intro h; simp [h]) hy
            (uL := usesL o { st with ρ := ρ' }) (uU := usesU o { st with ρ := ρ' }) (by intro h; simp [h]) (by intro h; simp [h]) (fun a w Q next hlook hU hLo hn => by
              unfold wpOp
              rw [ho]
              simp only
              rw [if_pos (by rw [hwant a hlook, hw])]
              exact .inl (hY a w Q next (eval_of_looks hlook) hU hLo hn))
          refine ih _ _ _ _ _ hk (by rw [put_L]; exact hL) (fun s hs => ?_) fuel listed a w hm hD
          rw [put_ρ _ _ _ (hch' ho s hs)]
          exact hρ' s hs
        · have hD := hd'.quiet hin ho (fun d hd => (hch i o d ho hd).2) hpred.1 hpred.2 (pl' := pl) (pu' := pu) id id (y := .v undef) trivial
            (uL := false) (uU := false) (by intro h; cases h) (by intro h; cases h) (fun a w Q next hlook hU hLo hn => by
              unfold wpOp
              rw [ho]
              simp only
              rw [if_neg (by rw [hwant a hlook, hw]; simp)]
              exact hn w (WEvo.refl w))
          refine ih _ _ _ _ _ hskip (by rw [put_L]; exact hL) (fun s hs => ?_) fuel listed a w hm hD
          rw [put_ρ _ _ _ (hch' ho s hs)]
          exact hρ' s hs
      · exact h.elim
    · -- one that is not quiet: it alone may come up
      split at h
      · rename_i o ho hfn
        split at h
        · rename_i ad hokL
          clear ad
          have key : ∀ (fuel : Nat) (listed : Array Bool) (a : Act) (w : World), unlisted listed ≤ fuel → DR P ops N pf u0 w0 I listed done pl pu st a w → wpAny P .any ops (QPost N u0 w0 st0 ch K) fuel listed a w := by
            have hnone : ∀ (listed : Array Bool) (a : Act) (w : World), DR P ops N pf u0 w0 I listed done pl pu st a w → Region.ready .any ops listed ≠ [] := by
              intro listed a w hd hr
              have hi0 : i0 ∈ Region.ready .any ops I := by rw [hI]; exact List.mem_cons_self ..
              obtain ⟨h0, o', ho', hall⟩ := mem_ready.1 hi0
              have hlt := ready_lt hi0
              have : i0 ∈ Region.ready .any ops listed := by
                refine mem_ready.2 ⟨?_, o', ho', fun e he hb => ?_⟩
                · cases hl : listed.getD i0 true with
                  | false => rfl
                  | true =>
                    have := hd.sub i0 (by rw [getD_false_true (by rw [hd.lsz]; exact hlt.1)]; exact hl)
                    rw [getD_false_true hlt.2] at this
                    rw [this] at h0
                    cases h0
                · have hIe := hall e he hb
                  have hsz : e.on < listed.size := by
                    rw [hd.lsz, ← hd.isz]
                    rcases Nat.lt_or_ge e.on I.size with h' | h'
                    · exact h'
                    · simp [Array.getElem?_eq_none h'] at hIe
                  rw [getD_false_true hsz]
                  cases hl : listed.getD e.on true with
                  | true => rfl
                  | false => exact absurd hr (hd.some_ready hIe hl)
              rw [hr] at this
              cases this
            intro fuel
            induction fuel with
            | zero =>
              intro listed a w hm hd
              exfalso
              apply hnone listed a w hd
              cases hr : Region.ready .any ops listed with
              | nil => rfl
              | cons i rs =>
                have : i ∈ Region.ready .any ops listed := by rw [hr]; exact List.mem_cons_self ..
                obtain ⟨h0, _⟩ := mem_ready.1 this
                rw [unlisted_zero (by omega) i] at h0
                cases h0
            | succ fuel ihf =>
              intro listed a w hm hd
              refine ⟨fun hr => absurd hr (hnone listed a w hd), fun i hi => ?_⟩
              obtain ⟨h0, oi, hoi, hall⟩ := mem_ready.1 hi
              have hlt := ready_lt hi
              have hm' : unlisted (listed.setIfInBounds i true) ≤ fuel := by have := unlisted_set h0; omega
              cases hIi : I.getD i false with
              | true => exact hd.run hIi h0 hi fun a' w' h' => ihf _ a' w' hm' h'
              | false =>
                have hiI : i ∈ Region.ready .any ops I := mem_ready.2 ⟨by rw [← getD_false_true (by rw [hd.isz]; exact hlt.1)]; exact hIi, oi, hoi, fun e he hb => hd.sub _ (hall e he hb)⟩
                have hiI' := hiI
                rw [hI] at hiI'
                obtain rfl : i = i0 := by simpa using hiI'
                rw [ho] at hoi
                cases hoi
                obtain ⟨g, hg⟩ := hd.ghost
                obtain ⟨ρ', e1, e2, e3, hc⟩ := guard_ghost hg h
                have hd' := hd.reρ e1 e2
                have hρ' : ∀ s, ¬ ch s → ρ' s = st0.ρ s := fun s hs => (e3 s fun j o' ho' hd => hs (hch j o' s ho' hd).1).trans (hρ s hs)
                have hlook : ∀ t ∈ o.looksAt ops, a.tmps.getD t undef = tv st.L (ρ' t) := by
                  refine looks_at hd' fun k ok d hk hl hok hdk => ?_
                  have hin := (hd.dn k).2 hk
                  obtain ⟨ok', d', uL, uU, hok', hd'', _, hq, _⟩ := hd.pend k hk hl
                  rw [hok] at hok'
                  cases hok'
                  have hnd : depsOf ops o k = false := hd.no_dep hall hl
                  unfold okL at hokL
                  have := List.all_eq_true.1 hokL k hin
                  rw [hok] at this
                  have hap : ok.apart ops o = true := by simpa [hnd, hq] using this
                  exact (Oper.apart_spec hap).1 d hdk
                have hwant : Region.wanted o (yielded ops a.tmps) = Region.wanted o (yielded ops g.tmps) :=
                  wanted_eq fun j want hgd d hdd => by rw [hlook d (guard_of_looks hgd hdd), hg.val d, e1 d]
                unfold wpOp
                rw [ho]
                simp only
                rcases hc with ⟨hw, hrun⟩ | ⟨hw, hskip⟩
                · rw [if_pos (by rw [hwant, hw])]
                  refine .inl (Oper.wp_mono ?_ (stepV_wp (st := { st with ρ := ρ' }) (Q := QPost N u0 w0 st0 ch K) hM hpf hd.wok (eval_of_looks hlook) (fun x _ => by
                    cases x with
                    | tmp t => exact e2 t
                    | const v => cases v <;> trivial
                    | global g => trivial
                    | func f => exact fun p hp => by cases hp) hrun))
                  rintro a' w' ⟨y, L', u', rfl, hL', hy, hw', hkl, hku, hk⟩
                  have hD := hd'.loud hiI hi ho (fun d hd => (hch i o d ho hd).2) hokL hL' hy hw' hkl hku
                  refine ih _ _ _ _ _ hk (by rw [put_L]; exact hL.trans hL') (fun s hs => ?_) fuel _ _ _ hm' hD
                  rw [put_ρ _ _ _ (hch' ho s hs)]
                  exact hρ' s hs
                · rw [if_neg (by rw [hwant, hw]; simp)]
                  have hD := hd'.loud hiI hi ho (fun d hd => (hch i o d ho hd).2) hokL (LExt.refl _) (y := .v undef) trivial hd.wok (fun _ _ _ h => h) (fun _ => ⟨Nat.le_refl _, fun _ _ h => h⟩)
                  refine ih _ _ _ _ _ hskip (by rw [put_L]; exact hL) (fun s hs => ?_) fuel _ _ _ hm' hD
                  rw [put_ρ _ _ _ (hch' ho s hs)]
                  exact hρ' s hs
          exact key fuel listed a w hm hd
        · exact h.elim
      · exact h.elim

theorem getD_replicate {n k : Nat} {d : Bool} : (Array.replicate n false).getD k d = if k < n then false else d := by
  by_cases h : k < n <;> simp [h]

theorem draw_wp (hM : CK P M) (hpf : PureOK P pf) (hmix : P.follows .mixedOrders = true) {K : Exit → St → Prop} {st : St} {ch : Nat → Prop} (hch : ∀ (j : Nat) (o : Oper) (d : Nat), ops[j]? = some o → o.dst = some d → ch d ∧ d < N)
    {id : Nat} {a : Act} {w : World} (h : drawV P M pf ops ops.size (Array.replicate ops.size false) [] false false (K .normal) st) (hi : Inv N u0 w0 st a w) :
    (Code.region id ops true).wp P (QPost N u0 w0 st ch K) a w := by
  refine wp_region_any hmix (draw_sound hM hpf hch _ _ _ _ _ st h (LExt.refl _) (fun _ _ => rfl) _ _ _ _ ?_ ?_)
  · unfold unlisted
    have := List.countP_le_length (p := fun x => x == false) (l := (Array.replicate ops.size false).toList)
    simpa using this
  · refine ⟨by simp, by simp, fun k hk => hk, fun k => ?_, fun l1 i l2 he => ?_, fun k hk hl => ?_, fun k k' ok o d hk => ?_, fun i hi' => ?_, hi.fr.size, hi.fr.nodef, fun t _ => hi.fr.val t, hi.fr.ok, hi.wok.evo ⟨⟨Nat.le_refl _, rfl, rfl⟩, fun _ _ => rfl⟩⟩
    · rw [getD_replicate]; simp
    · cases l1 <;> cases he
    · rw [getD_replicate] at hk; split at hk <;> cases hk
    · rw [getD_replicate] at hk; split at hk <;> cases hk
    · rw [getD_replicate] at hi'; split at hi' <;> cases hi'

end
end Go.Proofs.Ytkjddlgaldnbnaa
end

/-
  THE CALCULUS, PART 16: 'VC' is right: code; a whole function.
-/
section
set_option linter.unusedSimpArgs false
set_option linter.unusedVariables false
namespace Go.Proofs.Ytkjddlgaldnbnaa

/-- the slots that code may change -/
def chOf (c : Code) (ann : Ann) (s : Nat) : Prop := ∀ as, asgIn as c = true → annIn as ann = true → inRanges as s = true

theorem not_ch {c : Code} {ann : Ann} {s : Nat} : ¬ chOf c ann s ↔ ∃ as, asgIn as c = true ∧ annIn as ann = true ∧ inRanges as s = false := by
  unfold chOf
  constructor
  · intro h
    apply Classical.byContradiction
    intro hn
    apply h
    intro as h1 h2
    cases h3 : inRanges as s with
    | true => rfl
    | false => exact absurd ⟨as, h1, h2, h3⟩ hn
  · rintro ⟨as, h1, h2, h3⟩ h
    rw [h as h1 h2] at h3
    cases h3

theorem inRanges_lt {N s : Nat} : inRanges [(0, N)] s = true ↔ s < N := by
  simp [inRanges, Nat.blt]
  exact Iff.rfl

theorem inRanges_sub {as as' : List (Nat × Nat)} (h : (as'.all fun r => as.any fun q => Nat.ble q.1 r.1 && Nat.ble r.2 q.2) = true) {s : Nat} (hs : inRanges as' s = true) : inRanges as s = true := by
  unfold inRanges at *
  obtain ⟨r, hr, h1⟩ := List.any_eq_true.1 hs
  obtain ⟨q, hq, h2⟩ := List.any_eq_true.1 (List.all_eq_true.1 h r hr)
  refine List.any_eq_true.2 ⟨q, hq, ?_⟩
  simp only [Bool.and_eq_true, Nat.ble_eq, Nat.blt] at *
  omega

/-! ### the state at a loop's head -/

theorem headρ_spec : ∀ (vs : List (Nat × Sh)) (vals : List Value) (ρ : Nat → SV) (s : Nat), (∀ p ∈ vs, p.1 ≠ s) → (headρ vs vals ρ).1 s = ρ s := by
  intro vs
  induction vs with
  | nil => intro vals ρ s _; rfl
  | cons p r ih =>
    intro vals ρ s h
    obtain ⟨q, sh⟩ := p
    have hq : s ≠ q := fun e => h (q, sh) (List.mem_cons_self ..) e.symm
    have hr : ∀ p ∈ r, p.1 ≠ s := fun p hp => h p (List.mem_cons_of_mem _ hp)
    cases sh with
    | one l =>
      cases vals with
      | nil => exact ih [] ρ s hr
      | cons v vals => simp only [headρ]; rw [ih _ _ s hr, upd_ne _ _ hq]
    | agg ls => simp only [headρ]; rw [ih _ _ s hr, upd_ne _ _ hq]

/-- slots that hold the values that they are given: the head's values are the same -/
theorem headρ_same (L : List LB) (ρ0 : Nat → SV) : ∀ (vs : List (Nat × Sh)) (vals tail : List Value) (ρ : Nat → SV), slotVals ρ0 vs = some vals → (∀ s, tv L (ρ s) = tv L (ρ0 s)) →
    (∀ s, tv L ((headρ vs (vals ++ tail) ρ).1 s) = tv L (ρ0 s)) ∧ (headρ vs (vals ++ tail) ρ).2 = tail := by
  intro vs
  induction vs with
  | nil => intro vals tail ρ h hρ; simp [slotVals] at h; subst h; exact ⟨hρ, rfl⟩
  | cons p r ih =>
    intro vals tail ρ h hρ
    obtain ⟨q, sh⟩ := p
    cases sh with
    | one l =>
      simp only [slotVals] at h
      split at h <;> cases h
      rename_i v vals' h1 h2
      simp only [List.cons_append, headρ]
      refine ih vals' tail _ h2 fun s => ?_
      by_cases e : s = q
      · subst e; rw [upd_self, SV.val?_tv L h1]; rfl
      · rw [upd_ne _ _ e]; exact hρ s
    | agg ls =>
      simp only [slotVals] at h
      split at h
      · rename_i cs vals' h1 h2
        split at h
        · rename_i hl
          cases h
          have hl : cs.size = ls.length := by simpa using hl
          have e1 : (cs.toList ++ vals' ++ tail).drop ls.length = vals' ++ tail := by
            rw [List.append_assoc, List.drop_append_of_le_length (by simp [hl])]
            simp [← hl]
          have e2 : (cs.toList ++ vals' ++ tail).take ls.length = cs.toList := by
            rw [List.append_assoc, List.take_append_of_le_length (by simp [hl])]
            exact List.take_of_length_le (by simp [hl])
          simp only [headρ, e1, e2]
          refine ih vals' tail _ h2 fun s => ?_
          by_cases e : s = q
          · subst e; rw [upd_self, h1]
          · rw [upd_ne _ _ e]; exact hρ s
        · cases h
      · cases h

theorem headρ_ok {n : Nat} : ∀ (vs : List (Nat × Sh)) (vals : List Value) (ρ : Nat → SV), (∀ s, okSV n (ρ s)) → ∀ s, okSV n ((headρ vs vals ρ).1 s) := by
  intro vs
  induction vs with
  | nil => intro vals ρ h; exact h
  | cons p r ih =>
    intro vals ρ h
    obtain ⟨q, sh⟩ := p
    have hu : ∀ (v : Value) s, okSV n (upd ρ q (.v v) s) := fun v s => by
      by_cases e : s = q
      · subst e; rw [upd_self]; trivial
      · rw [upd_ne _ _ e]; exact h s
    cases sh with
    | one l =>
      cases vals with
      | nil => exact ih [] ρ h
      | cons v vals => exact ih _ _ (hu v)
    | agg ls => exact ih _ _ (hu _)

theorem headL_ext : ∀ (ls : List Nat) (vals : List Value) (L : List LB), LExt L (headL ls vals L) ∧ (headL ls vals L).length = L.length := by
  intro ls
  induction ls with
  | nil => intro vals L; exact ⟨LExt.refl L, rfl⟩
  | cons k r ih =>
    intro vals L
    simp only [headL]
    split
    · rename_i lb hl
      obtain ⟨h1, h2⟩ := ih (vals.drop lb.ls.length) (L.set k ⟨lb.b, lb.T, lb.ls, vals.take lb.ls.length ++ lb.cs.drop lb.ls.length⟩)
      exact ⟨(LExt.set L k lb ⟨lb.b, lb.T, lb.ls, vals.take lb.ls.length ++ lb.cs.drop lb.ls.length⟩ hl rfl rfl rfl).trans h1, by rw [h2]; simp⟩
    · exact ih vals L


/-- an own block whose cells vary is as it is given, the others as they were -/
theorem headL_get {L' : List LB} : ∀ (ls : List Nat) (lvals : List Value) (L : List LB), locVals L' ls = some lvals → LExt L L' → (∀ k ∈ ls, k < L.length) →
    (∀ (k : Nat) (lb lb' : LB), k ∈ ls → L[k]? = some lb → L'[k]? = some lb' → lb'.cs.drop lb.ls.length = lb.cs.drop lb.ls.length) →
    ∀ (k : Nat) (lb : LB), (headL ls lvals L)[k]? = some lb → ∃ lb0, L[k]? = some lb0 ∧ lb.b = lb0.b ∧ lb.T = lb0.T ∧ lb.ls = lb0.ls ∧
      ((k ∈ ls ∧ ∃ lb', L'[k]? = some lb' ∧ lb.cs = lb'.cs) ∨ (k ∉ ls ∧ lb.cs = lb0.cs)) := by
  intro ls
  induction ls with
  | nil => intro lvals L h hL hlt hf k lb hk; exact ⟨lb, hk, rfl, rfl, rfl, .inr ⟨by simp, rfl⟩⟩
  | cons j r ih =>
    intro lvals L h hL hlt hf k lb hk
    simp only [locVals] at h
    split at h
    · rename_i lb' vs hj hvs
      split at h
      · rename_i hlen
        cases h
        have hlen : (lb'.cs.take lb'.ls.length).length = lb'.ls.length := by simpa using hlen
        have hjl := hlt j (List.mem_cons_self ..)
        obtain ⟨lbj, hLj⟩ : ∃ lbj, L[j]? = some lbj := ⟨_, List.getElem?_eq_getElem hjl⟩
        obtain ⟨lbj', hlj', e1, e2, e3⟩ := hL j lbj hLj
        rw [hj] at hlj'
        cases hlj'
        have ht : (lb'.cs.take lb'.ls.length ++ vs).take lbj.ls.length = lb'.cs.take lb'.ls.length := by
          rw [← e3, List.take_append_of_le_length (by omega), List.take_of_length_le (by omega)]
        have hd : (lb'.cs.take lb'.ls.length ++ vs).drop lbj.ls.length = vs := by
          rw [← e3, List.drop_append_of_le_length (by omega), List.drop_of_length_le (by omega)]
          rfl
        have hcs : lb'.cs.take lb'.ls.length ++ lbj.cs.drop lbj.ls.length = lb'.cs := by
          rw [← hf j lbj lb' (List.mem_cons_self ..) hLj hj, ← e3]
          exact List.take_append_drop _ _
        simp only [headL, hLj, ht, hd, hcs] at hk
        have hset : ∀ (i : Nat) (x : LB), (L.set j ⟨lbj.b, lbj.T, lbj.ls, lb'.cs⟩)[i]? = some x → (i = j ∧ x = ⟨lbj.b, lbj.T, lbj.ls, lb'.cs⟩) ∨ (i ≠ j ∧ L[i]? = some x) := fun i x hx => by
          by_cases e : j = i
          · subst e; simp [hjl] at hx; exact .inl ⟨rfl, hx.symm⟩
          · rw [List.getElem?_set_ne e] at hx; exact .inr ⟨fun h => e h.symm, hx⟩
        obtain ⟨lb0, hlb0, f1, f2, f3, f4⟩ := ih vs (L.set j ⟨lbj.b, lbj.T, lbj.ls, lb'.cs⟩) hvs (fun i x hx => by
            rcases hset i x hx with ⟨rfl, rfl⟩ | ⟨_, hx⟩
            · exact ⟨lb', hj, e1, e2, e3⟩
            · exact hL i x hx) (fun i hi => by simp; exact hlt i (List.mem_cons_of_mem _ hi)) (fun i x x' hi hx hx' => by
            rcases hset i x hx with ⟨rfl, rfl⟩ | ⟨_, hx⟩
            · rw [hj] at hx'; cases hx'; rfl
            · exact hf i x x' (List.mem_cons_of_mem _ hi) hx hx') k lb hk
        rcases hset k lb0 hlb0 with ⟨rfl, rfl⟩ | ⟨hne, hlb0⟩
        · refine ⟨lbj, hLj, f1, f2, f3, .inl ⟨List.mem_cons_self .., ?_⟩⟩
          rcases f4 with ⟨_, x, hx, hc⟩ | ⟨_, hc⟩
          · exact ⟨x, hx, hc⟩
          · exact ⟨lb', hj, hc⟩
        · refine ⟨lb0, hlb0, f1, f2, f3, ?_⟩
          rcases f4 with ⟨h1, h2⟩ | ⟨h1, h2⟩
          · exact .inl ⟨List.mem_cons_of_mem _ h1, h2⟩
          · exact .inr ⟨by simp only [List.mem_cons, not_or]; exact ⟨hne, h1⟩, h2⟩
      · cases h
    · cases h

theorem fixL_get {ls : List Nat} : ∀ (L L' : List LB) (i : Nat), fixL ls i L L' → ∀ (k : Nat) (lb lb' : LB), L[k]? = some lb → L'[k]? = some lb' →
    if ls.contains (i + k) then lb'.cs.drop lb.ls.length = lb.cs.drop lb.ls.length else lb'.cs = lb.cs := by
  intro L
  induction L with
  | nil => intro L' i _ k lb lb' h; simp at h
  | cons x r ih =>
    intro L' i h k lb lb' hk hk'
    cases L' with
    | nil => simp at hk'
    | cons x' r' =>
      simp only [fixL] at h
      cases k with
      | zero =>
        simp at hk hk'
        subst hk hk'
        simp only [Nat.add_zero]
        split at h
        · rename_i e; rw [if_pos e]; exact h.1
        · rename_i e; rw [if_neg (by rw [e]; exact Bool.false_ne_true)]; exact h.1
      | succ k =>
        have hr : fixL ls (i + 1) r r' := by split at h <;> exact h.2
        have := ih r' (i + 1) hr k lb lb' (by simpa using hk) (by simpa using hk')
        rw [show i + 1 + k = i + (k + 1) from by omega] at this
        exact this

section
variable {N : Nat} {u0 : View} {w0 : World}

/-- from a state to a loop's head -/
theorem head_inv {vs : List (Nat × Sh)} {as : List (Nat × Nat)} {ls : List Nat} {st st' : St} {a : Act} {w : World} {K : TupT (flOf vs st.L ls) → Prop} (hi : Inv N u0 w0 st' a w) (hL : LExt st.L st'.L)
    (hls : (ls.all fun k => Nat.blt k st.L.length) = true) (hok : ∀ s, okSV st.L.length (st.ρ s)) (hsame : ∀ s, inRanges as s = false → st'.ρ s = st.ρ s) (h : asT vs ls st st' K) :
    ∃ t junk, K t ∧ Inv N u0 w0 (headSt vs as ls st t junk) a w ∧ LExt st.L (headSt vs as ls st t junk).L := by
  unfold asT at h
  split at h
  · rename_i vals lvals hv hlv
    split at h
    · rename_i t ht
      obtain ⟨hk, hfix⟩ := h
      refine ⟨t, fun s => a.tmps.getD s undef, hk, ?_⟩
      have hvt := getT_vals ht
      have hlt : ∀ k ∈ ls, k < st.L.length := fun k hk => Nat.le_of_ble_eq_true (List.all_eq_true.1 hls k hk)
      have hbase : ∀ s, tv st'.L ((fun s => match inRanges as s with | true => SV.v (a.tmps.getD s undef) | false => st.ρ s) s) = tv st'.L (st'.ρ s) := fun s => by
        simp only
        split
        · exact hi.fr.val s
        · rename_i hs; rw [hsame s hs]
      obtain ⟨g1, g2⟩ := headρ_same st'.L st'.ρ vs vals lvals _ hv hbase
      have hst : headSt vs as ls st t (fun s => a.tmps.getD s undef) = ⟨(headρ vs (vals ++ lvals) (fun s => match inRanges as s with | true => SV.v (a.tmps.getD s undef) | false => st.ρ s)).1, headL ls lvals st.L, st'.u⟩ := by
        unfold headSt
        rw [hvt]
        show (⟨_, headL ls (headρ vs (vals ++ lvals) (fun s => match inRanges as s with | true => SV.v (a.tmps.getD s undef) | false => st.ρ s)).2 st.L, st'.u⟩ : St) = _
        rw [g2]
        rfl
      rw [hst]
      obtain ⟨hext, hlen⟩ := headL_ext ls lvals st.L
      have hfix' := fixL_get st.L st'.L 0 hfix
      have hget := headL_get ls lvals st.L hlv hL hlt (fun k lb lb' hk h1 h2 => by
        have := hfix' k lb lb' h1 h2
        rw [if_pos (by simpa using hk)] at this
        exact this)
      have hback : ∀ (k : Nat) (lb : LB), (headL ls lvals st.L)[k]? = some lb → ∃ lb', st'.L[k]? = some lb' ∧ lb'.b = lb.b ∧ lb'.T = lb.T ∧ lb.cs = lb'.cs := fun k lb hk => by
        obtain ⟨lb0, h0, e1, e2, e3, hc⟩ := hget k lb hk
        obtain ⟨lb', hl', f1, f2, f3⟩ := hL k lb0 h0
        refine ⟨lb', hl', by rw [e1, f1], by rw [e2, f2], ?_⟩
        rcases hc with ⟨_, x, hx, hc⟩ | ⟨hn, hc⟩
        · rw [hl'] at hx; cases hx; exact hc
        · have := hfix' k lb0 lb' h0 hl'
          rw [if_neg (by simpa using hn)] at this
          rw [hc, this]
      have hokρ : ∀ s, okSV (headL ls lvals st.L).length ((headρ vs (vals ++ lvals) (fun s => match inRanges as s with | true => SV.v (a.tmps.getD s undef) | false => st.ρ s)).1 s) := by
        rw [hlen]
        refine headρ_ok vs _ _ fun s => ?_
        cases inRanges as s with
        | true => trivial
        | false => exact hok s
      have htv : ∀ (x : SV), okSV st.L.length x → tv (headL ls lvals st.L) x = tv st'.L x := fun x hx => by rw [tv_ext hext hx, tv_ext hL hx]
      refine ⟨⟨⟨hi.fr.size, hi.fr.nodef, fun s => ?_, hokρ⟩, ?_⟩, hext⟩
      · have hs := hokρ s
        rw [hlen] at hs
        show _ = tv (headL ls lvals st.L) _
        rw [htv _ hs, g1 s]
        exact hi.fr.val s
      · refine ⟨hi.wok.sub, fun k lb hk => ?_, fun k lb hk => ?_, fun j k x y hj hk e => ?_, hi.wok.grow, hi.wok.frame, hi.wok.dom, fun k lb hk => ?_⟩
        · obtain ⟨lb', h1, h2, h3, h4⟩ := hback k lb hk
          have := hi.wok.loc k lb' h1
          rw [h2, h3, ← h4] at this
          exact this
        · obtain ⟨lb', h1, h2, h3, h4⟩ := hback k lb hk
          rw [← h2]; exact hi.wok.unk k lb' h1
        · obtain ⟨x', h1, h2, _⟩ := hback j x hj
          obtain ⟨y', g1, g2, _⟩ := hback k y hk
          exact hi.wok.dist j k x' y' h1 g1 (by rw [h2, g2, e])
        · obtain ⟨lb', h1, h2, h3, h4⟩ := hback k lb hk
          rw [← h2]; exact hi.wok.domL k lb' h1
    · exact h.elim
  · exact h.elim

theorem head_same {vs : List (Nat × Sh)} {as : List (Nat × Nat)} {ls : List Nat} {st : St} {t : TupT (flOf vs st.L ls)} {junk : Nat → Value} (hvs : (vs.all fun p => inRanges as p.1) = true)
    {s : Nat} (hs : inRanges as s = false) : (headSt vs as ls st t junk).ρ s = st.ρ s := by
  unfold headSt
  generalize valsT _ t = x
  obtain ⟨vals, u⟩ := x
  simp only
  rw [headρ_spec vs vals _ s (fun p hp e => by
    have := List.all_eq_true.1 hvs p hp
    rw [e, hs] at this; cases this)]
  rw [hs]

end
end Go.Proofs.Ytkjddlgaldnbnaa
end

/-
  THE CALCULUS, PART 17: what 'VC' says of code is what it does.
-/
section
set_option linter.unusedSimpArgs false
set_option linter.unusedVariables false
namespace Go.Proofs.Ytkjddlgaldnbnaa

section
variable {P : Program} {M : Nat} {pf : FuncId → Option (List Value → Option Value)} {N : Nat} {u0 : View} {w0 : World}

theorem QPost.weaken {st : St} {ch ch' : Nat → Prop} {K K' : Exit → St → Prop} {e : Exit} {a : Act} {w : World} (h : QPost N u0 w0 st ch K e a w)
    (hch : ∀ s, ¬ ch' s → ¬ ch s) (hk : ∀ st', K e st' → K' e st') : QPost N u0 w0 st ch' K' e a w :=
  let ⟨st', hi, hL, hρ, k⟩ := h
  ⟨st', hi, hL, fun s hs => hρ s (hch s hs), hk _ k⟩

/-- one after the other -/
theorem QPost.trans {st st1 : St} {ch1 ch' : Nat → Prop} {K : Exit → St → Prop} {e : Exit} {a : Act} {w : World} (h : QPost N u0 w0 st1 ch1 K e a w)
    (hL : LExt st.L st1.L) (hρ : ∀ s, ¬ ch' s → st1.ρ s = st.ρ s) (hch : ∀ s, ¬ ch' s → ¬ ch1 s) : QPost N u0 w0 st ch' K e a w :=
  let ⟨st', hi, hL', hρ', k⟩ := h
  ⟨st', hi, hL.trans hL', fun s hs => (hρ' s (hch s hs)).trans (hρ s hs), k⟩

theorem dsts_of {ops : Array Oper} {as : List (Nat × Nat)} (h : (ops.all fun o => match o.dst with | some d => inRanges as d | none => true) = true) (j : Nat) (o : Oper) (d : Nat) (hj : ops[j]? = some o) (hd : o.dst = some d) : inRanges as d = true := by
  have hj' : j < ops.size := by
    rcases Nat.lt_or_ge j ops.size with h' | h'
    · exact h'
    · rw [Array.getElem?_eq_none h'] at hj; cases hj
  have := Array.all_eq_true.1 h j hj'
  rw [Array.getElem?_eq_getElem hj'] at hj
  cases hj
  rw [hd] at this
  exact this

theorem seq_wp {a b : Code} {l r ann : Ann} {K : Exit → St → Prop} {st : St} {ac : Act} {w : World}
    (hl : ∀ s, ¬ chOf (.seq a b) ann s → ¬ chOf a l s) (hr : ∀ s, ¬ chOf (.seq a b) ann s → ¬ chOf b r s)
    (ha : a.wp P (QPost N u0 w0 st (chOf a l) (fun e st' => match e with | .normal => VC P M pf b r K st' | e => K e st')) ac w)
    (hb : ∀ st' a' w', Inv N u0 w0 st' a' w' → VC P M pf b r K st' → b.wp P (QPost N u0 w0 st' (chOf b r) K) a' w') :
    (Code.seq a b).wp P (QPost N u0 w0 st (chOf (.seq a b) ann) K) ac w := by
  refine wp_seq (wp_mono ha ?_)
  intro e a' w' hq
  cases e with
  | normal =>
    obtain ⟨st', hi, hL, hρ, k⟩ := hq
    exact wp_mono (hb st' a' w' hi k) fun e a w h => h.trans hL (fun s hs => hρ s (hl s hs)) hr
  | exit id => exact hq.weaken hl fun _ k => k
  | goto l => exact hq.weaken hl fun _ k => k
  | ret => exact hq.weaken hl fun _ k => k
  | panic ch => exact hq.weaken hl fun _ k => k
  | outgrown => exact hq.weaken hl fun _ k => k

theorem know_L (st : St) (c : Operand) (b : Bool) : (st.know c b).L = st.L := by cases c <;> rfl
theorem LExt.of_eq {L L' : List LB} (h : L = L') : LExt L L' := h ▸ LExt.refl L

theorem VC_wp (hM : CK P M) (hpf : PureOK P pf) (hmix : P.follows .mixedOrders = true) : ∀ (c : Code) (ann : Ann) (K : Exit → St → Prop) (st : St) (a : Act) (w : World),
    asgIn [(0, N)] c = true → VC P M pf c ann K st → Inv N u0 w0 st a w → c.wp P (QPost N u0 w0 st (chOf c ann) K) a w := by
  intro c
  induction c with
  | skip =>
    intro ann K st a w _ h hi
    exact wp_skip ⟨st, hi, LExt.refl _, fun _ _ => rfl, by unfold VC at h; exact h⟩
  | exit id =>
    intro ann K st a w _ h hi
    exact wp_exit ⟨st, hi, LExt.refl _, fun _ _ => rfl, by unfold VC at h; exact h⟩
  | ret =>
    intro ann K st a w _ h hi
    exact wp_ret ⟨st, hi, LExt.refl _, fun _ _ => rfl, by unfold VC at h; exact h⟩
  | region id ops draw =>
    intro ann K st a w hN h hi
    have hch : ∀ (j : Nat) (o : Oper) (d : Nat), ops[j]? = some o → o.dst = some d → chOf (.region id ops draw) ann d ∧ d < N := fun j o d hj hd =>
      ⟨fun as has _ => dsts_of has j o d hj hd, inRanges_lt.1 (dsts_of hN j o d hj hd)⟩
    cases draw with
    | false =>
      unfold VC at h
      exact wp_region_list (opsV_wp hM hpf st hch ops.toList (fun o ho => by
        obtain ⟨j, hj⟩ := List.getElem?_of_mem ho
        exact ⟨j, by rw [← hj]; simp⟩) st a w h hi (LExt.refl _) (fun _ _ => rfl))
    | true =>
      unfold VC at h
      exact draw_wp hM hpf hmix hch h hi
  | seq x y ihx ihy =>
    intro ann K st a w hN h hi
    have hx : asgIn [(0, N)] x = true := by simp only [asgIn, Bool.and_eq_true] at hN; exact hN.1
    have hy : asgIn [(0, N)] y = true := by simp only [asgIn, Bool.and_eq_true] at hN; exact hN.2
    have plain : ∀ l r, (∀ s, ¬ chOf (.seq x y) ann s → ¬ chOf x l s) → (∀ s, ¬ chOf (.seq x y) ann s → ¬ chOf y r s) →
        VC P M pf x l (fun e st' => match e with | .normal => VC P M pf y r K st' | e => K e st') st → (Code.seq x y).wp P (QPost N u0 w0 st (chOf (.seq x y) ann) K) a w := fun l r hl hr h =>
      seq_wp hl hr (ihx l _ st a w hx h hi) fun st' a' w' hi' k => ihy r K st' a' w' hy k hi'
    have sub : ∀ l r, (∀ as, annIn as ann = true → annIn as l = true ∧ annIn as r = true) → (∀ s, ¬ chOf (.seq x y) ann s → ¬ chOf x l s) ∧ (∀ s, ¬ chOf (.seq x y) ann s → ¬ chOf y r s) := fun l r hlr =>
      ⟨fun s hs => by
        obtain ⟨as, h1, h2, h3⟩ := not_ch.1 hs
        simp only [asgIn, Bool.and_eq_true] at h1
        exact not_ch.2 ⟨as, h1.1, (hlr as h2).1, h3⟩, fun s hs => by
        obtain ⟨as, h1, h2, h3⟩ := not_ch.1 hs
        simp only [asgIn, Bool.and_eq_true] at h1
        exact not_ch.2 ⟨as, h1.2, (hlr as h2).2, h3⟩⟩
    have no : VC P M pf x .no (fun e st' => match e with | .normal => VC P M pf y .no K st' | e => K e st') st → (Code.seq x y).wp P (QPost N u0 w0 st (chOf (.seq x y) ann) K) a w := fun h =>
      let s := sub .no .no fun _ _ => ⟨rfl, rfl⟩
      plain .no .no s.1 s.2 h
    cases ann with
    | no => unfold VC at h; exact no h
    | seq l r =>
      unfold VC at h
      have s := sub l r fun as h => by simp only [annIn, Bool.and_eq_true] at h; exact h
      exact plain l r s.1 s.2 h
    | cond l r => unfold VC at h; exact no h
    | block x => unfold VC at h; exact no h
    | loop vs as ls x => unfold VC at h; exact no h
    | cut vs as ls l r =>
      unfold VC at h
      split at h
      · rename_i hc
        obtain ⟨h1, h2, h3, h4⟩ := hc
        obtain ⟨J, hJ, hrest⟩ := h
        have s := sub l r fun as h => by simp only [annIn, Bool.and_eq_true] at h; exact ⟨h.1.2, h.2⟩
        refine wp_seq (wp_mono (ihx l _ st a w hx hJ hi) ?_)
        intro e a' w' hq
        cases e with
        | normal =>
          obtain ⟨st', hi', hL, hρ, k⟩ := hq
          obtain ⟨t, junk, ht, hinv, hL'⟩ := head_inv hi' hL h4 hi.fr.ok (fun s hs => hρ s (not_ch.2 ⟨as, h1, h2, hs⟩)) k
          refine wp_mono (ihy r K _ a' w' hy ((hrest junk).get t ht) hinv) fun e a w h => h.trans hL' (fun s' hs => ?_) s.2
          obtain ⟨as0, g1, g2, g3⟩ := not_ch.1 hs
          simp only [annIn, Bool.and_eq_true] at g2
          refine head_same h3 ?_
          cases e' : inRanges as s' with
          | false => rfl
          | true => rw [inRanges_sub g2.1.1.2 e'] at g3; cases g3
        | exit id => exact hq.weaken s.1 fun _ k => k
        | goto l => exact hq.weaken s.1 fun _ k => k
        | ret => exact hq.weaken s.1 fun _ k => k
        | panic ch => exact hq.weaken s.1 fun _ k => k
        | outgrown => exact hq.weaken s.1 fun _ k => k
      · exact h.elim
  | cond c x y ihx ihy =>
    intro ann K st a w hN h hi
    have hx : asgIn [(0, N)] x = true := by simp only [asgIn, Bool.and_eq_true] at hN; exact hN.1.2
    have hy : asgIn [(0, N)] y = true := by simp only [asgIn, Bool.and_eq_true] at hN; exact hN.2
    have sub : ∀ l r, (∀ as, annIn as ann = true → annIn as l = true ∧ annIn as r = true) → (∀ s, ¬ chOf (.cond c x y) ann s → ¬ chOf x l s) ∧ (∀ s, ¬ chOf (.cond c x y) ann s → ¬ chOf y r s) := fun l r hlr =>
      ⟨fun s hs => by
        obtain ⟨as, h1, h2, h3⟩ := not_ch.1 hs
        simp only [asgIn, Bool.and_eq_true] at h1
        exact not_ch.2 ⟨as, h1.1.2, (hlr as h2).1, h3⟩, fun s hs => by
        obtain ⟨as, h1, h2, h3⟩ := not_ch.1 hs
        simp only [asgIn, Bool.and_eq_true] at h1
        exact not_ch.2 ⟨as, h1.2, (hlr as h2).2, h3⟩⟩
    have key : ∀ l r, (∀ s, ¬ chOf (.cond c x y) ann s → ¬ chOf x l s) ∧ (∀ s, ¬ chOf (.cond c x y) ann s → ¬ chOf y r s) →
        (match st.ev c with
          | .bl true => VC P M pf x l K st
          | .bl false => VC P M pf y r K st
          | .v (.bool t) => (t = true → VC P M pf x l K (st.know c true)) ∧ (t = false → VC P M pf y r K (st.know c false))
          | _ => False) → (Code.cond c x y).wp P (QPost N u0 w0 st (chOf (.cond c x y) ann) K) a w := fun l r s h => by
      have hv := hi.fr.eval c
      have know : ∀ {b : Bool}, st.ev c = .v (.bool b) → Inv N u0 w0 (st.know c b) a w := fun {b} e => by
        cases c with
        | tmp s => exact ⟨hi.fr.refine (by simp only [St.ev] at e; rw [e]; rfl) trivial, hi.wok⟩
        | const v => exact hi
        | global g => exact hi
        | func f => exact hi
      have kn : ∀ (b : Bool) (s : Nat), ¬ chOf (.cond c x y) ann s → (st.know c b).ρ s = st.ρ s := fun b s hs => by
        obtain ⟨as, h1, _, h3⟩ := not_ch.1 hs
        cases c with
        | tmp s' =>
          simp only [asgIn, Bool.and_eq_true] at h1
          refine upd_ne _ _ fun e => ?_
          rw [e, h1.1.1] at h3
          cases h3
        | const v => rfl
        | global g => rfl
        | func f => rfl
      split at h
      · rename_i e; rw [e] at hv
        exact wp_cond_true hv (wp_mono (ihx l K st a w hx h hi) fun _ _ _ h => h.weaken s.1 fun _ k => k)
      · rename_i e; rw [e] at hv
        exact wp_cond_false hv (wp_mono (ihy r K st a w hy h hi) fun _ _ _ h => h.weaken s.2 fun _ k => k)
      · rename_i t e; rw [e] at hv
        refine wp_cond_split hv (fun ht => ?_) (fun ht => ?_)
        · subst ht
          exact wp_mono (ihx l K _ a w hx (h.1 rfl) (know e)) fun _ _ _ h => h.trans (LExt.of_eq (know_L st c true).symm) (kn true) s.1
        · subst ht
          exact wp_mono (ihy r K _ a w hy (h.2 rfl) (know e)) fun _ _ _ h => h.trans (LExt.of_eq (know_L st c false).symm) (kn false) s.2
      · exact h.elim
    unfold VC at h
    cases ann with
    | cond l r => exact key l r (sub l r fun as h => by simp only [annIn, Bool.and_eq_true] at h; exact h) h
    | no => exact key .no .no (sub _ _ fun _ _ => ⟨rfl, rfl⟩) h
    | seq l r => exact key .no .no (sub _ _ fun _ _ => ⟨rfl, rfl⟩) h
    | block x => exact key .no .no (sub _ _ fun _ _ => ⟨rfl, rfl⟩) h
    | loop vs as ls x => exact key .no .no (sub _ _ fun _ _ => ⟨rfl, rfl⟩) h
    | cut vs as ls l r => exact key .no .no (sub _ _ fun _ _ => ⟨rfl, rfl⟩) h
  | block id c ih =>
    intro ann K st a w hN h hi
    have hc : asgIn [(0, N)] c = true := by simpa only [asgIn] using hN
    have key : ∀ x, (∀ as, annIn as ann = true → annIn as x = true) →
        VC P M pf c x (fun e st' => match e with | .exit j => (match Nat.beq j id with | true => K .normal st' | false => K (.exit j) st') | e => K e st') st →
        (Code.block id c).wp P (QPost N u0 w0 st (chOf (.block id c) ann) K) a w := fun x hx h => by
      have s : ∀ s, ¬ chOf (.block id c) ann s → ¬ chOf c x s := fun s hs => by
        obtain ⟨as, h1, h2, h3⟩ := not_ch.1 hs
        simp only [asgIn] at h1
        exact not_ch.2 ⟨as, h1, hx as h2, h3⟩
      refine wp_block (wp_mono (ih x _ st a w hc h hi) ?_)
      intro e a' w' hq
      cases e with
      | exit j =>
        by_cases e : j = id
        · subst e
          simp only [Exit.inBlock, if_true]
          obtain ⟨st', hi', hL, hρ, k⟩ := hq
          exact ⟨st', hi', hL, fun s' hs => hρ s' (s s' hs), by simpa using k⟩
        · simp only [Exit.inBlock, if_neg e]
          refine hq.weaken s fun _ k => ?_
          have : Nat.beq j id = false := by
            cases hb : Nat.beq j id with
            | false => rfl
            | true => exact absurd (Nat.eq_of_beq_eq_true hb) e
          simpa only [this] using k
      | normal => exact hq.weaken s fun _ k => k
      | goto l => exact hq.weaken s fun _ k => k
      | ret => exact hq.weaken s fun _ k => k
      | panic ch => exact hq.weaken s fun _ k => k
      | outgrown => exact hq.weaken s fun _ k => k
    cases ann with
    | block x => unfold VC at h; exact key x (fun _ h => by simpa only [annIn] using h) h
    | no => unfold VC at h; exact key .no (fun _ _ => rfl) h
    | seq l r => unfold VC at h; exact key .no (fun _ _ => rfl) h
    | cond l r => unfold VC at h; exact key .no (fun _ _ => rfl) h
    | loop vs as ls x => unfold VC at h; exact key .no (fun _ _ => rfl) h
    | cut vs as ls l r => unfold VC at h; exact key .no (fun _ _ => rfl) h
  | loop c ih =>
    intro ann K st a w hN h hi
    have hc : asgIn [(0, N)] c = true := by simpa only [asgIn] using hN
    cases ann with
    | loop vs as ls x =>
      unfold VC at h
      split at h
      · rename_i hcond
        obtain ⟨h1, h2, h3, h4⟩ := hcond
        obtain ⟨I, μ, h0, hround⟩ := h
        obtain ⟨t0, junk0, ht0, hinv0, hL0⟩ := head_inv (as := as) hi (LExt.refl _) h4 hi.fr.ok (fun _ _ => rfl) h0
        refine wp_loop_ghost (fun n a w => ∃ t junk, I t ∧ μ t = n ∧ Inv N u0 w0 (headSt vs as ls st t junk) a w ∧ LExt st.L (headSt vs as ls st t junk).L) (μ t0)
          ⟨t0, junk0, ht0, rfl, hinv0, hL0⟩ ?_
        rintro n a1 w1 ⟨t, junk, ht, rfl, hinv, hL1⟩
        have s : ∀ s, ¬ chOf (.loop c) (.loop vs as ls x) s → inRanges as s = false ∧ ¬ chOf c x s := fun s hs => by
          obtain ⟨as0, g1, g2, g3⟩ := not_ch.1 hs
          simp only [annIn, Bool.and_eq_true] at g2
          simp only [asgIn] at g1
          refine ⟨?_, not_ch.2 ⟨as0, g1, g2.2, g3⟩⟩
          cases e' : inRanges as s with
          | false => rfl
          | true => rw [inRanges_sub g2.1.2 e'] at g3; cases g3
        have out : ∀ (e : Exit) (a' : Act) (w' : World), QPost N u0 w0 (headSt vs as ls st t junk) (chOf c x) K e a' w' → QPost N u0 w0 st (chOf (.loop c) (.loop vs as ls x)) K e a' w' := fun e a' w' hq =>
          hq.trans hL1 (fun s' hs => head_same h3 (s s' hs).1) (fun s' hs => (s s' hs).2)
        refine wp_mono (ih x _ _ a1 w1 hc ((hround junk).get t ht) hinv) ?_
        intro e a' w' hq
        cases e with
        | normal =>
          obtain ⟨st', hi', hL, hρ, k⟩ := hq
          obtain ⟨t', junk', ⟨hI', hμ⟩, hinv', hL'⟩ := head_inv (as := as) hi' (hL1.trans hL) h4 hi.fr.ok (fun s hs => by
            rw [hρ s (not_ch.2 ⟨as, h1, h2, hs⟩)]
            exact head_same h3 hs) k
          exact ⟨μ t', hμ, t', junk', hI', rfl, hinv', hL'⟩
        | exit id => exact out _ _ _ (hq.weaken (fun _ h => h) fun _ k => k)
        | goto l => exact out _ _ _ (hq.weaken (fun _ h => h) fun _ k => k)
        | ret => exact out _ _ _ (hq.weaken (fun _ h => h) fun _ k => k)
        | panic ch => exact out _ _ _ (hq.weaken (fun _ h => h) fun _ k => k)
        | outgrown => exact out _ _ _ (hq.weaken (fun _ h => h) fun _ k => k)
      · exact h.elim
    | no => unfold VC at h; exact h.elim
    | seq l r => unfold VC at h; exact h.elim
    | cond l r => unfold VC at h; exact h.elim
    | block x => unfold VC at h; exact h.elim
    | cut vs as ls l r => unfold VC at h; exact h.elim
  | rangeFunc f ps x y ihx ihy => intro ann K st a w _ h _; unfold VC at h; exact h.elim
  | scope c ih => intro ann K st a w _ h _; unfold VC at h; exact h.elim
  | label l => intro ann K st a w _ h _; unfold VC at h; exact h.elim
  | goto l => intro ann K st a w _ h _; unfold VC at h; exact h.elim
  | refuse s => intro ann K st a w _ h _; unfold VC at h; exact h.elim

end
end Go.Proofs.Ytkjddlgaldnbnaa
end

/-
  THE CALCULUS, PART 18: a whole function.
-/
section
set_option linter.unusedSimpArgs false
set_option linter.unusedVariables false
namespace Go.Proofs.Ytkjddlgaldnbnaa

/-- own blocks are known again -/
def expose (L : List LB) : List Nat → View → (View → Prop) → Prop
  | [], u, K => K u
  | k :: r, u, K =>
    match L[k]? with
    | some lb => expose L r (u.set lb.b (.cells lb.cs.toArray lb.T (0, 0))) K
    | none => False

/-- the results -/
def resL (P : Program) (st : St) : List ResultVar → Option (List SV)
  | [] => some []
  | .tmp t :: r =>
    match resL P st r with
    | some xs => some (st.ρ t :: xs)
    | none => none
  | .cell a T :: r =>
    match st.ρ a, resL P st r, aggT? P T with
    | .loc k off, some xs, some false =>
      match st.L[k]? with
      | some lb => match lb.cs[off]? with
        | some v => some (.v v :: xs)
        | none => none
      | none => none
    | _, _, _ => none

def tupV : List Value → Value
  | [v] => v
  | vs => .tuple vs.toArray

/-- what holds where a function ends -/
def endV (P : Program) (rs : List ResultVar) (outs : List Nat) (R : Value → View → Prop) : Exit → St → Prop
  | .normal, st | .ret, st =>
    match resL P st rs with
    | some xs => expose st.L (outs ++ ksOf xs) st.u fun u' => R (tupV (xs.map (tv st.L))) u'
    | none => False
  | _, _ => False

/-- the blocks that a function takes as its own -/
def preOK (u : View) : List LB → Prop
  | [] => True
  | lb :: r => u.m lb.b = some (.cells lb.cs.toArray lb.T (0, 0)) ∧ (∀ x ∈ r, x.b ≠ lb.b) ∧ preOK u r

def delAll (u : View) : List LB → View
  | [] => u
  | lb :: r => (delAll u r).del lb.b

def argsρ (xs : List SV) : Nat → SV := fun t => match xs[t]? with | some x => x | none => .v undef

/-- what is to be shown of a function -/
def VCfun (P : Program) (M : Nat) (pf : FuncId → Option (List Value → Option Value)) (c : Code) (rs : List ResultVar) (ann : Ann) (L0 : List LB) (xs : List SV) (outs : List Nat) (u : View) (R : Value → View → Prop) : Prop :=
  VC P M pf c ann (endV P rs outs R) ⟨argsρ xs, L0, delAll u L0⟩

theorem delAll_none {u : View} : ∀ {L : List LB} {b : Nat}, (∃ lb ∈ L, lb.b = b) → (delAll u L).m b = none := by
  intro L
  induction L with
  | nil => intro b ⟨_, h, _⟩; cases h
  | cons x r ih =>
    intro b ⟨lb, h, e⟩
    simp only [delAll]
    by_cases hx : b = x.b
    · subst hx; exact View.del_self _ _
    · rw [View.del_ne _ hx]
      rcases List.mem_cons.1 h with rfl | h
      · exact absurd e.symm hx
      · exact ih ⟨lb, h, e⟩

theorem delAll_some {u : View} : ∀ {L : List LB} {b : Nat} {o : Obj}, (delAll u L).m b = some o → u.m b = some o := by
  intro L
  induction L with
  | nil => intro b o h; exact h
  | cons x r ih =>
    intro b o h
    simp only [delAll] at h
    by_cases hx : b = x.b
    · subst hx; rw [View.del_self] at h; cases h
    · rw [View.del_ne _ hx] at h; exact ih h

theorem delAll_lim {u : View} : ∀ {L : List LB}, (delAll u L).lim = u.lim := by
  intro L
  induction L with
  | nil => rfl
  | cons x r ih => exact ih

theorem preOK_get {u : View} : ∀ {L : List LB}, preOK u L → ∀ (k : Nat) (lb : LB), L[k]? = some lb → u.m lb.b = some (.cells lb.cs.toArray lb.T (0, 0)) := by
  intro L
  induction L with
  | nil => intro _ k lb h; simp at h
  | cons x r ih =>
    intro h k lb hk
    cases k with
    | zero => simp at hk; subst hk; exact h.1
    | succ k => exact ih h.2.2 k lb (by simpa using hk)

theorem preOK_dist {u : View} : ∀ {L : List LB}, preOK u L → ∀ (j k : Nat) (x y : LB), L[j]? = some x → L[k]? = some y → x.b = y.b → j = k := by
  intro L
  induction L with
  | nil => intro _ j k x y h; simp at h
  | cons z r ih =>
    intro h j k x y hj hk e
    cases j with
    | zero =>
      cases k with
      | zero => rfl
      | succ k => simp at hj hk; subst hj; exact absurd e.symm (h.2.1 y (List.mem_of_getElem? hk))
    | succ j =>
      cases k with
      | zero => simp at hj hk; subst hk; exact absurd e (h.2.1 x (List.mem_of_getElem? hj))
      | succ k => rw [ih h.2.2 j k x y (by simpa using hj) (by simpa using hk) e]

section
variable {P : Program} {M : Nat} {pf : FuncId → Option (List Value → Option Value)}

theorem WOK.start {u0 : View} {w0 : World} (hs : Sub u0 w0) {L : List LB} (hp : preOK u0 L) : WOK u0 w0 L (delAll u0 L) w0 where
  sub := ⟨by rw [delAll_lim]; exact hs.1, fun b o h => hs.2 _ _ (delAll_some h)⟩
  loc k lb hk := hs.2 _ _ (preOK_get hp k lb hk)
  unk k lb hk := delAll_none ⟨lb, List.mem_of_getElem? hk, rfl⟩
  dist := preOK_dist hp
  grow := Ge.refl _
  frame _ _ _ := rfl
  dom b o h := .inl (by rw [delAll_some h]; simp)
  domL k lb hk := .inl (by rw [preOK_get hp k lb hk]; simp)

theorem expose_ok {u0 : View} {w0 : World} {L : List LB} {w : World} (hloc : LocOK L w) (hdomL : ∀ (k : Nat) (lb : LB), L[k]? = some lb → u0.m lb.b ≠ none ∨ w0.heap.size ≤ lb.b) {K : View → Prop} :
    ∀ (ks : List Nat) (u : View), Sub u w → (∀ b o, u.m b = some o → u0.m b ≠ none ∨ w0.heap.size ≤ b) → expose L ks u K →
      ∃ u', Sub u' w ∧ (∀ b o, u'.m b = some o → u0.m b ≠ none ∨ w0.heap.size ≤ b) ∧ K u' := by
  intro ks
  induction ks with
  | nil => exact fun u hs hd h => ⟨u, hs, hd, h⟩
  | cons k r ih =>
    intro u hs hd h
    simp only [expose] at h
    split at h
    · rename_i lb hk
      refine ih _ ⟨?_, fun b o hm => ?_⟩ (fun b o hm => ?_) h
      · have := heap_lt (hloc k lb hk); have := hs.1; simp only [View.set]; omega
      · by_cases e : b = lb.b
        · subst e; rw [View.set_self] at hm; cases hm; exact hloc k lb hk
        · rw [View.set_ne _ _ e] at hm; exact hs.2 _ _ hm
      · by_cases e : b = lb.b
        · subst e; exact hdomL k lb hk
        · rw [View.set_ne _ _ e] at hm; exact hd _ _ hm
    · exact h.elim

def rvM (tmps : Array Value) : ResultVar → Sem Value
  | .tmp t => pure (tmps.getD t undef)
  | .cell a t => do loadVar t (← asAddr (tmps.getD a undef))

theorem rvM_list {N : Nat} {u0 : View} {w0 : World} {st : St} {a : Act} {w : World} (hi : Inv N u0 w0 st a w) : ∀ (rs : List ResultVar) (xs : List SV), resL P st rs = some xs →
    (rs.mapM (rvM a.tmps)).run P w = .ok (xs.map (tv st.L)) w := by
  intro rs
  induction rs with
  | nil => intro xs h; simp [resL] at h; subst h; simp
  | cons r rs ih =>
    intro xs h
    cases r with
    | tmp t =>
      simp only [resL] at h
      split at h <;> cases h
      rename_i xs' h1
      simp only [List.mapM_cons, Sem.run_bind, rvM, Sem.run_pure, Result.andThen, ih xs' h1, List.map_cons]
      rw [hi.fr.val t]
    | cell c T =>
      simp only [resL] at h
      split at h
      · rename_i k off xs' h0 h1 h2
        split at h
        · rename_i lb hk
          split at h
          · rename_i v hv
            cases h
            have hval := hi.fr.val c
            rw [h0] at hval
            simp only [tv, locAddr, hk] at hval
            have hc : w.cell? ⟨lb.b, off, none⟩ = some v := by
              simp only [World.cell?, hi.wok.loc k lb hk]
              simpa using hv
            have := aggT?_run h2 w
            simp only [List.mapM_cons, Sem.run_bind, rvM, hval, asAddr, Sem.run_pure, Result.andThen, loadVar, this.1, Bool.false_eq_true, if_false, run_load, hc, ih xs' h1, List.map_cons, tv]
          · cases h
        · cases h
      · cases h

theorem endV_post {N : Nat} {u0 : View} {w0 : World} {fn : Func} {outs : List Nat} {R : Value → View → Prop} {e : Exit} {st : St} {a : Act} {w : World} (hi : Inv N u0 w0 st a w)
    (h : endV P fn.results.toList outs R e st) : bodyPost P fn (fun e w' => ∃ v u', e = .returned v ∧ Sub u' w' ∧ Ge w0 w' ∧
      (∀ b, b < w0.heap.size → u0.m b = none → w'.heap[b]? = w0.heap[b]?) ∧ (∀ b o, u'.m b = some o → u0.m b ≠ none ∨ w0.heap.size ≤ b) ∧ R v u') e a w := by
  have key : (match resL P st fn.results.toList with
    | some xs => expose st.L (outs ++ ksOf xs) st.u fun u' => R (tupV (xs.map (tv st.L))) u'
    | none => False) → a.defers = [] ∧ ∃ v, (results fn a.tmps).run P w = .ok v w ∧ (∃ v' u', Ending.returned v = .returned v' ∧ Sub u' w ∧ Ge w0 w ∧
      (∀ b, b < w0.heap.size → u0.m b = none → w.heap[b]? = w0.heap[b]?) ∧ (∀ b o, u'.m b = some o → u0.m b ≠ none ∨ w0.heap.size ≤ b) ∧ R v' u') := fun h => by
    split at h
    · rename_i xs hx
      obtain ⟨u', hs, hd, hR⟩ := expose_ok hi.wok.loc hi.wok.domL _ _ hi.wok.sub hi.wok.dom h
      refine ⟨hi.fr.nodef, tupV (xs.map (tv st.L)), ?_, _, u', rfl, hs, hi.wok.grow, hi.wok.frame, hd, hR⟩
      have hm := rvM_list hi _ _ hx
      have hr : (fn.results.mapM (rvM a.tmps)).run P w = .ok (xs.map (tv st.L)).toArray w := by
        rw [Array.mapM_eq_mapM_toList]
        simp only [Sem.run_map, hm, Result.andThen]
      have hres : results fn a.tmps = (do
        let vs ← fn.results.mapM (rvM a.tmps)
        pure (if h : vs.size = 1 then vs[0] else .tuple vs)) := by
        unfold results
        congr 1
      rw [hres]
      simp only [Sem.run_bind, hr, Result.andThen, Sem.run_pure]
      congr 1
      generalize xs.map (tv st.L) = vs
      rcases vs with _ | ⟨v, _ | ⟨v', vs⟩⟩ <;> simp [tupV]
    · exact h.elim
  cases e with
  | normal => exact key h
  | ret => exact key h
  | exit id => exact h.elim
  | goto l => exact h.elim
  | panic ch => exact h.elim
  | outgrown => exact h.elim

/-- a function does what is shown of it -/
theorem VCfun_calls (hM : CK P M) (hpf : PureOK P pf) (hmix : P.follows .mixedOrders = true) {f : FuncId} {fn : Func} {c : Code} (hf : P.funcs[f]? = some fn) (hb : fn.body = some c)
    {ann : Ann} {L0 : List LB} {xs : List SV} {outs : List Nat} {u : View} {R : Value → View → Prop}
    (hN : asgIn [(0, fn.ntmps)] c = true) (hx : xs.length ≤ fn.ntmps) (hok : ∀ x ∈ xs, okSV L0.length x) (hp : preOK u L0)
    (h : VCfun P M pf c fn.results.toList ann L0 xs outs u R) : CallsV P f (xs.map (tv L0)).toArray u R := by
  intro w hs
  refine calls_of_wp hf hb ?_
  have hfr : FR fn.ntmps L0 (argsρ xs) { tmps := (xs.map (tv L0)).toArray ++ Array.replicate (fn.ntmps - (xs.map (tv L0)).toArray.size) undef, defers := [] } := by
    refine ⟨by simp; omega, rfl, fun t => ?_, fun t => ?_⟩
    · unfold argsρ
      simp only [Array.getD_eq_getD_getElem?]
      rcases Nat.lt_or_ge t xs.length with ht | ht
      · rw [Array.getElem?_append_left (by simpa using ht)]
        simp [List.getElem?_eq_getElem ht]
      · rw [Array.getElem?_append_right (by simpa using ht), List.getElem?_eq_none ht]
        simp [Array.getElem?_replicate, tv]
        split <;> rfl
    · unfold argsρ
      split
      · rename_i x hx'; exact hok x (List.mem_of_getElem? hx')
      · trivial
  exact wp_mono (VC_wp (u0 := u) (w0 := w) hM hpf hmix c ann _ _ _ w hN h ⟨hfr, WOK.start hs hp⟩) fun e a' w' ⟨st', hi, _, _, hk⟩ => endV_post hi hk

end
end Go.Proofs.Ytkjddlgaldnbnaa
end
