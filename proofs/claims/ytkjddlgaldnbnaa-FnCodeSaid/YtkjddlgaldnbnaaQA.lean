import Derived.Test.YtkjddlgaldnbnaaCB

/-
  PLAIN: the depths of code: the program's way and the reference's way come to the same; depths that agree are found.
-/
section
set_option linter.unusedVariables false
set_option linter.unusedSimpArgs false
namespace Go.Proofs.Ytkjddlgaldnbnaa

/-- an op of the machine -/
structure Opn where
  kind : Int
  num : Int
  deriving DecidableEq

/-- how many values an op takes, and puts -/
def takesL (k : Int) : Int × Int :=
  if k = 2 ∨ k = 3 ∨ k = 5 ∨ k = 6 ∨ k = 7 then (0, 1) else if k = 4 ∨ k = 12 ∨ k = 13 ∨ k = 15 ∨ k = 16 then (1, 0) else
  if k = 8 ∨ k = 9 then (1, 1) else if k = 10 then (2, 1) else if k = 14 then (2, 0) else (0, 0)

/-- an op of so many is right by itself -/
def opOk (many : Int) (o : Opn) : Bool :=
  if o.kind = 2 then decide (0 ≤ o.num ∧ o.num ≤ 999999999) else if o.kind = 3 ∨ o.kind = 4 then decide (0 ≤ o.num ∧ o.num ≤ 7) else
  if o.kind = 10 then decide (18 ≤ o.num ∧ o.num ≤ 26) else if o.kind = 11 ∨ o.kind = 12 then decide (0 ≤ o.num ∧ o.num ≤ many) else
  if o.kind = 18 then decide (1 ≤ o.num ∧ o.num ≤ 10) else decide (1 ≤ o.kind ∧ o.kind ≤ 18) && decide (o.num = 0)

/-- the places that come next -/
def nextL (o : Opn) (at_ : Int) : List Int := if o.kind = 11 then [o.num] else if o.kind = 12 then [at_ + 1, o.num] else [at_ + 1]

/-- places are reached with a depth -/
def pushK (d : Int) : List Int → List Int → List Int → Option (List Int × List Int)
  | [], out, todo => some (out, todo)
  | k :: r, out, todo =>
    if out[k.toNat]? = some (-1) then pushK d r (out.set k.toNat d) (todo ++ [k]) else if out[k.toNat]? = some d then pushK d r out todo else none

/-- a place's step: none if it goes wrong -/
def stepK (ops : List Opn) (at_ : Int) (out todo : List Int) : Option (List Int × List Int) :=
  match ops[at_.toNat]?, out[at_.toNat]? with
  | some o, some d => if d - (takesL o.kind).1 < 0 ∨ d - (takesL o.kind).1 + (takesL o.kind).2 > 24 then none else pushK (d - (takesL o.kind).1 + (takesL o.kind).2) (nextL o at_) out todo
  | _, _ => none

/-- the program's way -/
def workI (ops : List Opn) : Nat → List Int → List Int → Option (List Int)
  | 0, _, _ => none
  | F + 1, out, todo => match todo.getLast? with
    | none => some out
    | some at_ => if at_ = ops.length then (if out[ops.length]? = some 0 then workI ops F out todo.dropLast else none)
      else match stepK ops at_ out todo.dropLast with
        | none => none
        | some (out', todo') => workI ops F out' todo'

/-- the reference's way -/
def workS (ops : List Opn) : Nat → List Int → List Int → Option (List Int)
  | 0, _, _ => none
  | F + 1, out, todo => match todo.getLast? with
    | none => if (out[ops.length]?.getD 1) ≤ 0 then some out else none
    | some at_ => if at_ = ops.length then workS ops F out todo.dropLast
      else match stepK ops at_ out todo.dropLast with
        | none => none
        | some (out', todo') => workS ops F out' todo'

theorem pushK_mono {d : Int} : ∀ (l out todo out' todo' : List Int), pushK d l out todo = some (out', todo') → out'.length = out.length ∧
    (∀ (k : Nat) (v : Int), v ≠ -1 → out[k]? = some v → out'[k]? = some v) := by
  intro l
  induction l with
  | nil => intro out todo out' todo' h; simp only [pushK] at h; cases h; exact ⟨rfl, fun _ _ _ h => h⟩
  | cons k r ih =>
    intro out todo out' todo' h
    simp only [pushK] at h
    split at h
    · rename_i hk
      obtain ⟨h1, h2⟩ := ih _ _ _ _ h
      refine ⟨by simpa using h1, fun j v hv hj => h2 j v hv ?_⟩
      rw [List.getElem?_set]
      split
      · rename_i e; subst e; rw [hk] at hj; cases hj; exact absurd rfl hv
      · exact hj
    · split at h
      · exact ih _ _ _ _ h
      · cases h

/-- what holds of places in the program's way -/
def KI (n : Nat) (out todo : List Int) : Prop := out.length = n + 1 ∧ (∀ t ∈ todo, 0 ≤ t ∧ t ≤ n ∧ ∃ v, out[t.toNat]? = some v ∧ v ≠ -1) ∧
  (out[n]? = some (-1) ∨ out[n]? = some 0 ∨ (n : Int) ∈ todo) ∧ ∀ (k : Nat) (v : Int), out[k]? = some v → -1 ≤ v

theorem pushK_KI {n : Nat} {d : Int} (hd : 0 ≤ d) : ∀ (l out todo out' todo' : List Int), (∀ k ∈ l, 0 ≤ k ∧ k ≤ n) → KI n out todo → pushK d l out todo = some (out', todo') → KI n out' todo' := by
  intro l
  induction l with
  | nil => intro out todo out' todo' _ hk h; simp only [pushK] at h; cases h; exact hk
  | cons k r ih =>
    intro out todo out' todo' hl hk h
    have hk0 := hl k (by simp)
    simp only [pushK] at h
    split at h
    · rename_i hm
      refine ih _ _ _ _ (fun j hj => hl j (by simp [hj])) ?_ h
      obtain ⟨h1, h2, h3, h4⟩ := hk
      have hlt : k.toNat < out.length := by omega
      refine ⟨by simpa using h1, fun t ht => ?_, ?_, fun j v hj => ?_⟩
      · rcases List.mem_append.1 ht with ht | ht
        · obtain ⟨a, b, v, c, e⟩ := h2 t ht
          refine ⟨a, b, v, ?_, e⟩
          rw [List.getElem?_set]
          split
          · rename_i e'; rw [← e', hm] at c; cases c; exact absurd rfl e
          · exact c
        · simp at ht; subst ht
          exact ⟨hk0.1, hk0.2, d, by simp [hlt], by omega⟩
      · by_cases e : k.toNat = n
        · right; right; simp; right; omega
        · rw [List.getElem?_set_ne e]
          rcases h3 with h3 | h3 | h3
          · exact .inl h3
          · exact .inr (.inl h3)
          · exact .inr (.inr (by simp [h3]))
      · by_cases e : k.toNat = j
        · subst e; rw [List.getElem?_set_self hlt] at hj; cases hj; omega
        · rw [List.getElem?_set_ne e] at hj; exact h4 j v hj
    · split at h
      · exact ih _ _ _ _ (fun j hj => hl j (by simp [hj])) hk h
      · cases h

/-- the step's parts -/
theorem stepK_some {ops : List Opn} {at_ : Int} {out todo out' todo' : List Int} (h : stepK ops at_ out todo = some (out', todo')) :
    ∃ o d, ops[at_.toNat]? = some o ∧ out[at_.toNat]? = some d ∧ 0 ≤ d - (takesL o.kind).1 ∧ d - (takesL o.kind).1 + (takesL o.kind).2 ≤ 24 ∧
      pushK (d - (takesL o.kind).1 + (takesL o.kind).2) (nextL o at_) out todo = some (out', todo') := by
  unfold stepK at h
  split at h
  · rename_i o d h1 h2
    split at h
    · cases h
    · rename_i h3
      exact ⟨o, d, h1, h2, by omega, by omega, h⟩
  · cases h

theorem takes_pos (k : Int) : 0 ≤ (takesL k).1 ∧ 0 ≤ (takesL k).2 := by
  unfold takesL
  repeat' split
  all_goals simp

theorem next_in {ops : List Opn} {o : Opn} {at_ : Int} (h0 : 0 ≤ at_) (h1 : at_ < ops.length) (ho : ops[at_.toNat]? = some o) (hok : ∀ o ∈ ops, opOk ops.length o = true) : ∀ k ∈ nextL o at_, 0 ≤ k ∧ k ≤ (ops.length : Nat) := by
  have := hok o (List.mem_of_getElem? ho)
  intro k hk
  unfold nextL at hk
  unfold opOk at this
  split at hk
  · rename_i e; simp [e] at this hk; omega
  · split at hk
    · rename_i e; simp [e] at this hk; omega
    · simp at hk; omega

theorem mem_dropLast {l : List Int} {x a : Int} (h : l.getLast? = some a) (hx : x ∈ l) : x = a ∨ x ∈ l.dropLast := by
  have : l = l.dropLast ++ [a] := by
    have hne : l ≠ [] := fun e => by subst e; cases h
    rw [List.getLast?_eq_some_getLast hne] at h
    cases h
    exact (List.dropLast_concat_getLast hne).symm
  rw [this] at hx
  rcases List.mem_append.1 hx with h | h
  · exact .inr h
  · exact .inl (by simpa using h)

theorem last_mem {l : List Int} {a : Int} (h : l.getLast? = some a) : a ∈ l := List.mem_of_getLast? h
theorem drop_mem {l : List Int} {x : Int} (h : x ∈ l.dropLast) : x ∈ l := (List.dropLast_sublist l).subset h

/-- where the end is reached with another depth than nought, the reference says no in the end -/
theorem workS_bad {ops : List Opn} : ∀ (F : Nat) (out todo : List Int) (v : Int), out[ops.length]? = some v → 0 < v → workS ops F out todo = none := by
  intro F
  induction F with
  | zero => intro out todo v _ _; rfl
  | succ F ih =>
    intro out todo v hv h0
    simp only [workS]
    split
    · rw [if_neg (by rw [hv]; simp; omega)]
    · split
      · exact ih _ _ v hv h0
      · split
        · rfl
        · rename_i h
          obtain ⟨o, d, _, _, _, _, hp⟩ := stepK_some h
          exact ih _ _ v ((pushK_mono _ _ _ _ _ hp).2 _ _ (by omega) hv) h0

/-- both ways come to the same -/
theorem work_same {ops : List Opn} (hok : ∀ o ∈ ops, opOk ops.length o = true) : ∀ (F : Nat) (out todo : List Int), KI ops.length out todo → workI ops F out todo = workS ops F out todo := by
  intro F
  induction F with
  | zero => intro out todo _; rfl
  | succ F ih =>
    intro out todo hk
    obtain ⟨h1, h2, h3, h4⟩ := hk
    simp only [workI, workS]
    cases hl : todo.getLast? with
    | none =>
      have : todo = [] := List.getLast?_eq_none_iff.1 hl
      subst this
      simp only
      rcases h3 with h3 | h3 | h3
      · rw [h3]; simp
      · rw [h3]; simp
      · cases h3
    | some at_ =>
      simp only
      have hat := h2 at_ (last_mem hl)
      split
      · rename_i e
        split
        · rename_i h0
          exact ih _ _ ⟨h1, fun t ht => h2 t (drop_mem ht), .inr (.inl h0), h4⟩
        · rename_i h0
          obtain ⟨_, _, v, hv, hne⟩ := hat
          subst e
          simp at hv
          have := h4 _ _ hv
          rw [workS_bad F _ _ v hv]
          rw [hv] at h0
          have : v ≠ 0 := fun e => h0 (by rw [e])
          omega
      · rename_i e
        cases hs : stepK ops at_ out todo.dropLast with
        | none => rfl
        | some p =>
          obtain ⟨out', todo'⟩ := p
          simp only
          obtain ⟨o, d, ho, hd, hd0, hd1, hp⟩ := stepK_some hs
          refine ih _ _ (pushK_KI ?_ _ _ _ _ _ (next_in hat.1 (by omega) ho hok) ⟨h1, fun t ht => h2 t (drop_mem ht), ?_, h4⟩ hp)
          · have := takes_pos o.kind; omega
          · rcases h3 with h3 | h3 | h3
            · exact .inl h3
            · exact .inr (.inl h3)
            · rcases mem_dropLast hl h3 with h3 | h3
              · omega
              · exact .inr (.inr h3)

/-- a bound of the steps that are left -/
def muK (out todo : List Int) : Nat := 2 * out.count (-1) + todo.length

theorem count_set {l : List Int} {k : Nat} {d : Int} (hk : l[k]? = some (-1)) (hd : d ≠ -1) : (l.set k d).count (-1) + 1 = l.count (-1) := by
  induction l generalizing k with
  | nil => simp at hk
  | cons a l ih =>
    cases k with
    | zero =>
      simp at hk; subst hk
      rw [List.set_cons_zero, List.count_cons_of_ne (by simpa using hd), List.count_cons_self]
    | succ k =>
      simp only [List.set_cons_succ, List.count_cons]
      have := ih (k := k) (by simpa using hk)
      omega

theorem pushK_mu {d : Int} (hd : 0 ≤ d) : ∀ (l out todo out' todo' : List Int), pushK d l out todo = some (out', todo') → muK out' todo' ≤ muK out todo := by
  intro l
  induction l with
  | nil => intro out todo out' todo' h; simp only [pushK] at h; cases h; exact Nat.le_refl _
  | cons k r ih =>
    intro out todo out' todo' h
    simp only [pushK] at h
    split at h
    · rename_i hk
      have h1 := ih _ _ _ _ h
      have h2 := count_set hk (d := d) (by omega)
      unfold muK at *
      simp only [List.length_append, List.length_cons, List.length_nil] at h1
      omega
    · split at h
      · exact ih _ _ _ _ h
      · cases h

theorem mu_drop {out todo : List Int} {a : Int} (h : todo.getLast? = some a) : muK out todo.dropLast + 1 = muK out todo := by
  have hne : todo ≠ [] := fun e => by subst e; cases h
  have := List.length_pos_iff.2 hne
  unfold muK
  rw [List.length_dropLast]; omega

/-- a place is reached -/
def Rch (out : List Int) (k : Int) : Prop := ∃ v, out[k.toNat]? = some v ∧ v ≠ -1

theorem pushK_good {n : Nat} {D : List Int} {d : Int} (hd : 0 ≤ d) : ∀ (l out todo : List Int), (∀ k ∈ l, 0 ≤ k ∧ k ≤ n ∧ D[k.toNat]? = some d) → out.length = n + 1 → (∀ (k : Nat) (v : Int), out[k]? = some v → v = -1 ∨ D[k]? = some v) →
    ∃ out' todo', pushK d l out todo = some (out', todo') ∧ out'.length = n + 1 ∧ (∀ (k : Nat) (v : Int), out'[k]? = some v → v = -1 ∨ D[k]? = some v) ∧ (∀ k ∈ l, Rch out' k) ∧
      (∀ k, Rch out k → Rch out' k) ∧ (∀ t ∈ todo', t ∈ todo ∨ t ∈ l) ∧ (∀ t ∈ todo, t ∈ todo') ∧ ∀ k : Int, 0 ≤ k → Rch out' k → Rch out k ∨ k ∈ todo' := by
  intro l
  induction l with
  | nil => intro out todo _ h1 h2; exact ⟨out, todo, rfl, h1, h2, (fun _ h => by cases h), (fun _ h => h), (fun _ h => .inl h), (fun _ h => h), (fun _ _ h => .inl h)⟩
  | cons k r ih =>
    intro out todo hl h1 h2
    obtain ⟨k0, k1, kD⟩ := hl k (by simp)
    have hlt : k.toNat < out.length := by omega
    have hr : ∀ j ∈ r, 0 ≤ j ∧ j ≤ n ∧ D[j.toNat]? = some d := fun j hj => hl j (by simp [hj])
    simp only [pushK]
    have hget : out[k.toNat]? = some out[k.toNat] := List.getElem?_eq_getElem hlt
    rcases h2 _ _ hget with h | h
    · rw [h] at hget
      rw [if_pos hget]
      have hkr : Rch (out.set k.toNat d) k := ⟨d, by rw [List.getElem?_set_self hlt], by omega⟩
      have hup : ∀ j, Rch out j → Rch (out.set k.toNat d) j := fun j ⟨v, hv, hne⟩ => by
        by_cases e : k.toNat = j.toNat
        · exact ⟨d, by rw [← e, List.getElem?_set_self hlt], by omega⟩
        · exact ⟨v, by rw [List.getElem?_set_ne e]; exact hv, hne⟩
      obtain ⟨o', t', g1, g2, g3, g4, g5, g6, g7, g8⟩ := ih (out.set k.toNat d) (todo ++ [k]) hr (by simpa using h1) (fun j v hj => by
        by_cases e : k.toNat = j
        · subst e; rw [List.getElem?_set_self hlt] at hj; cases hj; exact .inr kD
        · rw [List.getElem?_set_ne e] at hj; exact h2 j v hj)
      refine ⟨o', t', g1, g2, g3, fun j hj => ?_, fun j hj => g5 j (hup j hj), fun t ht => ?_, fun t ht => g7 t (by simp [ht]), fun j hj0 hj => ?_⟩
      · rcases List.mem_cons.1 hj with rfl | hj
        · exact g5 _ hkr
        · exact g4 j hj
      · rcases g6 t ht with h | h
        · rcases List.mem_append.1 h with h | h
          · exact .inl h
          · simp at h; subst h; exact .inr (by simp)
        · exact .inr (by simp [h])
      · rcases g8 j hj0 hj with ⟨v, hv, hne⟩ | h
        · by_cases e : k.toNat = j.toNat
          · have : k = j := by omega
            subst this; exact .inr (g7 k (by simp))
          · rw [List.getElem?_set_ne e] at hv; exact .inl ⟨v, hv, hne⟩
        · exact .inr h
    · rw [kD] at h
      cases h
      rw [if_neg (by rw [hget]; intro e; have := Option.some.inj e; omega), if_pos hget]
      obtain ⟨o', t', g1, g2, g3, g4, g5, g6, g7, g8⟩ := ih out todo hr h1 h2
      have hkr : Rch out k := ⟨_, hget, by omega⟩
      refine ⟨o', t', g1, g2, g3, fun j hj => ?_, g5, fun t ht => (g6 t ht).imp id fun h => by simp [h], g7, g8⟩
      rcases List.mem_cons.1 hj with rfl | hj
      · exact g5 _ hkr
      · exact g4 j hj

/-- depths that agree -/
structure Good (ops : List Opn) (D : List Int) : Prop where
  len : D.length = ops.length + 1
  pos : ∀ d ∈ D, 0 ≤ d
  zero : D[0]? = some 0
  last : D[ops.length]? = some 0
  step : ∀ (i : Nat) (o : Opn) (d : Int), ops[i]? = some o → D[i]? = some d → 0 ≤ d - (takesL o.kind).1 ∧ d - (takesL o.kind).1 + (takesL o.kind).2 ≤ 24 ∧
    ∀ k ∈ nextL o i, 0 ≤ k ∧ k ≤ (ops.length : Nat) ∧ D[k.toNat]? = some (d - (takesL o.kind).1 + (takesL o.kind).2)

/-- a set of places that has what comes next, too -/
def Closed (ops : List Opn) (S : Int → Prop) : Prop := ∀ (i : Nat) (o : Opn), ops[i]? = some o → S i → ∀ k ∈ nextL o i, S k

theorem work_good {ops : List Opn} {D : List Int} (h : Good ops D) : ∀ (F : Nat) (out todo : List Int), muK out todo < F → out.length = ops.length + 1 → (∀ (k : Nat) (v : Int), out[k]? = some v → v = -1 ∨ D[k]? = some v) →
    (∀ t ∈ todo, 0 ≤ t ∧ t ≤ (ops.length : Nat) ∧ Rch out t) → (∀ (i : Nat) (o : Opn), ops[i]? = some o → Rch out i → (i : Int) ∈ todo ∨ ∀ k ∈ nextL o i, Rch out k) →
    ∃ out', workI ops F out todo = some out' ∧ out'.length = ops.length + 1 ∧ (∀ (k : Nat) (v : Int), out'[k]? = some v → v = -1 ∨ D[k]? = some v) ∧ (∀ k, Rch out k → Rch out' k) ∧ Closed ops (Rch out') := by
  intro F
  induction F with
  | zero => intro out todo hF; omega
  | succ F ih =>
    intro out todo hF h1 h2 h3 h4
    simp only [workI]
    cases hl : todo.getLast? with
    | none =>
      have : todo = [] := List.getLast?_eq_none_iff.1 hl
      subst this
      exact ⟨out, rfl, h1, h2, fun _ h => h, fun i o ho hr => by
        rcases h4 i o ho hr with h | h
        · cases h
        · exact h⟩
    | some at_ =>
      simp only
      have hmu := mu_drop (out := out) hl
      obtain ⟨a0, a1, v, hv, hne⟩ := h3 at_ (last_mem hl)
      split
      · rename_i e
        subst e
        simp only [Int.toNat_natCast] at hv
        have : v = 0 := by
          rcases h2 _ _ hv with h' | h'
          · exact absurd h' hne
          · rw [h.last] at h'; cases h'; rfl
        subst this
        rw [if_pos hv]
        refine ih _ _ (by omega) h1 h2 (fun t ht => h3 t (drop_mem ht)) fun i o ho hr => ?_
        rcases h4 i o ho hr with h' | h'
        · rcases mem_dropLast hl h' with h' | h'
          · have : i < ops.length := by
              rcases Nat.lt_or_ge i ops.length with h'' | h''
              · exact h''
              · rw [List.getElem?_eq_none h''] at ho; cases ho
            omega
          · exact .inl h'
        · exact .inr h'
      · rename_i e
        have hlt : at_.toNat < ops.length := by omega
        have ho := List.getElem?_eq_getElem hlt
        have hcast : ((at_.toNat : Nat) : Int) = at_ := by omega
        have hD : D[at_.toNat]? = some v := by
          rcases h2 _ _ hv with h' | h'
          · exact absurd h' hne
          · exact h'
        obtain ⟨s1, s2, s3⟩ := h.step _ _ _ ho hD
        rw [hcast] at s3
        have ht := takes_pos ops[at_.toNat].kind
        obtain ⟨o', t', g1, g2, g3, g4, g5, g6, g7, g8⟩ := pushK_good (n := ops.length) (D := D) (d := v - (takesL ops[at_.toNat].kind).1 + (takesL ops[at_.toNat].kind).2) (by omega) (nextL ops[at_.toNat] at_) out todo.dropLast s3 h1 h2
        have hstep : stepK ops at_ out todo.dropLast = some (o', t') := by
          unfold stepK
          rw [ho, hv]
          simp only
          rw [if_neg (by omega)]
          exact g1
        rw [hstep]
        simp only
        have hmu2 := pushK_mu (by omega) _ _ _ _ _ g1
        obtain ⟨out', r1, r2, r3, r4, r5⟩ := ih o' t' (by omega) g2 g3 (fun t ht => by
          rcases g6 t ht with h' | h'
          · obtain ⟨b0, b1, b2⟩ := h3 t (drop_mem h')
            exact ⟨b0, b1, g5 t b2⟩
          · obtain ⟨b0, b1, _⟩ := s3 t h'
            exact ⟨b0, b1, g4 t h'⟩) (fun i o hio hr => by
          rcases g8 i (by omega) hr with h' | h'
          · rcases h4 i o hio h' with h'' | h''
            · rcases mem_dropLast hl h'' with h'' | h''
              · have : i = at_.toNat := by omega
                subst this
                rw [ho] at hio; cases hio
                right
                rw [hcast]
                exact g4
              · exact .inl (g7 _ h'')
            · exact .inr fun k hk => g5 k (h'' k hk)
          · exact .inl h')
        exact ⟨out', r1, r2, r3, fun k hk => r4 k (g5 k hk), r5⟩

/-- where all places are reached, the depths that agree are what comes of it -/
theorem work_all {ops : List Opn} {D : List Int} (h : Good ops D) (hall : ∀ S : Int → Prop, Closed ops S → S 0 → ∀ i : Nat, i ≤ ops.length → S i) {F : Nat} (hF : 2 * ops.length + 1 < F) :
    workI ops F ((List.replicate (ops.length + 1) (-1)).set 0 0) [0] = some D := by
  have hz : ∀ (k : Nat) (v : Int), ((List.replicate (ops.length + 1) (-1 : Int)).set 0 0)[k]? = some v → v = -1 ∨ (k = 0 ∧ v = 0) := fun k v hv => by
    rw [List.getElem?_set] at hv
    split at hv
    · split at hv
      · cases hv; right; omega
      · cases hv
    · rw [List.getElem?_replicate] at hv
      split at hv
      · cases hv; left; rfl
      · cases hv
  have hr0 : Rch ((List.replicate (ops.length + 1) (-1 : Int)).set 0 0) 0 := ⟨0, by simp [List.replicate_succ], by omega⟩
  obtain ⟨out', r1, r2, r3, r4, r5⟩ := work_good h F ((List.replicate (ops.length + 1) (-1)).set 0 0) [0] (by
      unfold muK
      have := count_set (l := List.replicate (ops.length + 1) (-1 : Int)) (k := 0) (d := 0) (by simp) (by omega)
      rw [List.count_replicate_self] at this
      simp only [List.length_cons, List.length_nil]
      omega) (by simp) (fun k v hv => by
    rcases hz k v hv with h' | ⟨rfl, rfl⟩
    · exact .inl h'
    · exact .inr h.zero) (fun t ht => by
    simp at ht; subst ht
    exact ⟨by omega, by omega, hr0⟩) (fun i o ho hr => by
    obtain ⟨v, hv, hne⟩ := hr
    rcases hz _ v hv with h' | ⟨h', _⟩
    · exact absurd h' hne
    · left
      simp at h'
      simp [h'])
  rw [r1]
  congr 1
  apply List.ext_getElem?
  intro k
  rcases Nat.lt_or_ge k (ops.length + 1) with hk | hk
  · obtain ⟨v, hv, hne⟩ := hall _ r5 (r4 0 hr0) k (by omega)
    simp only [Int.toNat_natCast] at hv
    rcases r3 k v hv with h' | h'
    · exact absurd h' hne
    · rw [hv, h']
  · rw [List.getElem?_eq_none (by omega), List.getElem?_eq_none (by rw [h.len]; omega)]

end Go.Proofs.Ytkjddlgaldnbnaa
end

/-
  PLAIN: the code of right nodes is right, its depths agree, all of it is reached, each node ticks once.
-/
section
set_option linter.unusedVariables false
set_option linter.unusedSimpArgs false
namespace Go.Proofs.Ytkjddlgaldnbnaa

/-- an op with the depth ahead of it -/
abbrev OD := Opn × Int

def plainL (k : Int) : Int :=
  if k = 13 then 5 else if k = 14 then 6 else if k = 15 then 7 else if k = 16 then 8 else if k = 17 then 9 else
  if k = 5 then 13 else if k = 6 then 14 else if k = 7 then 15 else if k = 8 then 16 else if k = 9 then 17 else 0

/-- the op behind a node's kids -/
def ownO (names : List ByteArray) (n : Nd) : List Opn :=
  if n.kind = 1 then [] else if n.kind = 2 then [⟨4, idxI n.name names⟩] else if n.kind = 12 then [⟨3, idxI n.name names⟩] else if n.kind = 11 then [⟨2, n.num⟩] else
  if n.kind = 10 then [⟨18, idxI n.name movesL + 1⟩] else if plainL n.kind > 0 then [⟨plainL n.kind, 0⟩] else [⟨10, n.kind⟩]

def resN (n : Nd) : Int := if 11 ≤ n.kind then 1 else 0
def eachN (n : Nd) : Int := if n.kind = 1 then 0 else 1

def codeK (g : Nat → Nat → Int → List OD × Nat) (r : Int) : Nat → Nat → Nat → Int → List OD × Nat
  | 0, at_, _, _ => ([], at_)
  | c + 1, at_, o, d => ((g at_ o d).1 ++ (codeK g r c (g at_ o d).2 (o + (g at_ o d).1.length) (d + r)).1, (codeK g r c (g at_ o d).2 (o + (g at_ o d).1.length) (d + r)).2)

/-- the code of the tree at a place, with depths; the place behind it. o: where it stands; d: the depth -/
def codeD (l : List Nd) (names : List ByteArray) : Nat → Nat → Nat → Int → List OD × Nat
  | 0, at_, _, _ => ([], at_)
  | f + 1, at_, o, d => match l[at_]? with
    | none => ([], at_)
    | some n =>
      if n.kind = 3 then
        let a := codeD l names f (at_ + 1) (o + 1) d
        let b := codeD l names f a.2 (o + a.1.length + 2) d
        let t := o + a.1.length + b.1.length + 2
        if n.kids = 3 then
          let c := codeD l names f b.2 (t + 1) d
          ([(⟨1, 0⟩, d)] ++ (a.1 ++ ([(⟨12, (t + 1 : Nat)⟩, d + 1)] ++ (b.1 ++ ([(⟨11, (t + 1 + c.1.length : Nat)⟩, d)] ++ c.1)))), c.2)
        else ([(⟨1, 0⟩, d)] ++ (a.1 ++ ([(⟨12, (t : Nat)⟩, d + 1)] ++ b.1)), b.2)
      else if n.kind = 4 then
        let a := codeD l names f (at_ + 1) (o + 1) d
        let b := codeD l names f a.2 (o + a.1.length + 2) d
        ([(⟨1, 0⟩, d)] ++ (a.1 ++ ([(⟨12, (o + a.1.length + b.1.length + 3 : Nat)⟩, d + 1)] ++ (b.1 ++ [(⟨11, (o + 1 : Nat)⟩, d)]))), b.2)
      else
        let p := codeK (codeD l names f) (eachN n) n.kids.toNat (at_ + 1) (o + 1) d
        ([(⟨1, 0⟩, d)] ++ (p.1 ++ (ownO names n).map fun x => (x, d + eachN n * n.kids)), p.2)

/-- a part stands in the whole -/
def AtO (A : List OD) (o : Nat) (s : List OD) : Prop := ∀ i, i < s.length → A[o + i]? = s[i]?

theorem AtO.app {A : List OD} {o : Nat} {s t : List OD} (h : AtO A o (s ++ t)) : AtO A o s ∧ AtO A (o + s.length) t := by
  refine ⟨fun i hi => ?_, fun i hi => ?_⟩
  · have := h i (by simp; omega)
    rw [List.getElem?_append_left hi] at this
    exact this
  · have := h (s.length + i) (by simp; omega)
    rw [List.getElem?_append_right (by omega)] at this
    rw [show o + s.length + i = o + (s.length + i) from by omega, this]
    congr 1; omega

def DD (A : List OD) (k : Nat) : Option Int := (A.map (·.2) ++ [0])[k]?

theorem DD_of {A : List OD} {k : Nat} {p : OD} (h : A[k]? = some p) : DD A k = some p.2 := by
  unfold DD
  have : k < A.length := by
    rcases Nat.lt_or_ge k A.length with h' | h'
    · exact h'
    · rw [List.getElem?_eq_none h'] at h; cases h
  rw [List.getElem?_append_left (by simpa using this), List.getElem?_map, h]
  rfl

theorem DD_le {A : List OD} {k : Nat} {d : Int} (h : DD A k = some d) : k ≤ A.length := by
  unfold DD at h
  rcases Nat.lt_or_ge A.length k with h' | h'
  · rw [List.getElem?_eq_none (by simp; omega)] at h; cases h
  · exact h'

/-- at a place all is right -/
def OkAt (A : List OD) (i : Nat) : Prop := ∀ p, A[i]? = some p → 0 ≤ p.2 - (takesL p.1.kind).1 ∧ p.2 - (takesL p.1.kind).1 + (takesL p.1.kind).2 ≤ 24 ∧
  ∀ k ∈ nextL p.1 i, 0 ≤ k ∧ DD A k.toNat = some (p.2 - (takesL p.1.kind).1 + (takesL p.1.kind).2)

/-- a part of code that leads from a depth to another one -/
structure Piece (A : List OD) (o : Nat) (s : List OD) (d d' : Int) : Prop where
  ent : AtO A o s → DD A (o + s.length) = some d' → DD A o = some d
  ok : AtO A o s → DD A (o + s.length) = some d' → ∀ i, o ≤ i → i < o + s.length → OkAt A i
  rch : AtO A o s → ∀ S : Int → Prop, Closed (A.map (·.1)) S → S o → ∀ i : Nat, o ≤ i → i ≤ o + s.length → S i

theorem Piece.nil {A : List OD} {o : Nat} {d : Int} : Piece A o [] d d :=
  ⟨fun _ h => h, fun _ _ i h1 h2 => by simp at h2; omega, fun _ S _ h i h1 h2 => by simp at h2; rw [show i = o from by omega]; exact h⟩

theorem Piece.app {A : List OD} {o : Nat} {s t : List OD} {d d1 d2 : Int} (p : Piece A o s d d1) (q : Piece A (o + s.length) t d1 d2) : Piece A o (s ++ t) d d2 := by
  have e : o + (s ++ t).length = o + s.length + t.length := by simp; omega
  refine ⟨fun ha hd => ?_, fun ha hd i h1 h2 => ?_, fun ha S hS h0 i h1 h2 => ?_⟩
  · rw [e] at hd
    exact p.ent ha.app.1 (q.ent ha.app.2 hd)
  · rw [e] at hd h2
    rcases Nat.lt_or_ge i (o + s.length) with h | h
    · exact p.ok ha.app.1 (q.ent ha.app.2 hd) i h1 h
    · exact q.ok ha.app.2 hd i h h2
  · rw [e] at h2
    rcases Nat.lt_or_ge i (o + s.length) with h | h
    · exact p.rch ha.app.1 S hS h0 i h1 (by omega)
    · exact q.rch ha.app.2 S hS (p.rch ha.app.1 S hS h0 _ (by omega) (Nat.le_refl _)) i h h2

theorem AtO.hd {A : List OD} {o : Nat} {x : OD} {s : List OD} (h : AtO A o (x :: s)) : A[o]? = some x := by
  have := h 0 (by simp)
  simpa using this

theorem op_get {A : List OD} {o : Nat} {x : OD} (h : A[o]? = some x) : (A.map (·.1))[o]? = some x.1 := by rw [List.getElem?_map, h]; rfl

theorem Piece.op {A : List OD} {o : Nat} {x : Opn} {d d' : Int} (hj : x.kind ≠ 11 ∧ x.kind ≠ 12) (h0 : 0 ≤ d - (takesL x.kind).1) (h1 : d' ≤ 24) (e : d' = d - (takesL x.kind).1 + (takesL x.kind).2) : Piece A o [(x, d)] d d' := by
  have hn : ∀ i : Int, nextL x i = [i + 1] := fun i => by unfold nextL; rw [if_neg hj.1, if_neg hj.2]
  refine ⟨fun ha _ => DD_of ha.hd, fun ha hd i g1 g2 p hp => ?_, fun ha S hS hs i g1 g2 => ?_⟩
  · have : i = o := by simp at g2; omega
    subst this
    rw [ha.hd] at hp
    cases hp
    refine ⟨h0, by show d - (takesL x.kind).1 + (takesL x.kind).2 ≤ 24; omega, fun k hk => ?_⟩
    rw [hn] at hk
    simp at hk
    subst hk
    refine ⟨by omega, ?_⟩
    rw [← e]
    simpa using hd
  · have := hS o x (op_get ha.hd) hs (o + 1) (by rw [hn]; simp)
    simp at g2
    rcases Nat.lt_or_ge o i with h | h
    · have : (i : Int) = o + 1 := by omega
      rw [this]; assumption
    · rw [show i = o from by omega]; exact hs

/-- a branch behind a condition, with another way -/
theorem Piece.if3 {A : List OD} {o : Nat} {b c : List OD} {d : Int} (hd0 : 0 ≤ d) (hd1 : d ≤ 24) (t : Nat) (ht : t = o + b.length + 1) (pb : Piece A (o + 1) b d d) (pc : Piece A (t + 1) c d d) :
    Piece A o ([(⟨12, (t + 1 : Nat)⟩, d + 1)] ++ (b ++ ([(⟨11, (t + 1 + c.length : Nat)⟩, d)] ++ c))) (d + 1) d := by
  have parts : AtO A o ([(⟨12, (t + 1 : Nat)⟩, d + 1)] ++ (b ++ ([(⟨11, (t + 1 + c.length : Nat)⟩, d)] ++ c))) → A[o]? = some (⟨12, (t + 1 : Nat)⟩, d + 1) ∧ AtO A (o + 1) b ∧ A[t]? = some (⟨11, (t + 1 + c.length : Nat)⟩, d) ∧ AtO A (t + 1) c := fun ha => by
    have h1 := ha.app
    have h2 := h1.2.app
    have h3 := h2.2.app
    simp only [List.length_cons, List.length_nil, Nat.zero_add] at h1 h2 h3
    rw [show o + 1 + b.length = t from by omega] at h2 h3
    exact ⟨h1.1.hd, h2.1, h3.1.hd, h3.2⟩
  have el : o + ([(⟨12, (t + 1 : Nat)⟩, d + 1)] ++ (b ++ ([(⟨11, (t + 1 + c.length : Nat)⟩, d)] ++ c)) : List OD).length = t + 1 + c.length := by simp; omega
  refine ⟨fun ha hd => DD_of (parts ha).1, fun ha hd i g1 g2 => ?_, fun ha S hS hs i g1 g2 => ?_⟩
  · rw [el] at hd g2
    obtain ⟨a1, a2, a3, a4⟩ := parts ha
    have dt : DD A t = some d := DD_of a3
    have dc : DD A (t + 1) = some d := pc.ent a4 hd
    have db : DD A (o + 1) = some d := pb.ent a2 (by rw [show o + 1 + b.length = t from by omega]; exact dt)
    rcases Nat.lt_or_ge o i with h | h
    · rcases Nat.lt_or_ge i t with h' | h'
      · exact pb.ok a2 (by rw [show o + 1 + b.length = t from by omega]; exact dt) i h (by omega)
      · rcases Nat.lt_or_ge t i with h'' | h''
        · exact pc.ok a4 hd i h'' g2
        · have : i = t := by omega
          subst this
          intro p hp
          rw [a3] at hp
          cases hp
          simp only [takesL, nextL]
          simp
          exact ⟨hd0, hd1, by omega, by rw [show ((i : Int) + 1 + c.length).toNat = i + 1 + c.length from by omega]; exact hd⟩
    · have : i = o := by omega
      subst this
      intro p hp
      rw [a1] at hp
      cases hp
      simp only [takesL, nextL]
      simp
      refine ⟨by omega, by omega, ⟨by omega, ?_⟩, by omega, ?_⟩
      · rw [db]
      · rw [dc]
  · rw [el] at g2
    obtain ⟨a1, a2, a3, a4⟩ := parts ha
    have n1 := hS o _ (op_get a1) hs (o + 1) (by simp [nextL])
    have n2 := hS o _ (op_get a1) hs (t + 1 : Nat) (by simp [nextL])
    have hb := pb.rch a2 S hS (by simpa using n1)
    have hc := pc.rch a4 S hS (by simpa using n2)
    rcases Nat.lt_or_ge o i with h | h
    · rcases Nat.lt_or_ge t i with h' | h'
      · exact hc i h' g2
      · exact hb i h (by omega)
    · rw [show i = o from by omega]; exact hs

theorem Piece.if2 {A : List OD} {o : Nat} {b : List OD} {d : Int} (hd0 : 0 ≤ d) (hd1 : d ≤ 24) (t : Nat) (ht : t = o + b.length + 1) (pb : Piece A (o + 1) b d d) :
    Piece A o ([(⟨12, (t : Nat)⟩, d + 1)] ++ b) (d + 1) d := by
  have parts : AtO A o ([(⟨12, (t : Nat)⟩, d + 1)] ++ b) → A[o]? = some (⟨12, (t : Nat)⟩, d + 1) ∧ AtO A (o + 1) b := fun ha => ⟨ha.app.1.hd, ha.app.2⟩
  have el : o + ([(⟨12, (t : Nat)⟩, d + 1)] ++ b : List OD).length = t := by simp; omega
  refine ⟨fun ha hd => DD_of (parts ha).1, fun ha hd i g1 g2 => ?_, fun ha S hS hs i g1 g2 => ?_⟩
  · rw [el] at hd g2
    obtain ⟨a1, a2⟩ := parts ha
    have hd' : DD A (o + 1 + b.length) = some d := by rw [show o + 1 + b.length = t from by omega]; exact hd
    have db : DD A (o + 1) = some d := pb.ent a2 hd'
    rcases Nat.lt_or_ge o i with h | h
    · exact pb.ok a2 hd' i h (by omega)
    · have : i = o := by omega
      subst this
      intro p hp
      rw [a1] at hp
      cases hp
      simp only [takesL, nextL]
      simp
      refine ⟨by omega, by omega, ⟨by omega, ?_⟩, ?_⟩
      · rw [db]
      · rw [hd]
  · rw [el] at g2
    obtain ⟨a1, a2⟩ := parts ha
    have n1 := hS o _ (op_get a1) hs (o + 1) (by simp [nextL])
    have hb := pb.rch a2 S hS (by simpa using n1)
    rcases Nat.lt_or_ge o i with h | h
    · exact hb i h (by omega)
    · rw [show i = o from by omega]; exact hs

theorem Piece.while {A : List OD} {o : Nat} {a b : List OD} {d : Int} (hd0 : 0 ≤ d) (hd1 : d ≤ 24) (t : Nat) (ht : t = o + a.length + b.length + 2) (pa : Piece A o a d (d + 1)) (pb : Piece A (o + a.length + 1) b d d) :
    Piece A o (a ++ ([(⟨12, (t : Nat)⟩, d + 1)] ++ (b ++ [(⟨11, (o : Nat)⟩, d)]))) d d := by
  have parts : AtO A o (a ++ ([(⟨12, (t : Nat)⟩, d + 1)] ++ (b ++ [(⟨11, (o : Nat)⟩, d)]))) → AtO A o a ∧ A[o + a.length]? = some (⟨12, (t : Nat)⟩, d + 1) ∧ AtO A (o + a.length + 1) b ∧ A[o + a.length + 1 + b.length]? = some (⟨11, (o : Nat)⟩, d) := fun ha => by
    have h1 := ha.app
    have h2 := h1.2.app
    have h3 := h2.2.app
    simp only [List.length_cons, List.length_nil, Nat.zero_add] at h1 h2 h3
    exact ⟨h1.1, h2.1.hd, h3.1, h3.2.hd⟩
  have el : o + (a ++ ([(⟨12, (t : Nat)⟩, d + 1)] ++ (b ++ [(⟨11, (o : Nat)⟩, d)])) : List OD).length = t := by simp; omega
  refine ⟨fun ha hd => ?_, fun ha hd i g1 g2 => ?_, fun ha S hS hs i g1 g2 => ?_⟩
  · obtain ⟨a1, a2, a3, a4⟩ := parts ha
    exact pa.ent a1 (DD_of a2)
  · rw [el] at hd g2
    obtain ⟨a1, a2, a3, a4⟩ := parts ha
    have da := pa.ent a1 (DD_of a2)
    have db := pb.ent a3 (DD_of a4)
    rcases Nat.lt_or_ge i (o + a.length) with h | h
    · exact pa.ok a1 (DD_of a2) i g1 h
    · rcases Nat.lt_or_ge (o + a.length) i with h' | h'
      · rcases Nat.lt_or_ge i (o + a.length + 1 + b.length) with h'' | h''
        · exact pb.ok a3 (DD_of a4) i h' h''
        · have : i = o + a.length + 1 + b.length := by omega
          subst this
          intro p hp
          rw [a4] at hp
          cases hp
          simp only [takesL, nextL]
          simp
          exact ⟨hd0, hd1, da⟩
      · have : i = o + a.length := by omega
        subst this
        intro p hp
        rw [a2] at hp
        cases hp
        simp only [takesL, nextL]
        simp
        refine ⟨by omega, by omega, ⟨by omega, ?_⟩, ?_⟩
        · rw [show ((o : Int) + a.length + 1).toNat = o + a.length + 1 from by omega, db]
        · rw [hd]
  · rw [el] at g2
    obtain ⟨a1, a2, a3, a4⟩ := parts ha
    have ha := pa.rch a1 S hS hs
    have n0 := ha (o + a.length) (by omega) (Nat.le_refl _)
    have n1 := hS _ _ (op_get a2) n0 (o + a.length + 1 : Nat) (by simp [nextL])
    have n2 := hS _ _ (op_get a2) n0 (t : Nat) (by simp [nextL])
    have hb := pb.rch a3 S hS (by simpa using n1)
    rcases Nat.lt_or_ge (o + a.length) i with h | h
    · rcases Nat.lt_or_ge i t with h' | h'
      · exact hb i h (by omega)
      · rw [show i = t from by omega]; exact n2
    · exact ha i g1 h

theorem okN_parts {n : Nd} (h : okN n = true) : 1 ≤ n.kind ∧ n.kind ≤ 26 ∧ (kidsL n.kind).1 ≤ n.kids ∧ n.kids ≤ (kidsL n.kind).2 ∧ fieldsL n = true := by
  unfold okN withinL at h
  simp only [Bool.and_eq_true, decide_eq_true_eq] at h
  exact ⟨h.1.1.1, h.1.1.2, h.1.2.1, h.1.2.2, h.2⟩

/-- the op behind the kids -/
theorem own_piece {A : List OD} {o : Nat} {d : Int} {n : Nd} {names : List ByteArray} (h : okN n = true) (h3 : n.kind ≠ 3) (h4 : n.kind ≠ 4) (hd0 : 0 ≤ d) (hd1 : d ≤ 20) :
    Piece A o ((ownO names n).map fun x => (x, d + eachN n * n.kids)) (d + eachN n * n.kids) (d + resN n) := by
  obtain ⟨k0, k1, k2, k3, _⟩ := okN_parts h
  unfold kidsL at k2 k3
  unfold ownO eachN resN
  by_cases e1 : n.kind = 1
  · simp only [e1, if_true]
    simp
    exact Piece.nil
  · simp only [e1, if_false]
    have key : ∀ x : Opn, x.kind ≠ 11 ∧ x.kind ≠ 12 → (takesL x.kind).1 = n.kids → (takesL x.kind).2 = (if 11 ≤ n.kind then 1 else 0) → Piece A o [(x, d + 1 * n.kids)] (d + 1 * n.kids) (d + if 11 ≤ n.kind then 1 else 0) := fun x hj ht hp =>
      Piece.op hj (by rw [ht]; omega) (by split <;> omega) (by rw [ht, hp]; omega)
    by_cases e2 : n.kind = 2
    · simp [e2] at k2 k3 ⊢
      have := key ⟨4, idxI n.name names⟩ (by simp) (by simp [takesL]; omega) (by simp [takesL, e2])
      simpa [e2] using this
    by_cases e12 : n.kind = 12
    · simp [e12] at k2 k3 ⊢
      have := key ⟨3, idxI n.name names⟩ (by simp) (by simp [takesL]; omega) (by simp [takesL, e12])
      simpa [e12] using this
    by_cases e11 : n.kind = 11
    · simp [e11] at k2 k3 ⊢
      have := key ⟨2, n.num⟩ (by simp) (by simp [takesL]; omega) (by simp [takesL, e11])
      simpa [e11] using this
    by_cases e10 : n.kind = 10
    · simp [e10] at k2 k3 ⊢
      have := key ⟨18, idxI n.name movesL + 1⟩ (by simp) (by simp [takesL]; omega) (by simp [takesL, e10])
      simpa [e10] using this
    simp only [e2, e12, e11, e10, if_false]
    by_cases e18 : 18 ≤ n.kind
    · have hp : plainL n.kind = 0 := by
        unfold plainL
        repeat rw [if_neg (by omega)]
      simp only [hp]
      have := key ⟨10, n.kind⟩ (by simp) (by simp [takesL]; rw [if_neg (by omega), if_neg (by omega), if_neg (by omega), if_neg (by omega), if_pos (by omega)] at k2 k3; omega) (by simp [takesL]; omega)
      simpa using this
    · have hc : n.kind = 5 ∨ n.kind = 6 ∨ n.kind = 7 ∨ n.kind = 8 ∨ n.kind = 9 ∨ n.kind = 13 ∨ n.kind = 14 ∨ n.kind = 15 ∨ n.kind = 16 ∨ n.kind = 17 := by omega
      have := key ⟨plainL n.kind, 0⟩ (by rcases hc with e | e | e | e | e | e | e | e | e | e <;> simp [e, plainL]) (by
        rcases hc with e | e | e | e | e | e | e | e | e | e <;> simp [e] at k2 k3 <;> simp [e, plainL, takesL] <;> omega) (by
        rcases hc with e | e | e | e | e | e | e | e | e | e <;> simp [e, plainL, takesL])
      have hp : plainL n.kind > 0 := by rcases hc with e | e | e | e | e | e | e | e | e | e <;> simp [e, plainL]
      simp only [hp, if_true]
      simpa using this

theorem idxI_lt {α : Type} [DecidableEq α] {x : α} {L : List α} (hx : x ∈ L) : 0 ≤ idxI x L ∧ idxI x L < L.length := by
  unfold idxI
  rw [if_pos hx]
  have := List.idxOf_lt_length_of_mem hx
  omega

theorem treeL_pos {l : List Nd} {f at_ e : Nat} (h : treeL l f at_ = some e) : ∃ n f', f = f' + 1 ∧ l[at_]? = some n ∧ okN n = true ∧ kidsT l (treeL l f') n n.kids.toNat 0 (at_ + 1) = some e := by
  cases f with
  | zero => cases h
  | succ f =>
    simp only [treeL] at h
    split at h
    · cases h
    · rename_i n hn
      split at h
      · rename_i hok
        exact ⟨n, f, rfl, hn, hok, h⟩
      · cases h

theorem kidsT_one {l : List Nd} {g : Nat → Option Nat} {n : Nd} {c i e e' : Nat} (h : kidsT l g n (c + 1) i e = some e') : ∃ m e1, l[e]? = some m ∧ kidL n i m = true ∧ g e = some e1 ∧ kidsT l g n c (i + 1) e1 = some e' := by
  simp only [kidsT] at h
  split at h
  · cases h
  · rename_i m hm
    split at h
    · cases h
    · rename_i hk
      split at h
      · cases h
      · rename_i e1 he
        exact ⟨m, e1, hm, hk, he, h⟩

theorem kid_res {n m : Nd} {i : Nat} (h3 : n.kind ≠ 3) (h4 : n.kind ≠ 4) (h : kidL n i m = true) : resN m = eachN n := by
  unfold kidL withinL at h
  unfold resN eachN
  split at h
  · rename_i e
    simp only [decide_eq_true_eq] at h
    rw [if_neg (by omega), if_pos e]
  · rename_i e
    rw [if_neg (by omega)] at h
    simp only [decide_eq_true_eq] at h
    rw [if_pos (by omega), if_neg e]

theorem kid_if {n m : Nd} {i : Nat} (h3 : n.kind = 3 ∨ n.kind = 4) (h : kidL n i m = true) : resN m = if i = 0 then 1 else 0 := by
  unfold kidL withinL at h
  unfold resN
  rw [if_neg (by omega)] at h
  split at h
  · rename_i e
    simp at h
    rw [if_neg (by omega), if_neg (by omega)]
  · rename_i e
    simp only [decide_eq_true_eq] at h
    rw [if_pos (by omega), if_pos (by omega)]

theorem kids_each {n : Nd} (h : okN n = true) (h3 : n.kind ≠ 3) (h4 : n.kind ≠ 4) : eachN n = 0 ∨ (eachN n = 1 ∧ 0 ≤ n.kids ∧ n.kids ≤ 2) := by
  obtain ⟨_, _, k2, k3, _⟩ := okN_parts h
  unfold kidsL at k2 k3
  unfold eachN
  split
  · exact .inl rfl
  · rename_i e
    rw [if_neg e, if_neg h3] at k2 k3
    right
    refine ⟨rfl, ?_⟩
    split at k2 <;> rename_i e2
    · rw [if_pos e2] at k3; simp at k2 k3; omega
    · rw [if_neg e2] at k3
      split at k2 <;> rename_i e3
      · rw [if_pos e3] at k3; simp at k2 k3; omega
      · rw [if_neg e3] at k3
        split at k2 <;> rename_i e4
        · rw [if_pos e4] at k3; simp at k2 k3; omega
        · rw [if_neg e4] at k3; simp at k2 k3; omega

theorem kids_pos {n : Nd} (h : okN n = true) : 0 ≤ n.kids := by
  obtain ⟨_, _, k2, k3, _⟩ := okN_parts h
  have : 0 ≤ (kidsL n.kind).1 := by unfold kidsL; repeat' split
                                    all_goals simp
  omega

theorem kids_if {n : Nd} (h : okN n = true) (h3 : n.kind = 3) : n.kids = 2 ∨ n.kids = 3 := by
  obtain ⟨_, _, k2, k3, _⟩ := okN_parts h
  simp [kidsL, h3] at k2 k3
  omega
theorem kids_while {n : Nd} (h : okN n = true) (h4 : n.kind = 4) : n.kids = 2 := by
  obtain ⟨_, _, k2, k3, _⟩ := okN_parts h
  simp [kidsL, h4] at k2 k3
  omega

section
variable {l : List Nd} {names : List ByteArray} {A : List OD}

theorem codeK_piece {n : Nd} {f : Nat} (hn : okN n = true) (h3 : n.kind ≠ 3) (h4 : n.kind ≠ 4)
    (ih : ∀ (at_ o : Nat) (d : Int) (e : Nat) (m : Nd), treeL l f at_ = some e → l[at_]? = some m → 0 ≤ d → d + f ≤ 20 → (codeD l names f at_ o d).2 = e ∧ Piece A o (codeD l names f at_ o d).1 d (d + resN m)) :
    ∀ (c i e0 e o : Nat) (d : Int), kidsT l (treeL l f) n c i e0 = some e → 0 ≤ d → (∀ j : Nat, j < c → d + eachN n * j + f ≤ 20) →
      (codeK (codeD l names f) (eachN n) c e0 o d).2 = e ∧ Piece A o (codeK (codeD l names f) (eachN n) c e0 o d).1 d (d + eachN n * c) := by
  have he : 0 ≤ eachN n := by unfold eachN; split <;> omega
  intro c
  induction c with
  | zero =>
    intro i e0 e o d h _ _
    simp only [kidsT] at h
    cases h
    simp only [codeK]
    exact ⟨trivial, by simpa using Piece.nil⟩
  | succ c ihc =>
    intro i e0 e o d h hd0 hd1
    obtain ⟨m, e1, hm, hk, ht, hr⟩ := kidsT_one h
    have := hd1 0 (by omega)
    obtain ⟨a1, a2⟩ := ih e0 o d e1 m ht hm hd0 (by simpa using this)
    rw [kid_res h3 h4 hk] at a2
    simp only [codeK]
    rw [a1]
    obtain ⟨b1, b2⟩ := ihc (i + 1) e1 e (o + (codeD l names f e0 o d).1.length) (d + eachN n) hr (by omega) (fun j hj => by
      have := hd1 (j + 1) (by omega)
      rw [show ((j + 1 : Nat) : Int) = (j : Int) + 1 from by omega, Int.mul_add] at this
      omega)
    refine ⟨b1, ?_⟩
    have := a2.app b2
    rwa [show d + eachN n + eachN n * c = d + eachN n * (c + 1 : Nat) from by rw [show ((c + 1 : Nat) : Int) = (c : Int) + 1 from by omega, Int.mul_add]; omega] at this

theorem codeD_piece : ∀ (f at_ o : Nat) (d : Int) (e : Nat) (n : Nd), treeL l f at_ = some e → l[at_]? = some n → 0 ≤ d → d + f ≤ 20 → (codeD l names f at_ o d).2 = e ∧ Piece A o (codeD l names f at_ o d).1 d (d + resN n) := by
  intro f
  induction f with
  | zero => intro at_ o d e n h; cases h
  | succ f ih =>
    intro at_ o d e n h hat hd0 hd1
    obtain ⟨n', f', hf, hn, hok, hk⟩ := treeL_pos h
    rw [hat] at hn
    cases hn
    have : f = f' := by omega
    subst this
    have tick : ∀ o : Nat, Piece A o [((⟨1, 0⟩ : Opn), d)] d d := fun o => Piece.op (by simp) (by simp [takesL]; omega) (by omega) (by simp [takesL])
    simp only [codeD, hat]
    split
    · rename_i h3
      have hr : resN n = 0 := by unfold resN; rw [if_neg (by omega)]
      rw [hr, Int.add_zero]
      split
      · rename_i hk3
        rw [hk3] at hk
        obtain ⟨m0, e1, hm0, hk0, ht0, hk⟩ := kidsT_one (c := 2) hk
        obtain ⟨m1, e2, hm1, hk1, ht1, hk⟩ := kidsT_one (c := 1) hk
        obtain ⟨m2, e3, hm2, hk2, ht2, hk⟩ := kidsT_one (c := 0) hk
        simp only [kidsT] at hk
        cases hk
        obtain ⟨a1, a2⟩ := ih (at_ + 1) (o + 1) d e1 m0 ht0 hm0 hd0 (by omega)
        rw [kid_if (.inl h3) hk0, if_pos rfl] at a2
        generalize codeD l names f (at_ + 1) (o + 1) d = pa at *
        subst a1
        obtain ⟨b1, b2⟩ := ih pa.2 (o + pa.1.length + 2) d e2 m1 ht1 hm1 hd0 (by omega)
        rw [kid_if (.inl h3) hk1, if_neg (by omega), Int.add_zero] at b2
        generalize codeD l names f pa.2 (o + pa.1.length + 2) d = pb at *
        subst b1
        obtain ⟨c1, c2⟩ := ih pb.2 (o + pa.1.length + pb.1.length + 2 + 1) d e m2 ht2 hm2 hd0 (by omega)
        rw [kid_if (.inl h3) hk2, if_neg (by omega), Int.add_zero] at c2
        generalize codeD l names f pb.2 (o + pa.1.length + pb.1.length + 2 + 1) d = pc at *
        refine ⟨c1, (tick o).app (a2.app (Piece.if3 hd0 (by omega) _ (by first | omega | (simp only [List.length_cons, List.length_nil]; omega)) ?_ c2))⟩
        try simp only [List.length_cons, List.length_nil, Nat.zero_add]
        rw [show o + 1 + pa.1.length + 1 = o + pa.1.length + 2 from by omega]
        exact b2
      · rename_i hk3
        have := kids_if hok h3
        have hk2 : n.kids = 2 := by omega
        rw [hk2] at hk
        obtain ⟨m0, e1, hm0, hk0, ht0, hk⟩ := kidsT_one (c := 1) hk
        obtain ⟨m1, e2, hm1, hk1, ht1, hk⟩ := kidsT_one (c := 0) hk
        simp only [kidsT] at hk
        cases hk
        obtain ⟨a1, a2⟩ := ih (at_ + 1) (o + 1) d e1 m0 ht0 hm0 hd0 (by omega)
        rw [kid_if (.inl h3) hk0, if_pos rfl] at a2
        generalize codeD l names f (at_ + 1) (o + 1) d = pa at *
        subst a1
        obtain ⟨b1, b2⟩ := ih pa.2 (o + pa.1.length + 2) d e m1 ht1 hm1 hd0 (by omega)
        rw [kid_if (.inl h3) hk1, if_neg (by omega), Int.add_zero] at b2
        generalize codeD l names f pa.2 (o + pa.1.length + 2) d = pb at *
        refine ⟨b1, (tick o).app (a2.app (Piece.if2 hd0 (by omega) _ (by first | omega | (simp only [List.length_cons, List.length_nil]; omega)) ?_))⟩
        try simp only [List.length_cons, List.length_nil, Nat.zero_add]
        rw [show o + 1 + pa.1.length + 1 = o + pa.1.length + 2 from by omega]
        exact b2
    · rename_i h3
      split
      · rename_i h4
        have hr : resN n = 0 := by unfold resN; rw [if_neg (by omega)]
        rw [hr, Int.add_zero]
        rw [kids_while hok h4] at hk
        obtain ⟨m0, e1, hm0, hk0, ht0, hk⟩ := kidsT_one (c := 1) hk
        obtain ⟨m1, e2, hm1, hk1, ht1, hk⟩ := kidsT_one (c := 0) hk
        simp only [kidsT] at hk
        cases hk
        obtain ⟨a1, a2⟩ := ih (at_ + 1) (o + 1) d e1 m0 ht0 hm0 hd0 (by omega)
        rw [kid_if (.inr h4) hk0, if_pos rfl] at a2
        generalize codeD l names f (at_ + 1) (o + 1) d = pa at *
        subst a1
        obtain ⟨b1, b2⟩ := ih pa.2 (o + pa.1.length + 2) d e m1 ht1 hm1 hd0 (by omega)
        rw [kid_if (.inr h4) hk1, if_neg (by omega), Int.add_zero] at b2
        generalize codeD l names f pa.2 (o + pa.1.length + 2) d = pb at *
        refine ⟨b1, (tick o).app (Piece.while hd0 (by omega) _ (by first | omega | (simp only [List.length_cons, List.length_nil]; omega)) a2 ?_)⟩
        try simp only [List.length_cons, List.length_nil, Nat.zero_add]
        rw [show o + 1 + pa.1.length + 1 = o + pa.1.length + 2 from by omega]
        exact b2
      · rename_i h4
        have hkp := kids_pos hok
        have hbd : ∀ j : Nat, j < n.kids.toNat → d + eachN n * j + f ≤ 20 := fun j hj => by
          rcases kids_each hok h3 h4 with h' | ⟨h', _, _⟩
          · rw [h']; omega
          · rw [h']; omega
        obtain ⟨p1, p2⟩ := codeK_piece (names := names) (A := A) hok h3 h4 ih _ _ _ _ (o + 1) d hk hd0 hbd
        rw [show ((n.kids.toNat : Nat) : Int) = n.kids from by omega] at p2
        exact ⟨p1, (tick o).app (p2.app (own_piece hok h3 h4 hd0 (by omega)))⟩

/-- what is told of a part of code -/
structure Stat (many : Nat) (s : List OD) (cnt : Nat) : Prop where
  tick : s.countP (fun p => p.1.kind == 1) = cnt
  ok : ∀ p ∈ s, opOk many p.1 = true ∧ 0 ≤ p.2 ∧ p.2 ≤ 20

theorem Stat.app {many : Nat} {s t : List OD} {c e : Nat} (h : Stat many s c) (g : Stat many t e) : Stat many (s ++ t) (c + e) :=
  ⟨by rw [List.countP_append, h.tick, g.tick], fun p hp => (List.mem_append.1 hp).elim (h.ok p) (g.ok p)⟩

theorem Stat.op {many : Nat} {x : Opn} {d : Int} (h : opOk many x = true) (hk : x.kind ≠ 1) (hd0 : 0 ≤ d) (hd1 : d ≤ 20) : Stat many [(x, d)] 0 :=
  ⟨by simp [hk], fun p hp => by simp at hp; subst hp; exact ⟨h, hd0, hd1⟩⟩

theorem Stat.tick1 {many : Nat} {d : Int} (hd0 : 0 ≤ d) (hd1 : d ≤ 20) : Stat many [((⟨1, 0⟩ : Opn), d)] 1 :=
  ⟨by simp, fun p hp => by simp at hp; subst hp; exact ⟨by simp [opOk], hd0, hd1⟩⟩

theorem own_stat {n : Nd} {many : Nat} {d : Int} (h : okN n = true) (h3 : n.kind ≠ 3) (h4 : n.kind ≠ 4) (hnm : (n.kind = 2 ∨ n.kind = 12) → n.name ∈ names) (h8 : names.length ≤ 8) (hd0 : 0 ≤ d) (hd1 : d ≤ 20) :
    Stat many ((ownO names n).map fun x => (x, d)) 0 := by
  obtain ⟨k0, k1, _, _, hf⟩ := okN_parts h
  unfold ownO
  by_cases e1 : n.kind = 1
  · simp only [e1, if_true]; exact ⟨rfl, fun p hp => by cases hp⟩
  by_cases e2 : n.kind = 2
  · simp only [e2]
    have := idxI_lt (hnm (.inl e2))
    exact Stat.op (by simp [opOk]; omega) (by simp) hd0 hd1
  by_cases e12 : n.kind = 12
  · simp only [e12]
    have := idxI_lt (hnm (.inr e12))
    exact Stat.op (by simp [opOk]; omega) (by simp) hd0 hd1
  by_cases e11 : n.kind = 11
  · unfold fieldsL withinL at hf
    simp [e11] at hf
    simp only [e11]
    exact Stat.op (by simp [opOk]; omega) (by simp) hd0 hd1
  by_cases e10 : n.kind = 10
  · unfold fieldsL hasL at hf
    simp [e10] at hf
    simp only [e10]
    have := idxI_lt hf.2
    have hl : movesL.length = 10 := rfl
    exact Stat.op (by simp [opOk]; omega) (by simp) hd0 hd1
  simp only [e1, e2, e12, e11, e10, if_false]
  split
  · have hc : n.kind = 5 ∨ n.kind = 6 ∨ n.kind = 7 ∨ n.kind = 8 ∨ n.kind = 9 ∨ n.kind = 13 ∨ n.kind = 14 ∨ n.kind = 15 ∨ n.kind = 16 ∨ n.kind = 17 := by
      rename_i hp
      unfold plainL at hp
      apply Classical.byContradiction
      intro hne
      simp only [not_or] at hne
      simp [hne] at hp
    refine Stat.op ?_ ?_ hd0 hd1
    · rcases hc with e | e | e | e | e | e | e | e | e | e <;> simp [e, plainL, opOk]
    · rcases hc with e | e | e | e | e | e | e | e | e | e <;> simp [e, plainL]
  · rename_i hp
    have : 18 ≤ n.kind := by
      apply Classical.byContradiction
      intro hlt
      have hc : n.kind = 5 ∨ n.kind = 6 ∨ n.kind = 7 ∨ n.kind = 8 ∨ n.kind = 9 ∨ n.kind = 13 ∨ n.kind = 14 ∨ n.kind = 15 ∨ n.kind = 16 ∨ n.kind = 17 := by omega
      apply hp
      rcases hc with e | e | e | e | e | e | e | e | e | e <;> simp [e, plainL]
    exact Stat.op (by simp [opOk]; omega) (by simp) hd0 hd1

theorem own_len (n : Nd) : (ownO names n).length ≤ 1 := by
  unfold ownO
  repeat' split
  all_goals simp

theorem kidsT_mono {g : Nat → Option Nat} {n : Nd} (hg : ∀ e e', g e = some e' → e < e') : ∀ (c i e e' : Nat), kidsT l g n c i e = some e' → e ≤ e' := by
  intro c
  induction c with
  | zero => intro i e e' h; simp only [kidsT] at h; cases h; exact Nat.le_refl _
  | succ c ih =>
    intro i e e' h
    obtain ⟨m, e1, _, _, h1, h2⟩ := kidsT_one h
    have := hg _ _ h1
    have := ih _ _ _ h2
    omega

theorem treeL_lt : ∀ (f at_ e : Nat), treeL l f at_ = some e → at_ < e := by
  intro f
  induction f with
  | zero => intro at_ e h; cases h
  | succ f ih =>
    intro at_ e h
    obtain ⟨n, f', hf, _, _, hk⟩ := treeL_pos h
    have : f = f' := by omega
    subst this
    have := kidsT_mono (l := l) (fun e e' h => ih e e' h) _ _ _ _ hk
    omega

theorem codeK_stat {n : Nd} {f many : Nat}
    (ih : ∀ (at_ o : Nat) (d : Int) (e : Nat), treeL l f at_ = some e → 0 ≤ d → d + f ≤ 20 → (codeD l names f at_ o d).2 = e ∧ (codeD l names f at_ o d).1.length ≤ 3 * (e - at_) ∧ (o + (codeD l names f at_ o d).1.length ≤ many → Stat many (codeD l names f at_ o d).1 (e - at_))) :
    ∀ (c i e0 e o : Nat) (d : Int), kidsT l (treeL l f) n c i e0 = some e → 0 ≤ d → (∀ j : Nat, j < c → d + eachN n * j + f ≤ 20) →
      (codeK (codeD l names f) (eachN n) c e0 o d).2 = e ∧ (codeK (codeD l names f) (eachN n) c e0 o d).1.length ≤ 3 * (e - e0) ∧ (o + (codeK (codeD l names f) (eachN n) c e0 o d).1.length ≤ many → Stat many (codeK (codeD l names f) (eachN n) c e0 o d).1 (e - e0)) := by
  have he : 0 ≤ eachN n := by unfold eachN; split <;> omega
  intro c
  induction c with
  | zero =>
    intro i e0 e o d h _ _
    simp only [kidsT] at h
    cases h
    simp only [codeK]
    exact ⟨trivial, by simp, fun _ => ⟨by simp, fun p hp => by cases hp⟩⟩
  | succ c ihc =>
    intro i e0 e o d h hd0 hd1
    obtain ⟨m, e1, hm, hk, ht, hr⟩ := kidsT_one h
    have := hd1 0 (by omega)
    obtain ⟨a1, a2, a3⟩ := ih e0 o d e1 ht hd0 (by simpa using this)
    simp only [codeK]
    rw [a1]
    obtain ⟨b1, b2, b3⟩ := ihc (i + 1) e1 e (o + (codeD l names f e0 o d).1.length) (d + eachN n) hr (by omega) (fun j hj => by
      have := hd1 (j + 1) (by omega)
      rw [show ((j + 1 : Nat) : Int) = (j : Int) + 1 from by omega, Int.mul_add] at this
      omega)
    have l1 := treeL_lt _ _ _ ht
    have l2 := kidsT_mono (l := l) (fun e e' h => treeL_lt f e e' h) _ _ _ _ hr
    refine ⟨b1, by simp only [List.length_append]; omega, fun hm => ?_⟩
    simp only [List.length_append] at hm
    have := (a3 (by omega)).app (b3 (by omega))
    rwa [show e1 - e0 + (e - e1) = e - e0 from by omega] at this

theorem codeD_stat (hnm : ∀ n ∈ l, (n.kind = 2 ∨ n.kind = 12) → n.name ∈ names) (h8 : names.length ≤ 8) {many : Nat} : ∀ (f at_ o : Nat) (d : Int) (e : Nat), treeL l f at_ = some e → 0 ≤ d → d + f ≤ 20 →
    (codeD l names f at_ o d).2 = e ∧ (codeD l names f at_ o d).1.length ≤ 3 * (e - at_) ∧ (o + (codeD l names f at_ o d).1.length ≤ many → Stat many (codeD l names f at_ o d).1 (e - at_)) := by
  intro f
  induction f with
  | zero => intro at_ o d e h; cases h
  | succ f ih =>
    intro at_ o d e h hd0 hd1
    obtain ⟨n, f', hf, hat, hok, hk⟩ := treeL_pos h
    have : f = f' := by omega
    subst this
    have jmp : ∀ (k : Int) (x : Nat) (d : Int), (k = 11 ∨ k = 12) → x ≤ many → 0 ≤ d → d ≤ 20 → Stat many [((⟨k, x⟩ : Opn), d)] 0 := fun k x d hk hx h0 h1 =>
      Stat.op (by rcases hk with rfl | rfl <;> simp [opOk] <;> omega) (by show k ≠ 1; omega) h0 h1
    simp only [codeD, hat]
    split
    · rename_i h3
      split
      · rename_i hk3
        rw [hk3] at hk
        obtain ⟨m0, e1, hm0, hk0, ht0, hk⟩ := kidsT_one (c := 2) hk
        obtain ⟨m1, e2, hm1, hk1, ht1, hk⟩ := kidsT_one (c := 1) hk
        obtain ⟨m2, e3, hm2, hk2, ht2, hk⟩ := kidsT_one (c := 0) hk
        simp only [kidsT] at hk
        cases hk
        obtain ⟨a1, a2, a3⟩ := ih (at_ + 1) (o + 1) d e1 ht0 hd0 (by omega)
        have l1 := treeL_lt _ _ _ ht0
        generalize codeD l names f (at_ + 1) (o + 1) d = pa at *
        subst a1
        obtain ⟨b1, b2, b3⟩ := ih pa.2 (o + pa.1.length + 2) d e2 ht1 hd0 (by omega)
        have l2 := treeL_lt _ _ _ ht1
        generalize codeD l names f pa.2 (o + pa.1.length + 2) d = pb at *
        subst b1
        obtain ⟨c1, c2, c3⟩ := ih pb.2 (o + pa.1.length + pb.1.length + 2 + 1) d e ht2 hd0 (by omega)
        have l3 := treeL_lt _ _ _ ht2
        generalize codeD l names f pb.2 (o + pa.1.length + pb.1.length + 2 + 1) d = pc at *
        refine ⟨c1, by simp only [List.length_append, List.length_cons, List.length_nil]; omega, fun hm => ?_⟩
        simp only [List.length_append, List.length_cons, List.length_nil] at hm
        have := (Stat.tick1 hd0 (by omega)).app ((a3 (by omega)).app ((jmp 12 (o + pa.1.length + pb.1.length + 2 + 1) (d + 1) (.inr rfl) (by omega) (by omega) (by omega)).app
          ((b3 (by omega)).app ((jmp 11 (o + pa.1.length + pb.1.length + 2 + 1 + pc.1.length) d (.inl rfl) (by omega) hd0 (by omega)).app (c3 (by omega))))))
        rwa [show 1 + (pa.2 - (at_ + 1) + (0 + (pb.2 - pa.2 + (0 + (e - pb.2))))) = e - at_ from by omega] at this
      · rename_i hk3
        have := kids_if hok h3
        have hk2 : n.kids = 2 := by omega
        rw [hk2] at hk
        obtain ⟨m0, e1, hm0, hk0, ht0, hk⟩ := kidsT_one (c := 1) hk
        obtain ⟨m1, e2, hm1, hk1, ht1, hk⟩ := kidsT_one (c := 0) hk
        simp only [kidsT] at hk
        cases hk
        obtain ⟨a1, a2, a3⟩ := ih (at_ + 1) (o + 1) d e1 ht0 hd0 (by omega)
        have l1 := treeL_lt _ _ _ ht0
        generalize codeD l names f (at_ + 1) (o + 1) d = pa at *
        subst a1
        obtain ⟨b1, b2, b3⟩ := ih pa.2 (o + pa.1.length + 2) d e ht1 hd0 (by omega)
        have l2 := treeL_lt _ _ _ ht1
        generalize codeD l names f pa.2 (o + pa.1.length + 2) d = pb at *
        refine ⟨b1, by simp only [List.length_append, List.length_cons, List.length_nil]; omega, fun hm => ?_⟩
        simp only [List.length_append, List.length_cons, List.length_nil] at hm
        have := (Stat.tick1 hd0 (by omega)).app ((a3 (by omega)).app ((jmp 12 (o + pa.1.length + pb.1.length + 2) (d + 1) (.inr rfl) (by omega) (by omega) (by omega)).app (b3 (by omega))))
        rwa [show 1 + (pa.2 - (at_ + 1) + (0 + (e - pa.2))) = e - at_ from by omega] at this
    · rename_i h3
      split
      · rename_i h4
        rw [kids_while hok h4] at hk
        obtain ⟨m0, e1, hm0, hk0, ht0, hk⟩ := kidsT_one (c := 1) hk
        obtain ⟨m1, e2, hm1, hk1, ht1, hk⟩ := kidsT_one (c := 0) hk
        simp only [kidsT] at hk
        cases hk
        obtain ⟨a1, a2, a3⟩ := ih (at_ + 1) (o + 1) d e1 ht0 hd0 (by omega)
        have l1 := treeL_lt _ _ _ ht0
        generalize codeD l names f (at_ + 1) (o + 1) d = pa at *
        subst a1
        obtain ⟨b1, b2, b3⟩ := ih pa.2 (o + pa.1.length + 2) d e ht1 hd0 (by omega)
        have l2 := treeL_lt _ _ _ ht1
        generalize codeD l names f pa.2 (o + pa.1.length + 2) d = pb at *
        refine ⟨b1, by simp only [List.length_append, List.length_cons, List.length_nil]; omega, fun hm => ?_⟩
        simp only [List.length_append, List.length_cons, List.length_nil] at hm
        have := (Stat.tick1 hd0 (by omega)).app ((a3 (by omega)).app ((jmp 12 (o + pa.1.length + pb.1.length + 3) (d + 1) (.inr rfl) (by omega) (by omega) (by omega)).app
          ((b3 (by omega)).app (jmp 11 (o + 1) d (.inl rfl) (by omega) hd0 (by omega)))))
        rwa [show 1 + (pa.2 - (at_ + 1) + (0 + (e - pa.2 + 0))) = e - at_ from by omega] at this
      · rename_i h4
        have hkp := kids_pos hok
        have hbd : ∀ j : Nat, j < n.kids.toNat → d + eachN n * j + f ≤ 20 := fun j hj => by
          rcases kids_each hok h3 h4 with h' | ⟨h', _, _⟩
          · rw [h']; omega
          · rw [h']; omega
        have htop : 0 ≤ d + eachN n * n.kids ∧ d + eachN n * n.kids ≤ 20 := by
          rcases kids_each hok h3 h4 with h' | ⟨h', _, h2⟩
          · rw [h']; omega
          · rw [h']
            have := hbd 0
            rcases Nat.lt_or_ge 0 n.kids.toNat with hh | hh
            · obtain ⟨m, e1, _, _, ht, _⟩ := kidsT_one (c := n.kids.toNat - 1) (by rwa [show n.kids.toNat - 1 + 1 = n.kids.toNat from by omega])
              obtain ⟨_, f2, hf2, _⟩ := treeL_pos ht
              omega
            · omega
        obtain ⟨p1, p2, p3⟩ := codeK_stat (names := names) (many := many) ih _ _ _ _ (o + 1) d hk hd0 hbd
        have l1 := kidsT_mono (l := l) (fun e e' h => treeL_lt f e e' h) _ _ _ _ hk
        have l2 := own_len (names := names) n
        refine ⟨p1, by simp only [List.length_append, List.length_cons, List.length_nil, List.length_map]; omega, fun hm => ?_⟩
        simp only [List.length_append, List.length_cons, List.length_nil] at hm
        have := (Stat.tick1 (many := many) hd0 (by omega)).app ((p3 (by omega)).app (own_stat (names := names) (many := many) hok h3 h4 (hnm n (List.mem_of_getElem? hat)) h8 htop.1 htop.2))
        rwa [show 1 + (e - (at_ + 1) + 0) = e - at_ from by omega] at this

end

theorem codeD_head {l : List Nd} {names : List ByteArray} {f at_ o : Nat} {d : Int} {n : Nd} (hn : l[at_]? = some n) : (codeD l names (f + 1) at_ o d).1[0]? = some (⟨1, 0⟩, d) := by
  simp only [codeD, hn]
  split
  · split <;> rfl
  · split <;> rfl

/-- all code of nodes -/
def codeA (l : List Nd) : List OD := (codeD l (varsL l) 20 0 0 0).1
def codeL (l : List Nd) : List Opn := (codeA l).map (·.1)
def depL (l : List Nd) : List Int := (codeA l).map (·.2) ++ [0]

theorem foldl_addV_mem : ∀ (l : List Nd) (out : List ByteArray), (∀ x ∈ out, x ∈ l.foldl addV out) ∧ ∀ n ∈ l, (n.kind = 2 ∨ n.kind = 12) → n.name ∈ l.foldl addV out := by
  intro l
  induction l with
  | nil => intro out; exact ⟨fun x h => h, fun n h => by cases h⟩
  | cons a l ih =>
    intro out
    have hstep : (∀ x ∈ out, x ∈ addV out a) ∧ ((a.kind = 2 ∨ a.kind = 12) → a.name ∈ addV out a) := by
      unfold addV
      split
      · split
        · rename_i h
          exact ⟨fun x h => h, fun _ => by simpa [hasL] using h⟩
        · exact ⟨fun x h => by simp [h], fun _ => by simp⟩
      · rename_i h
        exact ⟨fun x h => h, fun h' => absurd h' h⟩
    obtain ⟨i1, i2⟩ := ih (addV out a)
    refine ⟨fun x hx => i1 x (hstep.1 x hx), fun n hn hk => ?_⟩
    rcases List.mem_cons.1 hn with rfl | hn
    · exact i1 _ (hstep.2 hk)
    · exact i2 n hn hk

/-- the code of right nodes: all that is said of it -/
theorem code_right {l : List Nd} (ht : treeL l 20 0 = some l.length) (hl : l.length ≤ 200) (hv : (varsL l).length ≤ 8) (h0 : ∃ n, l[0]? = some n ∧ n.kind = 1) :
    Good (codeL l) (depL l) ∧ (∀ S : Int → Prop, Closed (codeL l) S → S 0 → ∀ i : Nat, i ≤ (codeL l).length → S i) ∧ (∀ o ∈ codeL l, opOk (codeL l).length o = true) ∧
    (codeL l).countP (fun o => o.kind == 1) = l.length ∧ (codeL l).length ≤ 600 ∧ (∀ d ∈ depL l, 0 ≤ d ∧ d ≤ 20) ∧ (codeL l)[0]? = some ⟨1, 0⟩ := by
  obtain ⟨n, hn, hk⟩ := h0
  have hr : resN n = 0 := by unfold resN; rw [if_neg (by omega)]
  obtain ⟨p1, p2⟩ := codeD_piece (names := varsL l) (A := codeA l) 20 0 0 0 _ n ht hn (by omega) (by omega)
  obtain ⟨s1, s2, s3⟩ := codeD_stat (names := varsL l) (fun n hn hk => (foldl_addV_mem l []).2 n hn hk) hv (many := (codeA l).length) 20 0 0 0 _ ht (by omega) (by omega)
  have s3 := s3 (by rw [Nat.zero_add]; exact Nat.le_refl _)
  have hA : (codeD l (varsL l) 20 0 0 0).1 = codeA l := rfl
  rw [hA] at p2 s2 s3
  rw [hr] at p2
  have hat : AtO (codeA l) 0 (codeA l) := fun i _ => by rw [Nat.zero_add]
  have hend : DD (codeA l) (0 + (codeA l).length) = some (0 + 0) := by unfold DD; rw [Nat.zero_add, List.getElem?_append_right (by simp)]; simp
  have hlen : (codeL l).length = (codeA l).length := by simp [codeL]
  have hpos : ∀ d ∈ depL l, 0 ≤ d ∧ d ≤ 20 := fun d hd => by
    unfold depL at hd
    rcases List.mem_append.1 hd with h | h
    · obtain ⟨p, hp, rfl⟩ := List.mem_map.1 h
      exact (s3.ok p hp).2
    · simp at h; subst h; omega
  refine ⟨⟨by simp [depL, hlen], fun d hd => (hpos d hd).1, ?_, ?_, fun i o d ho hd => ?_⟩, fun S hS h i hi => ?_, fun o ho => ?_, ?_, by omega, hpos, ?_⟩
  · exact p2.ent hat hend
  · have := hend
    rw [Nat.zero_add] at this
    rw [hlen]; exact this
  · unfold codeL at ho
    rw [List.getElem?_map] at ho
    cases hp : (codeA l)[i]? with
    | none => rw [hp] at ho; cases ho
    | some p =>
      rw [hp] at ho
      cases ho
      have hlt : i < (codeA l).length := by
        rcases Nat.lt_or_ge i (codeA l).length with h' | h'
        · exact h'
        · rw [List.getElem?_eq_none h'] at hp; cases hp
      have hd' := DD_of hp
      have : DD (codeA l) i = some d := hd
      rw [this] at hd'
      cases hd'
      obtain ⟨o1, o2, o3⟩ := p2.ok hat hend i (by omega) (by omega) p hp
      refine ⟨o1, o2, fun k hk => ?_⟩
      obtain ⟨q1, q2⟩ := o3 k hk
      have := DD_le q2
      exact ⟨q1, by rw [hlen]; omega, q2⟩
  · exact p2.rch hat S hS h i (by omega) (by rw [hlen] at hi; omega)
  · unfold codeL at ho
    obtain ⟨p, hp, rfl⟩ := List.mem_map.1 ho
    rw [hlen]
    exact (s3.ok p hp).1
  · unfold codeL
    rw [List.countP_map]
    exact s3.tick
  · unfold codeL codeA
    rw [List.getElem?_map, codeD_head (f := 19) hn]
    rfl

end Go.Proofs.Ytkjddlgaldnbnaa
end
