import Derived.Test.YtkjddlgaldnbnaaLA
import Derived.Test.YtkjddlgaldnbnaaBA

/-
  CONTRACTS: what tells whether nodes are right (the program's side): small functions.
-/
section
set_option linter.unusedVariables false
set_option linter.unusedSimpArgs false
namespace Go.Proofs.Ytkjddlgaldnbnaa

/-- a call that leaves what is known: no more need be known behind it -/
theorem CallsV.back {P : Program} {f : FuncId} {args : Array Value} {u : View} {Q : Value → Prop} (h : CallsV P f args u fun v u' => Keep u u' ∧ Q v) : CallsV P f args u fun v u' => u' = u ∧ Q v :=
  fun w hs => (h w hs).mono fun _ _ ⟨v, u', e, s, g, fr, dom, hk, q⟩ => ⟨v, u, e, ⟨Nat.le_trans hk.1 s.1, fun b o hm => s.2 b o (hk.2 b o hm)⟩, g, fr, fun b o hm => .inl (by rw [hm]; simp), rfl, q⟩

/-- what comes of a call is v, and nothing else is known behind it -/
def Gives (f : FuncId) (args : Array Value) (u : View) (v : Value) : Prop := CallsV Try.prog f args u fun v' u' => u' = u ∧ v' = v

theorem Gives.use {f : FuncId} {args : Array Value} {u : View} {v : Value} (h : Gives f args u v) {R : Value → View → Prop} (hr : R v u) : CallsV Try.prog f args u R :=
  CallsV.mono h fun _ _ ⟨e1, e2⟩ => by rw [e1, e2]; exact hr

theorem eqS_iff (a b : ByteArray) : eqS a b = decide (a = b) := bytes_beq a b

def withinL (n lo hi : Int) : Bool := decide (lo ≤ n ∧ n ≤ hi)

theorem k_within (n lo hi : Int) (u : View) : Gives F_within #[.int .i64 n, .int .i64 lo, .int .i64 hi] u (.bool (withinL n lo hi)) := by
  refine c_within n lo hi u _ trivial ⟨fun h => ⟨rfl, ?_⟩, fun h => ⟨rfl, ?_⟩⟩
  · have : lo ≤ n := by simpa using h
    simp [withinL, this]
  · have : ¬ lo ≤ n := by simpa using h
    simp [withinL, this]

def kidsL (k : Int) : Int × Int :=
  if k = 1 then (0, 200) else if k = 3 then (2, 3) else if k = 4 ∨ k = 6 then (2, 2) else if k = 2 ∨ k = 5 ∨ k = 7 ∨ k = 8 ∨ k = 16 ∨ k = 17 then (1, 1) else
  if 18 ≤ k ∧ k ≤ 26 then (2, 2) else (0, 0)

theorem k_kidsOf (k : Int) (u : View) : Gives F_kidsOf #[.int .i64 k] u (.tuple #[.int .i64 (kidsL k).1, .int .i64 (kidsL k).2]) := by
  refine c_kidsOf k u _ trivial ?_
  unfold W_kidsOf
  simp only [beq_iff_eq, beq_eq_false_iff_ne, ne_eq]
  refine ⟨fun h1 => ?_, fun h1 => ⟨fun h2 => ?_, fun h2 => ⟨fun h3 => ?_, fun h3 => ⟨fun h4 => ?_, fun h4 => ⟨fun h5 => ?_, fun h5 => ⟨fun h6 => ?_, fun h6 => ⟨fun h7 => ?_, fun h7 => ⟨fun h8 => ?_, fun h8 =>
    ⟨fun h9 => ?_, fun h9 => ⟨fun h10 => ?_, fun h10 => ?_⟩⟩⟩⟩⟩⟩⟩⟩⟩⟩
  case refine_11 =>
    refine (k_within k 18 26 u).use ⟨_, rfl, fun h => ⟨by trivial, ?_⟩, fun h => ⟨by trivial, ?_⟩⟩
    · have : 18 ≤ k ∧ k ≤ 26 := by simpa [withinL] using h
      simp [kidsL, h1, h2, h3, h4, h5, h6, h7, h8, h9, h10, this]
    · have : ¬ (18 ≤ k ∧ k ≤ 26) := by simpa [withinL] using h
      simp only [kidsL, h1, h2, h3, h4, h5, h6, h7, h8, h9, h10, if_neg this, if_false, or_false]
  all_goals exact ⟨by trivial, by simp [kidsL, *]⟩

theorem k_indexS {s : Sl} {l : List ByteArray} {u : View} (h : Arr encS 1 u s l) (x : ByteArray) : Gives F_indexS #[.slice s.p s.n s.c, .string x] u (.int .i64 (idxI x l)) := by
  have hn := h.n
  have hb := h.bd
  refine c_indexS s x u _ trivial ?_
  unfold W_indexS
  refine ⟨fun (i, u') => u' = u ∧ 0 ≤ i ∧ i ≤ s.n ∧ ∀ j : Nat, j < i.toNat → l[j]? ≠ some x, fun (i, _) => s.n - i.toNat, ⟨⟨rfl, by omega, by omega, fun j hj => by simp at hj⟩, trivial⟩, ?_⟩
  rintro junk i u' ⟨rfl, h0, h1, h2⟩
  refine ⟨fun hc => ?_, fun hc => ?_⟩
  · have hlt : i < (s.n : Int) := by simpa using hc
    obtain ⟨ad, y, e, hy, hcell⟩ := h.one (fun _ => rfl) h0 hlt
    refine ⟨ad, e, h0, hlt, y, hcell, fun he => ⟨rfl, ?_⟩, fun hne => ?_⟩
    · rw [eqS_iff] at he
      have : x = y := by simpa using he
      subst this
      rw [idxI_some hy h2]
      congr 1; omega
    · rw [eqS_iff] at hne
      have hne : x ≠ y := by simpa using hne
      rw [wrap64 (by omega) (by omega)]
      refine ⟨⟨⟨rfl, by omega, by omega, fun j hj => ?_⟩, by simp only; omega⟩, trivial⟩
      rcases Nat.lt_or_ge j i.toNat with hl | hg
      · exact h2 j hl
      · have : j = i.toNat := by omega
        subst this
        rw [hy]
        intro e'
        cases e'
        exact hne rfl
  · have hge : ¬ i < (s.n : Int) := by simpa using hc
    refine ⟨rfl, ?_⟩
    rw [idxI_none fun j hj => h2 j (by omega)]

def hasL {α : Type} [DecidableEq α] (x : α) (l : List α) : Bool := decide (x ∈ l)

theorem idxI_ge {α : Type} [DecidableEq α] (x : α) (l : List α) : decide (idxI x l ≥ 0) = hasL x l := by
  unfold idxI hasL
  by_cases h : x ∈ l <;> simp [h]

theorem k_containsS {s : Sl} {l : List ByteArray} {u : View} (h : Arr encS 1 u s l) (x : ByteArray) : Gives F_containsS #[.slice s.p s.n s.c, .string x] u (.bool (hasL x l)) := by
  refine c_containsS s x u _ trivial ?_
  refine (k_indexS h x).use ⟨_, rfl, rfl, ?_⟩
  rw [idxI_ge]

/-- a literal list of texts -/
theorem arr_lit {u : View} {b : Nat} {l : List ByteArray} {T : TypeId} {n : Nat} (hn : n = l.length) (hb : n ≤ 4611686018427387904) : Arr encS 1 (u.set b (.cells (l.map Value.string).toArray T (0, 0))) ⟨some ⟨b, 0, none⟩, n, n⟩ l := by
  refine ⟨hn, ?_, Nat.le_refl _, hb⟩
  refine cells_at (View.set_self _ _ _) fun j v hj => ?_
  rw [Nat.zero_add]
  have : l.flatMap encS = l.map Value.string := by
    clear hn hj
    induction l with
    | nil => rfl
    | cons a l ih => simp [encS, ih]
  rw [this] at hj
  simpa using hj

def movesL : List ByteArray := [⟨#[108, 101, 102, 116]⟩, ⟨#[114, 105, 103, 104, 116]⟩, ⟨#[119, 111, 114, 100, 45, 98, 97, 99, 107]⟩, ⟨#[119, 111, 114, 100, 45, 110, 101, 120, 116]⟩, ⟨#[108, 105, 110, 101, 45, 115, 116, 97, 114, 116]⟩,
  ⟨#[108, 105, 110, 101, 45, 101, 110, 100]⟩, ⟨#[117, 112]⟩, ⟨#[100, 111, 119, 110]⟩, ⟨#[102, 105, 114, 115, 116]⟩, ⟨#[108, 97, 115, 116]⟩]

theorem k_moves (u : View) : CallsV Try.prog F_moves #[] u fun v u' => ∃ s, v = .slice s.p s.n s.c ∧ Keep u u' ∧ Arr encS 1 u' s movesL := by
  refine c_moves u _ trivial ?_
  intro b hb
  exact ⟨⟨some ⟨b, 0, none⟩, 10, 10⟩, rfl, Keep.set hb, arr_lit (l := movesL) rfl (by omega)⟩

end Go.Proofs.Ytkjddlgaldnbnaa
end

/-
  CONTRACTS: names and the fields of nodes, on both sides.
-/
section
set_option linter.unusedVariables false
set_option linter.unusedSimpArgs false
namespace Go.Proofs.Ytkjddlgaldnbnaa

def allB (t : ByteArray) (p : UInt8 → Bool) : Bool := t.data.toList.all p

theorem bget {t : ByteArray} {i : Nat} (h : i < t.size) : t[i]? = some t[i] := by simp [h]

theorem allB_iff {t : ByteArray} {p : UInt8 → Bool} : allB t p = true ↔ ∀ (i : Nat) (h : i < t.size), p t[i] = true := by
  unfold allB
  rw [List.all_eq_true]
  constructor
  · intro h i hi
    exact h _ (by
      have : t[i] = t.data.toList[i]'(by simpa using hi) := rfl
      rw [this]; exact List.getElem_mem _)
  · intro h x hx
    obtain ⟨i, hi, rfl⟩ := List.mem_iff_getElem.1 hx
    exact h i (by simpa using hi)

def okC (b : UInt8) : Bool := decide ((97 ≤ b.toNat ∧ b.toNat ≤ 122) ∨ b.toNat = 45)

def nameL (t : ByteArray) : Bool := decide (1 ≤ t.size ∧ t.size ≤ 20) && allB t okC

theorem k_isKeyName {t : ByteArray} (hb : t.size ≤ 4611686018427387904) (u : View) : Gives F_isKeyName #[.string t] u (.bool (nameL t)) := by
  refine c_isKeyName t u _ trivial ?_
  unfold W_isKeyName
  refine ⟨fun (i, u') => u' = u ∧ 0 ≤ i ∧ i ≤ t.size ∧ ∀ (j : Nat) (h : j < t.size), j < i.toNat → okC t[j] = true, fun (i, _) => t.size - i.toNat, ⟨⟨rfl, by omega, by omega, fun j h hj => by simp at hj⟩, trivial⟩, ?_⟩
  rintro junk i u' ⟨rfl, h0, h1, h2⟩
  have bad : ∀ (h : i.toNat < t.size), okC t[i.toNat] = false → nameL t = false := fun h hc => by
    unfold nameL
    cases ha : allB t okC with
    | false => simp
    | true => rw [allB_iff.1 ha _ h] at hc; cases hc
  have good : ∀ (h : i.toNat < t.size), okC t[i.toNat] = true → ((u' = u' ∧ 0 ≤ IntKind.wrap .i64 (i + 1) ∧ IntKind.wrap .i64 (i + 1) ≤ t.size ∧ ∀ (j : Nat) (h : j < t.size), j < (IntKind.wrap .i64 (i + 1)).toNat → okC t[j] = true) ∧
      t.size - (IntKind.wrap .i64 (i + 1)).toNat < t.size - i.toNat) ∧ True := fun h hc => by
    rw [wrap64 (by omega) (by omega)]
    refine ⟨⟨⟨rfl, by omega, by omega, fun j hj hlt => ?_⟩, by omega⟩, trivial⟩
    rcases Nat.lt_or_ge j i.toNat with hl | hg
    · exact h2 j hj hl
    · obtain rfl : j = i.toNat := by omega
      exact hc
  refine ⟨fun hc => ?_, fun hc => ?_⟩
  · have hlt : i < (t.size : Int) := by simpa using hc
    have hl : i.toNat < t.size := by omega
    have no : okC t[i.toNat] = false → u' = u' ∧ Value.bool false = .bool (nameL t) := fun h => ⟨rfl, by rw [bad hl h]⟩
    refine ⟨t[i.toNat], bget hl, h0, fun hge => ⟨t[i.toNat], bget hl, h0, fun hle => ⟨t[i.toNat], bget hl, h0, fun hd => no ?_, fun hd => good hl ?_⟩, fun hle => good hl ?_⟩, fun hge => ⟨t[i.toNat], bget hl, h0, fun hd => no ?_, fun hd => good hl ?_⟩⟩
    all_goals
      simp only [Bool.not_eq_true', Bool.not_eq_false', beq_iff_eq, beq_eq_false_iff_ne, ne_eq, decide_eq_true_eq, decide_eq_false_iff_not, okC] at *
      omega
  · have hge : ¬ i < (t.size : Int) := by simpa using hc
    refine (k_within _ _ _ _).use ⟨_, rfl, rfl, ?_⟩
    have : allB t okC = true := allB_iff.2 fun j hj => h2 j hj (by omega)
    have e : decide (1 ≤ t.size ∧ t.size ≤ 20) = decide ((1 : Int) ≤ t.size ∧ (t.size : Int) ≤ 20) := by apply decide_eq_decide.2; omega
    unfold nameL withinL
    rw [this, e, Bool.and_true]

theorem k_l07Name {t : ByteArray} (hb : t.size ≤ 4611686018427387904) (u : View) : Gives F_l07Name #[.string t] u (.bool (nameL t)) := by
  refine c_l07Name t u _ trivial ?_
  unfold W_l07Name
  have short : ¬ (1 ≤ t.size ∧ t.size ≤ 20) → u = u ∧ Value.bool false = .bool (nameL t) := fun h => ⟨rfl, by unfold nameL; rw [decide_eq_false h]; rfl⟩
  refine ⟨fun u' => u' = u ∧ 1 ≤ t.size ∧ t.size ≤ 20, ⟨fun h1 => ⟨fun h2 => short ?_, fun h2 => ⟨⟨rfl, ?_⟩, trivial⟩⟩, fun h1 => short ?_⟩, ?_⟩
  all_goals try simp only [decide_eq_true_eq, decide_eq_false_iff_not] at *
  · omega
  · omega
  · omega
  rintro _ u' ⟨rfl, hs1, hs2⟩
  refine ⟨fun (i, w) => w = u' ∧ 0 ≤ i ∧ i ≤ t.size ∧ ∀ (j : Nat) (h : j < t.size), j < i.toNat → okC t[j] = true, fun (i, _) => t.size - i.toNat, ⟨⟨rfl, by omega, by omega, fun j h hj => by simp at hj⟩, trivial⟩, ?_⟩
  rintro junk i w ⟨rfl, h0, h1, h2⟩
  have bad : ∀ (h : i.toNat < t.size), okC t[i.toNat] = false → nameL t = false := fun h hc => by
    unfold nameL
    cases ha : allB t okC with
    | false => simp
    | true => rw [allB_iff.1 ha _ h] at hc; cases hc
  have good : ∀ (h : i.toNat < t.size), okC t[i.toNat] = true → ((w = w ∧ 0 ≤ IntKind.wrap .i64 (i + 1) ∧ IntKind.wrap .i64 (i + 1) ≤ t.size ∧ ∀ (j : Nat) (h : j < t.size), j < (IntKind.wrap .i64 (i + 1)).toNat → okC t[j] = true) ∧
      t.size - (IntKind.wrap .i64 (i + 1)).toNat < t.size - i.toNat) ∧ True := fun h hc => by
    rw [wrap64 (by omega) (by omega)]
    refine ⟨⟨⟨rfl, by omega, by omega, fun j hj hlt => ?_⟩, by omega⟩, trivial⟩
    rcases Nat.lt_or_ge j i.toNat with hl | hg
    · exact h2 j hj hl
    · obtain rfl : j = i.toNat := by omega
      exact hc
  refine ⟨fun hc => ?_, fun hc => ?_⟩
  · have hlt : i < (t.size : Int) := by simpa using hc
    have hl : i.toNat < t.size := by omega
    have no : okC t[i.toNat] = false → w = w ∧ Value.bool false = .bool (nameL t) := fun h => ⟨rfl, by rw [bad hl h]⟩
    refine ⟨t[i.toNat], bget hl, h0, fun hge => ⟨t[i.toNat], bget hl, h0, fun hle => ⟨t[i.toNat], bget hl, h0, fun hd => no ?_, fun hd => good hl ?_⟩, fun hle => good hl ?_⟩, fun hge => ⟨t[i.toNat], bget hl, h0, fun hd => no ?_, fun hd => good hl ?_⟩⟩
    all_goals
      simp only [Bool.not_eq_true', Bool.not_eq_false', beq_iff_eq, beq_eq_false_iff_ne, ne_eq, decide_eq_true_eq, decide_eq_false_iff_not, okC] at *
      omega
  · have hge : ¬ i < (t.size : Int) := by simpa using hc
    have : allB t okC = true := allB_iff.2 fun j hj => h2 j hj (by omega)
    refine ⟨rfl, ?_⟩
    unfold nameL
    rw [this, decide_eq_true ⟨hs1, hs2⟩]
    rfl

def leavesL : List (ByteArray × Int) := [(⟨#[99, 117, 114, 115, 111, 114]⟩, 13), (⟨#[108, 101, 110, 103, 116, 104]⟩, 14), (⟨#[109, 97, 114, 107, 97, 116]⟩, 15), (⟨#[97, 116]⟩, 16), (⟨#[110, 111, 116]⟩, 17)]

def entries (l : List (ByteArray × Int)) (k : Nat) : List MapEntry := (l.zipIdx k).map fun p => { key := .string p.1.1, val := .int .i64 p.1.2, born := p.2 }

theorem k_leaves (u : View) : CallsV Try.prog F_leaves #[] u fun v u' => ∃ r, v = .map (some r) ∧ Keep u u' ∧ u'.m r = some (.map (entries leavesL 0).toArray 5) := by
  refine c_leaves u _ trivial ?_
  intro b hb
  refine ⟨_, _, View.set_self _ _ _, none, rfl, (fun _ _ h => by cases h), _, _, View.set_self _ _ _, none, rfl, (fun _ _ h => by cases h), _, _, View.set_self _ _ _, none, rfl, (fun _ _ h => by cases h),
    _, _, View.set_self _ _ _, none, rfl, (fun _ _ h => by cases h), _, _, View.set_self _ _ _, none, rfl, (fun _ _ h => by cases h), ?_⟩
  refine ⟨b, rfl, ⟨by simp only [View.set]; omega, fun b' o hm => ?_⟩, ?_⟩
  · have hne : b' ≠ b := fun e => by subst e; rw [View.fresh hb] at hm; cases hm
    simp only [View.set_ne _ _ hne]; exact hm
  · rw [View.set_self]; rfl

end Go.Proofs.Ytkjddlgaldnbnaa
end

/-
  CONTRACTS: words and names, on both sides.
-/
section
set_option linter.unusedVariables false
set_option linter.unusedSimpArgs false
namespace Go.Proofs.Ytkjddlgaldnbnaa

def stmtWordsL : List ByteArray := [⟨#[108, 101, 116]⟩, ⟨#[105, 102]⟩, ⟨#[119, 104, 105, 108, 101]⟩, ⟨#[105, 110, 115, 101, 114, 116]⟩, ⟨#[100, 101, 108, 101, 116, 101]⟩, ⟨#[103, 111]⟩, ⟨#[109, 97, 114, 107]⟩, ⟨#[98, 101, 108, 108]⟩, ⟨#[100, 111]⟩]

theorem k_statementWords (u : View) : CallsV Try.prog F_statementWords #[] u fun v u' => ∃ s, v = .slice s.p s.n s.c ∧ Keep u u' ∧ Arr encS 1 u' s stmtWordsL := by
  refine c_statementWords u _ trivial ?_
  intro b hb
  exact ⟨⟨some ⟨b, 0, none⟩, 9, 9⟩, rfl, Keep.set hb, arr_lit (l := stmtWordsL) rfl (by omega)⟩

def wordsL : List ByteArray := [⟨#[]⟩, ⟨#[]⟩, ⟨#[108, 101, 116]⟩, ⟨#[105, 102]⟩, ⟨#[119, 104, 105, 108, 101]⟩, ⟨#[105, 110, 115, 101, 114, 116]⟩, ⟨#[100, 101, 108, 101, 116, 101]⟩, ⟨#[103, 111]⟩, ⟨#[109, 97, 114, 107]⟩, ⟨#[98, 101, 108, 108]⟩, ⟨#[100, 111]⟩,
  ⟨#[]⟩, ⟨#[]⟩, ⟨#[99, 117, 114, 115, 111, 114]⟩, ⟨#[108, 101, 110, 103, 116, 104]⟩, ⟨#[109, 97, 114, 107, 97, 116]⟩, ⟨#[97, 116]⟩, ⟨#[110, 111, 116]⟩, ⟨#[111, 114]⟩, ⟨#[97, 110, 100]⟩, ⟨#[60]⟩, ⟨#[61]⟩, ⟨#[62]⟩, ⟨#[43]⟩, ⟨#[45]⟩, ⟨#[42]⟩, ⟨#[47]⟩, ⟨#[101, 108, 115, 101]⟩]

theorem k_l11Words (u : View) : CallsV Try.prog F_l11Words #[] u fun v u' => ∃ s, v = .slice s.p s.n s.c ∧ Keep u u' ∧ Arr encS 1 u' s wordsL := by
  refine c_l11Words u _ trivial ?_
  intro b hb
  exact ⟨⟨some ⟨b, 0, none⟩, 28, 28⟩, rfl, Keep.set hb, arr_lit (l := wordsL) rfl (by omega)⟩

def motionsL : List ByteArray := ⟨#[]⟩ :: movesL

theorem k_motions (u : View) : CallsV Try.prog F_motions #[] u fun v u' => ∃ s, v = .slice s.p s.n s.c ∧ Keep u u' ∧ Arr encS 1 u' s motionsL := by
  refine c_motions u _ trivial ?_
  intro b hb
  exact ⟨⟨some ⟨b, 0, none⟩, 11, 11⟩, rfl, Keep.set hb, arr_lit (l := motionsL) rfl (by omega)⟩

/-- the first place from one on of a thing, or 0 -/
def fromI {α : Type} [DecidableEq α] (k : Nat) (x : α) (l : List α) : Int := if x ∈ l.drop k then (k + (l.drop k).idxOf x : Nat) else 0

theorem fromI_some {α : Type} [DecidableEq α] {k i : Nat} {x : α} {l : List α} (hk : k ≤ i) (hi : l[i]? = some x) (h : ∀ j : Nat, k ≤ j → j < i → l[j]? ≠ some x) : fromI k x l = i := by
  have h1 : (l.drop k)[i - k]? = some x := by rw [List.getElem?_drop, show k + (i - k) = i from by omega]; exact hi
  have := idxI_some h1 fun j hj => by rw [List.getElem?_drop]; exact h (k + j) (by omega) (by omega)
  unfold idxI at this
  unfold fromI
  rw [if_pos (List.mem_of_getElem? h1)] at this ⊢
  omega

theorem fromI_none {α : Type} [DecidableEq α] {k : Nat} {x : α} {l : List α} (h : ∀ j : Nat, k ≤ j → j < l.length → l[j]? ≠ some x) : fromI k x l = 0 := by
  unfold fromI
  rw [if_neg]
  intro hm
  obtain ⟨i, hi, e⟩ := List.mem_iff_getElem.1 hm
  have hi' : k + i < l.length := by simp at hi; omega
  refine h (k + i) (by omega) hi' ?_
  rw [List.getElem_drop] at e
  rw [List.getElem?_eq_getElem hi', e]

def motionL (t : ByteArray) : Int := fromI 1 t motionsL

theorem k_l11Motion (t : ByteArray) (u : View) : Gives F_l11Motion #[.string t] u (.int .i64 (motionL t)) := by
  refine CallsV.back ?_
  refine c_l11Motion t u _ trivial ?_
  unfold W_l11Motion
  refine (k_motions u).mono ?_
  rintro _ u1 ⟨s, rfl, hk, ha⟩
  have hn := ha.n
  have hb := ha.bd
  have hn11 : s.n = 11 := hn
  refine ⟨s, rfl, fun (i, w) => w = u1 ∧ 1 ≤ i ∧ i ≤ s.n ∧ ∀ j : Nat, 1 ≤ j → j < i.toNat → motionsL[j]? ≠ some t, fun (i, _) => s.n - i.toNat, ⟨⟨rfl, by omega, by omega, fun j h1 hj => by simp at hj; omega⟩, trivial⟩, ?_⟩
  rintro junk i w ⟨rfl, h0, h1, h2⟩
  refine ⟨fun hc => ?_, fun hc => ?_⟩
  · have hlt : i < (s.n : Int) := by simpa using hc
    obtain ⟨ad, y, e, hy, hcell⟩ := ha.one (fun _ => rfl) (by omega) hlt
    refine ⟨ad, e, by omega, hlt, y, hcell, fun he => ⟨hk, ?_⟩, fun hne => ?_⟩
    · rw [eqS_iff] at he
      have : y = t := by simpa using he
      subst this
      unfold motionL
      rw [fromI_some (by omega) hy h2]
      congr 1; omega
    · rw [eqS_iff] at hne
      have hne : y ≠ t := by simpa using hne
      rw [wrap64 (by omega) (by omega)]
      refine ⟨⟨⟨rfl, by omega, by omega, fun j h1 hj => ?_⟩, by simp only; omega⟩, trivial⟩
      rcases Nat.lt_or_ge j i.toNat with hl | hg
      · exact h2 j h1 hl
      · obtain rfl : j = i.toNat := by omega
        rw [hy]
        intro e'
        cases e'
        exact hne rfl
  · have hge : ¬ i < (s.n : Int) := by simpa using hc
    refine ⟨hk, ?_⟩
    unfold motionL
    rw [fromI_none fun j h1 hj => h2 j h1 (by omega)]

def wordL (t : ByteArray) : Int := if t = ⟨#[]⟩ then 0 else fromI 2 t wordsL

theorem k_l11Word (t : ByteArray) (u : View) : Gives F_l11Word #[.string t] u (.int .i64 (wordL t)) := by
  refine CallsV.back ?_
  refine c_l11Word t u _ trivial ?_
  unfold W_l11Word
  refine (k_l11Words u).mono ?_
  rintro _ u1 ⟨s, rfl, hk, ha⟩
  have hn := ha.n
  have hb := ha.bd
  have hn28 : s.n = 28 := hn
  refine ⟨s, rfl, fun (i, w) => w = u1 ∧ 2 ≤ i ∧ i ≤ s.n ∧ (t ≠ ⟨#[]⟩ → ∀ j : Nat, 2 ≤ j → j < i.toNat → wordsL[j]? ≠ some t), fun (i, _) => s.n - i.toNat, ⟨⟨rfl, by omega, by omega, fun _ j h1 hj => by simp at hj; omega⟩, trivial⟩, ?_⟩
  rintro junk i w ⟨rfl, h0, h1, h2⟩
  refine ⟨fun hc => ?_, fun hc => ?_⟩
  · have hlt : i < (s.n : Int) := by simpa using hc
    obtain ⟨ad, y, e, hy, hcell⟩ := ha.one (fun _ => rfl) (by omega) hlt
    have next : (t ≠ ⟨#[]⟩ → y ≠ t) → ((w = w ∧ 2 ≤ IntKind.wrap .i64 (i + 1) ∧ IntKind.wrap .i64 (i + 1) ≤ s.n ∧ (t ≠ ⟨#[]⟩ → ∀ j : Nat, 2 ≤ j → j < (IntKind.wrap .i64 (i + 1)).toNat → wordsL[j]? ≠ some t)) ∧
        s.n - (IntKind.wrap .i64 (i + 1)).toNat < s.n - i.toNat) ∧ True := fun hne => by
      rw [wrap64 (by omega) (by omega)]
      refine ⟨⟨⟨rfl, by omega, by omega, fun ht j h1 hj => ?_⟩, by omega⟩, trivial⟩
      rcases Nat.lt_or_ge j i.toNat with hl | hg
      · exact h2 ht j h1 hl
      · obtain rfl : j = i.toNat := by omega
        rw [hy]
        intro e'
        cases e'
        exact hne ht rfl
    refine ⟨ad, e, by omega, hlt, y, hcell, fun he => ⟨fun hnil => ⟨hk, ?_⟩, fun hnil => next fun ht => ?_⟩, fun hne => next fun _ => ?_⟩
    · rw [eqS_iff] at he hnil
      have : y = t := by simpa using he
      subst this
      have hnil : ¬ y = ⟨#[]⟩ := by simpa using hnil
      unfold wordL
      rw [if_neg hnil, fromI_some (by omega) hy (h2 hnil)]
      congr 1; omega
    · rw [eqS_iff] at hnil
      exact absurd (by simpa using hnil) ht
    · rw [eqS_iff] at hne
      simpa using hne
  · have hge : ¬ i < (s.n : Int) := by simpa using hc
    refine ⟨hk, ?_⟩
    unfold wordL
    by_cases ht : t = ⟨#[]⟩
    · rw [if_pos ht]
    · rw [if_neg ht, fromI_none fun j h1 hj => h2 ht j h1 (by omega)]

end Go.Proofs.Ytkjddlgaldnbnaa
end

/-
  CONTRACTS: names of variables: both sides say the same; fields of nodes.
-/
section
set_option linter.unusedVariables false
set_option linter.unusedSimpArgs false
namespace Go.Proofs.Ytkjddlgaldnbnaa

def first (t : ByteArray) : Nat := match t[0]? with | some b => b.toNat | none => 0

/-- a variable's name -/
def varL (t : ByteArray) : Bool := nameL t && !(first t == 45) && (wordL t == 0)

theorem name_pos {t : ByteArray} (h : nameL t = true) : 0 < t.size ∧ t.size ≤ 20 := by
  unfold nameL at h
  simp at h
  omega

theorem k_l11Name {t : ByteArray} (hb : t.size ≤ 4611686018427387904) (u : View) : Gives F_l11Name #[.string t] u (.bool (varL t)) := by
  refine c_l11Name t u _ trivial ?_
  refine (k_l07Name hb u).use ⟨_, rfl, fun h => ?_, fun h => ⟨rfl, by simp [varL, h]⟩⟩
  have hp := (name_pos h).1
  have hf : first t = (t[0]).toNat := by simp [first, bget hp]
  refine ⟨t[0], bget hp, by decide, fun h1 => ?_, fun h1 => ⟨rfl, ?_⟩⟩
  · refine (k_l11Word t u).use ⟨_, rfl, rfl, ?_⟩
    have : (first t == 45) = false := by rw [hf]; simp at h1 ⊢; omega
    simp [varL, h, this]
  · have : (first t == 45) = true := by rw [hf]; simp at h1 ⊢; omega
    simp [varL, h, this]

def otherL : List ByteArray := [⟨#[101, 108, 115, 101]⟩, ⟨#[111, 114]⟩, ⟨#[97, 110, 100]⟩]

def signsL : List ByteArray := [⟨#[]⟩, ⟨#[60]⟩, ⟨#[61]⟩, ⟨#[62]⟩, ⟨#[43]⟩, ⟨#[45]⟩, ⟨#[42]⟩, ⟨#[47]⟩]

def reservedL : List ByteArray := otherL ++ stmtWordsL ++ leavesL.map (·.1)

theorem reserved_word : ∀ t ∈ reservedL, wordL t ≠ 0 := by decide

theorem hasL_iff {α : Type} [DecidableEq α] {x : α} {l : List α} : hasL x l = true ↔ x ∈ l := by simp [hasL]
theorem hasL_no {α : Type} [DecidableEq α] {x : α} {l : List α} : hasL x l = false ↔ x ∉ l := by simp [hasL]

theorem words_cases' : ∀ t ∈ wordsL.drop 2, (hasL t reservedL || hasL t signsL) = true := by decide

theorem words_cases : ∀ t ∈ wordsL.drop 2, t ∈ reservedL ∨ t ∈ signsL := fun t ht => by
  have := words_cases' t ht
  rw [Bool.or_eq_true, hasL_iff, hasL_iff] at this
  exact this

theorem signs_no : ∀ t ∈ signsL, nameL t = false ∨ first t = 45 := by decide

theorem word_reserved {t : ByteArray} (hn : nameL t = true) (hf : first t ≠ 45) : wordL t = 0 ↔ t ∉ reservedL := by
  constructor
  · exact fun h hm => reserved_word t hm h
  · intro h
    unfold wordL
    split
    · rfl
    · unfold fromI
      rw [if_neg]
      intro hm
      rcases words_cases t hm with h1 | h1
      · exact h h1
      · rcases signs_no t h1 with h2 | h2
        · rw [hn] at h2; cases h2
        · exact hf h2

theorem findNow_leaves (t : ByteArray) : ∃ a, Instr.findNow .string (.string t) (entries leavesL 0) 0 = some a ∧
    ∃ x : Int, (match a with | some p => Prod.snd p = Value.int IntKind.i64 x | none => Value.int IntKind.i64 0 = Value.int IntKind.i64 x) ∧ ((x == 0) = true ↔ t ∉ leavesL.map (·.1)) := by
  have key : ∀ (l : List (ByteArray × Int)) (k i : Nat), (∀ p ∈ l, p.2 ≠ 0) → ∃ a, Instr.findNow .string (.string t) (entries l k) i = some a ∧
      ∃ x : Int, (match a with | some p => Prod.snd p = Value.int IntKind.i64 x | none => Value.int IntKind.i64 0 = Value.int IntKind.i64 x) ∧ ((x == 0) = true ↔ t ∉ l.map (·.1)) := by
    intro l
    induction l with
    | nil => intro k i _; exact ⟨none, rfl, 0, rfl, by simp⟩
    | cons p l ih =>
      intro k i h
      have he : entries (p :: l) k = { key := .string p.1, val := .int .i64 p.2, born := k } :: entries l (k + 1) := rfl
      rw [he]
      by_cases hp : t = p.1
      · have hb : (t == p.1) = true := (MapKept.bytes_beq t p.1).2 hp
        refine ⟨some (i, .int .i64 p.2), by simp [Instr.findNow, Instr.sameNow, hb], p.2, rfl, ?_⟩
        have := h p (List.mem_cons_self ..)
        simp [this, hp]
      · have hb : (t == p.1) = false := by
          cases hx : (t == p.1) with
          | false => rfl
          | true => exact absurd ((MapKept.bytes_beq t p.1).1 hx) hp
        obtain ⟨a, h1, x, h2, h3⟩ := ih (k + 1) (i + 1) fun q hq => h q (List.mem_cons_of_mem _ hq)
        refine ⟨a, by simp [Instr.findNow, Instr.sameNow, hb, h1], x, h2, ?_⟩
        rw [h3]
        simp [hp]
  exact key leavesL 0 0 (by decide)

theorem k_isVarName {t : ByteArray} (hb : t.size ≤ 4611686018427387904) (u : View) : Gives F_isVarName #[.string t] u (.bool (varL t)) := by
  refine CallsV.back ?_
  refine c_isVarName t u _ trivial ?_
  unfold W_isVarName
  refine (k_isKeyName hb u).use ⟨_, rfl, fun hname => ?_, fun h => ⟨Keep.refl u, by simp [varL, h]⟩⟩
  have hp := (name_pos hname).1
  have hf : first t = (t[0]).toNat := by simp [first, bget hp]
  have res : t ∈ reservedL → varL t = false := fun h => by
    have := reserved_word t h
    simp [varL, this]
  have no : ∀ {w : View} {x : ByteArray}, Keep u w → x ∈ reservedL → (!eqS t x) = false → Keep u w ∧ Value.bool false = .bool (varL t) := fun {w x} hk hx h => ⟨hk, by
    rw [eqS_iff] at h
    have : t = x := by simpa using h
    rw [res (this ▸ hx)]⟩
  have ne : ∀ {x : ByteArray}, (!eqS t x) = true → t ≠ x := fun {x} h => by
    rw [eqS_iff] at h
    simpa using h
  refine ⟨fun h1 => ⟨fun h2 => ⟨fun h3 => ?_, fun h3 => no (Keep.refl u) (by simp [reservedL, otherL]) h3⟩, fun h2 => no (Keep.refl u) (by simp [reservedL, otherL]) h2⟩, fun h1 => no (Keep.refl u) (by simp [reservedL, otherL]) h1⟩
  refine (k_statementWords u).mono ?_
  rintro _ u1 ⟨s, rfl, hk1, ha⟩
  refine ⟨s, rfl, (k_containsS ha t).use ⟨_, rfl, fun h4 => ?_, fun h4 => ⟨hk1, ?_⟩⟩⟩
  · refine (k_leaves u1).mono ?_
    rintro _ u2 ⟨r, rfl, hk2, hr⟩
    obtain ⟨a, ha1, x, ha2, ha3⟩ := findNow_leaves t
    refine ⟨r, rfl, _, _, hr, a, ha1, x, ha2, fun h5 => ⟨t[0], bget hp, by decide, hk1.trans hk2, ?_⟩, fun h5 => ⟨hk1.trans hk2, ?_⟩⟩
    · have h4' : t ∉ stmtWordsL := by
        have : hasL t stmtWordsL = false := by simpa using h4
        exact hasL_no.1 this
      have hnot : t ∉ reservedL := by
        unfold reservedL otherL
        simp only [List.mem_append, List.mem_cons, List.not_mem_nil, or_false, not_or]
        exact ⟨⟨⟨ne h1, ne h2, ne h3⟩, h4'⟩, ha3.1 h5⟩
      unfold varL
      rw [hname]
      by_cases hd : first t = 45
      · have : ((t[0].toNat : Int) != 45) = false := by simp; omega
        rw [this]; simp [hd]
      · have : ((t[0].toNat : Int) != 45) = true := by simp; omega
        have hw := (word_reserved hname hd).2 hnot
        rw [this, hw]
        simp [hd]
    · have : t ∈ leavesL.map (·.1) := by
        apply Classical.byContradiction
        intro hn
        rw [ha3.2 hn] at h5
        cases h5
      rw [res (by unfold reservedL; exact List.mem_append_right _ this)]
  · have : t ∈ stmtWordsL := hasL_iff.1 (by simpa using h4)
    rw [res (by unfold reservedL; exact List.mem_append_left _ (List.mem_append_right _ this))]

end Go.Proofs.Ytkjddlgaldnbnaa
end

/-
  CONTRACTS: a node's own fields; kids.
-/
section
set_option linter.unusedVariables false
set_option linter.unusedSimpArgs false
namespace Go.Proofs.Ytkjddlgaldnbnaa

structure Nd where
  kind : Int
  num : Int
  name : ByteArray
  kids : Int

def encN (n : Nd) : List Value := [.int .i64 n.kind, .int .i64 n.num, .string n.name, .int .i64 n.kids]
theorem encN_sz (x : Nd) : (encN x).length = 4 := rfl
def Nd.val (n : Nd) : Value := .agg #[.int .i64 n.kind, .int .i64 n.num, .string n.name, .int .i64 n.kids]

/-- a node's number and name are right -/
def fieldsL (n : Nd) : Bool :=
  if n.kind = 2 ∨ n.kind = 12 then n.num == 0 && varL n.name
  else if n.kind = 10 then n.num == 0 && hasL n.name movesL
  else if n.kind = 11 then decide (n.name = ⟨#[]⟩) && withinL n.num 0 999999999
  else decide (n.name = ⟨#[]⟩) && n.num == 0

theorem k_fieldsRight (n : Nd) (hb : n.name.size ≤ 4611686018427387904) (u : View) : Gives F_fieldsRight #[n.val] u (.bool (fieldsL n)) := by
  obtain ⟨kind, num, name, kids⟩ := n
  refine CallsV.back ?_
  refine c_fieldsRight kind num name kids u _ trivial ?_
  have var : ∀ u : View, (kind = 2 ∨ kind = 12) → ((num == 0) = true → CallsV Try.prog F_isVarName #[.string name] u fun v u' => ∃ x : Bool, v = .bool x ∧ Keep u u' ∧ Value.bool x = .bool (fieldsL ⟨kind, num, name, kids⟩)) ∧
      ((num == 0) = false → Keep u u ∧ Value.bool false = .bool (fieldsL ⟨kind, num, name, kids⟩)) := fun u hk =>
    ⟨fun h => (k_isVarName hb u).use ⟨_, rfl, Keep.refl u, by simp only [fieldsL, if_pos hk, h, Bool.true_and]⟩, fun h => ⟨Keep.refl u, by simp only [fieldsL, if_pos hk, h, Bool.false_and]⟩⟩
  intro b hbl
  refine ⟨fun h1 => var u (.inl (by simpa using h1)), fun h1 => ⟨fun h2 => var u (.inr (by simpa using h2)), fun h2 => ?_⟩⟩
  have hk : ¬ (kind = 2 ∨ kind = 12) := by simp at h1 h2; omega
  refine ⟨fun h3 => ?_, fun h3 => ?_⟩
  · have h3 : kind = 10 := by simpa using h3
    refine ⟨fun h => (k_moves u).mono ?_, fun h => ⟨Keep.refl u, by simp only [fieldsL, if_neg hk, if_pos h3, h, Bool.false_and]⟩⟩
    rintro _ u1 ⟨s, rfl, hk1, ha⟩
    exact ⟨s, rfl, (k_containsS ha name).use ⟨_, rfl, hk1, by simp only [fieldsL, if_neg hk, if_pos h3, h, Bool.true_and]⟩⟩
  · have h3 : ¬ kind = 10 := by simpa using h3
    refine ⟨fun h4 => ?_, fun h4 => ?_⟩
    · have h4 : kind = 11 := by simpa using h4
      refine ⟨fun h => (k_within _ _ _ u).use ⟨_, rfl, Keep.refl u, ?_⟩, fun h => ⟨Keep.refl u, ?_⟩⟩
      · rw [eqS_iff] at h
        simp only [fieldsL, if_neg hk, if_neg h3, if_pos h4, h, Bool.true_and]
      · rw [eqS_iff] at h
        simp only [fieldsL, if_neg hk, if_neg h3, if_pos h4, h, Bool.false_and]
    · have h4 : ¬ kind = 11 := by simpa using h4
      refine ⟨fun h => ⟨Keep.refl u, ?_⟩, fun h => ⟨Keep.refl u, ?_⟩⟩
      · rw [eqS_iff] at h
        simp only [fieldsL, if_neg hk, if_neg h3, if_neg h4, h, Bool.true_and]
      · rw [eqS_iff] at h
        simp only [fieldsL, if_neg hk, if_neg h3, if_neg h4, h, Bool.false_and]

/-- may a node be the i-th kid of another one? -/
def kidL (p : Nd) (i : Int) (k : Nd) : Bool :=
  if p.kind = 1 then withinL k.kind 2 10 else if 0 < i ∧ (p.kind = 3 ∨ p.kind = 4) then k.kind == 1 else withinL k.kind 11 26

theorem k_isKid (p : Nd) (i : Int) (k : Nd) (u : View) : Gives F_isKid #[p.val, .int .i64 i, k.val] u (.bool (kidL p i k)) := by
  obtain ⟨pk, pn, pa, ps⟩ := p
  obtain ⟨kk, kn, ka, ks⟩ := k
  refine c_isKid pk pn pa ps i kk kn ka ks u _ trivial ?_
  intro b1 hb1 b2 hb2
  refine ⟨fun h1 => ?_, fun h1 => ?_⟩
  · have h1 : pk = 1 := by simpa using h1
    exact (k_within _ _ _ u).use ⟨_, rfl, rfl, by simp only [kidL, if_pos h1]⟩
  · have h1 : ¬ pk = 1 := by simpa using h1
    have e : ¬ (0 < i ∧ (pk = 3 ∨ pk = 4)) → CallsV Try.prog F_within #[.int .i64 kk, .int .i64 11, .int .i64 26] u fun v u' => ∃ x : Bool, v = .bool x ∧ u' = u ∧ Value.bool x = .bool (kidL ⟨pk, pn, pa, ps⟩ i ⟨kk, kn, ka, ks⟩) := fun h =>
      (k_within _ _ _ u).use ⟨_, rfl, rfl, by simp only [kidL, if_neg h1, if_neg h]⟩
    refine ⟨fun h2 => ⟨fun h3 => ⟨fun h4 => ⟨rfl, ?_⟩, fun h4 => e ?_⟩, fun h3 => ⟨rfl, ?_⟩⟩, fun h2 => e ?_⟩
    · simp only [beq_iff_eq, beq_eq_false_iff_ne, ne_eq, decide_eq_true_eq, decide_eq_false_iff_not] at *
      simp only [kidL, if_neg h1, if_pos (show 0 < i ∧ (pk = 3 ∨ pk = 4) from ⟨h2, .inr h4⟩)]
    · simp only [beq_iff_eq, beq_eq_false_iff_ne, ne_eq, decide_eq_true_eq, decide_eq_false_iff_not] at *
      omega
    · simp only [beq_iff_eq, beq_eq_false_iff_ne, ne_eq, decide_eq_true_eq, decide_eq_false_iff_not] at *
      simp only [kidL, if_neg h1, if_pos (show 0 < i ∧ (pk = 3 ∨ pk = 4) from ⟨h2, .inl h3⟩)]
    · simp only [beq_iff_eq, beq_eq_false_iff_ne, ne_eq, decide_eq_true_eq, decide_eq_false_iff_not] at *
      omega

end Go.Proofs.Ytkjddlgaldnbnaa
end

/-
  CONTRACTS: a node's own fields and kids (the reference's side).
-/
section
set_option linter.unusedVariables false
set_option linter.unusedSimpArgs false
namespace Go.Proofs.Ytkjddlgaldnbnaa

theorem motion_pos (t : ByteArray) : decide (motionL t > 0) = hasL t movesL := by
  have key : motionsL.drop 1 = movesL := rfl
  cases h : hasL t movesL with
  | true =>
    have h := hasL_iff.1 h
    unfold motionL fromI
    rw [key, if_pos h, decide_eq_true (by omega)]
  | false =>
    have h := hasL_no.1 h
    unfold motionL fromI
    rw [key, if_neg h]
    rfl

def ownL (n : Nd) : Bool := decide (1 ≤ n.kind ∧ n.kind ≤ 26) && fieldsL n

theorem k_l11Own (n : Nd) (hb : n.name.size ≤ 4611686018427387904) (u : View) : Gives F_l11Own #[n.val] u (.bool (ownL n)) := by
  obtain ⟨kind, num, name, kids⟩ := n
  refine c_l11Own kind num name kids u _ trivial ?_
  intro b hbl
  have short : ¬ (1 ≤ kind ∧ kind ≤ 26) → u = u ∧ Value.bool false = .bool (ownL ⟨kind, num, name, kids⟩) := fun h => ⟨rfl, by simp only [ownL, decide_eq_false h, Bool.false_and]⟩
  refine ⟨fun u' => u' = u ∧ 1 ≤ kind ∧ kind ≤ 26, ⟨fun h1 => ⟨fun h2 => short ?_, fun h2 => ⟨⟨rfl, ?_⟩, rfl, trivial⟩⟩, fun h1 => short ?_⟩, ?_⟩
  all_goals try simp only [decide_eq_true_eq, decide_eq_false_iff_not] at *
  · omega
  · omega
  · omega
  rintro _ u' ⟨rfl, hs⟩
  have hown : ownL ⟨kind, num, name, kids⟩ = fieldsL ⟨kind, num, name, kids⟩ := by simp only [ownL, decide_eq_true hs, Bool.true_and]
  rw [hown]
  have var : (kind = 2 ∨ kind = 12) → ((num == 0) = true → CallsV Try.prog F_l11Name #[.string name] u' fun v w => ∃ x : Bool, v = .bool x ∧ w = u' ∧ Value.bool x = .bool (fieldsL ⟨kind, num, name, kids⟩)) ∧
      ((num == 0) = false → u' = u' ∧ Value.bool false = .bool (fieldsL ⟨kind, num, name, kids⟩)) := fun hk =>
    ⟨fun h => (k_l11Name hb u').use ⟨_, rfl, rfl, by simp only [fieldsL, if_pos hk, h, Bool.true_and]⟩, fun h => ⟨rfl, by simp only [fieldsL, if_pos hk, h, Bool.false_and]⟩⟩
  refine ⟨fun h1 => ?_, fun h1 => ⟨fun h2 => var (.inl (by simpa using h2)), fun h2 => ⟨fun h3 => var (.inr (by simpa using h3)), fun h3 => ?_⟩⟩⟩
  · have h1 : kind = 11 := by simpa using h1
    have hk : ¬ (kind = 2 ∨ kind = 12) := by omega
    have h10 : ¬ kind = 10 := by omega
    refine ⟨fun h4 => ⟨fun h5 => ⟨rfl, ?_⟩, fun h5 => ⟨rfl, ?_⟩⟩, fun h4 => ⟨rfl, ?_⟩⟩
    · have : withinL num 0 999999999 = true := by simp at h4 h5; simp [withinL, h4, h5]
      simp only [fieldsL, if_neg hk, if_neg h10, if_pos h1, this, Bool.and_true, eqS_iff]
    · have : withinL num 0 999999999 = false := by simp at h5; simp [withinL]; omega
      simp only [fieldsL, if_neg hk, if_neg h10, if_pos h1, this, Bool.and_false]
    · have : withinL num 0 999999999 = false := by simp at h4; simp [withinL]; omega
      simp only [fieldsL, if_neg hk, if_neg h10, if_pos h1, this, Bool.and_false]
  · have h1 : ¬ kind = 11 := by simpa using h1
    have hk : ¬ (kind = 2 ∨ kind = 12) := by simp at h2 h3; omega
    refine ⟨fun h4 => ?_, fun h4 => ?_⟩
    · have h4 : kind = 10 := by simpa using h4
      refine ⟨fun h => (k_l11Motion name u').use ⟨_, rfl, rfl, ?_⟩, fun h => ⟨rfl, ?_⟩⟩
      · simp only [fieldsL, if_neg hk, if_pos h4, h, Bool.true_and, motion_pos]
      · simp only [fieldsL, if_neg hk, if_pos h4, h, Bool.false_and]
    · have h4 : ¬ kind = 10 := by simpa using h4
      refine ⟨fun h => ⟨rfl, ?_⟩, fun h => ⟨rfl, ?_⟩⟩
      · simp only [fieldsL, if_neg hk, if_neg h4, if_neg h1, h, Bool.and_true, eqS_iff]
      · simp only [fieldsL, if_neg hk, if_neg h4, if_neg h1, h, Bool.and_false]

theorem k_l11Stmt (k : Int) (u : View) : Gives F_l11Stmt #[.int .i64 k] u (.bool (withinL k 2 10)) := by
  refine c_l11Stmt k u _ trivial ⟨fun h => ⟨rfl, ?_⟩, fun h => ⟨rfl, ?_⟩⟩
  · have : 2 ≤ k := by simpa using h
    simp [withinL, this]
  · have : ¬ 2 ≤ k := by simpa using h
    simp [withinL, this]

theorem k_l11Expr (k : Int) (u : View) : Gives F_l11Expr #[.int .i64 k] u (.bool (withinL k 11 26)) := by
  refine c_l11Expr k u _ trivial ⟨fun h => ⟨rfl, ?_⟩, fun h => ⟨rfl, ?_⟩⟩
  · have : 11 ≤ k := by simpa using h
    simp [withinL, this]
  · have : ¬ 11 ≤ k := by simpa using h
    simp [withinL, this]

/-- the kinds of kids: 42 any statements, 101 an expression, 98 a block -/
def kindsL (n : Nd) : ByteArray :=
  if n.kind = 1 then ⟨#[42]⟩ else if n.kind = 2 ∨ n.kind = 5 ∨ n.kind = 7 ∨ n.kind = 8 ∨ n.kind = 16 ∨ n.kind = 17 then ⟨#[101]⟩
  else if n.kind = 3 then (if n.kids = 3 then ⟨#[101, 98, 98]⟩ else ⟨#[101, 98]⟩) else if n.kind = 4 then ⟨#[101, 98]⟩ else if n.kind = 6 then ⟨#[101, 101]⟩
  else if n.kind = 9 ∨ n.kind = 10 ∨ n.kind = 11 ∨ n.kind = 12 ∨ n.kind = 13 ∨ n.kind = 14 ∨ n.kind = 15 then ⟨#[]⟩ else ⟨#[101, 101]⟩

theorem k_l11Kids (n : Nd) (u : View) : Gives F_l11Kids #[n.val] u (.string (kindsL n)) := by
  obtain ⟨kind, num, name, kids⟩ := n
  refine c_l11Kids kind num name kids u _ trivial ?_
  intro b hb
  simp only [beq_iff_eq, beq_eq_false_iff_ne, ne_eq]
  refine ⟨fun h1 => ?_, fun h1 => ⟨fun h2 => ?_, fun h2 => ⟨fun h3 => ?_, fun h3 => ⟨fun h4 => ?_, fun h4 => ⟨fun h5 => ?_, fun h5 => ⟨fun h6 => ?_, fun h6 => ⟨fun h7 => ?_, fun h7 =>
    ⟨fun h8 => ⟨fun h9 => ?_, fun h9 => ?_⟩, fun h8 => ⟨fun h9 => ?_, fun h9 => ⟨fun h10 => ?_, fun h10 => ⟨fun h11 => ?_, fun h11 => ⟨fun h12 => ?_, fun h12 => ⟨fun h13 => ?_, fun h13 => ⟨fun h14 => ?_, fun h14 =>
    ⟨fun h15 => ?_, fun h15 => ⟨fun h16 => ?_, fun h16 => ⟨fun h17 => ?_, fun h17 => ?_⟩⟩⟩⟩⟩⟩⟩⟩⟩⟩⟩⟩⟩⟩⟩⟩⟩
  all_goals exact ⟨by trivial, by simp [kindsL, *]⟩

end Go.Proofs.Ytkjddlgaldnbnaa
end
