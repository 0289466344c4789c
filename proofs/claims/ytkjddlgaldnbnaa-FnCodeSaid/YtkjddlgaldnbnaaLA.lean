import Derived.Test.YtkjddlgaldnbnaaChecked
import Derived.Test.YtkjddlgaldnbnaaKC

/-
  THE CALCULUS, AT THE PROGRAM: the table of pure functions, and that functions have bodies.
-/
section
set_option linter.unusedVariables false
namespace Go.Proofs.Ytkjddlgaldnbnaa

def pf : FuncId → Option (List Value → Option Value) := fun _ => none

theorem pf_ok : PureOK Try.prog pf := fun g fg args v h => by simp [pf] at h

theorem ck_all : ((List.range 149).all fun g => Nat.ble g 1 || callOK Try.prog g) = true := by kernel_rfl

theorem ck : CK Try.prog 149 := fun g hg => by
  unfold okG at hg
  split at hg
  · rename_i h1
    have h := List.all_eq_true.1 ck_all g (List.mem_range.2 (Nat.le_of_ble_eq_true hg))
    rcases Bool.or_eq_true_iff.1 h with h | h
    · have := Nat.le_of_ble_eq_true h
      have h1 : 2 ≤ g := Nat.le_of_ble_eq_true h1
      omega
    · exact h
  · cases hg

theorem mixed : Try.prog.follows .mixedOrders = true := by kernel_rfl

theorem fcall {f : FuncId} {fn : Func} {ann : Ann} {L0 : List LB} {xs : List SV} {outs : List Nat} {u : View} {R : Value → View → Prop}
    (hf : Try.prog.funcs[f]? = some fn) (hb : fn.body = some (Option.getD fn.body .skip)) (hN : (asgIn [(0, fn.ntmps)] (Option.getD fn.body .skip) && Nat.ble xs.length fn.ntmps) = true)
    (hok : (xs.all fun x => match x with | .loc k _ => Nat.blt k L0.length | .v _ => true | .bl _ => true | _ => false) = true) (hp : preOK u L0)
    (h : VCfun Try.prog 149 pf (Option.getD fn.body .skip) fn.results.toList ann L0 xs outs u R) : CallsV Try.prog f (xs.map (tv L0)).toArray u R := by
  rw [Bool.and_eq_true] at hN
  refine VCfun_calls ck pf_ok mixed hf hb hN.1 (Nat.le_of_ble_eq_true hN.2) (fun x hx => ?_) hp h
  have := List.all_eq_true.1 hok x hx
  cases x with
  | v x => trivial
  | bl b => trivial
  | loc k off => exact Nat.le_of_ble_eq_true this
  | locI k off i n sz => cases this
  | fn f caps => cases this

end Go.Proofs.Ytkjddlgaldnbnaa
end

/-
  DATA IN MEMORY: slices of rows of cells; numbers; texts.
-/
section
set_option linter.unusedVariables false
namespace Go.Proofs.Ytkjddlgaldnbnaa

theorem Addr.add_add (ad : Addr) (a b : Nat) : (ad.add a).add b = ad.add (a + b) := by
  unfold Addr.add
  by_cases ha : a = 0 <;> by_cases hb : b = 0 <;> simp [ha, hb, Nat.add_assoc]

theorem CellsAt.get {u : View} {ad : Addr} : ∀ {vs : List Value} {i : Nat}, CellsAt u ad i vs → ∀ {j : Nat} {v : Value}, vs[j]? = some v → u.cell (ad.add (i + j)) = some v := by
  intro vs
  induction vs with
  | nil => intro i _ j v h; simp at h
  | cons x vs ih =>
    intro i h j v hj
    cases j with
    | zero => simp at hj; subst hj; exact h.1
    | succ j =>
      have := ih h.2 (j := j) (v := v) (by simpa using hj)
      rw [show i + (j + 1) = i + 1 + j from by omega]
      exact this

theorem CellsAt.mk {u : View} {ad : Addr} : ∀ {vs : List Value} {i : Nat}, (∀ (j : Nat) (v : Value), vs[j]? = some v → u.cell (ad.add (i + j)) = some v) → CellsAt u ad i vs := by
  intro vs
  induction vs with
  | nil => intro i _; trivial
  | cons x vs ih =>
    intro i h
    refine ⟨h 0 x (by simp), ih fun j v hj => ?_⟩
    rw [show i + 1 + j = i + (j + 1) from by omega]
    exact h (j + 1) v (by simpa using hj)

theorem CellsAt.keep {u u' : View} (h : Keep u u') {ad : Addr} {vs : List Value} {i : Nat} (hc : CellsAt u ad i vs) : CellsAt u' ad i vs :=
  CellsAt.mk fun j v hj => h.cell (hc.get hj)

theorem CellsO.keep {u u' : View} (h : Keep u u') {p : Option Addr} {vs : List Value} (hc : CellsO u p vs) : CellsO u' p vs := by
  cases p with
  | none => exact hc
  | some ad => exact CellsAt.keep h hc

/-- a slice holds a list of things, each in so many cells -/
structure Arr {α : Type} (enc : α → List Value) (sz : Nat) (u : View) (s : Sl) (l : List α) : Prop where
  n : s.n = l.length
  cells : CellsO u s.p (l.flatMap enc)
  le : s.n ≤ s.c
  bd : s.n ≤ 4611686018427387904

theorem flatMap_get {α : Type} {enc : α → List Value} {sz : Nat} (hsz : ∀ x, (enc x).length = sz) : ∀ {l : List α} {i : Nat} {x : α}, l[i]? = some x → ∀ {j : Nat} {v : Value}, (enc x)[j]? = some v → (l.flatMap enc)[i * sz + j]? = some v := by
  intro l
  induction l with
  | nil => intro i x h; simp at h
  | cons a l ih =>
    intro i x h j v hj
    simp only [List.flatMap_cons]
    cases i with
    | zero =>
      simp at h; subst h
      have : j < (enc a).length := by
        rcases Nat.lt_or_ge j (enc a).length with h' | h'
        · exact h'
        · rw [List.getElem?_eq_none h'] at hj; cases hj
      rw [Nat.zero_mul, Nat.zero_add, List.getElem?_append_left this]; exact hj
    | succ i =>
      have := ih (by simpa using h) hj
      rw [List.getElem?_append_right (by rw [hsz, Nat.succ_mul]; omega), hsz]
      rw [show (i + 1) * sz + j - sz = i * sz + j from by rw [Nat.succ_mul]; omega]
      exact this

theorem Arr.keep {α : Type} {enc : α → List Value} {sz : Nat} {u u' : View} (h : Keep u u') {s : Sl} {l : List α} (ha : Arr enc sz u s l) : Arr enc sz u' s l :=
  ⟨ha.n, ha.cells.keep h, ha.le, ha.bd⟩

/-- an element's cells -/
theorem Arr.at {α : Type} {enc : α → List Value} {sz : Nat} (hsz : ∀ x, (enc x).length = sz) (hpos : 0 < sz) {u : View} {s : Sl} {l : List α} (h : Arr enc sz u s l) {i : Nat} {x : α} (hi : l[i]? = some x) :
    ∃ ad, s.p = some ad ∧ CellsAt u (ad.add (i * sz)) 0 (enc x) := by
  cases hp : s.p with
  | none =>
    have := h.cells
    rw [hp] at this
    simp only [CellsO] at this
    have hg := flatMap_get hsz hi (j := 0) (v := (enc x)[0]'(by rw [hsz]; exact hpos)) (by simp)
    rw [this] at hg
    simp at hg
  | some ad =>
    refine ⟨ad, rfl, CellsAt.mk fun j v hj => ?_⟩
    have := h.cells
    rw [hp] at this
    have := CellsAt.get this (flatMap_get hsz hi hj)
    rw [Addr.add_add, Nat.zero_add]
    rwa [Nat.zero_add] at this

theorem wrap64 {z : Int} (h0 : -9223372036854775808 ≤ z) (h1 : z ≤ 9223372036854775807) : IntKind.wrap .i64 z = z := by
  simp [IntKind.wrap, IntKind.signed, IntKind.bits]; omega

def encS (s : ByteArray) : List Value := [.string s]
def encI (n : Int) : List Value := [.int .i64 n]
theorem encS_sz (x : ByteArray) : (encS x).length = 1 := rfl
theorem encI_sz (x : Int) : (encI x).length = 1 := rfl

/-- an element of one cell, at a number of Go's -/
theorem Arr.one {α : Type} {enc : α → List Value} {c : α → Value} (he : ∀ x, enc x = [c x]) {u : View} {s : Sl} {l : List α} (h : Arr enc 1 u s l) {i : Int} (h0 : 0 ≤ i) (h1 : i < (s.n : Int)) :
    ∃ ad x, s.p = some ad ∧ l[i.toNat]? = some x ∧ u.cell (ad.add (i.toNat * 1)) = some (c x) := by
  have hlt : i.toNat < l.length := by have := h.n; omega
  obtain ⟨ad, e, hc⟩ := h.at (fun x => by rw [he]; rfl) (by omega) (List.getElem?_eq_getElem hlt)
  refine ⟨ad, l[i.toNat], e, List.getElem?_eq_getElem hlt, ?_⟩
  rw [he] at hc
  have := hc.1
  rwa [Addr.add_add, Nat.add_zero] at this

theorem bytes_beq (x y : ByteArray) : (x.toList == y.toList) = decide (x = y) := by
  rw [ByteArray.toList_eq, ByteArray.toList_eq]
  by_cases h : x = y
  · subst h; simp
  · simp only [h, decide_false]
    cases hb : (x.data.toList == y.data.toList) with
    | false => rfl
    | true =>
      have := Array.toList_inj.1 (eq_of_beq hb)
      exact absurd (ByteArray.ext this) h

/-- the first place of a thing, or -1 -/
def idxI {α : Type} [DecidableEq α] (x : α) (l : List α) : Int := if x ∈ l then (l.idxOf x : Int) else -1

theorem idxI_none {α : Type} [DecidableEq α] {x : α} {l : List α} (h : ∀ i : Nat, i < l.length → l[i]? ≠ some x) : idxI x l = -1 := by
  unfold idxI
  rw [if_neg]
  intro hm
  obtain ⟨i, hi, e⟩ := List.mem_iff_getElem.1 hm
  exact h i hi (by rw [List.getElem?_eq_getElem hi, e])

theorem idxI_some {α : Type} [DecidableEq α] {x : α} {l : List α} {i : Nat} (hi : l[i]? = some x) (h : ∀ j : Nat, j < i → l[j]? ≠ some x) : idxI x l = i := by
  unfold idxI
  rw [if_pos (List.mem_of_getElem? hi)]
  have hlt : i < l.length := by
    rcases Nat.lt_or_ge i l.length with h' | h'
    · exact h'
    · rw [List.getElem?_eq_none h'] at hi; cases hi
  have h1 : l.idxOf x < l.length := List.idxOf_lt_length_of_mem (List.mem_of_getElem? hi)
  have h2 : l[l.idxOf x] = x := List.getElem_idxOf h1
  rcases Nat.lt_trichotomy (l.idxOf x) i with hl | he | hg
  · exact absurd (by rw [List.getElem?_eq_getElem h1, h2]) (h _ hl)
  · rw [he]
  · have := List.not_of_lt_findIdx (p := (· == x)) (xs := l) (i := i) hg
    rw [List.getElem?_eq_getElem hlt] at hi
    cases hi
    simp at this

end Go.Proofs.Ytkjddlgaldnbnaa
end

/-
  DATA IN MEMORY: slices that own their block; append.
-/
section
set_option linter.unusedVariables false
namespace Go.Proofs.Ytkjddlgaldnbnaa

/-- what is known stays, but for some blocks -/
def But (B : Nat → Prop) (u u' : View) : Prop := u.lim ≤ u'.lim ∧ ∀ b o, ¬ B b → u.m b = some o → u'.m b = some o

theorem But.refl (B : Nat → Prop) (u : View) : But B u u := ⟨Nat.le_refl _, fun _ _ _ h => h⟩
theorem But.trans {B : Nat → Prop} {u v x : View} (h : But B u v) (g : But B v x) : But B u x := ⟨Nat.le_trans h.1 g.1, fun b o hb hm => g.2 b o hb (h.2 b o hb hm)⟩
theorem But.mono {B C : Nat → Prop} {u v : View} (h : But B u v) (hs : ∀ b, B b → C b) : But C u v := ⟨h.1, fun b o hb hm => h.2 b o (fun hb' => hb (hs b hb')) hm⟩
theorem But.keep {u v : View} (h : But (fun _ => False) u v) : Keep u v := ⟨h.1, fun b o hm => h.2 b o (fun h => h) hm⟩
theorem Keep.but {B : Nat → Prop} {u v : View} (h : Keep u v) : But B u v := ⟨h.1, fun b o _ hm => h.2 b o hm⟩
theorem But.set {B : Nat → Prop} {u v : View} (h : But B u v) {b : Nat} {o : Obj} (hb : B b ∨ u.m b = none) : But B u (v.set b o) :=
  ⟨Nat.le_trans h.1 (by simp only [View.set]; omega), fun b' o' hn hm => by
    have hne : b' ≠ b := fun e => by
      subst e
      rcases hb with hb | hb
      · exact hn hb
      · rw [hb] at hm; cases hm
    rw [View.set_ne _ _ hne]; exact h.2 b' o' hn hm⟩

theorem View.fresh {u : View} {b : Nat} (h : u.lim ≤ b) : u.m b = none := by
  cases hm : u.m b with
  | none => rfl
  | some o => have := u.lt _ _ hm; omega

theorem Keep.set {u : View} {b : Nat} {o : Obj} (h : u.lim ≤ b) : Keep u (u.set b o) :=
  ⟨by simp only [View.set]; omega, fun b' o' hm => by
    have hne : b' ≠ b := fun e => by subst e; rw [View.fresh h] at hm; cases hm
    rw [View.set_ne _ _ hne]; exact hm⟩

theorem View.set_lim {u : View} {b : Nat} {o : Obj} : u.lim ≤ (u.set b o).lim ∧ b < (u.set b o).lim := by simp only [View.set]; omega

/-- the cells of a known block -/
theorem cells_get {u : View} {b : Nat} {c : Array Value} {T : TypeId} {fz : Nat × Nat} (hm : u.m b = some (.cells c T fz)) {off : Nat} {v : Value} (h : c[off]? = some v) : u.cell ⟨b, off, none⟩ = some v := by
  simp only [View.cell, hm]
  simpa using h

theorem cells_at {u : View} {b : Nat} {c : Array Value} {T : TypeId} {fz : Nat × Nat} (hm : u.m b = some (.cells c T fz)) {off : Nat} {vs : List Value} (h : ∀ (j : Nat) (v : Value), vs[j]? = some v → c[off + j]? = some v) : CellsAt u ⟨b, off, none⟩ 0 vs :=
  CellsAt.mk fun j v hj => by
    have := cells_get hm (h j v hj)
    rw [Nat.zero_add]
    unfold Addr.add
    split
    · rename_i e; subst e; exact this
    · exact this

/-- a slice that owns its block (or is nil): a list of things, room behind it -/
structure Own {α : Type} (enc : α → List Value) (sz : Nat) (u : View) (s : Sl) (l : List α) : Prop where
  n : s.n = l.length
  le : s.n ≤ s.c
  blk : (s.p = none ∧ s.c = 0 ∧ l = []) ∨ ∃ b c T fz, s.p = some ⟨b, 0, none⟩ ∧ u.m b = some (.cells c T fz) ∧ fz.2 ≤ fz.1 ∧ c.size = s.c * sz ∧ c.toList.take (l.flatMap enc).length = l.flatMap enc

/-- the block of a slice -/
def Sl.has (s : Sl) (b : Nat) : Prop := ∃ o k, s.p = some ⟨b, o, k⟩

theorem flatMap_len {α : Type} {enc : α → List Value} {sz : Nat} (hsz : ∀ x, (enc x).length = sz) (l : List α) : (l.flatMap enc).length = l.length * sz := by
  induction l with
  | nil => simp
  | cons a l ih => simp [List.flatMap_cons, ih, hsz, Nat.succ_mul, Nat.add_comm]

theorem Own.arr {α : Type} {enc : α → List Value} {sz : Nat} {u : View} {s : Sl} {l : List α} (h : Own enc sz u s l) (hb : s.n ≤ 4611686018427387904) : Arr enc sz u s l := by
  refine ⟨h.n, ?_, h.le, hb⟩
  rcases h.blk with ⟨hp, _, rfl⟩ | ⟨b, c, T, fz, hp, hm, _, _, ht⟩
  · rw [hp]; rfl
  · rw [hp]
    refine cells_at hm fun j v hj => ?_
    rw [Nat.zero_add]
    rw [← ht, List.getElem?_take] at hj
    split at hj
    · simpa using hj
    · cases hj

theorem Own.keep {α : Type} {enc : α → List Value} {sz : Nat} {u u' : View} {s : Sl} {l : List α} (h : Own enc sz u s l) {B : Nat → Prop} (hu : But B u u') (hB : ∀ b, s.has b → ¬ B b) : Own enc sz u' s l :=
  ⟨h.n, h.le, h.blk.imp id fun ⟨b, c, T, fz, hp, hm, hr⟩ => ⟨b, c, T, fz, hp, hu.2 _ _ (hB b ⟨0, none, hp⟩) hm, hr⟩⟩

/-- splice puts cells in a row -/
theorem splice_take : ∀ (new c : List Value) (off : Nat), off + new.length ≤ c.length → (splice c off new).take (off + new.length) = c.take off ++ new := by
  intro new
  induction new with
  | nil => intro c off h; simp [splice]
  | cons v new ih =>
    intro c off h
    simp only [splice]
    have := ih (c.set off v) (off + 1) (by simp at h ⊢; omega)
    rw [show off + (v :: new).length = off + 1 + new.length from by simp; omega, this]
    have hlt : off < c.length := by simp at h; omega
    rw [List.take_add_one, List.take_set_of_le (Nat.le_refl _)]
    simp [hlt]

theorem splice_eq : ∀ (new c : List Value) (off : Nat), off + new.length ≤ c.length → splice c off new = c.take off ++ new ++ c.drop (off + new.length) := by
  intro new
  induction new with
  | nil => intro c off h; simp [splice]
  | cons v new ih =>
    intro c off h
    simp only [splice]
    have hlt : off < c.length := by simp at h; omega
    rw [ih (c.set off v) (off + 1) (by simp at h ⊢; omega)]
    rw [List.take_add_one, List.take_set_of_le (Nat.le_refl _)]
    rw [List.drop_set_of_lt (by omega)]
    simp [hlt]
    congr 1
    omega

/-- append to a slice that owns its block -/
theorem Own.append {α : Type} {enc : α → List Value} {sz : Nat} (hsz : ∀ x, (enc x).length = sz) {u : View} {s : Sl} {l : List α} (h : Own enc sz u s l) {bytes m : Nat} {z : Value} (hz : z.cells.size = sz) {e : TypeId} {xs : List α} (hm : xs.length = m)
    (h1 : s.n + m ≤ 4611686018427387904) (h2 : (s.n + m) * bytes ≤ 140737488355328) :
    appPre u s.p s.n s.c sz bytes m (xs.flatMap enc) ∧ ∀ (s' : Sl) (u' : View), appPost u s.p s.n s.c sz z e m (xs.flatMap enc) s' u' →
      Own enc sz u' s' (l ++ xs) ∧ s'.n = s.n + m ∧ But (fun b => s.has b) u u' ∧ ∀ b, s'.has b → s.has b ∨ (u.lim ≤ b ∧ b < u'.lim) := by
  subst hm
  have hn := h.n
  have hnew := flatMap_len hsz xs
  have hold := flatMap_len hsz l
  have hz0 : ∀ k, (zerosL z k).length = k * sz := fun k => by
    rw [zerosL_range]; simp [hz]
  rcases h.blk with ⟨hp, hc, rfl⟩ | ⟨b, c, T, fz, hp, hmem, hfz, hcs, ht⟩
  · have hn0 : s.n = 0 := by simpa using hn
    rw [hp, hc, hn0]
    refine ⟨⟨fun hle => .inl (by
        have : xs.length = 0 := by omega
        rw [List.length_eq_zero_iff] at this
        subst this; rfl), fun _ => ⟨by omega, by rw [hn0] at h2; exact h2, [], by simp, rfl⟩⟩, fun s' u' hpost => ?_⟩
    rcases hpost with ⟨hle, rfl, hcase⟩ | ⟨hlt, old, b, c', ho, hoc, hb, hc', rfl, rfl⟩
    · have : xs.length = 0 := by omega
      rw [List.length_eq_zero_iff] at this
      subst this
      rcases hcase with ⟨_, rfl⟩ | ⟨b, o, arr, T, fz, e1, _⟩
      · exact ⟨⟨by simp, by simp, .inl ⟨rfl, rfl, rfl⟩⟩, by simp, But.refl _ _, fun b ⟨o, k, hb⟩ => by simp at hb⟩
      · cases e1
    · have hold0 : old = [] := by simpa using ho
      subst hold0
      refine ⟨⟨by simp, by simpa using hc', .inr ⟨b, _, e, (0, 0), rfl, View.set_self _ _ _, Nat.le_refl _, ?_, ?_⟩⟩, by simp, (But.refl _ _).set (.inr (View.fresh hb)), fun b' ⟨o, k, hb'⟩ => .inr ?_⟩
      · simp [hz0, hnew]
        rw [← Nat.add_mul]; congr 1; omega
      · simp
      · cases hb'; exact ⟨hb, View.set_lim.2⟩
  · rw [hp]
    have hroom : s.n * sz ≤ s.c * sz := Nat.mul_le_mul_right _ h.le
    have ht' : c.toList.take (s.n * sz) = l.flatMap enc := by rw [hn, ← hold]; exact ht
    refine ⟨⟨fun hle => .inr ⟨b, 0, c, T, fz, rfl, hmem, .inl hfz, by rw [hcs, Nat.zero_add]; exact Nat.mul_le_mul_right _ hle⟩, fun _ => ⟨h1, h2, l.flatMap enc, by rw [hold, hn], ?_⟩⟩, fun s' u' hpost => ?_⟩
    · refine cells_at hmem fun j v hj => ?_
      rw [Nat.zero_add]
      rw [← ht, List.getElem?_take] at hj
      split at hj
      · simpa using hj
      · cases hj
    · have hflat : ((l ++ xs).flatMap enc).length = s.n * sz + (xs.flatMap enc).length := by rw [List.flatMap_append, List.length_append, hold, hn]
      rcases hpost with ⟨hle, rfl, hcase⟩ | ⟨hlt, old, b', c', ho, hoc, hb, hc', rfl, rfl⟩
      · have hle' : s.n * sz + (xs.flatMap enc).length ≤ c.toList.length := by
          have hl : c.toList.length = s.c * sz := by simp [hcs]
          rw [hnew, ← Nat.add_mul, hl]; exact Nat.mul_le_mul_right _ hle
        rcases hcase with ⟨hnil, rfl⟩ | ⟨b', o, arr, T', fz', e1, e2, rfl⟩
        · refine ⟨⟨by simp [hn], hle, .inr ⟨b, c, T, fz, rfl, hmem, hfz, hcs, ?_⟩⟩, rfl, But.refl _ _, fun b' ⟨o, k, hb'⟩ => .inl ⟨o, k, by rw [hp]; exact hb'⟩⟩
          rw [List.flatMap_append, hnil, List.append_nil]; exact ht
        · cases e1
          rw [hmem] at e2
          cases e2
          rw [Nat.zero_add]
          refine ⟨⟨by simp [hn], hle, .inr ⟨b, _, T, fz, rfl, View.set_self _ _ _, hfz, ?_, ?_⟩⟩, rfl, (But.refl _ _).set (.inl ⟨0, none, hp⟩), fun b' ⟨o, k, hb'⟩ => .inl ?_⟩
          · simp [splice_length, hcs]
          · rw [hflat]
            simp only
            rw [splice_take _ _ _ hle', ht', List.flatMap_append]
          · cases hb'; exact ⟨0, none, hp⟩
      · have hold' : old = l.flatMap enc := by
          have : CellsAt u ⟨b, 0, none⟩ 0 old := hoc
          apply List.ext_getElem?
          intro j
          rcases Nat.lt_or_ge j old.length with hj | hj
          · have h3 := this.get (List.getElem?_eq_getElem hj)
            have hjc : j < c.size := by rw [hcs]; omega
            have h4 : u.cell ((⟨b, 0, none⟩ : Addr).add (0 + j)) = some (c[j]) := by
              have := cells_get hmem (off := j) (v := c[j]) (by simp [hjc])
              rw [Nat.zero_add]
              unfold Addr.add
              split
              · rename_i e'; subst e'; exact this
              · simpa using this
            rw [h4] at h3
            rw [List.getElem?_eq_getElem hj, ← Option.some.inj h3, ← ht', List.getElem?_take, if_pos (by omega)]
            simp [hjc]
          · rw [List.getElem?_eq_none hj, List.getElem?_eq_none (by rw [hold, ← hn]; omega)]
        subst hold'
        refine ⟨⟨by simp [hn], by simpa using hc', .inr ⟨b', _, e, (0, 0), rfl, View.set_self _ _ _, Nat.le_refl _, ?_, ?_⟩⟩, rfl, (But.refl _ _).set (.inr (View.fresh hb)), fun b'' ⟨o, k, hb'⟩ => .inr ?_⟩
        · simp only [List.size_toArray, List.length_append, hz0, hnew, hold, ← hn]
          rw [← Nat.add_mul, ← Nat.add_mul]; congr 1; omega
        · rw [List.flatMap_append]
          simp only
          rw [List.take_left]
        · cases hb'; exact ⟨hb, View.set_lim.2⟩

end Go.Proofs.Ytkjddlgaldnbnaa
end

/-
  DATA IN MEMORY: what changes is told by numbers of blocks; slices that own a block with a number.
-/
section
set_option linter.unusedVariables false
set_option linter.unusedSimpArgs false
namespace Go.Proofs.Ytkjddlgaldnbnaa

/-- what is known stays, but for some blocks -/
def Chg (B : List Int) (u u' : View) : Prop := u.lim ≤ u'.lim ∧ ∀ (b : Nat) o, (b : Int) ∉ B → u.m b = some o → u'.m b = some o

theorem Chg.refl (B : List Int) (u : View) : Chg B u u := ⟨Nat.le_refl _, fun _ _ _ h => h⟩
theorem Chg.mono {B C : List Int} {u v : View} (h : Chg B u v) (hs : ∀ b ∈ B, b ∈ C) : Chg C u v := ⟨h.1, fun b o hb hm => h.2 b o (fun hb' => hb (hs b hb')) hm⟩
theorem Chg.trans {B C D : List Int} {u v w : View} (h : Chg B u v) (g : Chg C v w) (hB : ∀ b ∈ B, b ∈ D ∨ (u.lim : Int) ≤ b) (hC : ∀ b ∈ C, b ∈ D ∨ (u.lim : Int) ≤ b) : Chg D u w :=
  ⟨Nat.le_trans h.1 g.1, fun b o hb hm => by
    have hl := u.lt _ _ hm
    refine g.2 b o (fun hb' => ?_) (h.2 b o (fun hb' => ?_) hm)
    · rcases hC _ hb' with h' | h'
      · exact hb h'
      · omega
    · rcases hB _ hb' with h' | h'
      · exact hb h'
      · omega⟩
theorem Keep.chg {u v : View} (h : Keep u v) (B : List Int) : Chg B u v := ⟨h.1, fun b o _ hm => h.2 b o hm⟩
theorem Chg.keep {u v : View} (h : Chg [] u v) : Keep u v := ⟨h.1, fun b o hm => h.2 b o (by simp) hm⟩
theorem Chg.but {B : List Int} {u v : View} (h : Chg B u v) : But (fun b => (b : Int) ∈ B) u v := h
theorem But.chg1 {s : Nat → Prop} {B : List Int} {u v : View} (h : But s u v) (hs : ∀ b : Nat, s b → (b : Int) ∈ B) : Chg B u v := ⟨h.1, fun b o hb hm => h.2 b o (fun h' => hb (hs b h')) hm⟩
theorem Chg.set {B : List Int} {u v : View} (h : Chg B u v) {b : Nat} {o : Obj} (hb : (b : Int) ∈ B ∨ u.lim ≤ b) : Chg B u (v.set b o) :=
  ⟨Nat.le_trans h.1 (by simp only [View.set]; omega), fun b' o' hn hm => by
    have hl := u.lt _ _ hm
    have hne : b' ≠ b := fun e => by
      subst e
      rcases hb with hb | hb
      · exact hn hb
      · omega
    rw [View.set_ne _ _ hne]; exact h.2 b' o' hn hm⟩
theorem Chg.m {B : List Int} {u v : View} (h : Chg B u v) {b : Nat} {o : Obj} (hm : u.m b = some o) (hb : (b : Int) ∉ B) : v.m b = some o := h.2 b o hb hm

/-- a block that a view does not know -/
def Out (u : View) (b : Int) : Prop := b < 0 ∨ u.m b.toNat = none
theorem Out.lim {u : View} {b : Int} (h : (u.lim : Int) ≤ b) : Out u b := .inr (View.fresh (by omega))
theorem Out.neg {u : View} {b : Int} (h : b < 0) : Out u b := .inl h
theorem Keep.chg1 {u0 u v : View} {B : List Int} (h : Keep u0 u) (g : Chg B u v) (hb : ∀ b ∈ B, Out u0 b) : Keep u0 v :=
  ⟨Nat.le_trans h.1 g.1, fun b o hm => g.2 b o (fun hb' => by
    rcases hb _ hb' with h' | h'
    · omega
    · simp at h'; rw [h'] at hm; cases hm) (h.2 b o hm)⟩

/-- a slice that owns the block of a number (below nought: nil) -/
structure OwnB {α : Type} (enc : α → List Value) (sz : Nat) (u : View) (b : Int) (s : Sl) (l : List α) : Prop where
  own : Own enc sz u s l
  blk : (b < 0 ∧ s.p = none) ∨ (0 ≤ b ∧ s.p = some ⟨b.toNat, 0, none⟩)

section
variable {α : Type} {enc : α → List Value} {sz : Nat} {u u' : View} {b : Int} {s : Sl} {l : List α}

theorem OwnB.n (h : OwnB enc sz u b s l) : s.n = l.length := h.own.n

theorem OwnB.has (h : OwnB enc sz u b s l) {c : Nat} : s.has c ↔ (c : Int) = b := by
  unfold Sl.has
  rcases h.blk with ⟨h1, h2⟩ | ⟨h1, h2⟩
  · rw [h2]; exact ⟨(fun ⟨o, k, e⟩ => by cases e), (fun e => by omega)⟩
  · rw [h2]; exact ⟨(fun ⟨o, k, e⟩ => by cases e; omega), (fun e => ⟨0, Option.none, by rw [← e]; rfl⟩)⟩

theorem OwnB.lt (h : OwnB enc sz u b s l) : b < (u.lim : Int) := by
  rcases h.blk with ⟨h1, h2⟩ | ⟨h1, h2⟩
  · omega
  · rcases h.own.blk with ⟨e, _⟩ | ⟨c, _, _, _, e, hm, _⟩
    · rw [e] at h2; cases h2
    · rw [e] at h2
      cases h2
      have := u.lt _ _ hm
      omega

theorem OwnB.chg (h : OwnB enc sz u b s l) {B : List Int} (g : Chg B u u') (hb : b ∉ B) : OwnB enc sz u' b s l :=
  ⟨h.own.keep g.but fun c hc => by rw [h.has.1 hc]; exact hb, h.blk⟩

theorem OwnB.keep (h : OwnB enc sz u b s l) (g : Keep u u') : OwnB enc sz u' b s l := h.chg (g.chg []) (by simp)

theorem OwnB.arr (h : OwnB enc sz u b s l) (hb : l.length ≤ 4611686018427387904) : Arr enc sz u s l := h.own.arr (by rw [h.n]; exact hb)

theorem OwnB.nil {c : Nat} {T : TypeId} : OwnB enc sz (u.set c (.cells #[] T (0, 0))) c ⟨some ⟨c, 0, none⟩, 0, 0⟩ ([] : List α) :=
  ⟨⟨rfl, Nat.le_refl _, .inr ⟨c, #[], T, (0, 0), rfl, View.set_self _ _ _, Nat.le_refl _, by simp, by simp⟩⟩, .inr ⟨by omega, rfl⟩⟩

theorem OwnB.none (hb : b < 0) : OwnB enc sz u b ⟨Option.none, 0, 0⟩ ([] : List α) := ⟨⟨rfl, Nat.le_refl _, .inl ⟨rfl, rfl, rfl⟩⟩, .inl ⟨hb, rfl⟩⟩

/-- what comes of an append -/
def AppB (enc : α → List Value) (sz : Nat) (u : View) (b : Int) (n : Nat) (l : List α) (K : Sl → View → Prop) : Prop :=
  ∀ (b' : Int) (s' : Sl) (w : View), OwnB enc sz w b' s' l → s'.n = n → Chg [b] u w → (b' = b ∨ ((u.lim : Int) ≤ b' ∧ b' < w.lim)) → K s' w

theorem OwnB.append (hsz : ∀ x, (enc x).length = sz) (h : OwnB enc sz u b s l) {bytes m : Nat} {z : Value} (hz : z.cells.size = sz) {e : TypeId} {xs : List α} (hm : xs.length = m)
    (h1 : l.length + m ≤ 4611686018427387904) (h2 : (l.length + m) * bytes ≤ 140737488355328) {K : Sl → View → Prop} (hk : AppB enc sz u b (s.n + m) (l ++ xs) K) :
    appPre u s.p s.n s.c sz bytes m (xs.flatMap enc) ∧ ∀ (s' : Sl) (u' : View), appPost u s.p s.n s.c sz z e m (xs.flatMap enc) s' u' → K s' u' := by
  have hn := h.n
  obtain ⟨hpre, hpost⟩ := h.own.append hsz (bytes := bytes) hz (e := e) (xs := xs) (m := m) hm (by omega) (by rw [hn]; exact h2)
  refine ⟨hpre, fun s' u' hp => ?_⟩
  obtain ⟨g1, g2, g3, g4⟩ := hpost s' u' hp
  have hchg : Chg [b] u u' := g3.chg1 fun c hc => by rw [h.has.1 hc]; simp
  rcases g1.blk with ⟨e1, e2, e3⟩ | ⟨c, _, _, _, e1, hm', _⟩
  · rcases h.blk with ⟨b0, hb⟩ | ⟨b0, hb⟩
    · exact hk b s' u' ⟨g1, .inl ⟨b0, e1⟩⟩ g2 hchg (.inl rfl)
    · exact hk (-1) s' u' ⟨g1, .inl ⟨by omega, e1⟩⟩ g2 hchg (.inl (by
        exfalso
        rcases hp with ⟨_, rfl, _⟩ | ⟨_, _, _, _, _, _, _, _, rfl, _⟩
        · simp only at e1; rw [e1] at hb; cases hb
        · cases e1))
  · refine hk c s' u' ⟨g1, .inr ⟨by omega, by rw [e1]; rfl⟩⟩ g2 hchg ?_
    rcases g4 c ⟨0, Option.none, e1⟩ with h' | h'
    · exact .inl (h.has.1 h')
    · exact .inr ⟨by omega, by omega⟩

/-- append of one thing that is written out: the shape in which it is to be shown -/
theorem OwnB.push (hsz : ∀ x, (enc x).length = sz) (h : OwnB enc sz u b s l) {bytes : Nat} {z : Value} {e : TypeId} {T : TypeId} (x : α) {cs : List Value} {k m : Nat} {K : Sl → View → Prop} (hz : z.cells.size = sz) (hx : cs = enc x) (h1c : (cs.all Value.oneCell') = true) (hk1 : cs.length = k) (hm1 : m = 1)
    (h1 : l.length ≤ 4611686018427387903) (h2 : (l.length + 1) * bytes ≤ 140737488355328) (hk : ∀ (b' : Int) (s' : Sl) (w : View), OwnB enc sz w b' s' (l ++ [x]) → Chg [b] u w → (b' = b ∨ (u.lim : Int) ≤ b') → K s' w) :
    ∀ c : Nat, u.lim ≤ c → ∃ new : List Value, new.length = k ∧ (∀ v : Value, v ∈ new → v.oneCell' = true) ∧ CellsO (u.set c (.cells cs.toArray T (0, 0))) (some ⟨c, 0, Option.none⟩) new ∧
      appPre (u.set c (.cells cs.toArray T (0, 0))) s.p s.n s.c sz bytes m new ∧ ∀ (s' : Sl) (w : View), appPost (u.set c (.cells cs.toArray T (0, 0))) s.p s.n s.c sz z e m new s' w → K s' w := by
  intro c hc
  subst hm1
  have hg : Keep u (u.set c (.cells cs.toArray T (0, 0))) := Keep.set hc
  have hflat : [x].flatMap enc = cs := by simp [hx]
  obtain ⟨a, p⟩ := (h.keep hg).append hsz (bytes := bytes) hz (e := e) (xs := [x]) (m := 1) rfl (by omega) h2 (K := K) (fun b' s' w h1 _ h3 h4 => hk b' s' w h1 ((hg.chg []).trans h3 (by simp) (by simp)) (h4.imp id fun h => by have := hg.1; omega))
  rw [hflat] at a p
  exact ⟨cs, hk1, fun v hv => List.all_eq_true.1 h1c v hv, cells_at (View.set_self _ _ _) (fun j v hj => by rw [Nat.zero_add]; simpa using hj), a, p⟩

/-- the cells of an owned block, from the beginning -/
theorem OwnB.cell (h : OwnB enc sz u b s l) (hsz : ∀ x, (enc x).length = sz) {i : Nat} {x : α} (hi : l[i]? = some x) : 0 ≤ b ∧ ∃ c T fz, u.m b.toNat = some (.cells c T fz) ∧ fz.2 ≤ fz.1 ∧ c.size = s.c * sz ∧ c.toList.take (l.flatMap enc).length = l.flatMap enc ∧ s.p = some ⟨b.toNat, 0, Option.none⟩ := by
  rcases h.own.blk with ⟨_, _, rfl⟩ | ⟨c, arr, T, fz, e1, e2, e3, e4, e5⟩
  · simp at hi
  · rcases h.blk with ⟨_, hb⟩ | ⟨b0, hb⟩
    · rw [hb] at e1; cases e1
    · rw [hb] at e1
      cases e1
      exact ⟨b0, arr, T, fz, e2, e3, e4, e5, hb⟩

theorem splice_len (vs : List Value) : ∀ (c : List Value) (off : Nat), (splice c off vs).length = c.length := fun c off => splice_length vs c off

theorem splice_get : ∀ (vs c : List Value) (off j : Nat), off + vs.length ≤ c.length → (splice c off vs)[j]? = if off ≤ j ∧ j < off + vs.length then vs[j - off]? else c[j]? := by
  intro vs c off j h
  rw [splice_eq vs c off h]
  by_cases h1 : off ≤ j ∧ j < off + vs.length
  · rw [if_pos h1, List.getElem?_append_left (by simp; omega), List.getElem?_append_right (by simp; omega)]
    congr 1; simp; omega
  · rw [if_neg h1]
    rcases Nat.lt_or_ge j off with h2 | h2
    · rw [List.append_assoc, List.getElem?_append_left (by simp; omega), List.getElem?_take, if_pos h2]
    · rw [List.getElem?_append_right (by simp; omega), List.getElem?_drop]
      congr 1; simp; omega

theorem splice_mid (A E B vs : List Value) (k : Nat) (h : k + vs.length ≤ E.length) : splice (A ++ (E ++ B)) (A.length + k) vs = A ++ (splice E k vs ++ B) := by
  rw [splice_eq vs E k h, splice_eq vs _ _ (by simp; omega)]
  have h1 : (A ++ (E ++ B)).take (A.length + k) = A ++ E.take k := by
    rw [List.take_append, List.take_of_length_le (by omega), Nat.add_sub_cancel_left, List.take_append_of_le_length (by omega)]
  have h2 : (A ++ (E ++ B)).drop (A.length + k + vs.length) = E.drop (k + vs.length) ++ B := by
    rw [List.drop_append, List.drop_of_length_le (by omega), List.nil_append, show A.length + k + vs.length - A.length = k + vs.length from by omega, List.drop_append_of_le_length (by omega)]
  rw [h1, h2]
  simp

theorem flat_set (hsz : ∀ x, (enc x).length = sz) {l : List α} {i : Nat} {x y : α} {k : Nat} {vs : List Value} (hi : l[i]? = some x) (hk : k + vs.length ≤ sz) (he : splice (enc x) k vs = enc y) : (l.set i y).flatMap enc = splice (l.flatMap enc) (i * sz + k) vs := by
  have hlt : i < l.length := by
    rcases Nat.lt_or_ge i l.length with h | h
    · exact h
    · rw [List.getElem?_eq_none h] at hi; cases hi
  have hsplit : l = l.take i ++ x :: l.drop (i + 1) := by
    rw [List.getElem?_eq_getElem hlt] at hi
    cases hi
    simp
  have hset : l.set i y = l.take i ++ y :: l.drop (i + 1) := by rw [List.set_eq_take_append_cons_drop, if_pos hlt]
  have hlen1 : ((l.take i).flatMap enc).length = i * sz := by rw [flatMap_len hsz, List.length_take, Nat.min_eq_left (by omega)]
  have hL : l.flatMap enc = (l.take i).flatMap enc ++ (enc x ++ (l.drop (i + 1)).flatMap enc) := by
    rw [← List.flatMap_cons, ← List.flatMap_append, ← hsplit]
  rw [hset, List.flatMap_append, List.flatMap_cons, hL, ← he, ← hlen1, splice_mid _ _ _ _ _ (by rw [hsz]; exact hk)]

/-- a store into an element: the shape in which it is to be shown -/
theorem OwnB.put (hsz : ∀ x, (enc x).length = sz) (h : OwnB enc sz u b s l) {i k : Nat} {x y : α} {vs : List Value} (hi : l[i]? = some x) (hk : k + vs.length ≤ sz) (hv : 0 < vs.length) (he : splice (enc x) k vs = enc y) {ad : Addr} (had : s.p = some ad) {K : View → Prop}
    (hK : ∀ w : View, OwnB enc sz w b s (l.set i y) → Chg [b] u w → K w) :
    ∃ (c : Array Value) (T' : TypeId) (fz : Nat × Nat), u.m ((ad.add (i * sz)).add k).block = some (.cells c T' fz) ∧ fzOK fz c.size ∧ ((ad.add (i * sz)).add k).spot = Option.none ∧ ((ad.add (i * sz)).add k).off + vs.length ≤ c.size ∧
      K (u.set ((ad.add (i * sz)).add k).block (.cells (splice c.toList ((ad.add (i * sz)).add k).off vs).toArray T' fz)) := by
  obtain ⟨b0, c, T, fz, hm, hfz, hcs, ht, hp⟩ := h.cell hsz hi
  rw [hp] at had
  cases had
  have e : ((Addr.add ⟨b.toNat, 0, Option.none⟩ (i * sz)).add k) = ⟨b.toNat, i * sz + k, Option.none⟩ := by
    rw [Addr.add_add, addr_add, Nat.zero_add]
  rw [e]
  have hlt : i < l.length := by
    rcases Nat.lt_or_ge i l.length with h' | h'
    · exact h'
    · rw [List.getElem?_eq_none h'] at hi; cases hi
  have hn := h.n
  have hle := h.own.le
  have hmul : i * sz + sz ≤ l.length * sz := by rw [← Nat.succ_mul]; exact Nat.mul_le_mul_right _ hlt
  have hmul2 : l.length * sz ≤ s.c * sz := Nat.mul_le_mul_right _ (by omega)
  have hfl := flatMap_len hsz l
  refine ⟨c, T, fz, hm, .inl hfz, rfl, by show i * sz + k + vs.length ≤ c.size; omega, hK _ ⟨⟨by simpa using hn, h.own.le, .inr ⟨b.toNat, _, T, fz, hp, View.set_self _ _ _, hfz, ?_, ?_⟩⟩, h.blk⟩ ((Chg.refl _ _).set (.inl (by simp; omega)))⟩
  · simp [splice_length, hcs]
  · have hs := flat_set hsz hi hk he
    have hc : c.toList = l.flatMap enc ++ c.toList.drop (l.flatMap enc).length := by
      conv => lhs; rw [← List.take_append_drop (l.flatMap enc).length c.toList, ht]
    have hsp := splice_mid [] (l.flatMap enc) (c.toList.drop (l.flatMap enc).length) vs (i * sz + k) (by rw [hfl]; omega)
    simp only [List.nil_append, List.length_nil, Nat.zero_add, ← hc] at hsp
    rw [hs]
    simp only
    rw [hsp]
    exact List.take_left' rfl

/-- a shorter one -/
theorem OwnB.cut (h : OwnB enc sz u b s l) (hsz : ∀ x, (enc x).length = sz) {n : Nat} (hn : n ≤ l.length) (hb : 0 ≤ b) : OwnB enc sz u b ⟨s.p, n, s.c⟩ (l.take n) := by
  have h1 := h.n
  have h2 := h.own.le
  refine ⟨⟨by simp; omega, by simp only; omega, ?_⟩, h.blk⟩
  rcases h.own.blk with ⟨e, _, _⟩ | ⟨c, arr, T, fz, e1, e2, e3, e4, e5⟩
  · rcases h.blk with ⟨hb', _⟩ | ⟨_, hp⟩
    · omega
    · rw [e] at hp; cases hp
  · refine .inr ⟨c, arr, T, fz, e1, e2, e3, e4, ?_⟩
    have hl := flatMap_len hsz l
    have hl2 := flatMap_len hsz (l.take n)
    rw [List.length_take, Nat.min_eq_left hn] at hl2
    have : (l.take n).flatMap enc = (l.flatMap enc).take (n * sz) := by
      have h2 : l.flatMap enc = (l.take n).flatMap enc ++ (l.drop n).flatMap enc := by rw [← List.flatMap_append, List.take_append_drop]
      rw [h2]; exact (List.take_left' hl2).symm
    rw [hl2, this, ← e5, List.take_take, Nat.min_eq_left (by rw [hl]; exact Nat.mul_le_mul_right _ hn)]

end
end Go.Proofs.Ytkjddlgaldnbnaa
end

/-
  DATA IN MEMORY: stores into owned slices, told data first; shorter slices; what list lies there.
-/
section
set_option linter.unusedVariables false
set_option linter.unusedSimpArgs false
namespace Go.Proofs.Ytkjddlgaldnbnaa

theorem slP_zero (p : Option Addr) (c sz : Nat) : slP p 0 c sz = p := by
  unfold slP
  split
  · rfl
  · cases p <;> simp [Addr.add]

section
variable {α : Type} {enc : α → List Value} {sz : Nat} {u u' : View} {b : Int} {s : Sl} {l : List α}

/-- a store into an element of one cell -/
theorem OwnB.store1 (h : OwnB enc 1 u b s l) {c : α → Value} (hc : ∀ x, enc x = [c x]) {i : Nat} {x : α} (y : α) (hi : l[i]? = some x) :
    ∃ (ad : Addr) (arr : Array Value) (T' : TypeId) (fz : Nat × Nat), s.p = some ad ∧ u.m (ad.add (i * 1)).block = some (.cells arr T' fz) ∧ fzOK fz arr.size ∧ (ad.add (i * 1)).spot = Option.none ∧ (ad.add (i * 1)).off + 1 ≤ arr.size ∧
      OwnB enc 1 (u.set (ad.add (i * 1)).block (.cells (List.toArray (List.set (Array.toList arr) (ad.add (i * 1)).off (c y))) T' fz)) b s (l.set i y) ∧
      Chg [b] u (u.set (ad.add (i * 1)).block (.cells (List.toArray (List.set (Array.toList arr) (ad.add (i * 1)).off (c y))) T' fz)) := by
  have hsz : ∀ x, (enc x).length = 1 := fun x => by rw [hc]; rfl
  obtain ⟨b0, arr, T, fz, hm, hfz, hcs, ht, hp⟩ := h.cell hsz hi
  obtain ⟨c', T', fz', g1, g2, g3, g4, g5⟩ := h.put hsz hi (k := 0) (vs := [c y]) (y := y) (by simp) (by simp) (by rw [hc, hc]; rfl) hp (K := fun w => OwnB enc 1 w b s (l.set i y) ∧ Chg [b] u w) fun w ho' hch => ⟨ho', hch⟩
  have e : ((Addr.add ⟨b.toNat, 0, Option.none⟩ (i * 1)).add 0) = Addr.add ⟨b.toNat, 0, Option.none⟩ (i * 1) := by simp [Addr.add]
  rw [e] at g1 g3 g4 g5
  exact ⟨_, c', T', fz', hp, g1, g2, g3, g4, g5.1, g5.2⟩

/-- a literal -/
theorem OwnB.made {c : Nat} {T : TypeId} {cs : Array Value} {n : Nat} (h : cs = (l.flatMap enc).toArray) (hsz : ∀ x, (enc x).length = sz) (hn : n = l.length) : OwnB enc sz (u.set c (.cells cs T (0, 0))) c ⟨some ⟨c, 0, Option.none⟩, n, n⟩ l := by
  subst h
  subst hn
  exact ⟨⟨rfl, Nat.le_refl _, .inr ⟨c, _, T, (0, 0), rfl, View.set_self _ _ _, Nat.le_refl _, by simpa using flatMap_len hsz l, List.take_of_length_le (Nat.le_refl _)⟩⟩, .inr ⟨by omega, rfl⟩⟩

/-- a store into one cell of an element -/
theorem OwnB.store (h : OwnB enc sz u b s l) (hsz : ∀ x, (enc x).length = sz) {i k : Nat} {x : α} (y : α) (v : Value) (hi : l[i]? = some x) (hk : k < sz) (he : (enc x).set k v = enc y) :
    ∃ (ad : Addr) (arr : Array Value) (T' : TypeId) (fz : Nat × Nat), s.p = some ad ∧ u.m ((ad.add (i * sz)).add k).block = some (.cells arr T' fz) ∧ fzOK fz arr.size ∧ ((ad.add (i * sz)).add k).spot = Option.none ∧ ((ad.add (i * sz)).add k).off + 1 ≤ arr.size ∧
      OwnB enc sz (u.set ((ad.add (i * sz)).add k).block (.cells (List.toArray (List.set (Array.toList arr) ((ad.add (i * sz)).add k).off v)) T' fz)) b s (l.set i y) ∧
      Chg [b] u (u.set ((ad.add (i * sz)).add k).block (.cells (List.toArray (List.set (Array.toList arr) ((ad.add (i * sz)).add k).off v)) T' fz)) := by
  obtain ⟨b0, arr, T, fz, hm, hfz, hcs, ht, hp⟩ := h.cell hsz hi
  obtain ⟨c', T', fz', g1, g2, g3, g4, g5⟩ := h.put hsz hi (k := k) (vs := [v]) (y := y) (by simp; omega) (by simp) he hp (K := fun w => OwnB enc sz w b s (l.set i y) ∧ Chg [b] u w) fun w ho' hch => ⟨ho', hch⟩
  exact ⟨_, c', T', fz', hp, g1, g2, g3, g4, g5.1, g5.2⟩

/-- append of several things that are written out: the shape in which it is to be shown -/
theorem OwnB.pushL (hsz : ∀ x, (enc x).length = sz) (h : OwnB enc sz u b s l) {bytes : Nat} {z : Value} {e : TypeId} {T : TypeId} (xs : List α) {cs : List Value} {k m : Nat} {K : Sl → View → Prop} (hz : z.cells.size = sz) (hx : cs = xs.flatMap enc) (h1c : (cs.all Value.oneCell') = true) (hk1 : cs.length = k) (hm1 : xs.length = m)
    (h1 : l.length + m ≤ 4611686018427387904) (h2 : (l.length + m) * bytes ≤ 140737488355328) (hk : ∀ (b' : Int) (s' : Sl) (w : View), OwnB enc sz w b' s' (l ++ xs) → Chg [b] u w → (b' = b ∨ (u.lim : Int) ≤ b') → K s' w) :
    ∀ c : Nat, u.lim ≤ c → ∃ new : List Value, new.length = k ∧ (∀ v : Value, v ∈ new → v.oneCell' = true) ∧ CellsO (u.set c (.cells cs.toArray T (0, 0))) (some ⟨c, 0, Option.none⟩) new ∧
      appPre (u.set c (.cells cs.toArray T (0, 0))) s.p s.n s.c sz bytes m new ∧ ∀ (s' : Sl) (w : View), appPost (u.set c (.cells cs.toArray T (0, 0))) s.p s.n s.c sz z e m new s' w → K s' w := by
  intro c hc
  have hg : Keep u (u.set c (.cells cs.toArray T (0, 0))) := Keep.set hc
  obtain ⟨a, p⟩ := (h.keep hg).append hsz (bytes := bytes) hz (e := e) (xs := xs) (m := m) hm1 h1 h2 (K := K) (fun b' s' w h1 _ h3 h4 => hk b' s' w h1 ((hg.chg []).trans h3 (by simp) (by simp)) (h4.imp id fun h => by have := hg.1; omega))
  rw [← hx] at a p
  exact ⟨cs, hk1, fun v hv => List.all_eq_true.1 h1c v hv, cells_at (View.set_self _ _ _) (fun j v hj => by rw [Nat.zero_add]; simpa using hj), a, p⟩

/-- append of another slice: the shape in which it is to be shown -/
theorem OwnB.concat (hsz : ∀ x, (enc x).length = sz) (hone : ∀ x, ((enc x).all Value.oneCell') = true) (h : OwnB enc sz u b s l) {t : Sl} {xs : List α} (ht : Arr enc sz u t xs) {bytes : Nat} {z : Value} {e : TypeId} {K : Sl → View → Prop} (hz : z.cells.size = sz)
    (h1 : l.length + xs.length ≤ 4611686018427387904) (h2 : (l.length + xs.length) * bytes ≤ 140737488355328) (hk : ∀ (b' : Int) (s' : Sl) (w : View), OwnB enc sz w b' s' (l ++ xs) → Chg [b] u w → (b' = b ∨ (u.lim : Int) ≤ b') → K s' w) :
    ∃ new : List Value, new.length = t.n * sz ∧ (∀ v : Value, v ∈ new → v.oneCell' = true) ∧ CellsO u t.p new ∧ appPre u s.p s.n s.c sz bytes t.n new ∧ ∀ (s' : Sl) (w : View), appPost u s.p s.n s.c sz z e t.n new s' w → K s' w := by
  have htn := ht.n
  obtain ⟨a, p⟩ := h.append hsz (bytes := bytes) hz (e := e) (xs := xs) (m := t.n) htn.symm (by omega) (by rw [htn]; exact h2) (K := K) (fun b' s' w h1 _ h3 h4 => hk b' s' w h1 h3 (h4.imp id fun h => by omega))
  refine ⟨xs.flatMap enc, by rw [flatMap_len hsz, htn], fun v hv => ?_, ht.cells, a, p⟩
  obtain ⟨x, _, hx⟩ := List.mem_flatMap.1 hv
  exact List.all_eq_true.1 (hone x) v hx

theorem OwnB.le (h : OwnB enc sz u b s l) : s.n ≤ s.c := h.own.le

theorem OwnB.read1 (h : OwnB enc 1 u b s l) {c : α → Value} (hc : ∀ x, enc x = [c x]) (hb : l.length ≤ 4611686018427387904) {i : Int} (h0 : 0 ≤ i) (h1 : i < (s.n : Int)) :
    ∃ ad x, s.p = some ad ∧ l[i.toNat]? = some x ∧ u.cell (ad.add (i.toNat * 1)) = some (c x) := (h.arr hb).one hc h0 h1

end

/-- numbers that lie in a slice are told by memory -/
theorem Arr.uniqI {u : View} {s : Sl} {l l' : List Int} (h : Arr encI 1 u s l) (g : Arr encI 1 u s l') : l = l' := by
  apply List.ext_getElem?
  intro i
  have h1 := h.n
  have h2 := g.n
  rcases Nat.lt_or_ge i l.length with hi | hi
  · obtain ⟨ad, x, e, hx, hc⟩ := h.one (c := fun n => .int .i64 n) (fun _ => rfl) (i := (i : Int)) (by omega) (by omega)
    obtain ⟨ad', x', e', hx', hc'⟩ := g.one (c := fun n => .int .i64 n) (fun _ => rfl) (i := (i : Int)) (by omega) (by omega)
    rw [e] at e'
    cases e'
    rw [hc] at hc'
    cases hc'
    simp only [Int.toNat_natCast] at hx hx'
    rw [hx, hx']
  · rw [List.getElem?_eq_none hi, List.getElem?_eq_none (by omega)]

open Classical in
noncomputable def listI (u : View) (s : Sl) : List Int := if h : ∃ l, Arr encI 1 u s l then Classical.choose h else []

theorem listI_eq {u : View} {s : Sl} {l : List Int} (h : Arr encI 1 u s l) : listI u s = l := by
  unfold listI
  have he : ∃ l, Arr encI 1 u s l := ⟨l, h⟩
  rw [dif_pos he]
  exact (Classical.choose_spec he).uniqI h

end Go.Proofs.Ytkjddlgaldnbnaa
end
