import Derived.Orders
import Derived.KernelRfl
import Derived.WalkKit
import Derived.WalkSpells
import Derived.Laws.StructEq
import Derived.Laws.Small
import Derived.Lib.SliceRun
import Derived.Deep.AppendSrc
import Derived.MapKept

/-
  THE CALCULUS, PART 0: views of memory, contracts over views, symbolic values.
  A 'View' is what is known of memory: some blocks, with what they hold, and a number that bounds them. 'CallsV P f args u R': wherever memory holds all that u knows, the call returns some v, what is known behind it is some u', R v u' holds, and no block that u does not know has turned.
-/
section
namespace Go.Proofs.Ytkjddlgaldnbnaa

/-- what is known of memory -/
structure View where
  m : Nat → Option Obj
  lim : Nat
  lt : ∀ b o, m b = some o → b < lim

/-- memory w holds all that u knows -/
def Sub (u : View) (w : World) : Prop := u.lim ≤ w.heap.size ∧ ∀ b o, u.m b = some o → w.heap[b]? = some o

/-- a memory grown at most in its number of blocks; what is outside is as it was -/
def Ge (w w' : World) : Prop := w.heap.size ≤ w'.heap.size ∧ w'.os = w.os ∧ w'.output = w.output
theorem Ge.refl (w : World) : Ge w w := ⟨Nat.le_refl _, rfl, rfl⟩
theorem Ge.trans {a b c : World} (h : Ge a b) (g : Ge b c) : Ge a c := ⟨Nat.le_trans h.1 g.1, g.2.1.trans h.2.1, g.2.2.trans h.2.2⟩

/-- a contract over a view -/
def CallsV (P : Program) (f : FuncId) (args : Array Value) (u : View) (R : Value → View → Prop) : Prop :=
  ∀ w, Sub u w → Calls P f args w fun e w' => ∃ v u', e = .returned v ∧ Sub u' w' ∧ Ge w w' ∧
    (∀ b, b < w.heap.size → u.m b = none → w'.heap[b]? = w.heap[b]?) ∧
    (∀ b o, u'.m b = some o → u.m b ≠ none ∨ w.heap.size ≤ b) ∧ R v u'

theorem CallsV.mono {P : Program} {f : FuncId} {args : Array Value} {u : View} {R R' : Value → View → Prop}
    (h : CallsV P f args u R) (hr : ∀ v u', R v u' → R' v u') : CallsV P f args u R' :=
  fun w hw => (h w hw).mono fun _ _ ⟨v, u', a, b, c, d, e, r⟩ => ⟨v, u', a, b, c, d, e, hr _ _ r⟩

/-- a slice's value, in three parts -/
structure Sl where
  p : Option Addr
  n : Nat
  c : Nat

def Sl.val (s : Sl) : Value := .slice s.p s.n s.c

/-- a function value: its number and what it has captured -/
structure Fv where
  f : FuncId
  caps : Array Value

/-- the kinds of one cell -/
inductive Leaf where
  | int (k : IntKind)
  | bool
  | str
  | sl
  | ptr
  | fn
  | map
  | any
  deriving DecidableEq

@[reducible] def Leaf.T : Leaf → Type
  | .int _ => Int
  | .bool => Bool
  | .str => ByteArray
  | .sl => Sl
  | .ptr => Addr
  | .fn => Fv
  | .map => Nat
  | .any => Value

def Leaf.val : (l : Leaf) → l.T → Value
  | .int k, n => .int k n
  | .bool, b => .bool b
  | .str, s => .string s
  | .sl, s => .slice s.p s.n s.c
  | .ptr, a => .pointer (some a)
  | .fn, f => .func (.func f.f) #[] f.caps
  | .map, r => .map (some r)
  | .any, v => v

def Leaf.get : (l : Leaf) → Value → Option l.T
  | .int k, .int k' n => if k = k' then some n else none
  | .bool, .bool b => some b
  | .str, .string s => some s
  | .sl, .slice p n c => some ⟨p, n, c⟩
  | .ptr, .pointer (some a) => some a
  | .map, .map (some r) => some r
  | .any, v => some v
  | _, _ => none

theorem Leaf.get_val {l : Leaf} {v : Value} {x : l.T} (h : l.get v = some x) : v = l.val x := by
  cases l <;> cases v <;> simp [Leaf.get] at h <;> try (subst h; rfl)
  · obtain ⟨rfl, rfl⟩ := h; rfl
  all_goals (rename_i a; cases a <;> simp at h; subst h; rfl)

/-- the kind of a value: one cell, or several -/
inductive Sh where
  | one (l : Leaf)
  | agg (ls : List Leaf)

/-- 'some values of these kinds' -/
def ExL : List Leaf → (List Value → Prop) → Prop
  | [], K => K []
  | l :: r, K => ∃ x : l.T, ExL r fun vs => K (l.val x :: vs)

def ExS : Sh → (Value → Prop) → Prop
  | .one l, K => ∃ x : l.T, K (l.val x)
  | .agg ls, K => ExL ls fun vs => K (.agg vs.toArray)

def ExT : List Sh → (List Value → Prop) → Prop
  | [], K => K []
  | s :: r, K => ExS s fun v => ExT r fun vs => K (v :: vs)

theorem ExL.mono {ls : List Leaf} : ∀ {K K' : List Value → Prop}, (∀ vs, K vs → K' vs) → ExL ls K → ExL ls K' := by
  induction ls with
  | nil => exact fun h k => h _ k
  | cons l r ih => exact fun h ⟨x, k⟩ => ⟨x, ih (fun vs k => h _ k) k⟩
theorem ExS.mono {s : Sh} {K K' : Value → Prop} (h : ∀ v, K v → K' v) : ExS s K → ExS s K' := by
  cases s with
  | one l => exact fun ⟨x, k⟩ => ⟨x, h _ k⟩
  | agg ls => exact ExL.mono fun _ k => h _ k
theorem ExT.mono {l : List Sh} : ∀ {K K' : List Value → Prop}, (∀ v, K v → K' v) → ExT l K → ExT l K' := by
  induction l with
  | nil => exact fun h k => h _ k
  | cons s r ih => exact fun h => ExS.mono fun v => ih fun vs k => h _ k
theorem ExL.ex {ls : List Leaf} : ∀ {K : List Value → Prop}, ExL ls K → ∃ vs, vs.length = ls.length ∧ K vs := by
  induction ls with
  | nil => exact fun k => ⟨[], rfl, k⟩
  | cons l r ih => exact fun ⟨x, k⟩ => let ⟨vs, hl, k⟩ := ih k; ⟨l.val x :: vs, by simp [hl], k⟩
theorem ExS.ex {s : Sh} {K : Value → Prop} : ExS s K → ∃ v, K v := by
  cases s with
  | one l => exact fun ⟨x, k⟩ => ⟨_, k⟩
  | agg ls => exact fun h => let ⟨vs, _, k⟩ := ExL.ex h; ⟨_, k⟩
theorem ExT.ex {l : List Sh} : ∀ {K : List Value → Prop}, ExT l K → ∃ vs, K vs := by
  induction l with
  | nil => exact fun k => ⟨[], k⟩
  | cons s r ih => exact fun h => let ⟨v, k⟩ := ExS.ex h; let ⟨vs, k⟩ := ih k; ⟨v :: vs, k⟩

/-- the kinds of the cells of a type's variable -/
def leafs (P : Program) : Nat → TypeId → List Leaf
  | 0, _ => [.any]
  | d + 1, t =>
    match P.underlying t with
    | some .bool => [.bool]
    | some (.int k) => [.int k]
    | some .string => [.str]
    | some (.slice _) => [.sl]
    | some (.pointer _) => [.ptr]
    | some (.map _ _) => [.map]
    | some (.func _ _ _) => [.fn]
    | some (.struct fs) => fs.toList.flatMap fun f => leafs P d f.type
    | some (.array n e) => (List.replicate n (leafs P d e)).flatten
    | _ => [.any]

def aggT (P : Program) (t : TypeId) : Bool :=
  match P.underlying t with
  | some (.struct _) | some (.array _ _) => true
  | _ => false

def shape (P : Program) (t : TypeId) : Sh :=
  if aggT P t then .agg (leafs P 8 t) else
  match leafs P 8 t with
  | [l] => .one l
  | _ => .one .any

/-- a cell, by a view -/
def View.cell (u : View) (a : Addr) : Option Value :=
  match u.m a.block with
  | some (.cells c _ _) => if a.spot.isSome then none else c[a.off]?
  | _ => none

theorem Sub.cell {u : View} {w : World} (h : Sub u w) {a : Addr} {v : Value} (hc : u.cell a = some v) : w.cell? a = some v := by
  unfold View.cell at hc
  split at hc
  · rename_i c T fz hm
    simp only [World.cell?, h.2 _ _ hm]
    exact hc
  · cases hc

/-- what is known grows -/
def Keep (u u' : View) : Prop := u.lim ≤ u'.lim ∧ ∀ b o, u.m b = some o → u'.m b = some o

theorem Keep.refl (u : View) : Keep u u := ⟨Nat.le_refl _, fun _ _ h => h⟩
theorem Keep.trans {u v x : View} (a : Keep u v) (b : Keep v x) : Keep u x := ⟨Nat.le_trans a.1 b.1, fun _ _ h => b.2 _ _ (a.2 _ _ h)⟩
theorem Keep.cell {u u' : View} (h : Keep u u') {a : Addr} {v : Value} (hc : u.cell a = some v) : u'.cell a = some v := by
  unfold View.cell at *
  split at hc
  · rename_i c T fz hm
    simp only [h.2 _ _ hm]
    exact hc
  · cases hc

/-- one block more is known, or another thing of a known one -/
def View.set (u : View) (b : Nat) (o : Obj) : View :=
  { m := fun b' => if b' = b then some o else u.m b', lim := max u.lim (b + 1),
    lt := fun b' o' h => by
      by_cases hb : b' = b
      · omega
      · rw [if_neg hb] at h; have := u.lt _ _ h; omega }
/-- a block is known no more -/
def View.del (u : View) (b : Nat) : View :=
  { m := fun b' => if b' = b then none else u.m b', lim := u.lim,
    lt := fun b' o' h => by
      by_cases hb : b' = b
      · rw [if_pos hb] at h; cases h
      · rw [if_neg hb] at h; exact u.lt _ _ h }
/-- all that is below a number of blocks is known of memory itself -/
def View.full (w : World) : View :=
  { m := fun b => w.heap[b]?, lim := w.heap.size,
    lt := fun b o h => by
      rcases Nat.lt_or_ge b w.heap.size with h' | h'
      · exact h'
      · rw [Array.getElem?_eq_none h'] at h; cases h }
theorem Sub.full (w : World) : Sub (.full w) w := ⟨Nat.le_refl _, fun _ _ h => h⟩

theorem View.set_self (u : View) (b : Nat) (o : Obj) : (u.set b o).m b = some o := by simp [View.set]
theorem View.set_ne (u : View) {b b' : Nat} (o : Obj) (h : b' ≠ b) : (u.set b o).m b' = u.m b' := by simp [View.set, h]
theorem View.del_ne (u : View) {b b' : Nat} (h : b' ≠ b) : (u.del b).m b' = u.m b' := by simp [View.del, h]
theorem View.del_self (u : View) (b : Nat) : (u.del b).m b = none := by simp [View.del]

/-- the numbers of the cells of a block from one on, with what is written there -/
def splice (c : List Value) (off : Nat) : List Value → List Value
  | [] => c
  | v :: vs => splice (c.set off v) (off + 1) vs

theorem splice_length (vs : List Value) : ∀ (c : List Value) (off : Nat), (splice c off vs).length = c.length := by
  induction vs with
  | nil => intro c off; rfl
  | cons v vs ih => intro c off; simp [splice, ih]

end Go.Proofs.Ytkjddlgaldnbnaa
end

/-
  THE CALCULUS, PART 1: symbolic values and states; operations that leave memory as it is ('qV'), and that what 'qV' says is what they do.
-/
section
namespace Go.Proofs.Ytkjddlgaldnbnaa

/-- what a closure has captured -/
inductive PV where
  | v (x : Value)
  | loc (k off : Nat)

/-- a symbolic value: a value; a bool that is known; a pointer into the k-th own block, also at an index of an array there; a closure -/
inductive SV where
  | v (x : Value)
  | bl (b : Bool)
  | loc (k off : Nat)
  | locI (k off : Nat) (i : Int) (n sz : Nat)
  | fn (f : FuncId) (caps : List PV)

/-- an own block: its number, its type, its cells -/
structure LB where
  b : Nat
  T : TypeId
  ls : List Leaf
  cs : List Value

structure St where
  ρ : Nat → SV
  L : List LB
  u : View

def locAddr (L : List LB) (k off : Nat) : Value :=
  match L[k]? with
  | some lb => .pointer (some ⟨lb.b, off, none⟩)
  | none => undef

def pv (L : List LB) : PV → Value
  | .v x => x
  | .loc k off => locAddr L k off

def tv (L : List LB) : SV → Value
  | .v x => x
  | .bl b => .bool b
  | .loc k off => locAddr L k off
  | .locI k off i _ sz => locAddr L k (off + i.toNat * sz)
  | .fn f caps => .func (.func f) #[] (caps.map (pv L)).toArray

def upd (ρ : Nat → SV) (d : Nat) (x : SV) : Nat → SV := fun t => match Nat.beq t d with | true => x | false => ρ t

theorem upd_self (ρ : Nat → SV) (d : Nat) (x : SV) : upd ρ d x d = x := by
  simp [upd]
theorem upd_ne (ρ : Nat → SV) {t d : Nat} (x : SV) (h : t ≠ d) : upd ρ d x t = ρ t := by
  have h' : Nat.beq t d = false := by
    cases hb : Nat.beq t d with
    | false => rfl
    | true => exact absurd (Nat.eq_of_beq_eq_true hb) h
  simp only [upd, h']

def cst : Value → SV
  | .bool b => .bl b
  | v => .v v

theorem tv_cst (L : List LB) (v : Value) : tv L (cst v) = v := by cases v <;> rfl

def St.ev (st : St) : Operand → SV
  | .tmp t => st.ρ t
  | .const v => cst v
  | .global g => .v (.pointer (some ⟨g, 0, none⟩))
  | .func f => .fn f []

def St.put (st : St) (d : Option Tmp) (x : SV) : St :=
  match d with
  | none => st
  | some d => { st with ρ := upd st.ρ d x }

/-- the own blocks lie in memory as told -/
def LocOK (L : List LB) (w : World) : Prop := ∀ (k : Nat) (lb : LB), L[k]? = some lb → w.heap[lb.b]? = some (.cells lb.cs.toArray lb.T (0, 0))

/-- memory that has grown at most -/
def WEvo (w w' : World) : Prop := Ge w w' ∧ ∀ b, b < w.heap.size → w'.heap[b]? = w.heap[b]?

theorem WEvo.refl (w : World) : WEvo w w := ⟨Ge.refl _, fun _ _ => rfl⟩
theorem WEvo.sub {u : View} {w w' : World} (h : WEvo w w') (hs : Sub u w) : Sub u w' :=
  ⟨Nat.le_trans hs.1 h.1.1, fun b o hb => by
    have := u.lt _ _ hb
    rw [h.2 b (by have := hs.1; omega)]
    exact hs.2 _ _ hb⟩
theorem heap_lt {w : World} {b : Nat} {o : Obj} (h : w.heap[b]? = some o) : b < w.heap.size := by
  rcases Nat.lt_or_ge b w.heap.size with h' | h'
  · exact h'
  · rw [Array.getElem?_eq_none h'] at h; cases h
theorem WEvo.loc {L : List LB} {w w' : World} (h : WEvo w w') (hl : LocOK L w) : LocOK L w' := fun k lb hk => by
  have := hl k lb hk
  rw [h.2 _ (heap_lt this)]
  exact this

/-! ### operations on plain values -/

/-- a value, if it is one (a known bool too) -/
def SV.val? : SV → Option Value
  | .v x => some x
  | .bl b => some (.bool b)
  | _ => none

theorem SV.val?_tv {x : SV} {v : Value} (L : List LB) (h : x.val? = some v) : tv L x = v := by
  cases x <;> simp [SV.val?] at h <;> subst h <;> rfl

def boolT (P : Program) (t : TypeId) : Bool := match P.underlying t with | some .bool => true | _ => false
def sliceT (P : Program) (t : TypeId) : Bool := match P.underlying t with | some (.slice _) => true | _ => false
theorem boolT_eq {P : Program} {t : TypeId} (h : boolT P t = true) : P.underlying t = some .bool := by
  unfold boolT at h; split at h
  · assumption
  · cases h
theorem sliceT_eq {P : Program} {t : TypeId} (h : sliceT P t = true) : ∃ e, P.underlying t = some (.slice e) := by
  unfold sliceT at h; split at h
  · exact ⟨_, by assumption⟩
  · cases h

def cmpV (op : BinOp) (a b : Int) : Option Bool :=
  match op with
  | .eql => some (a == b)
  | .neq => some (a != b)
  | .lss => some (decide (a < b))
  | .leq => some (decide (a ≤ b))
  | .gtr => some (decide (a > b))
  | .geq => some (decide (a ≥ b))
  | _ => none

/-- two texts are the same -/
def eqS (a b : ByteArray) : Bool := a.toList == b.toList

/-- what an operation of two values comes to -/
def binV (P : Program) (xT : TypeId) (op : BinOp) (x y : Value) (K : Value → Prop) : Prop :=
  match x, y with
  | .int k a, .int k' b =>
    match op with
    | .shl => 0 ≤ b ∧ K (.int k (k.wrap (a * 2 ^ min b.toNat k.bits)))
    | .shr => 0 ≤ b ∧ K (.int k (a.fdiv (2 ^ min b.toNat k.bits)))
    | .add => if k = k' then K (.int k (k.wrap (a + b))) else False
    | .sub => if k = k' then K (.int k (k.wrap (a - b))) else False
    | .mul => if k = k' then K (.int k (k.wrap (a * b))) else False
    | .quo => if k = k' then b ≠ 0 ∧ K (.int k (k.wrap (a.tdiv b))) else False
    | .rem => if k = k' then b ≠ 0 ∧ K (.int k (a.tmod b)) else False
    | .and => if k = k' then K (.int k (k.wrap (BitVec.ofInt k.bits a &&& BitVec.ofInt k.bits b).toNat)) else False
    | .or => if k = k' then K (.int k (k.wrap (BitVec.ofInt k.bits a ||| BitVec.ofInt k.bits b).toNat)) else False
    | .xor => if k = k' then K (.int k (k.wrap (BitVec.ofInt k.bits a ^^^ BitVec.ofInt k.bits b).toNat)) else False
    | _ => if k = k' then (match cmpV op a b with | some t => K (.bool t) | none => False) else False
  | .string a, .string b =>
    match op with
    | .add => a.size + b.size ≤ 4611686018427387904 ∧ K (.string (a ++ b))
    | .eql => K (.bool (eqS a b))
    | .neq => K (.bool (!eqS a b))
    | .lss => K (.bool (Op.bytesLess a.toList b.toList))
    | .leq => K (.bool (Op.bytesLess a.toList b.toList || a.toList == b.toList))
    | .gtr => K (.bool (!(Op.bytesLess a.toList b.toList || a.toList == b.toList)))
    | .geq => K (.bool (!Op.bytesLess a.toList b.toList))
    | _ => False
  | .bool a, .bool b =>
    match op with
    | .eql => if boolT P xT then K (.bool (a == b)) else False
    | .neq => if boolT P xT then K (.bool (!(a == b))) else False
    | _ => False
  | .slice p _ _, .slice none _ _ =>
    match op with
    | .eql => if sliceT P xT then K (.bool p.isNone) else False
    | .neq => if sliceT P xT then K (.bool (!p.isNone)) else False
    | _ => False
  | _, _ => False

theorem binV_run {P : Program} {op : BinOp} {xT : TypeId} {x y : Value} {K : Value → Prop} (h : binV P xT op x y K) :
    ∃ v, K v ∧ ∀ w, (binOp op xT x y).run P w = .ok v w := by
  cases x <;> cases y <;> simp only [binV] at h <;> try exact h.elim
  case bool.bool a b =>
    cases op <;> simp only at h <;> try exact h.elim
    · split at h
      · rename_i hu; exact ⟨_, h, fun w => run_eql_bool w xT a b (boolT_eq hu)⟩
      · exact h.elim
    · split at h
      · rename_i hu; exact ⟨_, h, fun w => run_neq_bool w xT a b (boolT_eq hu)⟩
      · exact h.elim
  case int.int k a k' b =>
    cases op <;> simp only at h
    all_goals first
      | (obtain ⟨hb, h⟩ := h
         exact ⟨_, h, fun w => by simp [binOp, Op.shift, Int.not_lt.2 hb]⟩)
      | (split at h
         case isFalse => exact h.elim
         rename_i hk; subst hk
         first
           | (simp only [cmpV] at h; done)
           | (simp only [cmpV] at h
              first
                | exact ⟨_, h, fun w => by simp only [binOp]; simp [Op.intCmp]⟩
                | exact h.elim)
           | (obtain ⟨hb, h⟩ := h
              exact ⟨_, h, fun w => by simp [binOp, Op.intDiv, hb]⟩)
           | exact ⟨_, h, fun w => by simp [binOp, Op.intArith, Op.intBits]⟩)
  case string.string a b =>
    cases op <;> simp only at h <;> try exact h.elim
    · obtain ⟨hb, h⟩ := h
      refine ⟨_, h, fun w => ?_⟩
      have : ¬ (((a.size + b.size : Nat) : Int) > IntKind.i64.max) := by
        have : IntKind.i64.max = 9223372036854775807 := by decide
        omega
      simp only [binOp, Op.stringOp, if_neg this, Sem.run_pure]
    all_goals exact ⟨_, h, fun w => by simp [binOp, Op.stringOp, eqS]⟩
  case slice.slice p n c q m d =>
    cases q with
    | some q => simp only at h
    | none =>
      cases op <;> simp only at h <;> try exact h.elim
      · split at h
        · rename_i hu
          obtain ⟨e, he⟩ := sliceT_eq hu
          exact ⟨_, h, fun w => Lib.run_eql_slice_nil w xT e p n c m d he⟩
        · exact h.elim
      · split at h
        · rename_i hu
          obtain ⟨e, he⟩ := sliceT_eq hu
          exact ⟨_, h, fun w => run_neq_slice_nil_any w xT e p n c m d he⟩
        · exact h.elim

end Go.Proofs.Ytkjddlgaldnbnaa
end

/-
  THE CALCULUS, PART 2: the quiet operations ('qV': they leave memory as it is), and that they do what 'qV' says, in whatever memory holds what is known.
-/
section
namespace Go.Proofs.Ytkjddlgaldnbnaa

def szT (P : Program) (t : TypeId) : Nat := match P.info? t with | some i => i.size | none => 0

def aggT? (P : Program) (t : TypeId) : Option Bool :=
  match P.info? t with
  | none => none
  | some _ =>
    match P.underlying t with
    | some (.struct _) => some true
    | some (.array _ _) => some true
    | some _ => some false
    | none => none

def fieldV (P : Program) (sT : TypeId) (f : Nat) : Option (Nat × TypeId × Nat) :=
  match P.underlying sT with
  | some (.struct fs) =>
    match fs[f]? with
    | some fl => match P.info? fl.type with
      | some i => some (fl.offset, fl.type, i.size)
      | none => none
    | none => none
  | _ => none

def elemV (P : Program) (t : TypeId) : Option (TypeId × Nat) :=
  match P.underlying t with
  | some (.slice e) => match P.info? e with
    | some i => some (e, i.size)
    | none => none
  | _ => none

def arrV (P : Program) (t : TypeId) : Option (Nat × TypeId × Nat) :=
  match P.underlying t with
  | some (.array n e) => match P.info? e with
    | some i => some (n, e, i.size)
    | none => none
  | _ => none

theorem aggT?_run {P : Program} {t : TypeId} {b : Bool} (h : aggT? P t = some b) (w : World) :
    (isAgg t).run P w = .ok b w ∧ (sizeOf t).run P w = .ok (szT P t) w := by
  unfold aggT? at h
  split at h
  · cases h
  · rename_i i hi
    refine ⟨?_, by simp [sizeOf, typeInfo, hi, szT]⟩
    split at h <;> cases h <;> simp [isAgg, underlying, *]


theorem fieldV_eq {P : Program} {sT : TypeId} {f off : Nat} {t : TypeId} {sz : Nat} (h : fieldV P sT f = some (off, t, sz)) :
    ∃ fs fl i, P.underlying sT = some (.struct fs) ∧ fs[f]? = some fl ∧ P.info? fl.type = some i ∧ fl.offset = off ∧ fl.type = t ∧ i.size = sz := by
  unfold fieldV at h
  repeat (split at h)
  all_goals try cases h
  exact ⟨_, _, _, by assumption, by assumption, by assumption, rfl, rfl, rfl⟩

theorem elemV_eq {P : Program} {t e : TypeId} {sz : Nat} (h : elemV P t = some (e, sz)) :
    ∃ i, P.underlying t = some (.slice e) ∧ P.info? e = some i ∧ i.size = sz := by
  unfold elemV at h
  repeat (split at h)
  all_goals try cases h
  exact ⟨_, by assumption, by assumption, rfl⟩

theorem arrV_eq {P : Program} {t e : TypeId} {n sz : Nat} (h : arrV P t = some (n, e, sz)) :
    ∃ i, P.underlying t = some (.array n e) ∧ P.info? e = some i ∧ i.size = sz := by
  unfold arrV at h
  repeat (split at h)
  all_goals try cases h
  exact ⟨_, by assumption, by assumption, rfl⟩

/-- a part of a struct's or an array's cells -/
def partV (P : Program) (t : TypeId) (cs : List Value) (off : Nat) (K : Value → Prop) : Prop :=
  match aggT? P t with
  | some true => K (.agg ((cs.drop off).take (szT P t)).toArray)
  | some false => match cs[off]? with
    | some v => K v
    | none => False
  | none => False

theorem partV_run {P : Program} {t : TypeId} {cs : Array Value} {off : Nat} {K : Value → Prop} (h : partV P t cs.toList off K) :
    ∃ v, K v ∧ ∀ w, (part t cs off).run P w = .ok v w := by
  unfold partV at h
  split at h
  · rename_i ha
    refine ⟨_, h, fun w => ?_⟩
    have := aggT?_run ha w
    simp only [part, Sem.run_bind, this.1, Result.andThen, if_true, Sem.run_pure, this.2]
    have e : cs.extract off (off + szT P t) = (List.take (szT P t) (List.drop off cs.toList)).toArray := by
      apply Array.ext'
      simp [Array.toList_extract, List.extract_eq_take_drop]
    rw [e]
  · rename_i ha
    split at h
    · rename_i v hv
      refine ⟨_, h, fun w => ?_⟩
      have := aggT?_run ha w
      simp only [part, Sem.run_bind, this.1, Result.andThen, Bool.false_eq_true, if_false]
      have : cs[off]? = some v := by simpa using hv
      simp [this]
    · exact h.elim
  · exact h.elim

/-- cells in a row, by a view -/
def CellsAt (u : View) (ad : Addr) : Nat → List Value → Prop
  | _, [] => True
  | i, v :: vs => u.cell (ad.add i) = some v ∧ CellsAt u ad (i + 1) vs

theorem CellsAt.load {P : Program} {u : View} {ad : Addr} {w : World} (hs : Sub u w) : ∀ (vs : List Value) (i : Nat) (acc : Array Value), CellsAt u ad i vs →
    (loadCellsFrom ad i vs.length acc).run P w = .ok (acc ++ vs.toArray) w := by
  intro vs
  induction vs with
  | nil => intro i acc _; simp [loadCellsFrom]
  | cons v vs ih =>
    intro i acc h
    simp only [List.length_cons, loadCellsFrom, Sem.run_bind, run_load, hs.cell h.1, Result.andThen]
    rw [ih (i + 1) (acc.push v) h.2]
    simp

theorem Sub.cells {u : View} {w : World} (hs : Sub u w) {ad : Addr} : ∀ {vs : List Value} {i : Nat}, CellsAt u ad i vs → ∀ j v, vs[j]? = some v → w.cell? (ad.add (i + j)) = some v := by
  intro vs
  induction vs with
  | nil => intro i _ j v h; simp at h
  | cons x vs ih =>
    intro i h j v hj
    cases j with
    | zero => simp at hj; subst hj; exact hs.cell h.1
    | succ j =>
      have := ih h.2 j v (by simpa using hj)
      rw [show i + (j + 1) = i + 1 + j from by omega]
      exact this

/-- a closure's captured value -/
def SV.pv? : SV → Option PV
  | .v x => some (.v x)
  | .bl b => some (.v (.bool b))
  | .loc k off => some (.loc k off)
  | _ => none

theorem SV.pv?_tv {x : SV} {p : PV} (L : List LB) (h : x.pv? = some p) : pv L p = tv L x := by
  cases x <;> simp [SV.pv?] at h <;> subst h <;> rfl

def capsV (st : St) : List Operand → Option (List PV)
  | [] => some []
  | x :: r => match (st.ev x).pv?, capsV st r with
    | some p, some ps => some (p :: ps)
    | _, _ => none

theorem capsV_tv {st : St} : ∀ {l : List Operand} {ps : List PV}, capsV st l = some ps → ps.map (pv st.L) = l.map fun x => tv st.L (st.ev x) := by
  intro l
  induction l with
  | nil => intro ps h; simp [capsV] at h; subst h; rfl
  | cons x r ih =>
    intro ps h
    simp only [capsV] at h
    split at h <;> cases h
    rename_i p ps' h1 h2
    simp [ih h2, SV.pv?_tv st.L h1]

/-- values out of operands -/
def valsV (st : St) : List Operand → Option (List Value)
  | [] => some []
  | x :: r => match (st.ev x).val?, valsV st r with
    | some v, some vs => some (v :: vs)
    | _, _ => none

theorem valsV_tv {st : St} : ∀ {l : List Operand} {vs : List Value}, valsV st l = some vs → vs = l.map fun x => tv st.L (st.ev x) := by
  intro l
  induction l with
  | nil => intro vs h; simp [valsV] at h; subst h; rfl
  | cons x r ih =>
    intro vs h
    simp only [valsV] at h
    split at h <;> cases h
    rename_i v vs' h1 h2
    simp [ih h2, SV.val?_tv st.L h1]

/-- a bound of a slice expression -/
def boundV (st : St) : Option Operand → Int → Option Int
  | none, d => some d
  | some x, _ => match st.ev x with
    | .v (.int _ n) => some n
    | _ => none

/-- a read of an own block -/
def loadL (P : Program) (t : TypeId) (cs : List Value) (off : Nat) (K : Value → Prop) : Prop :=
  match aggT? P t with
  | some true => if ((cs.drop off).take (szT P t)).length = szT P t then K (.agg ((cs.drop off).take (szT P t)).toArray) else False
  | some false => match cs[off]? with
    | some v => K v
    | none => False
  | none => False

/-- a typed read of what is known -/
def loadU (P : Program) (t : TypeId) (u : View) (ad : Addr) (K : Value → Prop) : Prop :=
  match aggT? P t with
  | some true => if (leafs P 8 t).length = szT P t then ExL (leafs P 8 t) fun vs => CellsAt u ad 0 vs ∧ K (.agg vs.toArray) else False
  | some false => match leafs P 8 t with
    | [l] => ∃ x : l.T, u.cell ad = some (l.val x) ∧ K (l.val x)
    | _ => False
  | none => False

def buildPlaces (P : Program) : List Field → Option (List (Nat × Nat))
  | [] => some []
  | f :: r => match P.info? f.type, buildPlaces P r with
    | some i, some ps => some ((f.offset, i.size) :: ps)
    | _, _ => none

def zeroOf (P : Program) (t : TypeId) : Option Value := match P.info? t with | some i => i.zero | none => none

/-- a slice of a slice: where it begins -/
def slP (a : Option Addr) (l m s : Nat) : Option Addr := if m = l then a else a.map (·.add (l * s))

/-- values put in their places -/
def fillL (place : Nat → Option (Nat × Nat)) : List Value → List (Nat × Value) → Option (List Value)
  | cs, [] => some cs
  | cs, (i, v) :: r =>
    match place i with
    | none => none
    | some (off, size) =>
      match Nat.beq v.cells.toList.length size, Nat.ble (off + v.cells.toList.length) cs.length with
      | true, true => fillL place (splice cs off v.cells.toList) r
      | _, _ => none

theorem foldl_splice : ∀ (l : List Value) (k off : Nat) (cs : List Value), (l.zipIdx k).foldl (fun (cs : Array Value) (p : Value × Nat) => cs.setIfInBounds (off + p.2) p.1) cs.toArray = (splice cs (off + k) l).toArray := by
  intro l
  induction l with
  | nil => intro k off cs; rfl
  | cons v l ih =>
    intro k off cs
    simp only [List.zipIdx_cons, List.foldl_cons, splice, List.setIfInBounds_toArray]
    rw [ih (k + 1) off (cs.set (off + k) v)]
    rfl

theorem fillL_eq {place : Nat → Option (Nat × Nat)} : ∀ (parts : List (Nat × Value)) (cs cs' : List Value), fillL place cs parts = some cs' → Instr.fill place cs.toArray parts = some cs'.toArray := by
  intro parts
  induction parts with
  | nil => intro cs cs' h; simp only [fillL] at h; cases h; rfl
  | cons p r ih =>
    intro cs cs' h
    obtain ⟨i, v⟩ := p
    simp only [fillL] at h
    split at h
    · cases h
    · rename_i off size hp
      split at h
      · rename_i h1 h2
        have h1 := Nat.eq_of_beq_eq_true h1
        have h2 := Nat.le_of_ble_eq_true h2
        simp only [Array.length_toList] at h1 h2
        have hc : (v.cells.size ≠ size || off + v.cells.size > cs.toArray.size) = false := by
          simp; exact ⟨h1, h2⟩
        simp only [Instr.fill, hp, hc, Bool.false_eq_true, if_false]
        have := foldl_splice v.cells.toList 0 off cs
        rw [← Array.foldl_toList, Array.toList_zipIdx, this]
        exact ih _ _ h
      · cases h

/-- the quiet operations: what they come to -/
def qV (P : Program) (o : Oper) (st : St) (K : SV → Prop) : Prop :=
  match o.op with
  | .move x => K (st.ev x)
  | .assign x => K (st.ev x)
  | .pick c a b =>
    match st.ev c with
    | .bl true => K (st.ev a)
    | .bl false => K (st.ev b)
    | .v (.bool t) =>
      match (st.ev a).val?, (st.ev b).val? with
      | some (.bool x), some (.bool y) => K (.v (.bool (bif t then x else y)))
      | _, _ => False
    | _ => False
  | .nilCheck x =>
    match st.ev x with
    | .loc k off => match st.L[k]? with | some _ => K (.loc k off) | none => False
    | .fn f caps => K (.fn f caps)
    | .v (.pointer (some ad)) => K (.v (.pointer (some ad)))
    | .v (.func (.func f) first caps) => K (.v (.func (.func f) first caps))
    | _ => False
  | .binOp op xT x y _ =>
    match (st.ev x).val?, (st.ev y).val? with
    | some a, some b => binV P xT op a b fun v => K (.v v)
    | _, _ => False
  | .unOp op _ x =>
    match op, st.ev x with
    | .not, .bl b => K (.bl (!b))
    | .not, .v (.bool t) => K (.v (.bool (!t)))
    | .neg, .v (.int k n) => K (.v (.int k (k.wrap (0 - n))))
    | _, _ => False
  | .convert s d x =>
    match P.underlying s, P.underlying d, st.ev x with
    | some (.int _), some (.int k), .v (.int _ n) => K (.v (.int k (k.wrap n)))
    | some .string, some .string, .v (.string b) => K (.v (.string b))
    | _, _, _ => False
  | .fieldAddr sT x f =>
    match fieldV P sT f with
    | some (off, _, sz) =>
      if sz = 0 then False else
      match st.ev x with
      | .loc k o => match st.L[k]? with | some _ => K (.loc k (o + off)) | none => False
      | .v (.pointer (some ad)) => K (.v (.pointer (some (ad.add off))))
      | _ => False
    | none => False
  | .field T x f =>
    match fieldV P T f with
    | some (off, ft, _) =>
      match st.ev x with
      | .v (.agg cs) => partV P ft cs.toList off fun v => K (.v v)
      | _ => False
    | none => False
  | .indexAddr T x i =>
    match (st.ev i).val? with
    | some (.int _ n) =>
      match st.ev x with
      | .v (.slice p len _) =>
        match elemV P T with
        | some (_, sz) => ∃ ad, p = some ad ∧ 0 ≤ n ∧ n < (len : Int) ∧ K (.v (.pointer (some (ad.add (n.toNat * sz)))))
        | none => False
      | .loc k off =>
        match arrV P T with
        | some (len, _, sz) => match st.L[k]? with | some _ => 0 ≤ n ∧ n < (len : Int) ∧ K (.locI k off n len sz) | none => False
        | none => False
      | .v (.pointer (some ad)) =>
        match arrV P T with
        | some (len, _, sz) => 0 ≤ n ∧ n < (len : Int) ∧ K (.v (.pointer (some (ad.add (n.toNat * sz)))))
        | none => False
      | _ => False
    | _ => False
  | .index T x i =>
    match (st.ev i).val? with
    | some (.int _ n) =>
      match st.ev x with
      | .v (.string s) =>
        match P.underlying T with
        | some .string => ∃ b, s[n.toNat]? = some b ∧ 0 ≤ n ∧ K (.v (.int .u8 b.toNat))
        | _ => False
      | .v (.agg cs) =>
        match arrV P T with
        | some (len, e, sz) => 0 ≤ n ∧ n < (len : Int) ∧ partV P e cs.toList (n.toNat * sz) fun v => K (.v v)
        | none => False
      | _ => False
    | _ => False
  | .extract t i =>
    match st.ev t with
    | .v (.tuple vs) => match vs.toList[i]? with
      | some v => K (.v v)
      | none => False
    | _ => False
  | .slice T x lo hi mx =>
    match st.ev x with
    | .v (.string s) =>
      match P.underlying T, mx with
      | some .string, none =>
        match boundV st lo 0, boundV st hi s.size with
        | some l, some h => 0 ≤ l ∧ l ≤ h ∧ h ≤ (s.size : Int) ∧ K (.v (.string (s.extract l.toNat h.toNat)))
        | _, _ => False
      | _, _ => False
    | .v (.slice p len cap) =>
      match elemV P T, mx with
      | some (_, sz), none =>
        match boundV st lo 0, boundV st hi len with
        | some l, some h => 0 ≤ l ∧ l ≤ h ∧ h ≤ (cap : Int) ∧ K (.v (.slice (slP p l.toNat cap sz) (h.toNat - l.toNat) (cap - l.toNat)))
        | _, _ => False
      | _, _ => False
    | _ => False
  | .build T parts =>
    match P.underlying T, zeroOf P T with
    | some (.struct fs), some z =>
      match buildPlaces P fs.toList with
      | some pl =>
        match valsV st (parts.toList.map (·.2)) with
        | some vs =>
          match fillL (pl[·]?) z.cells.toList ((parts.toList.map (·.1)).zip vs) with
          | some cells => K (.v (.agg cells.toArray))
          | none => False
        | none => False
      | none => False
    | _, _ => False
  | .makeFunc fn first caps =>
    match fn, first.toList with
    | .func f, [] =>
      match capsV st caps.toList with
      | some ps => K (.fn f ps)
      | none => False
    | _, _ => False
  | .load T x =>
    match st.ev x with
    | .loc k off =>
      match st.L[k]? with
      | some lb => loadL P T lb.cs off fun v => K (.v v)
      | none => False
    | .locI k off i _ sz =>
      match st.L[k]?, aggT? P T, leafs P 8 T with
      | some lb, some false, [l] => ∃ x : l.T, lb.cs[off + i.toNat * sz]? = some (l.val x) ∧ K (.v (l.val x))
      | _, _, _ => False
    | .v (.pointer (some ad)) => loadU P T st.u ad fun v => K (.v v)
    | _ => False
  | .call c =>
    match c.callee, c.args.toList with
    | .builtin .len, [x] =>
      match c.argTypes[0]? with
      | some t =>
        match P.underlying t, st.ev x with
        | some .string, .v (.string s) => K (.v (.int .i64 s.size))
        | some (.slice _), .v (.slice _ n _) => K (.v (.int .i64 n))
        | _, _ => False
      | none => False
    | .builtin .cap, [x] =>
      match c.argTypes[0]? with
      | some t =>
        match P.underlying t, st.ev x with
        | some (.slice _), .v (.slice _ _ n) => K (.v (.int .i64 n))
        | _, _ => False
      | none => False
    | .builtin .min, [x, y] =>
      match st.ev x, st.ev y with
      | .v (.int k a), .v (.int _ b) => K (.v (.int k (if b < a then b else a)))
      | _, _ => False
    | .builtin .max, [x, y] =>
      match st.ev x, st.ev y with
      | .v (.int k a), .v (.int _ b) => K (.v (.int k (if b > a then b else a)))
      | _, _ => False
    | _, _ => False
  | _ => False

end Go.Proofs.Ytkjddlgaldnbnaa
end

/-
  THE CALCULUS, PART 3: what 'qV' says is what the quiet operations do.
-/
section
set_option linter.unusedSimpArgs false
namespace Go.Proofs.Ytkjddlgaldnbnaa

/-- does a quiet operation read an own block; what is known? -/
def usesL (o : Oper) (st : St) : Bool :=
  match o.op with
  | .load _ x => match st.ev x with
    | .loc _ _ => true
    | .locI _ _ _ _ _ => true
    | _ => false
  | _ => false
def usesU (o : Oper) (st : St) : Bool :=
  match o.op with
  | .load _ x => match st.ev x with
    | .loc _ _ => false
    | .locI _ _ _ _ _ => false
    | _ => true
  | _ => false

/-- what a quiet operation does, in whatever memory holds what is known -/
def QRun (P : Program) (o : Oper) (st : St) (y : SV) : Prop :=
  ∀ (ρ : Operand → Value) (w : World), (∀ x ∈ o.op.operands, ρ x = tv st.L (st.ev x)) → (usesU o st = true → Sub st.u w) → (usesL o st = true → LocOK st.L w) →
    (execOp ρ o).run P w = .ok (.value (tv st.L y)) w

theorem loc_pointer {L : List LB} {k off : Nat} {lb : LB} (h : L[k]? = some lb) : locAddr L k off = .pointer (some ⟨lb.b, off, none⟩) := by
  simp [locAddr, h]

theorem addr_add (b o n : Nat) : (⟨b, o, none⟩ : Addr).add n = ⟨b, o + n, none⟩ := by
  unfold Addr.add; split <;> simp_all

section
variable {P : Program} {st : St} {dst : Option Tmp} {type : TypeId} {pos : String} {after : Array Edge} {guard : Option (Nat × Bool)}

theorem q_load_loc {T : TypeId} {x : Operand} {k off : Nat} {lb : LB} {K : Value → Prop} (hx : st.ev x = .loc k off) (hl : st.L[k]? = some lb)
    (h : loadL P T lb.cs off K) : ∃ v, K v ∧ QRun P ⟨dst, .load T x, type, pos, after, guard⟩ st (.v v) := by
  have hb : ∀ w, LocOK st.L w → ∀ j v, lb.cs[off + j]? = some v → w.cell? ⟨lb.b, off + j, none⟩ = some v := fun w hw j v hj => by
    simp [World.cell?, hw k lb hl, hj]
  unfold loadL at h
  split at h
  · rename_i ha
    split at h
    · rename_i hlen
      refine ⟨_, h, fun ρ w hρ hs hw => ?_⟩
      replace hw := hw (by simp [usesL, hx])
      have := aggT?_run ha w
      have hρx : ρ x = .pointer (some ⟨lb.b, off, none⟩) := by rw [hρ x (by simp [Op.operands]), hx]; exact loc_pointer hl
      have hc : ∀ (vs : List Value) (i : Nat) (acc : Array Value), (∀ j v, vs[j]? = some v → w.cell? (Addr.add ⟨lb.b, off, none⟩ (i + j)) = some v) →
          (loadCellsFrom ⟨lb.b, off, none⟩ i vs.length acc).run P w = .ok (acc ++ vs.toArray) w := by
        intro vs
        induction vs with
        | nil => intro i acc _; simp [loadCellsFrom]
        | cons v vs ih =>
          intro i acc h
          have h0 := h 0 v rfl
          simp only [Nat.add_zero] at h0
          simp only [List.length_cons, loadCellsFrom, Sem.run_bind, run_load, h0, Result.andThen]
          rw [ih (i + 1) (acc.push v) (fun j v hj => by have := h (j + 1) v (by simpa using hj); rw [show i + 1 + j = i + (j + 1) from by omega]; exact this)]
          simp
      have h2 := hc ((lb.cs.drop off).take (szT P T)) 0 #[] (fun j v hj => by
        rw [addr_add]
        refine hb w hw (0 + j) v ?_
        rw [List.getElem?_take] at hj
        split at hj
        · simpa using hj
        · cases hj)
      rw [hlen] at h2
      simp [execOp, Instr.loadAt, Instr.sureAddr, hρx, loadVar, this.1, this.2, Result.andThen, loadCells, h2, tv]
    · exact h.elim
  · rename_i ha
    split at h
    · rename_i v hv
      refine ⟨_, h, fun ρ w hρ hs hw => ?_⟩
      replace hw := hw (by simp [usesL, hx])
      have := aggT?_run ha w
      have hρx : ρ x = .pointer (some ⟨lb.b, off, none⟩) := by rw [hρ x (by simp [Op.operands]), hx]; exact loc_pointer hl
      have := hb w hw 0 v (by simpa using hv)
      simp only [Nat.add_zero] at this
      simp [execOp, Instr.loadAt, Instr.sureAddr, hρx, loadVar, (aggT?_run ha w).1, Result.andThen, this, tv]
    · exact h.elim
  · exact h.elim

theorem q_load_u {T : TypeId} {x : Operand} {ad : Addr} {K : Value → Prop} (hx : st.ev x = .v (.pointer (some ad)))
    (h : loadU P T st.u ad K) : ∃ v, K v ∧ QRun P ⟨dst, .load T x, type, pos, after, guard⟩ st (.v v) := by
  unfold loadU at h
  split at h
  · rename_i ha
    split at h
    · rename_i hlen
      obtain ⟨vs, hvl, hc, hk⟩ := ExL.ex h
      refine ⟨_, hk, fun ρ w hρ hs hw => ?_⟩
      replace hs := hs (by simp [usesU, hx])
      have := aggT?_run ha w
      have hρx : ρ x = .pointer (some ad) := by rw [hρ x (by simp [Op.operands]), hx]; rfl
      have h2 := CellsAt.load (P := P) hs vs 0 #[] hc
      rw [hvl, hlen] at h2
      simp [execOp, Instr.loadAt, Instr.sureAddr, hρx, loadVar, this.1, this.2, Result.andThen, loadCells, h2, tv]
    · exact h.elim
  · rename_i ha
    split at h
    · obtain ⟨y, hc, hk⟩ := h
      refine ⟨_, hk, fun ρ w hρ hs hw => ?_⟩
      replace hs := hs (by simp [usesU, hx])
      have hρx : ρ x = .pointer (some ad) := by rw [hρ x (by simp [Op.operands]), hx]; rfl
      simp [execOp, Instr.loadAt, Instr.sureAddr, hρx, loadVar, (aggT?_run ha w).1, Result.andThen, hs.cell hc, tv]
    · exact h.elim
  · exact h.elim

theorem boundV_eq {lo : Option Operand} {d l : Int} (h : boundV st lo d = some l) :
    (lo = none ∧ l = d) ∨ ∃ x k, lo = some x ∧ st.ev x = .v (.int k l) := by
  unfold boundV at h
  split at h
  · cases h; exact .inl ⟨rfl, rfl⟩
  · rename_i x
    split at h
    · rename_i k n hx; cases h; exact .inr ⟨x, k, rfl, hx⟩
    · cases h

theorem sliceBounds_run {ρ : Operand → Value} {isSlice : Bool} {len cap : Nat} {lo hi : Option Operand} {l h : Int} (hl : boundV st lo 0 = some l) (hh : boundV st hi len = some h)
    (hρl : ∀ x, lo = some x → ρ x = tv st.L (st.ev x)) (hρh : ∀ x, hi = some x → ρ x = tv st.L (st.ev x)) (h0 : 0 ≤ l) (h1 : l ≤ h) (h2 : h ≤ (cap : Int)) (w : World) :
    (Instr.sliceBounds isSlice len cap (lo.map ρ) (hi.map ρ) none).run P w = .ok (l.toNat, h.toNat, cap) w := by
  have eh : ((h.toNat : Nat) : Int) = h := Int.toNat_of_nonneg (by omega)
  rcases boundV_eq hl with ⟨rfl, rfl⟩ | ⟨x, k, rfl, hx⟩ <;> rcases boundV_eq hh with ⟨rfl, rfl⟩ | ⟨y, k', rfl, hy⟩
  · simp [Instr.sliceBounds]
  · have := hρh y rfl
    rw [hy] at this
    simp [Instr.sliceBounds, this, tv, run_sliceBound _ k' h cap _ (by omega) h2, Result.andThen]
  · have := hρl x rfl
    rw [hx] at this
    simp [Instr.sliceBounds, this, tv, run_sliceBound _ k l len _ h0 h1, Result.andThen]
  · have e1 := hρl x rfl
    have e2 := hρh y rfl
    rw [hx] at e1
    rw [hy] at e2
    simp [Instr.sliceBounds, e1, e2, tv, run_sliceBound _ k' h cap _ (by omega) h2, run_sliceBound _ k l h.toNat _ h0 (by omega), Result.andThen]


theorem buildPlaces_run {P : Program} (w : World) : ∀ (fs : List Field) (ps : List (Nat × Nat)), buildPlaces P fs = some ps →
    (fs.mapM fun f => (do pure (f.offset, ← sizeOf f.type) : Sem (Nat × Nat))).run P w = .ok ps w := by
  intro fs
  induction fs with
  | nil => intro ps h; simp [buildPlaces] at h; subst h; simp
  | cons f r ih =>
    intro ps h
    simp only [buildPlaces] at h
    split at h <;> cases h
    rename_i i ps' h1 h2
    have hsz : (sizeOf f.type).run P w = .ok i.size w := by simp [sizeOf, typeInfo, h1]
    rw [List.mapM_cons]
    simp only [Sem.run_bind, hsz, ih ps' h2, Result.andThen, Sem.run_pure]

theorem qV_run {P : Program} {o : Oper} {st : St} {K : SV → Prop} (h : qV P o st K) : ∃ y, K y ∧ QRun P o st y := by
  obtain ⟨dst, op, type, pos, after, guard⟩ := o
  cases op <;> simp only [qV] at h <;> try exact h.elim
  case move x => exact ⟨_, h, fun ρ w hρ hs hw => by simp [execOp, hρ x (by simp [Op.operands])]⟩
  case assign x => exact ⟨_, h, fun ρ w hρ hs hw => by simp [execOp, hρ x (by simp [Op.operands])]⟩
  case pick c a b =>
    split at h
    · rename_i hc
      exact ⟨_, h, fun ρ w hρ hs hw => by
        have e := hρ c (by simp [Op.operands])
        rw [hc] at e
        simp [execOp, e, tv, asBool, Result.andThen, hρ a (by simp [Op.operands])]⟩
    · rename_i hc
      exact ⟨_, h, fun ρ w hρ hs hw => by
        have e := hρ c (by simp [Op.operands])
        rw [hc] at e
        simp [execOp, e, tv, asBool, Result.andThen, hρ b (by simp [Op.operands])]⟩
    · rename_i t hc
      split at h
      · rename_i x y ha hb
        refine ⟨_, h, fun ρ w hρ hs hw => ?_⟩
        have e := hρ c (by simp [Op.operands])
        have ea := hρ a (by simp [Op.operands])
        have eb := hρ b (by simp [Op.operands])
        rw [hc] at e
        rw [SV.val?_tv st.L ha] at ea
        rw [SV.val?_tv st.L hb] at eb
        cases t <;> simp [execOp, e, tv, asBool, Result.andThen, ea, eb]
      · exact h.elim
    · exact h.elim
  case nilCheck x =>
    split at h <;> try exact h.elim
    case h_1 k off hx =>
      split at h
      · rename_i lb hl
        refine ⟨_, h, fun ρ w hρ hs hw => ?_⟩
        have e := hρ x (by simp [Op.operands])
        rw [hx] at e
        simp [execOp, e, tv, locAddr, hl]
      · exact h.elim
    all_goals
      rename_i hx
      refine ⟨_, h, fun ρ w hρ hs hw => ?_⟩
      have e := hρ x (by simp [Op.operands])
      rw [hx] at e
      simp [execOp, e, tv]
  case binOp op xT x y yT =>
    split at h
    · rename_i a b ha hb
      obtain ⟨v, hk, hr⟩ := binV_run h
      refine ⟨_, hk, fun ρ w hρ hs hw => ?_⟩
      have ea := hρ x (by simp [Op.operands])
      have eb := hρ y (by simp [Op.operands])
      rw [SV.val?_tv st.L ha] at ea
      rw [SV.val?_tv st.L hb] at eb
      have hg : (eqGuard op xT x y a b).run P w = .ok () w := by
        unfold eqGuard
        cases op <;> cases a <;> cases b <;> simp only [binV] at h <;> first | exact h.elim | rfl
      simp [execOp, ea, eb, hg, hr, Result.andThen, tv]
    · exact h.elim
  case unOp op xT x =>
    split at h <;> try exact h.elim
    all_goals
      rename_i hx
      refine ⟨_, h, fun ρ w hρ hs hw => ?_⟩
      have e := hρ x (by simp [Op.operands])
      rw [hx] at e
      simp [execOp, e, tv, Op.unary, Op.intArith, Result.andThen]
  case convert s d x =>
    split at h <;> try exact h.elim
    all_goals
      rename_i h1 h2 hx
      refine ⟨_, h, fun ρ w hρ hs hw => ?_⟩
      have e := hρ x (by simp [Op.operands])
      rw [hx] at e
      simp [execOp, e, tv, convert, underlying, h1, h2, Conv.intToInt, Result.andThen]
  case fieldAddr sT x f =>
    split at h
    · rename_i off ft sz hf
      obtain ⟨fs, fl, i, h1, h2, h3, rfl, rfl, rfl⟩ := fieldV_eq hf
      split at h
      · exact h.elim
      · rename_i hz
        split at h
        · rename_i k o hx
          split at h
          · rename_i lb hl
            refine ⟨_, h, fun ρ w hρ hs hw => ?_⟩
            have e := hρ x (by simp [Op.operands])
            rw [hx] at e
            simp [execOp, e, tv, loc_pointer hl, Instr.fieldAt, underlying, h1, h2, Instr.sureAddr, fieldPlace, sizeOf, typeInfo, h3, hz, Result.andThen, addr_add]
          · exact h.elim
        · rename_i ad hx
          refine ⟨_, h, fun ρ w hρ hs hw => ?_⟩
          have e := hρ x (by simp [Op.operands])
          rw [hx] at e
          simp [execOp, e, tv, Instr.fieldAt, underlying, h1, h2, Instr.sureAddr, fieldPlace, sizeOf, typeInfo, h3, hz, Result.andThen]
        · exact h.elim
    · exact h.elim
  case field T x f =>
    split at h
    · rename_i off ft sz hf
      obtain ⟨fs, fl, i, h1, h2, h3, rfl, rfl, rfl⟩ := fieldV_eq hf
      split at h
      · rename_i cs hx
        obtain ⟨v, hk, hr⟩ := partV_run h
        refine ⟨_, hk, fun ρ w hρ hs hw => ?_⟩
        have e := hρ x (by simp [Op.operands])
        rw [hx] at e
        simp [execOp, e, tv, Instr.field, underlying, h1, h2, asAgg, hr, Result.andThen]
      · exact h.elim
    · exact h.elim
  case indexAddr T x i =>
    split at h
    · rename_i k n hn
      split at h
      · rename_i p len cp hx
        split at h
        · rename_i e sz he
          obtain ⟨j, h1, h2, rfl⟩ := elemV_eq he
          obtain ⟨ad, rfl, h0, hlt, hk⟩ := h
          refine ⟨_, hk, fun ρ w hρ hs hw => ?_⟩
          have e1 := hρ x (by simp [Op.operands])
          have e2 := hρ i (by simp [Op.operands])
          rw [hx] at e1
          rw [SV.val?_tv st.L hn] at e2
          simp [execOp, e1, e2, tv, Instr.indexAt, asIntOf, underlying, h1, sizeOf, typeInfo, h2, h0, hlt, Result.andThen]
        · exact h.elim
      · rename_i l off hx
        split at h
        · rename_i len e sz he
          obtain ⟨j, h1, h2, rfl⟩ := arrV_eq he
          split at h
          · rename_i lb hl
            obtain ⟨h0, hlt, hk⟩ := h
            refine ⟨_, hk, fun ρ w hρ hs hw => ?_⟩
            have e1 := hρ x (by simp [Op.operands])
            have e2 := hρ i (by simp [Op.operands])
            rw [hx] at e1
            rw [SV.val?_tv st.L hn] at e2
            simp [execOp, e1, e2, tv, loc_pointer hl, Instr.indexAt, Instr.sureAddr, asIntOf, underlying, h1, sizeOf, typeInfo, h2, h0, hlt, Result.andThen, addr_add]
          · exact h.elim
        · exact h.elim
      · rename_i ad hx
        split at h
        · rename_i len e sz he
          obtain ⟨j, h1, h2, rfl⟩ := arrV_eq he
          obtain ⟨h0, hlt, hk⟩ := h
          refine ⟨_, hk, fun ρ w hρ hs hw => ?_⟩
          have e1 := hρ x (by simp [Op.operands])
          have e2 := hρ i (by simp [Op.operands])
          rw [hx] at e1
          rw [SV.val?_tv st.L hn] at e2
          simp [execOp, e1, e2, tv, Instr.indexAt, Instr.sureAddr, asIntOf, underlying, h1, sizeOf, typeInfo, h2, h0, hlt, Result.andThen]
        · exact h.elim
      · exact h.elim
    · exact h.elim
  case index T x i =>
    split at h
    · rename_i k n hn
      split at h
      · rename_i s hx
        split at h
        · rename_i hu
          obtain ⟨b, hb, h0, hk⟩ := h
          refine ⟨_, hk, fun ρ w hρ hs hw => ?_⟩
          have e1 := hρ x (by simp [Op.operands])
          have e2 := hρ i (by simp [Op.operands])
          rw [hx] at e1
          rw [SV.val?_tv st.L hn] at e2
          simp [execOp, e1, e2, tv, Instr.index, asIntOf, underlying, hu, h0, hb, Result.andThen]
        · exact h.elim
      · rename_i cs hx
        split at h
        · rename_i len e sz he
          obtain ⟨j, h1, h2, rfl⟩ := arrV_eq he
          obtain ⟨h0, hlt, hk⟩ := h
          obtain ⟨v, hk, hr⟩ := partV_run hk
          refine ⟨_, hk, fun ρ w hρ hs hw => ?_⟩
          have e1 := hρ x (by simp [Op.operands])
          have e2 := hρ i (by simp [Op.operands])
          rw [hx] at e1
          rw [SV.val?_tv st.L hn] at e2
          simp [execOp, e1, e2, tv, Instr.index, asIntOf, underlying, h1, sizeOf, typeInfo, h2, h0, hlt, hr, Result.andThen]
        · exact h.elim
      · exact h.elim
    · exact h.elim
  case extract t i =>
    split at h
    · rename_i vs hx
      split at h
      · rename_i v hv
        refine ⟨_, h, fun ρ w hρ hs hw => ?_⟩
        have e := hρ t (by simp [Op.operands])
        rw [hx] at e
        have hv' : vs[i]? = some v := by simpa using hv
        simp [execOp, e, tv, Instr.extract, hv', Result.andThen]
      · exact h.elim
    · exact h.elim
  case slice T x lo hi mx =>
    split at h
    · rename_i s hx
      split at h
      · rename_i hu
        split at h
        · rename_i l u hl hh
          obtain ⟨h0, h1, h2, hk⟩ := h
          refine ⟨_, hk, fun ρ w hρ hs hw => ?_⟩
          have e := hρ x (by simp [Op.operands])
          rw [hx] at e
          have hb := sliceBounds_run (P := P) (isSlice := false) (cap := s.size) hl hh (fun y hy => hρ y (by simp [Op.operands, hy])) (fun y hy => hρ y (by simp [Op.operands, hy])) h0 h1 h2 w
          simp [execOp, e, tv, Instr.sliceAt, Instr.slice, underlying, hu, hb, Result.andThen]
        · exact h.elim
      · exact h.elim
    · rename_i p len cap hx
      split at h
      · rename_i e sz he
        obtain ⟨j, h1, h2, rfl⟩ := elemV_eq he
        split at h
        · rename_i l u hl hh
          obtain ⟨h0, hlh, hc, hk⟩ := h
          refine ⟨_, hk, fun ρ w hρ hs hw => ?_⟩
          have e := hρ x (by simp [Op.operands])
          rw [hx] at e
          have hb := sliceBounds_run (P := P) (isSlice := true) (cap := cap) hl hh (fun y hy => hρ y (by simp [Op.operands, hy])) (fun y hy => hρ y (by simp [Op.operands, hy])) h0 hlh hc w
          simp [execOp, e, tv, Instr.sliceAt, Instr.slice, underlying, h1, hb, sizeOf, typeInfo, h2, Result.andThen, slP]
        · exact h.elim
      · exact h.elim
    · exact h.elim
  case build T parts =>
    split at h
    · rename_i fs z hu hz
      split at h
      · rename_i pl hpl
        split at h
        · rename_i vs hvs
          split at h
          · rename_i cells hf
            have hf := fillL_eq _ _ _ hf
            rw [Array.toArray_toList] at hf
            refine ⟨_, h, fun ρ w hρ hs hw => ?_⟩
            have hz' : (zeroValue T).run P w = .ok z w := by
              unfold zeroOf at hz
              split at hz
              · rename_i i hi; simp [zeroValue, typeInfo, hi, hz]
              · cases hz
            have hm : (fs.mapM fun f => (do pure (f.offset, ← sizeOf f.type) : Sem (Nat × Nat))).run P w = .ok pl.toArray w := by
              rw [Array.mapM_eq_mapM_toList]
              simp only [Sem.run_map, buildPlaces_run w fs.toList pl hpl, Result.andThen]
            have hp : (parts.map fun (i, x) => (i, ρ x)).toList = (parts.toList.map (·.1)).zip vs := by
              rw [valsV_tv hvs, Array.toList_map]
              have : ∀ l : List (Nat × Operand), (∀ p ∈ l, ρ p.2 = tv st.L (st.ev p.2)) →
                  l.map (fun p => (p.1, ρ p.2)) = (l.map (·.1)).zip ((l.map (·.2)).map fun x => tv st.L (st.ev x)) := by
                intro l
                induction l with
                | nil => intro _; rfl
                | cons p r ih => intro hl; simp [ih (fun q hq => hl q (List.mem_cons_of_mem _ hq)), hl p (List.mem_cons_self ..)]
              exact this parts.toList fun p hp => hρ p.2 (by simp only [Op.operands]; exact List.mem_toArray.2 (List.mem_map_of_mem hp))
            have hpl' : (fun (i : Nat) => pl.toArray[i]?) = (fun (i : Nat) => pl[i]?) := by funext i; simp
            simp only [execOp, Instr.build, Sem.run_bind, hz', Result.andThen, underlying, run_program, hu, Sem.run_pure, hm, hp, hpl', hf, tv]
          · exact h.elim
        · exact h.elim
      · exact h.elim
    · exact h.elim
  case makeFunc fn first caps =>
    split at h
    · rename_i f hfirst
      split at h
      · rename_i ps hps
        refine ⟨_, h, fun ρ w hρ hs hw => ?_⟩
        have e := capsV_tv hps
        have hc : caps.map ρ = (ps.map (pv st.L)).toArray := by
          apply Array.ext'
          rw [e, Array.toList_map]
          exact List.map_congr_left fun x hx => hρ x (by simp only [Op.operands, Array.mem_append]; exact .inr (Array.mem_toList_iff.1 hx))
        have hf0 : first = #[] := by simpa using hfirst
        subst hf0
        simp [execOp, Instr.makeFunc, hc, Result.andThen, tv]
      · exact h.elim
    · exact h.elim
  case load T x =>
    split at h
    · rename_i k off hx
      split at h
      · rename_i lb hl
        obtain ⟨v, hk, hr⟩ := q_load_loc (dst := dst) (type := type) (pos := pos) (after := after) (guard := guard) hx hl h
        exact ⟨_, hk, hr⟩
      · exact h.elim
    · rename_i k off i n sz hx
      split at h
      · rename_i lb l hl ha hlf
        obtain ⟨y, hy, hk⟩ := h
        refine ⟨_, hk, fun ρ w hρ hs hw => ?_⟩
        replace hw := hw (by simp [usesL, hx])
        have e := hρ x (by simp [Op.operands])
        rw [hx] at e
        have hc : w.cell? ⟨lb.b, off + i.toNat * sz, none⟩ = some (l.val y) := by simp [World.cell?, hw k lb hl, hy]
        simp [execOp, Instr.loadAt, e, tv, loc_pointer hl, Instr.sureAddr, loadVar, (aggT?_run ha w).1, Result.andThen, hc]
      · exact h.elim
    · rename_i ad hx
      obtain ⟨v, hk, hr⟩ := q_load_u (dst := dst) (type := type) (pos := pos) (after := after) (guard := guard) hx h
      exact ⟨_, hk, hr⟩
    · exact h.elim
  case call c =>
    obtain ⟨callee, cargs, cts⟩ := c
    simp only at h
    have harg : ∀ (l : List Operand), cargs.toList = l → cargs = l.toArray := fun l hl => by rw [← hl]
    split at h
    · rename_i x hx
      have hx := harg _ hx
      subst hx
      split at h
      · rename_i t ht
        split at h
        · rename_i s hu he
          refine ⟨_, h, fun ρ w hρ hs hw => ?_⟩
          have e := hρ x (by simp [Op.operands, Call.operands])
          rw [he] at e
          simp [execOp, resolve, invoke, builtin, Builtin.len_, ht, e, tv, underlying, hu, goInt, Result.andThen]
        · rename_i p n cp hu he
          refine ⟨_, h, fun ρ w hρ hs hw => ?_⟩
          have e := hρ x (by simp [Op.operands, Call.operands])
          rw [he] at e
          simp [execOp, resolve, invoke, builtin, Builtin.len_, ht, e, tv, underlying, hu, goInt, Result.andThen]
        · exact h.elim
      · exact h.elim
    · rename_i x hx
      have hx := harg _ hx
      subst hx
      split at h
      · rename_i t ht
        split at h
        · rename_i p n cp hu he
          refine ⟨_, h, fun ρ w hρ hs hw => ?_⟩
          have e := hρ x (by simp [Op.operands, Call.operands])
          rw [he] at e
          simp [execOp, resolve, invoke, builtin, Builtin.cap_, ht, e, tv, underlying, hu, goInt, Result.andThen]
        · exact h.elim
      · exact h.elim
    · rename_i x y hx
      have hx := harg _ hx
      subst hx
      split at h
      · rename_i k a k' b ha hb
        refine ⟨_, h, fun ρ w hρ hs hw => ?_⟩
        have e1 := hρ x (by simp [Op.operands, Call.operands])
        have e2 := hρ y (by simp [Op.operands, Call.operands])
        rw [ha] at e1
        rw [hb] at e2
        simp [execOp, resolve, invoke, builtin, e1, e2, tv, run_min_int2, Result.andThen]
      · exact h.elim
    · rename_i x y hx
      have hx := harg _ hx
      subst hx
      split at h
      · rename_i k a k' b ha hb
        refine ⟨_, h, fun ρ w hρ hs hw => ?_⟩
        have e1 := hρ x (by simp [Op.operands, Call.operands])
        have e2 := hρ y (by simp [Op.operands, Call.operands])
        rw [ha] at e1
        rw [hb] at e2
        simp [execOp, resolve, invoke, builtin, e1, e2, tv, run_max_int2, Result.andThen]
      · exact h.elim
    · exact h.elim
end
end Go.Proofs.Ytkjddlgaldnbnaa
end

/-
  THE CALCULUS, PART 4: what holds between what is known and memory during a call ('WOK'), and how it changes with memory.
-/
section
namespace Go.Proofs.Ytkjddlgaldnbnaa

structure WOK (u0 : View) (w0 : World) (L : List LB) (u : View) (w : World) : Prop where
  sub : Sub u w
  loc : LocOK L w
  unk : ∀ (k : Nat) (lb : LB), L[k]? = some lb → u.m lb.b = none
  dist : ∀ (j k : Nat) (x y : LB), L[j]? = some x → L[k]? = some y → x.b = y.b → j = k
  grow : Ge w0 w
  frame : ∀ b, b < w0.heap.size → u0.m b = none → w.heap[b]? = w0.heap[b]?
  dom : ∀ b o, u.m b = some o → u0.m b ≠ none ∨ w0.heap.size ≤ b
  domL : ∀ (k : Nat) (lb : LB), L[k]? = some lb → u0.m lb.b ≠ none ∨ w0.heap.size ≤ lb.b

def okPV (n : Nat) : PV → Prop
  | .v _ => True
  | .loc k _ => k < n

def okSV (n : Nat) : SV → Prop
  | .v _ => True
  | .bl _ => True
  | .loc k _ => k < n
  | .locI k _ _ _ _ => k < n
  | .fn _ caps => ∀ p ∈ caps, okPV n p

/-- the own blocks stay the own blocks, further ones may come -/
def LExt (L L' : List LB) : Prop := ∀ (k : Nat) (lb : LB), L[k]? = some lb → ∃ lb', L'[k]? = some lb' ∧ lb'.b = lb.b ∧ lb'.T = lb.T ∧ lb'.ls = lb.ls

theorem LExt.refl (L : List LB) : LExt L L := fun _ lb h => ⟨lb, h, rfl, rfl, rfl⟩
theorem LExt.trans {L M N : List LB} (h : LExt L M) (g : LExt M N) : LExt L N := fun k lb hk =>
  let ⟨x, hx, e1, e2, e3⟩ := h k lb hk
  let ⟨y, hy, f1, f2, f3⟩ := g k x hx
  ⟨y, hy, f1.trans e1, f2.trans e2, f3.trans e3⟩
theorem LExt.push (L : List LB) (x : List LB) : LExt L (L ++ x) := fun k lb h => ⟨lb, by
  rw [List.getElem?_append_left (by
    rcases Nat.lt_or_ge k L.length with h' | h'
    · exact h'
    · rw [List.getElem?_eq_none h'] at h; cases h)]
  exact h, rfl, rfl, rfl⟩
theorem LExt.set (L : List LB) (k : Nat) (x y : LB) (hx : L[k]? = some x) (e : y.b = x.b) (eT : y.T = x.T) (el : y.ls = x.ls) : LExt L (L.set k y) := fun j lb h => by
  by_cases hj : k = j
  · subst hj
    have hlt : k < L.length := by
      rcases Nat.lt_or_ge k L.length with h' | h'
      · exact h'
      · rw [List.getElem?_eq_none h'] at h; cases h
    rw [h] at hx
    cases hx
    exact ⟨y, by simp [hlt], e, eT, el⟩
  · exact ⟨lb, by rw [List.getElem?_set_ne hj]; exact h, rfl, rfl, rfl⟩
theorem LExt.length {L L' : List LB} (h : LExt L L') : L.length ≤ L'.length := by
  rcases Nat.lt_or_ge L'.length L.length with hlt | hge
  · obtain ⟨x, hx, _⟩ := h L'.length L[L'.length] (List.getElem?_eq_getElem hlt)
    rw [List.getElem?_eq_none (Nat.le_refl _)] at hx
    cases hx
  · exact hge

theorem locAddr_ext {L L' : List LB} (h : LExt L L') {k off : Nat} (hk : k < L.length) : locAddr L' k off = locAddr L k off := by
  have := List.getElem?_eq_getElem hk
  obtain ⟨x, hx, e, _⟩ := h k L[k] this
  simp only [locAddr, hx, this, e]

theorem pv_ext {L L' : List LB} (h : LExt L L') {p : PV} (hp : okPV L.length p) : pv L' p = pv L p := by
  cases p with
  | v x => rfl
  | loc k off => exact locAddr_ext h hp

theorem tv_ext {L L' : List LB} (h : LExt L L') {x : SV} (hx : okSV L.length x) : tv L' x = tv L x := by
  cases x with
  | v x => rfl
  | bl b => rfl
  | loc k off => exact locAddr_ext h hx
  | locI k off i n sz => exact locAddr_ext h hx
  | fn f caps =>
    simp only [tv]
    rw [List.map_congr_left fun p hp => pv_ext h (hx p hp)]

theorem okSV.ext {n m : Nat} (h : n ≤ m) {x : SV} (hx : okSV n x) : okSV m x := by
  cases x with
  | v x => trivial
  | bl b => trivial
  | loc k off => exact Nat.lt_of_lt_of_le hx h
  | locI k off i n sz => exact Nat.lt_of_lt_of_le hx h
  | fn f caps =>
    intro p hp
    have := hx p hp
    cases p with
    | v x => trivial
    | loc k off => exact Nat.lt_of_lt_of_le this h

/-- the frame of a call, and the symbolic one -/
structure FR (N : Nat) (L : List LB) (ρ : Nat → SV) (a : Act) : Prop where
  size : a.tmps.size = N
  nodef : a.defers = []
  val : ∀ t, a.tmps.getD t undef = tv L (ρ t)
  ok : ∀ t, okSV L.length (ρ t)

theorem FR.eval {N : Nat} {st : St} {a : Act} (h : FR N st.L st.ρ a) (x : Operand) : a.eval x = tv st.L (st.ev x) := by
  cases x with
  | tmp t => exact h.val t
  | const v => exact (tv_cst st.L v).symm
  | global g => rfl
  | func f => simp [Act.eval, St.ev, tv]

theorem FR.okev {N : Nat} {st : St} {a : Act} (h : FR N st.L st.ρ a) (x : Operand) : okSV st.L.length (st.ev x) := by
  cases x with
  | tmp t => exact h.ok t
  | const v => cases v <;> trivial
  | global g => trivial
  | func f => exact fun p hp => by cases hp

theorem FR.put {N : Nat} {L L' : List LB} {ρ : Nat → SV} {a : Act} (h : FR N L ρ a) (hL : LExt L L') {d : Option Tmp} (hd : ∀ t, d = some t → t < N) {y : SV} (hy : okSV L'.length y)
    (u : View) : FR N L' (St.put ⟨ρ, L', u⟩ d y).ρ (a.put d (tv L' y)) := by
  cases d with
  | none => exact ⟨h.size, h.nodef, fun t => (h.val t).trans (tv_ext hL (h.ok t)).symm, fun t => (h.ok t).ext hL.length⟩
  | some t =>
    refine ⟨by simp [Act.put, h.size], h.nodef, fun s => ?_, fun s => ?_⟩
    · simp only [St.put, Act.put]
      by_cases hs : s = t
      · subst hs
        rw [upd_self]
        have : s < a.tmps.size := by rw [h.size]; exact hd s rfl
        simp [this]
      · rw [upd_ne _ _ hs, tv_ext hL (h.ok s), ← h.val s]
        simp [Array.getElem?_setIfInBounds_ne (Ne.symm hs)]
    · simp only [St.put]
      by_cases hs : s = t
      · subst hs; rw [upd_self]; exact hy
      · rw [upd_ne _ _ hs]; exact (h.ok s).ext hL.length

section
variable {u0 : View} {w0 : World} {L : List LB} {u : View} {w : World}

theorem WOK.evo (h : WOK u0 w0 L u w) {w' : World} (e : WEvo w w') : WOK u0 w0 L u w' where
  sub := e.sub h.sub
  loc := e.loc h.loc
  unk := h.unk
  dist := h.dist
  grow := h.grow.trans e.1
  frame b hb hn := by rw [e.2 b (Nat.lt_of_lt_of_le hb h.grow.1)]; exact h.frame b hb hn
  dom := h.dom
  domL := h.domL

theorem List.getElem?_push_cases {α : Type} {l : List α} {x y : α} {k : Nat} (h : (l ++ [x])[k]? = some y) : (k < l.length ∧ l[k]? = some y) ∨ (k = l.length ∧ y = x) := by
  rcases Nat.lt_trichotomy k l.length with hk | hk | hk
  · rw [List.getElem?_append_left hk] at h; exact .inl ⟨hk, h⟩
  · subst hk; simp at h; exact .inr ⟨rfl, h.symm⟩
  · rw [List.getElem?_eq_none (by simp; omega)] at h; cases h

/-- a new own block -/
theorem WOK.push (h : WOK u0 w0 L u w) (T : TypeId) (ls : List Leaf) (cs : List Value) (w' : World) (hw : w'.heap = w.heap.push (.cells cs.toArray T)) (he : w'.os = w.os ∧ w'.output = w.output) : WOK u0 w0 (L ++ [⟨w.heap.size, T, ls, cs⟩]) u w' where
  sub := ⟨by rw [hw]; simp; have := h.sub.1; omega, fun b o hb => by
    have := h.sub.2 b o hb
    rw [hw, Array.getElem?_push_lt (heap_lt this), ← this, Array.getElem?_eq_getElem (heap_lt this)]⟩
  loc k lb hk := by
    rcases List.getElem?_push_cases hk with ⟨_, hk⟩ | ⟨_, rfl⟩
    · have := h.loc k lb hk
      rw [hw, Array.getElem?_push_lt (heap_lt this), ← this, Array.getElem?_eq_getElem (heap_lt this)]
    · rw [hw]; simp
  unk k lb hk := by
    rcases List.getElem?_push_cases hk with ⟨_, hk⟩ | ⟨_, rfl⟩
    · exact h.unk k lb hk
    · cases hm : u.m w.heap.size with
      | none => rfl
      | some o => have := heap_lt (h.sub.2 _ _ hm); omega
  dist j k x y hj hk e := by
    rcases List.getElem?_push_cases hj with ⟨hjl, hj⟩ | ⟨hjl, rfl⟩ <;> rcases List.getElem?_push_cases hk with ⟨hkl, hk⟩ | ⟨hkl, rfl⟩
    · exact h.dist j k x y hj hk e
    · have := heap_lt (h.loc j x hj); simp at e; omega
    · have := heap_lt (h.loc k y hk); simp at e; omega
    · omega
  grow := h.grow.trans ⟨by rw [hw]; simp, he⟩
  frame b hb hn := by
    have := h.grow.1
    rw [hw, Array.getElem?_push_lt (by omega : b < w.heap.size), ← h.frame b hb hn, Array.getElem?_eq_getElem]
  dom := h.dom
  domL k lb hk := by
    rcases List.getElem?_push_cases hk with ⟨_, hk⟩ | ⟨_, rfl⟩
    · exact h.domL k lb hk
    · exact .inr h.grow.1

/-- other cells in an own block -/
theorem WOK.setL (h : WOK u0 w0 L u w) {k : Nat} {lb : LB} (hk : L[k]? = some lb) (cs : List Value) (w' : World) (hsz : w'.heap.size = w.heap.size) (he : w'.os = w.os ∧ w'.output = w.output)
    (hb : w'.heap[lb.b]? = some (.cells cs.toArray lb.T (0, 0))) (ho : ∀ b, b ≠ lb.b → w'.heap[b]? = w.heap[b]?) : WOK u0 w0 (L.set k ⟨lb.b, lb.T, lb.ls, cs⟩) u w' := by
  have hlt : k < L.length := by
    rcases Nat.lt_or_ge k L.length with h' | h'
    · exact h'
    · rw [List.getElem?_eq_none h'] at hk; cases hk
  have cs' : ∀ j x, (L.set k ⟨lb.b, lb.T, lb.ls, cs⟩)[j]? = some x → (j = k ∧ x = ⟨lb.b, lb.T, lb.ls, cs⟩) ∨ (j ≠ k ∧ L[j]? = some x) := fun j x hj => by
    by_cases e : k = j
    · subst e
      simp [hlt] at hj
      exact .inl ⟨rfl, hj.symm⟩
    · rw [List.getElem?_set_ne e] at hj
      exact .inr ⟨fun h => e h.symm, hj⟩
  refine ⟨⟨by rw [hsz]; exact h.sub.1, fun b o hm => ?_⟩, fun j x hj => ?_, fun j x hj => ?_, fun i j x y hi hj e => ?_, h.grow.trans ⟨by rw [hsz]; exact Nat.le_refl _, he⟩, fun b hb' hn => ?_, h.dom, fun j x hj => ?_⟩
  · rw [ho b (fun e => by rw [e, h.unk k lb hk] at hm; cases hm)]; exact h.sub.2 b o hm
  · rcases cs' j x hj with ⟨rfl, rfl⟩ | ⟨hne, hj⟩
    · exact hb
    · rw [ho x.b (fun e => hne (h.dist j k x lb hj hk e))]; exact h.loc j x hj
  · rcases cs' j x hj with ⟨rfl, rfl⟩ | ⟨hne, hj⟩
    · exact h.unk j lb hk
    · exact h.unk j x hj
  · rcases cs' i x hi with ⟨e1, ex⟩ | ⟨hne, hi⟩ <;> rcases cs' j y hj with ⟨e2, ey⟩ | ⟨hne', hj⟩
    · omega
    · subst ex; rw [e1]; exact h.dist _ _ lb y hk hj e
    · subst ey; rw [e2]; exact h.dist _ _ x lb hi hk e
    · exact h.dist _ _ x y hi hj e
  · rw [ho b (fun e => ?_)]
    · exact h.frame b hb' hn
    · rcases h.domL k lb hk with h1 | h1
      · rw [← e] at h1; exact h1 hn
      · omega
  · rcases cs' j x hj with ⟨rfl, rfl⟩ | ⟨hne, hj⟩
    · exact h.domL j lb hk
    · exact h.domL j x hj

/-- a known block turns, or a new one is known -/
theorem WOK.setU (h : WOK u0 w0 L u w) {b : Nat} {o : Obj} (w' : World) (hsz : Ge w w') (hb : w'.heap[b]? = some o)
    (ho : ∀ b', b' ≠ b → b' < w.heap.size → w'.heap[b']? = w.heap[b']?) (hk : u.m b ≠ none ∨ w.heap.size ≤ b) : WOK u0 w0 L (u.set b o) w' := by
  have hbl : ∀ (k : Nat) (lb : LB), L[k]? = some lb → lb.b ≠ b := fun k lb hl e => by
    rcases hk with hk | hk
    · rw [← e, h.unk k lb hl] at hk; exact hk rfl
    · have := heap_lt (h.loc k lb hl); omega
  refine ⟨⟨?_, fun b' o' hm => ?_⟩, fun k lb hl => ?_, fun k lb hl => ?_, h.dist, h.grow.trans hsz, fun b' hb' hn => ?_, fun b' o' hm => ?_, h.domL⟩
  · have := heap_lt hb
    have := h.sub.1
    have := hsz.1
    simp only [View.set]; omega
  · by_cases e : b' = b
    · subst e; rw [View.set_self] at hm; cases hm; exact hb
    · rw [View.set_ne _ _ e] at hm
      have := h.sub.2 _ _ hm
      rw [ho b' e (heap_lt this)]; exact this
  · rw [ho _ (hbl k lb hl) (heap_lt (h.loc k lb hl))]; exact h.loc k lb hl
  · rw [View.set_ne _ _ (hbl k lb hl)]; exact h.unk k lb hl
  · have hne : b' ≠ b := fun e => by
      subst e
      rcases hk with hk | hk
      · cases hm : u.m b' with
        | none => exact hk hm
        | some o' =>
          rcases h.dom _ _ hm with h1 | h1
          · exact h1 hn
          · omega
      · have := h.grow.1; omega
    rw [ho b' hne (Nat.lt_of_lt_of_le hb' h.grow.1)]; exact h.frame b' hb' hn
  · by_cases e : b' = b
    · subst e
      rcases hk with hk | hk
      · cases hm' : u.m b' with
        | none => exact absurd hm' hk
        | some o'' => exact h.dom _ _ hm'
      · exact .inr (Nat.le_trans h.grow.1 hk)
    · rw [View.set_ne _ _ e] at hm; exact h.dom _ _ hm

end
end Go.Proofs.Ytkjddlgaldnbnaa
end

/-
  THE CALCULUS, PART 5: the operations that make or write memory, and calls ('lV').
-/
section
set_option linter.unusedSimpArgs false
set_option linter.unusedVariables false
namespace Go.Proofs.Ytkjddlgaldnbnaa

def isStrSlice (P : Program) (s d : TypeId) : Bool :=
  match P.underlying s, P.underlying d with
  | some .string, some (.slice _) => true
  | some (.slice _), some .string => true
  | _, _ => false

/-- is an operation a quiet one? -/
def isQ (P : Program) : Op → Bool
  | .move _ | .assign _ | .pick .. | .nilCheck _ | .binOp .. | .unOp .. | .fieldAddr .. | .field .. | .indexAddr .. | .index .. | .extract .. | .slice .. | .build .. | .makeFunc .. | .load .. => true
  | .convert s d _ => !isStrSlice P s d
  | .call { callee := .builtin .len, .. } | .call { callee := .builtin .cap, .. } | .call { callee := .builtin .min, .. } | .call { callee := .builtin .max, .. } => true
  | _ => false

/-- cells behind a slice's address -/
def CellsO (u : View) (p : Option Addr) (vs : List Value) : Prop :=
  match p with
  | none => vs = []
  | some ad => CellsAt u ad 0 vs

theorem CellsO.first {P : Program} {u : View} {w : World} (hs : Sub u w) {p : Option Addr} {vs : List Value} (h : CellsO u p vs) (size n c len : Nat) (hl : vs.length = n * size) :
    (Builtin.firstCells size n (.slice p len c)).run P w = .ok vs.toArray w := by
  cases p with
  | none => simp only [CellsO] at h; subst h; simp [Builtin.firstCells]
  | some ad =>
    refine run_firstCells_some w size n ad len c vs hl fun j v hj => ?_
    have := hs.cells h j v hj
    rwa [Nat.zero_add] at this

def callOK (P : Program) (g : FuncId) : Bool :=
  match P.funcs[g]? with
  | some fn => fn.body.isSome && !(fn.name == "runtime.NumGoroutine")
  | none => false

/-- the numbers of functions with bodies: from 2 to M -/
def okG (M g : Nat) : Bool := match Nat.blt 1 g with | true => Nat.blt g M | false => false

/-- what is asked of the program's functions below a number -/
def CK (P : Program) (M : Nat) : Prop := ∀ g, okG M g = true → callOK P g = true

theorem callFunc_run {P : Program} {g : FuncId} (h : callOK P g = true) (args : Array Value) (w : World) : (callFunc g args).run P w = .ok (.enter g args) w := by
  unfold callOK at h
  split at h
  · rename_i fn hf
    simp only [Bool.and_eq_true, Bool.not_eq_true'] at h
    have h1 : fn.body.isNone = false := by
      cases hb : fn.body with
      | none => rw [hb] at h; cases h.1
      | some c => rfl
    have h2 : fn.name ≠ "runtime.NumGoroutine" := by simpa using h.2
    have h3 : fn.body ≠ none := fun hn => by rw [hn] at h1; cases h1
    simp [callFunc, hf, h2, h3]
  · cases h

/-- the functions that are known by what they return, whatever memory holds -/
def PureOK (P : Program) (pf : FuncId → Option (List Value → Option Value)) : Prop :=
  ∀ g fg args v, pf g = some fg → fg args = some v → ∀ u, CallsV P g args.toArray u fun v' u' => v' = v ∧ u' = u

/-- a call's result, typed -/
def ExR (P : Program) (t : TypeId) (K : Value → Prop) : Prop :=
  match P.underlying t with
  | some (.tuple ts) => ExT (ts.toList.map (shape P)) fun vs => K (.tuple vs.toArray)
  | _ => ExS (shape P t) K

theorem ExR.ex {P : Program} {t : TypeId} {K : Value → Prop} (h : ExR P t K) : ∃ v, K v := by
  unfold ExR at h
  split at h
  · obtain ⟨vs, k⟩ := ExT.ex h; exact ⟨_, k⟩
  · exact ExS.ex h

def SV.ks : SV → List Nat
  | .loc k _ => [k]
  | .locI k _ _ _ _ => [k]
  | .fn _ caps => caps.filterMap fun | .loc k _ => some k | .v _ => none
  | _ => []

def addK (l : List Nat) : List Nat → List Nat
  | [] => l
  | k :: r => addK (if l.contains k then l else l ++ [k]) r

def pvSV : PV → SV
  | .v x => .v x
  | .loc k off => .loc k off

def ksOf (xs : List SV) : List Nat := addK [] (xs.flatMap SV.ks)

def asLocals (L : List LB) (u uc : View) : List Nat → Prop → Prop
  | [], G => G
  | k :: r, G =>
    match L[k]? with
    | some lb => u.m lb.b = none → lb.b < uc.lim → uc.m lb.b = some (.cells lb.cs.toArray lb.T (0, 0)) → asLocals L u uc r G
    | none => False

def newLocals (u' : View) : List Nat → List LB → (List LB → Prop) → Prop
  | [], L, G => G L
  | k :: r, L, G =>
    match L[k]? with
    | some lb => ExL lb.ls fun vs => u'.m lb.b = some (.cells (vs ++ lb.cs.drop lb.ls.length).toArray lb.T (0, 0)) ∧ newLocals u' r (L.set k ⟨lb.b, lb.T, lb.ls, vs ++ lb.cs.drop lb.ls.length⟩) G
    | none => False

/-- a call -/
def callK (P : Program) (ok : Bool) (g : FuncId) (xs : List SV) (t : TypeId) (kL kU : Bool) (st : St) (K : SV → List LB → View → Prop) : Prop :=
  match ok with
  | true =>
    match ksOf xs with
    | [] => CallsV P g (xs.map (tv st.L)).toArray st.u fun v u' => ExR P t fun v' => v = v' ∧
        match kU with
        | true => st.u.lim ≤ u'.lim ∧ (∀ b o, st.u.m b = some o → u'.m b = some o) ∧ K (.v v') st.L u'
        | false => K (.v v') st.L u'
    | ks =>
      match kL, kU with
      | true, _ => False
      | false, true => False
      | false, false => ∀ uc : View, st.u.lim ≤ uc.lim → (∀ b o, st.u.m b = some o → uc.m b = some o) → asLocals st.L st.u uc ks
          (CallsV P g (xs.map (tv st.L)).toArray uc fun v u' => ExR P t fun v' => v = v' ∧ newLocals u' ks st.L fun L' =>
            ∀ u'', u''.lim = u'.lim → (∀ b o o', st.u.m b = some o → u'.m b = some o' → u''.m b = some o') → (∀ b o, uc.lim ≤ b → u'.m b = some o → u''.m b = some o) → K (.v v') L' u'')
  | false => False

def fzOK (fz : Nat × Nat) (n : Nat) : Prop := fz.2 ≤ fz.1 ∨ n ≤ fz.1

/-- the cells of n zero values -/
def zerosL (z : Value) : Nat → List Value
  | 0 => []
  | n + 1 => z.cells.toList ++ zerosL z n

theorem zerosL_range (z : Value) (n : Nat) : zerosL z n = (List.range (n * z.cells.size)).map fun i => z.cells[i % z.cells.size]! := by
  induction n with
  | zero => simp [zerosL]
  | succ n ih =>
    rw [zerosL, ih, Nat.succ_mul, Nat.add_comm, List.range_add, List.map_append, List.map_map]
    congr 1
    · apply List.ext_getElem
      · simp
      · intro i h1 h2
        have : i < z.cells.size := by simpa using h1
        simp [Nat.mod_eq_of_lt this, this]
    · apply List.map_congr_left
      intro i _
      simp

theorem zerosL_cells (z : Value) (n : Nat) : (zerosL z n).toArray = Builtin.zeroCells z.cells n := by
  apply Array.ext'
  simp [Builtin.zeroCells, zerosL_range]

theorem zerosL_arr (z : Value) (n : Nat) : (zerosL z n).toArray = (Array.range (n * z.cells.size)).map (z.cells[· % z.cells.size]!) := by
  apply Array.ext'
  simp [zerosL_range]

/-- append: what is asked -/
def appPre (u : View) (p : Option Addr) (n c sz bytes m : Nat) (new : List Value) : Prop :=
  (n + m ≤ c → new = [] ∨ ∃ b o arr T fz, p = some ⟨b, o, none⟩ ∧ u.m b = some (.cells arr T fz) ∧ fzOK fz arr.size ∧ o + (n + m) * sz ≤ arr.size) ∧
  (c < n + m → n + m ≤ 4611686018427387904 ∧ (n + m) * bytes ≤ 140737488355328 ∧ ∃ old, old.length = n * sz ∧ CellsO u p old)

/-- append: what comes of it -/
def appPost (u : View) (p : Option Addr) (n c sz : Nat) (z : Value) (e : TypeId) (m : Nat) (new : List Value) (s' : Sl) (u' : View) : Prop :=
  (n + m ≤ c ∧ s' = ⟨p, n + m, c⟩ ∧ ((new = [] ∧ u' = u) ∨ ∃ b o arr T fz, p = some ⟨b, o, none⟩ ∧ u.m b = some (.cells arr T fz) ∧
      u' = u.set b (.cells (splice arr.toList (o + n * sz) new).toArray T fz))) ∨
  (c < n + m ∧ ∃ old b c', old.length = n * sz ∧ CellsO u p old ∧ u.lim ≤ b ∧ n + m ≤ c' ∧ s' = ⟨some ⟨b, 0, none⟩, n + m, c'⟩ ∧
      u' = u.set b (.cells (old ++ new ++ zerosL z (c' - (n + m))).toArray e))

/-- append: what is put behind -/
def appK (u : View) (p : Option Addr) (n c sz bytes : Nat) (z : Value) (e : TypeId) (m : Nat) (new : List Value) (K : Value → View → Prop) : Prop :=
  appPre u p n c sz bytes m new ∧ ∀ (s' : Sl) (u' : View), appPost u p n c sz z e m new s' u' → K (.slice s'.p s'.n s'.c) u'

theorem appK_out {u : View} {p : Option Addr} {n c sz bytes : Nat} {z : Value} {e : TypeId} {m : Nat} {new : List Value} {K : Value → View → Prop} (h : appK u p n c sz bytes z e m new K) :
  (n + m ≤ c → (new = [] ∧ K (.slice p (n + m) c) u) ∨
    ∃ b o arr T fz, p = some ⟨b, o, none⟩ ∧ u.m b = some (.cells arr T fz) ∧ fzOK fz arr.size ∧ o + (n + m) * sz ≤ arr.size ∧
      K (.slice p (n + m) c) (u.set b (.cells (splice arr.toList (o + n * sz) new).toArray T fz))) ∧
  (c < n + m → n + m ≤ 4611686018427387904 ∧ (n + m) * bytes ≤ 140737488355328 ∧ ∃ old, old.length = n * sz ∧ CellsO u p old ∧
    ∀ b c', u.lim ≤ b → n + m ≤ c' → K (.slice (some ⟨b, 0, none⟩) (n + m) c') (u.set b (.cells ((old ++ new).toArray ++ Builtin.zeroCells z.cells (c' - (n + m))) e))) := by
  obtain ⟨⟨h1, h2⟩, h3⟩ := h
  refine ⟨fun hc => ?_, fun hc => ?_⟩
  · rcases h1 hc with rfl | ⟨b, o, arr, T, fz, e1, e2, e3, e4⟩
    · exact .inl ⟨rfl, h3 ⟨p, n + m, c⟩ u (.inl ⟨hc, rfl, .inl ⟨rfl, rfl⟩⟩)⟩
    · exact .inr ⟨b, o, arr, T, fz, e1, e2, e3, e4, h3 ⟨p, n + m, c⟩ _ (.inl ⟨hc, rfl, .inr ⟨b, o, arr, T, fz, e1, e2, rfl⟩⟩)⟩
  · obtain ⟨g1, g2, old, g3, g4⟩ := h2 hc
    refine ⟨g1, g2, old, g3, g4, fun b c' hb hc' => ?_⟩
    have := h3 ⟨some ⟨b, 0, none⟩, n + m, c'⟩ _ (.inr ⟨hc, old, b, c', g3, g4, hb, hc', rfl, rfl⟩)
    rw [← zerosL_cells]
    simpa using this

def appV (P : Program) (sT xT : TypeId) (s x : Value) (u : View) (K : Value → View → Prop) : Prop :=
  match P.underlying sT, s with
  | some (.slice e), .slice p n c =>
    match P.info? e with
    | some i =>
      match i.zero with
      | some z =>
        match P.underlying xT, x with
        | some (.slice _), .slice q m _ => ∃ new : List Value, new.length = m * i.size ∧ (∀ v ∈ new, v.oneCell' = true) ∧ CellsO u q new ∧ appK u p n c i.size i.bytes z e m new K
        | some .string, .string t => if i.size = 1 then appK u p n c i.size i.bytes z e t.size (byteCells t) K else False
        | _, _ => False
      | none => False
    | none => False
  | _, _ => False

def onesV (vs : List Value) : Bool := vs.all Value.oneCell'


/-- a map type with plain keys: the kind of keys, the type of what it holds, its zero -/
def mapV (P : Program) (T : TypeId) : Option (TypeDesc × TypeId × Value) :=
  match P.underlying T with
  | some (.map kt e) =>
    match P.underlying kt, zeroOf P e with
    | some .string, some z => some (.string, e, z)
    | some (.int k), some z => some (.int k, e, z)
    | _, _ => none
  | _ => none

def keyOK : TypeDesc → Value → Bool
  | .string, .string _ => true
  | .int k, .int k' _ => decide (k' = k)
  | _, _ => false

/-- an entry's new value, or a new entry -/
def mapPut (es : Array MapEntry) (clock : Nat) (key v : Value) (a : Option (Nat × Value)) : Obj :=
  match a with
  | some (i, _) => .map (es.modify i fun e => { e with key := key, val := v }) clock
  | none => .map (es.push { key, val := v, born := clock }) (clock + 1)

def okV (ok : Bool) (v : Value) (s : Bool) : Value :=
  match ok with
  | true => .tuple #[v, .bool s]
  | false => v

/-- a map's entry is set -/
def putV (P : Program) (T : TypeId) (m k x : Operand) (kU : Bool) (st : St) (K : SV → List LB → View → Prop) : Prop :=
  match kU with
  | true => False
  | false =>
    match mapV P T, (st.ev m).val?, (st.ev k).val?, (st.ev x).val? with
    | some (d, _, _), some (.map (some r)), some key, some v =>
      match keyOK d key with
      | true => ∃ (es : Array MapEntry) (clock : Nat), st.u.m r = some (.map es clock) ∧ ∃ a : Option (Nat × Value), Instr.findNow d key es.toList 0 = some a ∧
          (∀ i v, a = some (i, v) → (es[i]?).map (·.key) = some key) ∧ K (.v undef) st.L (st.u.set r (mapPut es clock key v a))
      | false => False
    | _, _, _, _ => False

/-- the operations that make or write memory, and calls -/
def lV (P : Program) (M : Nat) (pf : FuncId → Option (List Value → Option Value)) (kL kU : Bool) (o : Oper) (st : St) (K : SV → List LB → View → Prop) : Prop :=
  match o.op with
  | .alloc T =>
    match zeroOf P T with
    | some z => ∀ b, st.u.lim ≤ b → K (.loc st.L.length 0) (st.L ++ [⟨b, T, leafs P 8 T, z.cells.toList⟩]) st.u
    | none => False
  | .box T x =>
    match (st.ev x).val? with
    | some v => ∀ b, st.u.lim ≤ b → K (.loc st.L.length 0) (st.L ++ [⟨b, T, leafs P 8 T, v.cells.toList⟩]) st.u
    | none => False
  | .store T a x =>
      match (st.ev x).val?, P.info? T with
      | some v, some i =>
        if v.cells.size = i.size ∧ onesV v.cells.toList = true ∧ 0 < i.size then
          match st.ev a with
          | .loc k off =>
            match kL with
            | true => False
            | false =>
            match st.L[k]? with
            | some lb => if ((lb.cs.drop off).take i.size).length = i.size then K (.v undef) (st.L.set k ⟨lb.b, lb.T, lb.ls, splice lb.cs off v.cells.toList⟩) st.u else False
            | none => False
          | .locI k off j _ sz =>
            match kL with
            | true => False
            | false =>
            match st.L[k]? with
            | some lb => off + j.toNat * sz + i.size ≤ lb.cs.length ∧ K (.v undef) (st.L.set k ⟨lb.b, lb.T, lb.ls, splice lb.cs (off + j.toNat * sz) v.cells.toList⟩) st.u
            | none => False
          | .v (.pointer (some ad)) =>
            match kU with
            | true => False
            | false => ∃ c T' fz, st.u.m ad.block = some (.cells c T' fz) ∧ fzOK fz c.size ∧ ad.spot = none ∧ ad.off + i.size ≤ c.size ∧
              K (.v undef) st.L (st.u.set ad.block (.cells (splice c.toList ad.off v.cells.toList).toArray T' fz))
          | _ => False
        else False
      | _, _ => False
  | .buildSlice T len parts =>
    match elemV P T with
    | some (e, sz) =>
      match valsV st (parts.toList.map (·.2)) with
      | some vs =>
        match zeroOf P e with
        | some z =>
          if len * sz ≤ 16777216 ∧ z.cells.size = sz then
            match fillL (fun i => some (i * sz, sz)) (zerosL z len) ((parts.toList.map (·.1)).zip vs) with
            | some cells => ∀ b, st.u.lim ≤ b → K (.v (.slice (some ⟨b, 0, none⟩) len len)) st.L (st.u.set b (.cells cells.toArray e))
            | none => False
          else False
        | none => False
      | none => False
    | none => False
  | .makeSlice T l c =>
    match elemV P T, st.ev l, st.ev c with
    | some (e, sz), .v (.int .i64 n), .v (.int .i64 m) =>
      match P.info? e, zeroOf P e with
      | some i, some z => if z.cells.size = sz ∧ 0 < sz then 0 ≤ n ∧ n ≤ m ∧ m ≤ 4611686018427387904 ∧ (i.bytes : Int) * m ≤ 140737488355328 ∧
          ∀ b, st.u.lim ≤ b → K (.v (.slice (some ⟨b, 0, none⟩) n.toNat m.toNat)) st.L (st.u.set b (.cells (zerosL z m.toNat).toArray e)) else False
      | _, _ => False
    | _, _, _ => False
  | .convert s d x =>
    match P.underlying s, P.underlying d, st.ev x with
    | some .string, some (.slice e), .v (.string t) =>
      match P.underlying e with
      | some (.int .u8) => ∀ b cap, st.u.lim ≤ b → t.size ≤ cap → K (.v (.slice (some ⟨b, 0, none⟩) t.size cap)) st.L (st.u.set b (.cells (byteCells t ++ List.replicate (cap - t.size) (Value.int .u8 0)).toArray e (cap, cap + 1)))
      | _ => False
    | some (.slice e), some .string, .v (.slice p n _) =>
      match P.underlying e with
      | some (.int .u8) => ∃ t : ByteArray, t.size = n ∧ CellsO st.u p (byteCells t) ∧ K (.v (.string t)) st.L st.u
      | _ => False
    | _, _, _ => False
  | .makeMap _ none => ∀ b, st.u.lim ≤ b → K (.v (.map (some b))) st.L (st.u.set b (.map #[] 0))
  | .lookup T m k ok =>
    match mapV P T, (st.ev m).val?, (st.ev k).val? with
    | some (d, e, z), some (.map mr), some key =>
      match keyOK d key with
      | true => ∃ (es : Array MapEntry) (clock : Nat), (match mr with | none => es = #[] | some r => st.u.m r = some (.map es clock)) ∧ ∃ a : Option (Nat × Value), Instr.findNow d key es.toList 0 = some a ∧
          ExS (shape P e) fun v => (match a with | some p => p.2 = v | none => z = v) ∧ K (.v (okV ok v a.isSome)) st.L st.u
      | false => False
    | _, _, _ => False
  | .insert T m k x => putV P T m k x kU st K
  | .mapUpdate T m k x => putV P T m k x kU st K
  | .call c =>
    match c.callee, c.args.toList with
    | .builtin .append, [s, x] =>
      match kU with
      | true => False
      | false =>
        match (st.ev s).val?, (st.ev x).val?, c.argTypes.toList with
        | some sv, some xv, [sT, xT] => appV P sT xT sv xv st.u fun v u' => K (.v v) st.L u'
        | _, _, _ => False
    | .builtin .copy, [d, x] =>
      match kU with
      | true => False
      | false =>
        match st.ev d, st.ev x, c.argTypes[0]? with
        | .v (.slice p n _), .v (.slice q m _), some dT =>
          match elemV P dT with
          | some (_, sz) => ∃ new : List Value, new.length = min m n * sz ∧ (∀ v ∈ new, v.oneCell' = true) ∧ CellsO st.u q new ∧
              ((new = [] ∧ K (.v (.int .i64 (min m n : Nat))) st.L st.u) ∨
                ∃ b o arr T fz, p = some ⟨b, o, none⟩ ∧ st.u.m b = some (.cells arr T fz) ∧ fzOK fz arr.size ∧ o + min m n * sz ≤ arr.size ∧
                  K (.v (.int .i64 (min m n : Nat))) st.L (st.u.set b (.cells (splice arr.toList o new).toArray T fz)))
          | none => False
        | _, _, _ => False
    | .value f, xs =>
      match st.ev f with
      | .fn g caps =>
        match pf g with
        | some fg =>
          match okG M g, valsV st xs, caps with
          | true, some vs, [] =>
            match fg vs with
            | some v => K (.v v) st.L st.u
            | none => False
          | _, _, _ => False
        | none => callK P (okG M g) g (xs.map st.ev ++ caps.map pvSV) o.type kL kU st K
      | .v (.func (.func g) first caps) =>
        if first.size = 0 then callOK P g = true ∧ callK P true g (xs.map st.ev ++ caps.toList.map SV.v) o.type kL kU st K else False
      | _ => False
    | _, _ => False
  | _ => False

end Go.Proofs.Ytkjddlgaldnbnaa
end

/-
  THE CALCULUS, PART 6: what 'lV' says is what the operations that make or write memory, and the calls, do.
-/
section
set_option linter.unusedSimpArgs false
set_option linter.unusedVariables false
namespace Go.Proofs.Ytkjddlgaldnbnaa

/-- what an operation leaves -/
def LPost (u0 : View) (w0 : World) (st : St) (kL kU : Bool) (K : SV → List LB → View → Prop) (o : Oper) (a : Act) (a' : Act) (w' : World) : Prop :=
  ∃ y L' u', a' = a.put o.dst (tv L' y) ∧ LExt st.L L' ∧ okSV L'.length y ∧ WOK u0 w0 L' u' w' ∧
    (kL = true → ∀ (k : Nat) (lb : LB), st.L[k]? = some lb → L'[k]? = some lb) ∧ (kU = true → st.u.lim ≤ u'.lim ∧ ∀ b o, st.u.m b = some o → u'.m b = some o) ∧ K y L' u'

theorem getElem?_lt {α : Type} {l : List α} {k : Nat} {x : α} (h : l[k]? = some x) : k < l.length := by
  rcases Nat.lt_or_ge k l.length with h' | h'
  · exact h'
  · rw [List.getElem?_eq_none h'] at h; cases h

theorem setCells_env (w : World) (b : Nat) : ∀ (o : Nat) (vs : List Value), (w.setCells b o vs).os = w.os ∧ (w.setCells b o vs).output = w.output := by
  intro o vs
  induction vs generalizing o w with
  | nil => exact ⟨rfl, rfl⟩
  | cons v vs ih => exact ⟨(ih (w.setCell ⟨b, o, none⟩ v) (o + 1)).1, (ih (w.setCell ⟨b, o, none⟩ v) (o + 1)).2⟩

theorem setCells_heap (b : Nat) : ∀ (vs : List Value) (o : Nat) (w : World) (c : Array Value) (T : TypeId) (fz : Nat × Nat), w.heap[b]? = some (.cells c T fz) →
    (w.setCells b o vs).heap.size = w.heap.size ∧ (w.setCells b o vs).heap[b]? = some (.cells (splice c.toList o vs).toArray T fz) ∧
      ∀ b', b' ≠ b → (w.setCells b o vs).heap[b']? = w.heap[b']? := by
  intro vs
  induction vs with
  | nil => intro o w c T fz h; exact ⟨rfl, by simpa [splice, World.setCells] using h, fun _ _ => rfl⟩
  | cons v vs ih =>
    intro o w c T fz h
    have h1 : (w.setCell ⟨b, o, none⟩ v).heap[b]? = some (.cells (c.setIfInBounds o v) T fz) := by
      simp only [World.setCell]
      rw [Array.getElem?_modify]
      simp [h]
    have h2 : ∀ b', b' ≠ b → (w.setCell ⟨b, o, none⟩ v).heap[b']? = w.heap[b']? := fun b' hb => by
      simp only [World.setCell]
      rw [Array.getElem?_modify]
      simp [Ne.symm hb]
    obtain ⟨g1, g2, g3⟩ := ih (o + 1) _ _ T fz h1
    refine ⟨by simp only [World.setCells]; rw [g1]; simp [World.setCell], ?_, fun b' hb => by simp only [World.setCells]; rw [g3 b' hb, h2 b' hb]⟩
    simp only [World.setCells]
    rw [g2]
    simp [splice]

theorem cells_some {w : World} {b : Nat} {c : Array Value} {T : TypeId} {fz : Nat × Nat} (h : w.heap[b]? = some (.cells c T fz)) {o : Nat} (ho : o < c.size) :
    (w.cell? ⟨b, o, none⟩).isSome = true := by
  simp [World.cell?, h, ho]
theorem cells_free {w : World} {b : Nat} {c : Array Value} {T : TypeId} {fz : Nat × Nat} (h : w.heap[b]? = some (.cells c T fz)) (hf : fzOK fz c.size) {o : Nat} (ho : o < c.size) :
    w.frozen? ⟨b, o, none⟩ = false := by
  obtain ⟨lo, hi⟩ := fz
  simp only [World.frozen?, h]
  unfold fzOK at hf
  simp only at hf
  simp
  omega

section
variable {P : Program} {M : Nat} {pf : FuncId → Option (List Value → Option Value)} {u0 : View} {w0 w : World} {st : St} {kL kU : Bool} {a : Act}
  {K : SV → List LB → View → Prop} {Q : Exit → Act → World → Prop} {dst : Option Tmp} {type : TypeId} {pos : String} {after : Array Edge} {guard : Option (Nat × Bool)}

theorem zeroOf_run {T : TypeId} {z : Value} (h : zeroOf P T = some z) (w : World) : (zeroValue T).run P w = .ok z w := by
  unfold zeroOf at h
  split at h
  · rename_i i hi; simp [zeroValue, typeInfo, hi, h]
  · cases h

/-- a new own block -/
theorem new_local (hw : WOK u0 w0 st.L st.u w) {o : Oper} {T : TypeId} {cs : Array Value} {w' : World} (hw' : w' = { w with heap := w.heap.push (.cells cs T) })
    (h : ∀ b, st.u.lim ≤ b → K (.loc st.L.length 0) (st.L ++ [⟨b, T, leafs P 8 T, cs.toList⟩]) st.u) :
    LPost u0 w0 st kL kU K o a (a.put o.dst (.pointer (some ⟨w.heap.size, 0, none⟩))) w' := by
  refine ⟨.loc st.L.length 0, st.L ++ [⟨w.heap.size, T, leafs P 8 T, cs.toList⟩], st.u, ?_, LExt.push _ _, by simp [okSV], ?_, fun _ k lb hk => ?_, fun _ => ⟨Nat.le_refl _, fun _ _ h => h⟩, h _ hw.sub.1⟩
  · simp [tv, locAddr]
  · subst hw'
    exact hw.push T (leafs P 8 T) cs.toList _ (by simp) ⟨rfl, rfl⟩
  · rw [List.getElem?_append_left (getElem?_lt hk)]; exact hk

theorem l_alloc {T : TypeId} (hw : WOK u0 w0 st.L st.u w) (h : lV P M pf kL kU ⟨dst, .alloc T, type, pos, after, guard⟩ st K) :
    Oper.wp P ⟨dst, .alloc T, type, pos, after, guard⟩ a w (LPost u0 w0 st kL kU K ⟨dst, .alloc T, type, pos, after, guard⟩ a) Q := by
  simp only [lV] at h
  split at h
  · rename_i z hz
    have hr : (execOp a.eval ⟨dst, .alloc T, type, pos, after, guard⟩).run P w = .ok (.value (.pointer (some ⟨w.heap.size, 0, none⟩))) { w with heap := w.heap.push (.cells z.cells T) } := by
      simp [execOp, Instr.alloc, zeroOf_run hz, newVar, newRow, Result.andThen]
    unfold Oper.wp
    rw [hr]
    exact new_local hw rfl h
  · exact h.elim

theorem l_box {T : TypeId} {x : Operand} (hw : WOK u0 w0 st.L st.u w) (hρ : ∀ y ∈ (Op.box T x).operands, a.eval y = tv st.L (st.ev y)) (h : lV P M pf kL kU ⟨dst, .box T x, type, pos, after, guard⟩ st K) :
    Oper.wp P ⟨dst, .box T x, type, pos, after, guard⟩ a w (LPost u0 w0 st kL kU K ⟨dst, .box T x, type, pos, after, guard⟩ a) Q := by
  simp only [lV] at h
  split at h
  · rename_i v hv
    have e := hρ x (by simp [Op.operands])
    rw [SV.val?_tv st.L hv] at e
    have hr : (execOp a.eval ⟨dst, .box T x, type, pos, after, guard⟩).run P w = .ok (.value (.pointer (some ⟨w.heap.size, 0, none⟩))) { w with heap := w.heap.push (.cells v.cells T) } := by
      simp [execOp, Instr.box, e, newVar, newRow, Result.andThen]
    unfold Oper.wp
    rw [hr]
    exact new_local hw rfl h
  · exact h.elim

/-- a new block that is known -/
theorem new_known (hw : WOK u0 w0 st.L st.u w) {o : Oper} {ob : Obj} {v : Value} {w' : World} (hw' : w'.heap = w.heap.push ob) (he : w'.os = w.os ∧ w'.output = w.output)
    (hk : K (.v v) st.L (st.u.set w.heap.size ob)) : LPost u0 w0 st kL kU K o a (a.put o.dst v) w' := by
  have hnew : st.u.m w.heap.size = none := by
    cases hm : st.u.m w.heap.size with
    | none => rfl
    | some o => have := heap_lt (hw.sub.2 _ _ hm); omega
  refine ⟨.v v, st.L, st.u.set w.heap.size ob, rfl, LExt.refl _, trivial, hw.setU w' ⟨by rw [hw']; simp, he⟩ (by rw [hw']; simp) (fun b' hne hlt => ?_) (.inr (Nat.le_refl _)), fun _ _ _ h => h, fun _ => ⟨by simp only [View.set]; omega, fun b o hm => ?_⟩, hk⟩
  · rw [hw', Array.getElem?_push_lt hlt, Array.getElem?_eq_getElem hlt]
  · rw [View.set_ne _ _ (fun e => by rw [e, hnew] at hm; cases hm)]; exact hm

/-- a known block is written -/
theorem known_written (hw : WOK u0 w0 st.L st.u w) {o : Oper} {b off : Nat} {c : Array Value} {T : TypeId} {fz : Nat × Nat} (hm : st.u.m b = some (.cells c T fz)) {vs : List Value} {v : Value}
    (hk : K (.v v) st.L (st.u.set b (.cells (splice c.toList off vs).toArray T fz))) : LPost u0 w0 st kL false K o a (a.put o.dst v) (w.setCells b off vs) := by
  obtain ⟨g1, g2, g3⟩ := setCells_heap b vs off w c T fz (hw.sub.2 _ _ hm)
  exact ⟨.v v, st.L, _, rfl, LExt.refl _, trivial, hw.setU _ ⟨by rw [g1]; exact Nat.le_refl _, setCells_env w b off vs⟩ g2 (fun b' hne _ => g3 b' hne) (.inl (by rw [hm]; simp)), (fun _ _ _ h => h), (fun h => by cases h), hk⟩

theorem storeVar_run {T : TypeId} {i : TypeInfo} (hi : P.info? T = some i) {v : Value} (hs : v.cells.size = i.size) (h1 : onesV v.cells.toList = true) {b off : Nat} {c : Array Value} {T' : TypeId} {fz : Nat × Nat}
    (hb : w.heap[b]? = some (.cells c T' fz)) (hf : fzOK fz c.size) (hlen : off + i.size ≤ c.size) : (storeVar T ⟨b, off, none⟩ v).run P w = .ok () (w.setCells b off v.cells.toList) := by
  have hlen' : v.cells.toList.length = i.size := by simpa using hs
  have hst := run_storeCells_cells (P := P) b off v.cells.toList 0 w (fun j hj => cells_some hb (by omega)) (fun j hj => cells_free hb hf (by omega)) (fun x hx => by
    simp only [onesV, List.all_eq_true] at h1; exact h1 x hx)
  simp only [Nat.add_zero] at hst
  simp [storeVar, sizeOf, typeInfo, hi, hs, hst, Result.andThen]

theorem l_store {T : TypeId} {x y : Operand} (hw : WOK u0 w0 st.L st.u w) (hρ : ∀ z ∈ (Op.store T x y).operands, a.eval z = tv st.L (st.ev z)) (h : lV P M pf kL kU ⟨dst, .store T x y, type, pos, after, guard⟩ st K) :
    Oper.wp P ⟨dst, .store T x y, type, pos, after, guard⟩ a w (LPost u0 w0 st kL kU K ⟨dst, .store T x y, type, pos, after, guard⟩ a) Q := by
  simp only [lV] at h
  split at h
  · rename_i v i hv hi
    split at h
    · rename_i hs
      have ey := hρ y (by simp [Op.operands])
      rw [SV.val?_tv st.L hv] at ey
      have ex := hρ x (by simp [Op.operands])
      have hlen' : v.cells.toList.length = i.size := by simpa using hs.1
      split at h
      · rename_i k off hx
        rw [hx] at ex
        split at h
        case h_1 => exact h.elim
        split at h
        · rename_i lb hl
          split at h
          · rename_i hlen
            rw [show tv st.L (.loc k off) = _ from loc_pointer hl] at ex
            have hb := hw.loc k lb hl
            have hrun := storeVar_run (P := P) hi hs.1 hs.2.1 hb (by simp [fzOK]) (off := off) (by have := hs.2.2; simp at hlen ⊢; omega)
            obtain ⟨g1, g2, g3⟩ := setCells_heap lb.b v.cells.toList off w _ _ _ hb
            have hr : (execOp a.eval ⟨dst, .store T x y, type, pos, after, guard⟩).run P w = .ok .skip (w.setCells lb.b off v.cells.toList) := by
              simp [execOp, Instr.storeAt, Instr.sureAddr, ex, ey, hrun, Result.andThen]
            unfold Oper.wp
            rw [hr]
            refine ⟨.v undef, st.L.set k ⟨lb.b, lb.T, lb.ls, splice lb.cs off v.cells.toList⟩, st.u, rfl, LExt.set st.L k lb _ hl rfl rfl rfl, trivial, hw.setL hl _ _ g1 (setCells_env _ _ _ _) ?_ (fun b hb => g3 b hb), (fun h => by cases h), fun _ => ⟨Nat.le_refl _, fun _ _ h => h⟩, h⟩
            simpa using g2
          · exact h.elim
        · exact h.elim
      · rename_i k off j n sz hx
        rw [hx] at ex
        split at h
        case h_1 => exact h.elim
        split at h
        · rename_i lb hl
          obtain ⟨hlen, h⟩ := h
          rw [show tv st.L (.locI k off j n sz) = _ from loc_pointer hl] at ex
          have hb := hw.loc k lb hl
          have hrun := storeVar_run (P := P) hi hs.1 hs.2.1 hb (by simp [fzOK]) (off := off + j.toNat * sz) (by simpa using hlen)
          obtain ⟨g1, g2, g3⟩ := setCells_heap lb.b v.cells.toList (off + j.toNat * sz) w _ _ _ hb
          have hr : (execOp a.eval ⟨dst, .store T x y, type, pos, after, guard⟩).run P w = .ok .skip (w.setCells lb.b (off + j.toNat * sz) v.cells.toList) := by
            simp [execOp, Instr.storeAt, Instr.sureAddr, ex, ey, hrun, Result.andThen]
          unfold Oper.wp
          rw [hr]
          refine ⟨.v undef, st.L.set k ⟨lb.b, lb.T, lb.ls, splice lb.cs (off + j.toNat * sz) v.cells.toList⟩, st.u, rfl, LExt.set st.L k lb _ hl rfl rfl rfl, trivial, hw.setL hl _ _ g1 (setCells_env _ _ _ _) ?_ (fun b hb => g3 b hb), (fun h => by cases h), fun _ => ⟨Nat.le_refl _, fun _ _ h => h⟩, h⟩
          simpa using g2
        · exact h.elim
      · rename_i ad hx
        rw [hx] at ex
        split at h
        case h_1 => exact h.elim
        obtain ⟨c, T', fz, hm, hf, hsp, hlen, h⟩ := h
        obtain ⟨b, off, spot⟩ := ad
        simp only at hm hsp hlen h
        subst hsp
        have hrun := storeVar_run (P := P) hi hs.1 hs.2.1 (hw.sub.2 _ _ hm) hf (off := off) hlen
        have hr : (execOp a.eval ⟨dst, .store T x y, type, pos, after, guard⟩).run P w = .ok .skip (w.setCells b off v.cells.toList) := by
          simp [execOp, Instr.storeAt, Instr.sureAddr, ex, ey, hrun, Result.andThen, tv]
        unfold Oper.wp
        rw [hr]
        exact known_written hw hm h
      · exact h.elim
    · exact h.elim
  · exact h.elim

end
end Go.Proofs.Ytkjddlgaldnbnaa
end
