import Derived.Test.YtkjddlgaldnbnaaLA

/-
  WHAT IS TO BE SHOWN OF FUNCTIONS (printed by wip/gen/walk.py), and that it is that.
-/
set_option linter.unusedVariables false
set_option maxRecDepth 20000
namespace Go.Proofs.Ytkjddlgaldnbnaa

/- math/bits.Mul64:  -/
abbrev F_mul64 : FuncId := 111
def W_mul64 (x_0 : Int) (y_1 : Int) (u : View) (R : Value → View → Prop) : Prop :=
  Int.ofNat 0 ≤ Int.ofNat 32 ∧
  Int.ofNat 0 ≤ Int.ofNat 32 ∧
  Int.ofNat 0 ≤ Int.ofNat 32 ∧
  Int.ofNat 0 ≤ Int.ofNat 32 ∧
  Int.ofNat 0 ≤ Int.ofNat 32 ∧
  R
  (Value.tuple
  #[Value.int IntKind.u64
  (IntKind.wrap IntKind.u64
  (IntKind.wrap IntKind.u64
  (IntKind.wrap IntKind.u64 (Int.fdiv x_0 (2 ^ min (Int.toNat 32) (IntKind.bits IntKind.u64)) * Int.fdiv y_1 (2 ^ min (Int.toNat 32) (IntKind.bits IntKind.u64))) +
  Int.fdiv
  (IntKind.wrap IntKind.u64
  (IntKind.wrap IntKind.u64
  (Int.fdiv x_0 (2 ^ min (Int.toNat 32) (IntKind.bits IntKind.u64)) *
  IntKind.wrap IntKind.u64 (↑(BitVec.toNat (BitVec.ofInt 64 y_1 &&& BitVec.ofInt 64 4294967295)) : Int)) +
  Int.fdiv
  (IntKind.wrap IntKind.u64
  (IntKind.wrap IntKind.u64 (↑(BitVec.toNat (BitVec.ofInt 64 x_0 &&& BitVec.ofInt 64 4294967295)) : Int) *
  IntKind.wrap IntKind.u64 (↑(BitVec.toNat (BitVec.ofInt 64 y_1 &&& BitVec.ofInt 64 4294967295)) : Int)))
  (2 ^ min (Int.toNat 32) (IntKind.bits IntKind.u64))))
  (2 ^ min (Int.toNat 32) (IntKind.bits IntKind.u64))) +
  Int.fdiv
  (IntKind.wrap IntKind.u64
  (IntKind.wrap IntKind.u64
  (↑(BitVec.toNat
  (BitVec.ofInt 64
  (IntKind.wrap IntKind.u64
  (IntKind.wrap IntKind.u64
  (Int.fdiv x_0 (2 ^ min (Int.toNat 32) (IntKind.bits IntKind.u64)) *
  IntKind.wrap IntKind.u64 (↑(BitVec.toNat (BitVec.ofInt 64 y_1 &&& BitVec.ofInt 64 4294967295)) : Int)) +
  Int.fdiv
  (IntKind.wrap IntKind.u64
  (IntKind.wrap IntKind.u64 (↑(BitVec.toNat (BitVec.ofInt 64 x_0 &&& BitVec.ofInt 64 4294967295)) : Int) *
  IntKind.wrap IntKind.u64 (↑(BitVec.toNat (BitVec.ofInt 64 y_1 &&& BitVec.ofInt 64 4294967295)) : Int)))
  (2 ^ min (Int.toNat 32) (IntKind.bits IntKind.u64)))) &&&
  BitVec.ofInt 64 4294967295)) :
  Int) +
  IntKind.wrap IntKind.u64
  (IntKind.wrap IntKind.u64 (↑(BitVec.toNat (BitVec.ofInt 64 x_0 &&& BitVec.ofInt 64 4294967295)) : Int) *
  Int.fdiv y_1 (2 ^ min (Int.toNat 32) (IntKind.bits IntKind.u64)))))
  (2 ^ min (Int.toNat 32) (IntKind.bits IntKind.u64)))),
  Value.int IntKind.u64 (IntKind.wrap IntKind.u64 (x_0 * y_1))])
  u

theorem vc_mul64 (x_0 : Int) (y_1 : Int) (u : View) (R : Value → View → Prop) : VCfun Try.prog 149 pf (Option.getD Try.f111.body .skip) Try.f111.results.toList .no [] [.v (.int .u64 x_0), .v (.int .u64 y_1)] [] u R = W_mul64 x_0 y_1 u R := by kernel_rfl

theorem c_mul64 (x_0 : Int) (y_1 : Int) (u : View) (R : Value → View → Prop) (hp : preOK u []) (h : W_mul64 x_0 y_1 u R) :
    CallsV Try.prog F_mul64 #[(.int .u64 x_0), (.int .u64 y_1)] u R :=
  fcall (L0 := []) (xs := [.v (.int .u64 x_0), .v (.int .u64 y_1)]) (fn := Try.f111) (by kernel_rfl) (by kernel_rfl) (by kernel_rfl) (by kernel_rfl) hp (Eq.mpr (vc_mul64 x_0 y_1 u R) h)

/- (*spec.l01Src).pick:  -/
abbrev F_pick2 : FuncId := 42
def W_pick2 (s_0 : Addr) (l_1 : Sl) (u : View) (R : Value → View → Prop) : Prop :=
  CallsV Try.prog 40 #[Value.pointer (some s_0), Value.int IntKind.i64 (↑(Sl.n l_1) : Int)] u fun (v : Value) (u' : View) =>
  ∃ (x : Int),
  v = Value.int IntKind.i64 x ∧
  ∃ (ad : Addr), Sl.p l_1 = some ad ∧ 0 ≤ x ∧ x < (↑(Sl.n l_1) : Int) ∧ ∃ (x_1 : ByteArray), View.cell u' (Addr.add ad (Int.toNat x * 1)) = some (Value.string x_1) ∧ R (Value.string x_1) u'

theorem vc_pick2 (s_0 : Addr) (l_1 : Sl) (u : View) (R : Value → View → Prop) : VCfun Try.prog 149 pf (Option.getD Try.f42.body .skip) Try.f42.results.toList .no [] [.v (.pointer (some s_0)), .v (.slice l_1.p l_1.n l_1.c)] [] u R = W_pick2 s_0 l_1 u R := by kernel_rfl

theorem c_pick2 (s_0 : Addr) (l_1 : Sl) (u : View) (R : Value → View → Prop) (hp : preOK u []) (h : W_pick2 s_0 l_1 u R) :
    CallsV Try.prog F_pick2 #[(.pointer (some s_0)), (.slice l_1.p l_1.n l_1.c)] u R :=
  fcall (L0 := []) (xs := [.v (.pointer (some s_0)), .v (.slice l_1.p l_1.n l_1.c)]) (fn := Try.f42) (by kernel_rfl) (by kernel_rfl) (by kernel_rfl) (by kernel_rfl) hp (Eq.mpr (vc_pick2 s_0 l_1 u R) h)

/- (*spec.l01Src).one:  -/
abbrev F_one2 : FuncId := 39
def W_one2 (s_0 : Addr) (of : Int) (u : View) (R : Value → View → Prop) : Prop :=
  CallsV Try.prog 40 #[Value.pointer (some s_0), Value.int IntKind.i64 of] u fun (v : Value) (u' : View) => ∃ (x : Int), v = Value.int IntKind.i64 x ∧ R (Value.bool (x == 0)) u'

theorem vc_one2 (s_0 : Addr) (of : Int) (u : View) (R : Value → View → Prop) : VCfun Try.prog 149 pf (Option.getD Try.f39.body .skip) Try.f39.results.toList .no [] [.v (.pointer (some s_0)), .v (.int .i64 of)] [] u R = W_one2 s_0 of u R := by kernel_rfl

theorem c_one2 (s_0 : Addr) (of : Int) (u : View) (R : Value → View → Prop) (hp : preOK u []) (h : W_one2 s_0 of u R) :
    CallsV Try.prog F_one2 #[(.pointer (some s_0)), (.int .i64 of)] u R :=
  fcall (L0 := []) (xs := [.v (.pointer (some s_0)), .v (.int .i64 of)]) (fn := Try.f39) (by kernel_rfl) (by kernel_rfl) (by kernel_rfl) (by kernel_rfl) hp (Eq.mpr (vc_one2 s_0 of u R) h)

end Go.Proofs.Ytkjddlgaldnbnaa
