import Derived.Test.YtkjddlgaldnbnaaLA

/-
  WHAT IS TO BE SHOWN OF FUNCTIONS (printed by wip/gen/walk.py), and that it is that.
-/
set_option linter.unusedVariables false
set_option maxRecDepth 20000
namespace Go.Proofs.Ytkjddlgaldnbnaa

/- spec.l01Source: loop: i ; own [0] | cut:  ; own [] -/
abbrev F_l01Source : FuncId := 21
def W_l01Source (code : Sl) (u : View) (R : Value → View → Prop) : Prop :=
  ∀ (b : Nat),
  View.lim u ≤ b →
  ∃ (I : Int × Sl × Int × Int × Int × View → Prop),
  ∃ (μ : Int × Sl × Int × Int × Int × View → Nat),
  (I (0, Sl.mk (Sl.p code) (Sl.n code) (Sl.c code), 0, 88172645463325252, 0, u) ∧ sameL [] [] ∧ True) ∧
  ∀ (junk : Nat → Value) (x : Int) (x_1 : Sl) (x_2 x_3 x_4 : Int) (u : View),
  I (x, x_1, x_2, x_3, x_4, u) →
  ∃ (J : View → Prop),
  ((decide (x < (↑(Sl.n code) : Int)) = true →
  (decide (x < 64) = true →
  J u ∧
  sameL [Value.slice (Sl.p x_1) (Sl.n x_1) (Sl.c x_1), Value.int IntKind.i64 x_2, Value.int IntKind.u64 x_3, Value.int IntKind.i64 x_4]
  [Value.slice (Sl.p x_1) (Sl.n x_1) (Sl.c x_1), Value.int IntKind.i64 x_2, Value.int IntKind.u64 x_3, Value.int IntKind.i64 x_4] ∧
  True) ∧
  (decide (x < 64) = false →
  Int.ofNat 20 ≠ Int.ofNat 0 ∧
  (decide (IntKind.wrap IntKind.i64 (Int.tdiv (↑(Sl.n code) : Int) 20) > 12) = true →
  R (Value.pointer (some (Addr.mk b 0 none)))
  (View.set u b (Obj.cells #[Value.slice (Sl.p x_1) (Sl.n x_1) (Sl.c x_1), Value.int IntKind.i64 x_2, Value.int IntKind.u64 x_3, Value.int IntKind.i64 12] 76))) ∧
  (decide (IntKind.wrap IntKind.i64 (Int.tdiv (↑(Sl.n code) : Int) 20) > 12) = false →
  R (Value.pointer (some (Addr.mk b 0 none)))
  (View.set u b
  (Obj.cells
  #[Value.slice (Sl.p x_1) (Sl.n x_1) (Sl.c x_1), Value.int IntKind.i64 x_2, Value.int IntKind.u64 x_3,
  Value.int IntKind.i64 (IntKind.wrap IntKind.i64 (Int.tdiv (↑(Sl.n code) : Int) 20))]
  76))))) ∧
  (decide (x < (↑(Sl.n code) : Int)) = false →
  Int.ofNat 20 ≠ Int.ofNat 0 ∧
  (decide (IntKind.wrap IntKind.i64 (Int.tdiv (↑(Sl.n code) : Int) 20) > 12) = true →
  R (Value.pointer (some (Addr.mk b 0 none)))
  (View.set u b (Obj.cells #[Value.slice (Sl.p x_1) (Sl.n x_1) (Sl.c x_1), Value.int IntKind.i64 x_2, Value.int IntKind.u64 x_3, Value.int IntKind.i64 12] 76))) ∧
  (decide (IntKind.wrap IntKind.i64 (Int.tdiv (↑(Sl.n code) : Int) 20) > 12) = false →
  R (Value.pointer (some (Addr.mk b 0 none)))
  (View.set u b
  (Obj.cells
  #[Value.slice (Sl.p x_1) (Sl.n x_1) (Sl.c x_1), Value.int IntKind.i64 x_2, Value.int IntKind.u64 x_3,
  Value.int IntKind.i64 (IntKind.wrap IntKind.i64 (Int.tdiv (↑(Sl.n code) : Int) 20))]
  76))))) ∧
  ∀ (junk : Nat → Value) (u_1 : View),
  J u_1 →
  ∃ (ad : Addr),
  Sl.p code = some ad ∧
  0 ≤ x ∧
  x < (↑(Sl.n code) : Int) ∧
  ∃ (x_5 : Int),
  View.cell u_1 (Addr.add ad (Int.toNat x * 1)) = some (Value.int IntKind.u8 x_5) ∧
  (I
  (IntKind.wrap IntKind.i64 (x + 1), Sl.mk (Sl.p x_1) (Sl.n x_1) (Sl.c x_1), x_2,
  IntKind.wrap IntKind.u64
  (IntKind.wrap IntKind.u64 (↑(BitVec.toNat (BitVec.ofInt 64 x_3 ^^^ BitVec.ofInt 64 (IntKind.wrap IntKind.u64 x_5))) : Int) * 1099511628211),
  x_4, u_1) ∧
  μ
  (IntKind.wrap IntKind.i64 (x + 1), Sl.mk (Sl.p x_1) (Sl.n x_1) (Sl.c x_1), x_2,
  IntKind.wrap IntKind.u64
  (IntKind.wrap IntKind.u64 (↑(BitVec.toNat (BitVec.ofInt 64 x_3 ^^^ BitVec.ofInt 64 (IntKind.wrap IntKind.u64 x_5))) : Int) * 1099511628211),
  x_4, u_1) <
  μ (x, x_1, x_2, x_3, x_4, u)) ∧
  sameL [] [] ∧ True

theorem vc_l01Source (code : Sl) (u : View) (R : Value → View → Prop) : VCfun Try.prog 149 pf (Option.getD Try.f21.body .skip) Try.f21.results.toList (.seq .no (.seq .no (.seq (.seq .no (.block (.loop [(4, .one (.int .i64))] [(4, 5), (8, 32)] [0] (.cut [] [(8, 16)] [] .no .no)))) .no))) [] [.v (.slice code.p code.n code.c)] [] u R = W_l01Source code u R := by kernel_rfl

theorem c_l01Source (code : Sl) (u : View) (R : Value → View → Prop) (hp : preOK u []) (h : W_l01Source code u R) :
    CallsV Try.prog F_l01Source #[(.slice code.p code.n code.c)] u R :=
  fcall (L0 := []) (xs := [.v (.slice code.p code.n code.c)]) (fn := Try.f21) (by kernel_rfl) (by kernel_rfl) (by kernel_rfl) (by kernel_rfl) hp (Eq.mpr (vc_l01Source code u R) h)

/- (*spec.l01Src).n: cut: t5 ; own [0] -/
abbrev F_n : FuncId := 40
def W_n (d_0 : Nat) (d_0_0 : Sl) (d_0_1 : Int) (d_0_2 : Int) (d_0_3 : Int) (o_1 : Int) (u : View) (R : Value → View → Prop) : Prop :=
  (decide (o_1 ≤ 1) = true →
  R (Value.int IntKind.i64 0)
  (View.set (View.del u d_0) d_0 (Obj.cells #[Value.slice (Sl.p d_0_0) (Sl.n d_0_0) (Sl.c d_0_0), Value.int IntKind.i64 d_0_1, Value.int IntKind.u64 d_0_2, Value.int IntKind.i64 d_0_3] 76))) ∧
  (decide (o_1 ≤ 1) = false →
  ∃ (J : Int × Sl × Int × Int × Int × View → Prop),
  ((decide (d_0_1 < (↑(Sl.n d_0_0) : Int)) = true →
  ∃ (ad : Addr),
  Sl.p d_0_0 = some ad ∧
  0 ≤ d_0_1 ∧
  d_0_1 < (↑(Sl.n d_0_0) : Int) ∧
  ∃ (x : Int),
  View.cell (View.del u d_0) (Addr.add ad (Int.toNat d_0_1 * 1)) = some (Value.int IntKind.u8 x) ∧
  J (IntKind.wrap IntKind.u64 x, Sl.mk (Sl.p d_0_0) (Sl.n d_0_0) (Sl.c d_0_0), IntKind.wrap IntKind.i64 (d_0_1 + 1), d_0_2, d_0_3, View.del u d_0) ∧ sameL [] [] ∧ True) ∧
  (decide (d_0_1 < (↑(Sl.n d_0_0) : Int)) = false → J (0, Sl.mk (Sl.p d_0_0) (Sl.n d_0_0) (Sl.c d_0_0), d_0_1, d_0_2, d_0_3, View.del u d_0) ∧ sameL [] [] ∧ True)) ∧
  ∀ (junk : Nat → Value) (x : Int) (x_1 : Sl) (x_2 x_3 x_4 : Int) (u : View),
  J (x, x_1, x_2, x_3, x_4, u) →
  Int.ofNat 0 ≤ Int.ofNat 13 ∧
  Int.ofNat 0 ≤ Int.ofNat 7 ∧
  Int.ofNat 0 ≤ Int.ofNat 17 ∧
  Int.ofNat 0 ≤ Int.ofNat 20 ∧
  IntKind.wrap IntKind.u64 o_1 ≠ 0 ∧
  R
  (Value.int IntKind.i64
  (IntKind.wrap IntKind.i64
  (Int.tmod
  (IntKind.wrap IntKind.u64
  (x +
  Int.fdiv
  (IntKind.wrap IntKind.u64
  (↑(BitVec.toNat
  (BitVec.ofInt 64
  (IntKind.wrap IntKind.u64
  (↑(BitVec.toNat
  (BitVec.ofInt 64
  (IntKind.wrap IntKind.u64
  (↑(BitVec.toNat
  (BitVec.ofInt 64 x_3 ^^^ BitVec.ofInt 64 (IntKind.wrap IntKind.u64 (x_3 * 2 ^ min (Int.toNat 13) (IntKind.bits IntKind.u64))))) :
  Int)) ^^^
  BitVec.ofInt 64
  (Int.fdiv
  (IntKind.wrap IntKind.u64
  (↑(BitVec.toNat
  (BitVec.ofInt 64 x_3 ^^^ BitVec.ofInt 64 (IntKind.wrap IntKind.u64 (x_3 * 2 ^ min (Int.toNat 13) (IntKind.bits IntKind.u64))))) :
  Int))
  (2 ^ min (Int.toNat 7) (IntKind.bits IntKind.u64))))) :
  Int)) ^^^
  BitVec.ofInt 64
  (IntKind.wrap IntKind.u64
  (IntKind.wrap IntKind.u64
  (↑(BitVec.toNat
  (BitVec.ofInt 64
  (IntKind.wrap IntKind.u64
  (↑(BitVec.toNat
  (BitVec.ofInt 64 x_3 ^^^
  BitVec.ofInt 64 (IntKind.wrap IntKind.u64 (x_3 * 2 ^ min (Int.toNat 13) (IntKind.bits IntKind.u64))))) :
  Int)) ^^^
  BitVec.ofInt 64
  (Int.fdiv
  (IntKind.wrap IntKind.u64
  (↑(BitVec.toNat
  (BitVec.ofInt 64 x_3 ^^^
  BitVec.ofInt 64 (IntKind.wrap IntKind.u64 (x_3 * 2 ^ min (Int.toNat 13) (IntKind.bits IntKind.u64))))) :
  Int))
  (2 ^ min (Int.toNat 7) (IntKind.bits IntKind.u64))))) :
  Int) *
  2 ^ min (Int.toNat 17) (IntKind.bits IntKind.u64))))) :
  Int))
  (2 ^ min (Int.toNat 20) (IntKind.bits IntKind.u64))))
  (IntKind.wrap IntKind.u64 o_1))))
  (View.set u d_0
  (Obj.cells
  #[Value.slice (Sl.p x_1) (Sl.n x_1) (Sl.c x_1), Value.int IntKind.i64 x_2,
  Value.int IntKind.u64
  (IntKind.wrap IntKind.u64
  (↑(BitVec.toNat
  (BitVec.ofInt 64
  (IntKind.wrap IntKind.u64
  (↑(BitVec.toNat
  (BitVec.ofInt 64
  (IntKind.wrap IntKind.u64
  (↑(BitVec.toNat
  (BitVec.ofInt 64 x_3 ^^^ BitVec.ofInt 64 (IntKind.wrap IntKind.u64 (x_3 * 2 ^ min (Int.toNat 13) (IntKind.bits IntKind.u64))))) :
  Int)) ^^^
  BitVec.ofInt 64
  (Int.fdiv
  (IntKind.wrap IntKind.u64
  (↑(BitVec.toNat
  (BitVec.ofInt 64 x_3 ^^^ BitVec.ofInt 64 (IntKind.wrap IntKind.u64 (x_3 * 2 ^ min (Int.toNat 13) (IntKind.bits IntKind.u64))))) :
  Int))
  (2 ^ min (Int.toNat 7) (IntKind.bits IntKind.u64))))) :
  Int)) ^^^
  BitVec.ofInt 64
  (IntKind.wrap IntKind.u64
  (IntKind.wrap IntKind.u64
  (↑(BitVec.toNat
  (BitVec.ofInt 64
  (IntKind.wrap IntKind.u64
  (↑(BitVec.toNat
  (BitVec.ofInt 64 x_3 ^^^ BitVec.ofInt 64 (IntKind.wrap IntKind.u64 (x_3 * 2 ^ min (Int.toNat 13) (IntKind.bits IntKind.u64))))) :
  Int)) ^^^
  BitVec.ofInt 64
  (Int.fdiv
  (IntKind.wrap IntKind.u64
  (↑(BitVec.toNat
  (BitVec.ofInt 64 x_3 ^^^ BitVec.ofInt 64 (IntKind.wrap IntKind.u64 (x_3 * 2 ^ min (Int.toNat 13) (IntKind.bits IntKind.u64))))) :
  Int))
  (2 ^ min (Int.toNat 7) (IntKind.bits IntKind.u64))))) :
  Int) *
  2 ^ min (Int.toNat 17) (IntKind.bits IntKind.u64))))) :
  Int)),
  Value.int IntKind.i64 x_4]
  76)))

theorem vc_n (d_0 : Nat) (d_0_0 : Sl) (d_0_1 : Int) (d_0_2 : Int) (d_0_3 : Int) (o_1 : Int) (u : View) (R : Value → View → Prop) : VCfun Try.prog 149 pf (Option.getD Try.f40.body .skip) Try.f40.results.toList (.seq .no (.seq .no (.seq .no (.cut [(5, .one (.int .u64))] [(5, 6), (8, 37)] [0] .no .no)))) [⟨d_0, 76, [.sl, .int .i64, .int .u64, .int .i64], [.slice d_0_0.p d_0_0.n d_0_0.c, .int .i64 d_0_1, .int .u64 d_0_2, .int .i64 d_0_3]⟩] [.loc 0 0, .v (.int .i64 o_1)] [0] u R = W_n d_0 d_0_0 d_0_1 d_0_2 d_0_3 o_1 u R := by kernel_rfl

theorem c_n (d_0 : Nat) (d_0_0 : Sl) (d_0_1 : Int) (d_0_2 : Int) (d_0_3 : Int) (o_1 : Int) (u : View) (R : Value → View → Prop) (hp : preOK u [⟨d_0, 76, [.sl, .int .i64, .int .u64, .int .i64], [.slice d_0_0.p d_0_0.n d_0_0.c, .int .i64 d_0_1, .int .u64 d_0_2, .int .i64 d_0_3]⟩]) (h : W_n d_0 d_0_0 d_0_1 d_0_2 d_0_3 o_1 u R) :
    CallsV Try.prog F_n #[.pointer (some ⟨d_0, 0, none⟩), (.int .i64 o_1)] u R :=
  fcall (L0 := [⟨d_0, 76, [.sl, .int .i64, .int .u64, .int .i64], [.slice d_0_0.p d_0_0.n d_0_0.c, .int .i64 d_0_1, .int .u64 d_0_2, .int .i64 d_0_3]⟩]) (xs := [.loc 0 0, .v (.int .i64 o_1)]) (fn := Try.f40) (by kernel_rfl) (by kernel_rfl) (by kernel_rfl) (by kernel_rfl) hp (Eq.mpr (vc_n d_0 d_0_0 d_0_1 d_0_2 d_0_3 o_1 u R) h)

/- (*spec.l01Src).pick:  -/
abbrev F_pick : FuncId := 42
def W_pick (s_0 : Nat) (s_0_0 : Sl) (s_0_1 : Int) (s_0_2 : Int) (s_0_3 : Int) (l_1 : Sl) (u : View) (R : Value → View → Prop) : Prop :=
  ∀ (uc : View),
  View.lim (View.del u s_0) ≤ View.lim uc →
  (∀ (b : Nat) (o : Obj), View.m (View.del u s_0) b = some o → View.m uc b = some o) →
  View.m (View.del u s_0) s_0 = none →
  s_0 < View.lim uc →
  View.m uc s_0 = some (Obj.cells #[Value.slice (Sl.p s_0_0) (Sl.n s_0_0) (Sl.c s_0_0), Value.int IntKind.i64 s_0_1, Value.int IntKind.u64 s_0_2, Value.int IntKind.i64 s_0_3] 76) →
  CallsV Try.prog 40 #[Value.pointer (some (Addr.mk s_0 0 none)), Value.int IntKind.i64 (↑(Sl.n l_1) : Int)] uc fun (v : Value) (u' : View) =>
  ∃ (x : Int),
  v = Value.int IntKind.i64 x ∧
  ∃ (x_1 : Sl),
  ∃ (x_2 : Int),
  ∃ (x_3 : Int),
  ∃ (x_4 : Int),
  View.m u' s_0 = some (Obj.cells #[Value.slice (Sl.p x_1) (Sl.n x_1) (Sl.c x_1), Value.int IntKind.i64 x_2, Value.int IntKind.u64 x_3, Value.int IntKind.i64 x_4] 76) ∧
  ∀ (u'' : View),
  View.lim u'' = View.lim u' →
  (∀ (b : Nat) (o o' : Obj), View.m (View.del u s_0) b = some o → View.m u' b = some o' → View.m u'' b = some o') →
  (∀ (b : Nat) (o : Obj), View.lim uc ≤ b → View.m u' b = some o → View.m u'' b = some o) →
  ∃ (ad : Addr),
  Sl.p l_1 = some ad ∧
  0 ≤ x ∧
  x < (↑(Sl.n l_1) : Int) ∧
  ∃ (x_5 : ByteArray),
  View.cell u'' (Addr.add ad (Int.toNat x * 1)) = some (Value.string x_5) ∧
  R (Value.string x_5)
  (View.set u'' s_0
  (Obj.cells #[Value.slice (Sl.p x_1) (Sl.n x_1) (Sl.c x_1), Value.int IntKind.i64 x_2, Value.int IntKind.u64 x_3, Value.int IntKind.i64 x_4] 76))

theorem vc_pick (s_0 : Nat) (s_0_0 : Sl) (s_0_1 : Int) (s_0_2 : Int) (s_0_3 : Int) (l_1 : Sl) (u : View) (R : Value → View → Prop) : VCfun Try.prog 149 pf (Option.getD Try.f42.body .skip) Try.f42.results.toList .no [⟨s_0, 76, [.sl, .int .i64, .int .u64, .int .i64], [.slice s_0_0.p s_0_0.n s_0_0.c, .int .i64 s_0_1, .int .u64 s_0_2, .int .i64 s_0_3]⟩] [.loc 0 0, .v (.slice l_1.p l_1.n l_1.c)] [0] u R = W_pick s_0 s_0_0 s_0_1 s_0_2 s_0_3 l_1 u R := by kernel_rfl

theorem c_pick (s_0 : Nat) (s_0_0 : Sl) (s_0_1 : Int) (s_0_2 : Int) (s_0_3 : Int) (l_1 : Sl) (u : View) (R : Value → View → Prop) (hp : preOK u [⟨s_0, 76, [.sl, .int .i64, .int .u64, .int .i64], [.slice s_0_0.p s_0_0.n s_0_0.c, .int .i64 s_0_1, .int .u64 s_0_2, .int .i64 s_0_3]⟩]) (h : W_pick s_0 s_0_0 s_0_1 s_0_2 s_0_3 l_1 u R) :
    CallsV Try.prog F_pick #[.pointer (some ⟨s_0, 0, none⟩), (.slice l_1.p l_1.n l_1.c)] u R :=
  fcall (L0 := [⟨s_0, 76, [.sl, .int .i64, .int .u64, .int .i64], [.slice s_0_0.p s_0_0.n s_0_0.c, .int .i64 s_0_1, .int .u64 s_0_2, .int .i64 s_0_3]⟩]) (xs := [.loc 0 0, .v (.slice l_1.p l_1.n l_1.c)]) (fn := Try.f42) (by kernel_rfl) (by kernel_rfl) (by kernel_rfl) (by kernel_rfl) hp (Eq.mpr (vc_pick s_0 s_0_0 s_0_1 s_0_2 s_0_3 l_1 u R) h)

/- (*spec.l01Src).one:  -/
abbrev F_one : FuncId := 39
def W_one (s_0 : Nat) (s_0_0 : Sl) (s_0_1 : Int) (s_0_2 : Int) (s_0_3 : Int) (of : Int) (u : View) (R : Value → View → Prop) : Prop :=
  ∀ (uc : View),
  View.lim (View.del u s_0) ≤ View.lim uc →
  (∀ (b : Nat) (o : Obj), View.m (View.del u s_0) b = some o → View.m uc b = some o) →
  View.m (View.del u s_0) s_0 = none →
  s_0 < View.lim uc →
  View.m uc s_0 = some (Obj.cells #[Value.slice (Sl.p s_0_0) (Sl.n s_0_0) (Sl.c s_0_0), Value.int IntKind.i64 s_0_1, Value.int IntKind.u64 s_0_2, Value.int IntKind.i64 s_0_3] 76) →
  CallsV Try.prog 40 #[Value.pointer (some (Addr.mk s_0 0 none)), Value.int IntKind.i64 of] uc fun (v : Value) (u' : View) =>
  ∃ (x : Int),
  v = Value.int IntKind.i64 x ∧
  ∃ (x_1 : Sl),
  ∃ (x_2 : Int),
  ∃ (x_3 : Int),
  ∃ (x_4 : Int),
  View.m u' s_0 = some (Obj.cells #[Value.slice (Sl.p x_1) (Sl.n x_1) (Sl.c x_1), Value.int IntKind.i64 x_2, Value.int IntKind.u64 x_3, Value.int IntKind.i64 x_4] 76) ∧
  ∀ (u'' : View),
  View.lim u'' = View.lim u' →
  (∀ (b : Nat) (o o' : Obj), View.m (View.del u s_0) b = some o → View.m u' b = some o' → View.m u'' b = some o') →
  (∀ (b : Nat) (o : Obj), View.lim uc ≤ b → View.m u' b = some o → View.m u'' b = some o) →
  R (Value.bool (x == 0))
  (View.set u'' s_0 (Obj.cells #[Value.slice (Sl.p x_1) (Sl.n x_1) (Sl.c x_1), Value.int IntKind.i64 x_2, Value.int IntKind.u64 x_3, Value.int IntKind.i64 x_4] 76))

theorem vc_one (s_0 : Nat) (s_0_0 : Sl) (s_0_1 : Int) (s_0_2 : Int) (s_0_3 : Int) (of : Int) (u : View) (R : Value → View → Prop) : VCfun Try.prog 149 pf (Option.getD Try.f39.body .skip) Try.f39.results.toList .no [⟨s_0, 76, [.sl, .int .i64, .int .u64, .int .i64], [.slice s_0_0.p s_0_0.n s_0_0.c, .int .i64 s_0_1, .int .u64 s_0_2, .int .i64 s_0_3]⟩] [.loc 0 0, .v (.int .i64 of)] [0] u R = W_one s_0 s_0_0 s_0_1 s_0_2 s_0_3 of u R := by kernel_rfl

theorem c_one (s_0 : Nat) (s_0_0 : Sl) (s_0_1 : Int) (s_0_2 : Int) (s_0_3 : Int) (of : Int) (u : View) (R : Value → View → Prop) (hp : preOK u [⟨s_0, 76, [.sl, .int .i64, .int .u64, .int .i64], [.slice s_0_0.p s_0_0.n s_0_0.c, .int .i64 s_0_1, .int .u64 s_0_2, .int .i64 s_0_3]⟩]) (h : W_one s_0 s_0_0 s_0_1 s_0_2 s_0_3 of u R) :
    CallsV Try.prog F_one #[.pointer (some ⟨s_0, 0, none⟩), (.int .i64 of)] u R :=
  fcall (L0 := [⟨s_0, 76, [.sl, .int .i64, .int .u64, .int .i64], [.slice s_0_0.p s_0_0.n s_0_0.c, .int .i64 s_0_1, .int .u64 s_0_2, .int .i64 s_0_3]⟩]) (xs := [.loc 0 0, .v (.int .i64 of)]) (fn := Try.f39) (by kernel_rfl) (by kernel_rfl) (by kernel_rfl) (by kernel_rfl) hp (Eq.mpr (vc_one s_0 s_0_0 s_0_1 s_0_2 s_0_3 of u R) h)

/- (*spec.l01Src).l11Exprs: cut: t15 ; own [] | cut:  ; own [] -/
abbrev F_exprs : FuncId := 104
def W_exprs (d_0 : Addr) (o_1 : Int) (u : View) (R : Value → View → Prop) : Prop :=
  ∀ (b : Nat),
  View.lim u ≤ b →
  ∃ (J : View → Prop),
  ((decide (o_1 ≤ 0) = false →
  CallsV Try.prog 39 #[Value.pointer (some d_0), Value.int IntKind.i64 3]
  (View.set u b (Obj.cells #[Value.string (ByteArray.mk #[120]), Value.string (ByteArray.mk #[121]), Value.string (ByteArray.mk #[110, 45, 97])] 9)) fun (v : Value) (u' : View) =>
  ∃ (x : Bool),
  v = Value.bool x ∧
  (x = true →
  ∃ (J : Int × View → Prop),
  (CallsV Try.prog 40 #[Value.pointer (some d_0), Value.int IntKind.i64 5] u' fun (v : Value) (u' : View) => ∃ (x : Int), v = Value.int IntKind.i64 x ∧ J (x, u') ∧ True) ∧
  ∀ (junk : Nat → Value) (x : Int) (u : View),
  J (x, u) →
  ((x == 0) = true →
  CallsV Try.prog 42 #[Value.pointer (some d_0), Value.slice (some (Addr.mk b 0 none)) 3 3] u fun (v : Value) (u' : View) =>
  ∃ (x : ByteArray),
  v = Value.string x ∧
  ∀ (b : Nat),
  View.lim u' ≤ b →
  R (Value.slice (some (Addr.mk b 0 none)) 1 1)
  (View.set u' b (Obj.cells #[Value.int IntKind.i64 12, Value.int IntKind.i64 0, Value.string x, Value.int IntKind.i64 0] 81))) ∧
  ((x == 0) = false →
  ((x == 1) = true →
  CallsV Try.prog 40 #[Value.pointer (some d_0), Value.int IntKind.i64 3] u fun (v : Value) (u' : View) =>
  ∃ (x : Int),
  v = Value.int IntKind.i64 x ∧
  ∀ (b : Nat),
  View.lim u' ≤ b →
  R (Value.slice (some (Addr.mk b 0 none)) 1 1)
  (View.set u' b
  (Obj.cells
  #[Value.int IntKind.i64 (IntKind.wrap IntKind.i64 (13 + x)), Value.int IntKind.i64 0, Value.string (ByteArray.mk #[]), Value.int IntKind.i64 0]
  81))) ∧
  ((x == 1) = false →
  ((x == 2) = true →
  ∀ (b : Nat),
  View.lim u ≤ b →
  CallsV Try.prog 40 #[Value.pointer (some d_0), Value.int IntKind.i64 5]
  (View.set u b
  (Obj.cells
  #[Value.int IntKind.i64 97, Value.int IntKind.i64 98, Value.int IntKind.i64 10, Value.int IntKind.i64 999999999, Value.int IntKind.i64 55296] 2))
  fun (v : Value) (u' : View) =>
  ∃ (x : Int),
  v = Value.int IntKind.i64 x ∧
  ∃ (ad : Addr),
  some (Addr.mk b 0 none) = some ad ∧
  0 ≤ x ∧
  x < (↑5 : Int) ∧
  ∃ (x_1 : Int),
  View.cell u' (Addr.add ad (Int.toNat x * 1)) = some (Value.int IntKind.i64 x_1) ∧
  ∀ (b : Nat),
  View.lim u' ≤ b →
  R (Value.slice (some (Addr.mk b 0 none)) 1 1)
  (View.set u' b
  (Obj.cells #[Value.int IntKind.i64 11, Value.int IntKind.i64 x_1, Value.string (ByteArray.mk #[]), Value.int IntKind.i64 0]
  81))) ∧
  ((x == 2) = false →
  CallsV Try.prog 40 #[Value.pointer (some d_0), Value.int IntKind.i64 6] u fun (v : Value) (u' : View) =>
  ∃ (x : Int),
  v = Value.int IntKind.i64 x ∧
  ∀ (b : Nat),
  View.lim u' ≤ b →
  R (Value.slice (some (Addr.mk b 0 none)) 1 1)
  (View.set u' b
  (Obj.cells #[Value.int IntKind.i64 11, Value.int IntKind.i64 x, Value.string (ByteArray.mk #[]), Value.int IntKind.i64 0] 81)))))) ∧
  (x = false → J u' ∧ True)) ∧
  (decide (o_1 ≤ 0) = true →
  ∃ (J : Int × View → Prop),
  (CallsV Try.prog 40 #[Value.pointer (some d_0), Value.int IntKind.i64 5]
  (View.set u b (Obj.cells #[Value.string (ByteArray.mk #[120]), Value.string (ByteArray.mk #[121]), Value.string (ByteArray.mk #[110, 45, 97])] 9)) fun (v : Value) (u' : View) =>
  ∃ (x : Int), v = Value.int IntKind.i64 x ∧ J (x, u') ∧ True) ∧
  ∀ (junk : Nat → Value) (x : Int) (u : View),
  J (x, u) →
  ((x == 0) = true →
  CallsV Try.prog 42 #[Value.pointer (some d_0), Value.slice (some (Addr.mk b 0 none)) 3 3] u fun (v : Value) (u' : View) =>
  ∃ (x : ByteArray),
  v = Value.string x ∧
  ∀ (b : Nat),
  View.lim u' ≤ b →
  R (Value.slice (some (Addr.mk b 0 none)) 1 1)
  (View.set u' b (Obj.cells #[Value.int IntKind.i64 12, Value.int IntKind.i64 0, Value.string x, Value.int IntKind.i64 0] 81))) ∧
  ((x == 0) = false →
  ((x == 1) = true →
  CallsV Try.prog 40 #[Value.pointer (some d_0), Value.int IntKind.i64 3] u fun (v : Value) (u' : View) =>
  ∃ (x : Int),
  v = Value.int IntKind.i64 x ∧
  ∀ (b : Nat),
  View.lim u' ≤ b →
  R (Value.slice (some (Addr.mk b 0 none)) 1 1)
  (View.set u' b
  (Obj.cells #[Value.int IntKind.i64 (IntKind.wrap IntKind.i64 (13 + x)), Value.int IntKind.i64 0, Value.string (ByteArray.mk #[]), Value.int IntKind.i64 0]
  81))) ∧
  ((x == 1) = false →
  ((x == 2) = true →
  ∀ (b : Nat),
  View.lim u ≤ b →
  CallsV Try.prog 40 #[Value.pointer (some d_0), Value.int IntKind.i64 5]
  (View.set u b
  (Obj.cells #[Value.int IntKind.i64 97, Value.int IntKind.i64 98, Value.int IntKind.i64 10, Value.int IntKind.i64 999999999, Value.int IntKind.i64 55296] 2))
  fun (v : Value) (u' : View) =>
  ∃ (x : Int),
  v = Value.int IntKind.i64 x ∧
  ∃ (ad : Addr),
  some (Addr.mk b 0 none) = some ad ∧
  0 ≤ x ∧
  x < (↑5 : Int) ∧
  ∃ (x_1 : Int),
  View.cell u' (Addr.add ad (Int.toNat x * 1)) = some (Value.int IntKind.i64 x_1) ∧
  ∀ (b : Nat),
  View.lim u' ≤ b →
  R (Value.slice (some (Addr.mk b 0 none)) 1 1)
  (View.set u' b
  (Obj.cells #[Value.int IntKind.i64 11, Value.int IntKind.i64 x_1, Value.string (ByteArray.mk #[]), Value.int IntKind.i64 0] 81))) ∧
  ((x == 2) = false →
  CallsV Try.prog 40 #[Value.pointer (some d_0), Value.int IntKind.i64 6] u fun (v : Value) (u' : View) =>
  ∃ (x : Int),
  v = Value.int IntKind.i64 x ∧
  ∀ (b : Nat),
  View.lim u' ≤ b →
  R (Value.slice (some (Addr.mk b 0 none)) 1 1)
  (View.set u' b (Obj.cells #[Value.int IntKind.i64 11, Value.int IntKind.i64 x, Value.string (ByteArray.mk #[]), Value.int IntKind.i64 0] 81))))))) ∧
  ∀ (junk : Nat → Value) (u : View),
  J u →
  CallsV Try.prog 39 #[Value.pointer (some d_0), Value.int IntKind.i64 4] u fun (v : Value) (u' : View) =>
  ∃ (x : Bool),
  v = Value.bool x ∧
  (x = true →
  CallsV Try.prog 40 #[Value.pointer (some d_0), Value.int IntKind.i64 2] u' fun (v : Value) (u' : View) =>
  ∃ (x : Int),
  v = Value.int IntKind.i64 x ∧
  ∀ (b : Nat),
  View.lim u' ≤ b →
  CallsV Try.prog 104 #[Value.pointer (some d_0), Value.int IntKind.i64 (IntKind.wrap IntKind.i64 (o_1 - 1))]
  (View.set u' b
  (Obj.cells #[Value.int IntKind.i64 (IntKind.wrap IntKind.i64 (16 + x)), Value.int IntKind.i64 0, Value.string (ByteArray.mk #[]), Value.int IntKind.i64 1] 81))
  fun (v : Value) (u' : View) =>
  ∃ (x : Sl),
  v = Value.slice (Sl.p x) (Sl.n x) (Sl.c x) ∧
  ∃ (new : List Value),
  List.length new = Sl.n x * 4 ∧
  (∀ (v : Value), v ∈ new → Value.oneCell' v = true) ∧
  CellsO u' (Sl.p x) new ∧
  appPre u' (some (Addr.mk b 0 none)) 1 1 4 40 (Sl.n x) new ∧
  ∀ (s' : Sl) (u'_1 : View),
  appPost u' (some (Addr.mk b 0 none)) 1 1 4
  (Value.agg #[Value.int IntKind.i64 0, Value.int IntKind.i64 0, Value.string (ByteArray.mk #[]), Value.int IntKind.i64 0]) 81 (Sl.n x) new s'
  u'_1 →
  R (Value.slice (Sl.p s') (Sl.n s') (Sl.c s')) u'_1) ∧
  (x = false →
  CallsV Try.prog 40 #[Value.pointer (some d_0), Value.int IntKind.i64 9] u' fun (v : Value) (u' : View) =>
  ∃ (x : Int),
  v = Value.int IntKind.i64 x ∧
  ∀ (b : Nat),
  View.lim u' ≤ b →
  CallsV Try.prog 104 #[Value.pointer (some d_0), Value.int IntKind.i64 (IntKind.wrap IntKind.i64 (o_1 - 1))]
  (View.set u' b
  (Obj.cells #[Value.int IntKind.i64 (IntKind.wrap IntKind.i64 (18 + x)), Value.int IntKind.i64 0, Value.string (ByteArray.mk #[]), Value.int IntKind.i64 2] 81))
  fun (v : Value) (u' : View) =>
  ∃ (x : Sl),
  v = Value.slice (Sl.p x) (Sl.n x) (Sl.c x) ∧
  ∃ (new : List Value),
  List.length new = Sl.n x * 4 ∧
  (∀ (v : Value), v ∈ new → Value.oneCell' v = true) ∧
  CellsO u' (Sl.p x) new ∧
  appPre u' (some (Addr.mk b 0 none)) 1 1 4 40 (Sl.n x) new ∧
  ∀ (s' : Sl) (u'_1 : View),
  appPost u' (some (Addr.mk b 0 none)) 1 1 4
  (Value.agg #[Value.int IntKind.i64 0, Value.int IntKind.i64 0, Value.string (ByteArray.mk #[]), Value.int IntKind.i64 0]) 81 (Sl.n x) new s'
  u'_1 →
  CallsV Try.prog 104 #[Value.pointer (some d_0), Value.int IntKind.i64 (IntKind.wrap IntKind.i64 (o_1 - 1))] u'_1 fun (v : Value) (u' : View) =>
  ∃ (x : Sl),
  v = Value.slice (Sl.p x) (Sl.n x) (Sl.c x) ∧
  ∃ (new : List Value),
  List.length new = Sl.n x * 4 ∧
  (∀ (v : Value), v ∈ new → Value.oneCell' v = true) ∧
  CellsO u' (Sl.p x) new ∧
  appPre u' (Sl.p s') (Sl.n s') (Sl.c s') 4 40 (Sl.n x) new ∧
  ∀ (s'_1 : Sl) (u'_2 : View),
  appPost u' (Sl.p s') (Sl.n s') (Sl.c s') 4
  (Value.agg #[Value.int IntKind.i64 0, Value.int IntKind.i64 0, Value.string (ByteArray.mk #[]), Value.int IntKind.i64 0]) 81
  (Sl.n x) new s'_1 u'_2 →
  R (Value.slice (Sl.p s'_1) (Sl.n s'_1) (Sl.c s'_1)) u'_2)

theorem vc_exprs (d_0 : Addr) (o_1 : Int) (u : View) (R : Value → View → Prop) : VCfun Try.prog 149 pf (Option.getD Try.f104.body .skip) Try.f104.results.toList (.seq .no (.seq .no (.cut [] [(4, 5), (8, 43)] [] (.seq .no (.cond (.seq (.cut [(15, .one (.int .i64))] [(14, 16)] [] .no .no) .no) .no)) .no))) [] [.v (.pointer (some d_0)), .v (.int .i64 o_1)] [] u R = W_exprs d_0 o_1 u R := by kernel_rfl

theorem c_exprs (d_0 : Addr) (o_1 : Int) (u : View) (R : Value → View → Prop) (hp : preOK u []) (h : W_exprs d_0 o_1 u R) :
    CallsV Try.prog F_exprs #[(.pointer (some d_0)), (.int .i64 o_1)] u R :=
  fcall (L0 := []) (xs := [.v (.pointer (some d_0)), .v (.int .i64 o_1)]) (fn := Try.f104) (by kernel_rfl) (by kernel_rfl) (by kernel_rfl) (by kernel_rfl) hp (Eq.mpr (vc_exprs d_0 o_1 u R) h)

/- (*spec.l01Src).point:  -/
abbrev F_point : FuncId := 105
def W_point (s_0 : Addr) (u : View) (R : Value → View → Prop) : Prop :=
  CallsV Try.prog 40 #[Value.pointer (some s_0), Value.int IntKind.i64 14] u fun (v : Value) (u' : View) =>
  ∃ (x : Int),
  v = Value.int IntKind.i64 x ∧
  ((x == 0) = true → R (Value.int IntKind.i64 32) u') ∧
  ((x == 0) = false →
  ((x == 1) = true → R (Value.int IntKind.i64 10) u') ∧
  ((x == 1) = false →
  ((x == 2) = true →
  ∀ (b : Nat),
  View.lim u' ≤ b →
  CallsV Try.prog 40 #[Value.pointer (some s_0), Value.int IntKind.i64 5]
  (View.set u' b (Obj.cells #[Value.int IntKind.i64 0, Value.int IntKind.i64 9, Value.int IntKind.i64 27, Value.int IntKind.i64 31, Value.int IntKind.i64 127] 2))
  fun (v : Value) (u' : View) =>
  ∃ (x : Int),
  v = Value.int IntKind.i64 x ∧
  ∃ (ad : Addr),
  some (Addr.mk b 0 none) = some ad ∧
  0 ≤ x ∧ x < (↑5 : Int) ∧ ∃ (x_1 : Int), View.cell u' (Addr.add ad (Int.toNat x * 1)) = some (Value.int IntKind.i64 x_1) ∧ R (Value.int IntKind.i64 x_1) u') ∧
  ((x == 2) = false →
  ((x == 3) = true →
  ∀ (b : Nat),
  View.lim u' ≤ b →
  CallsV Try.prog 40 #[Value.pointer (some s_0), Value.int IntKind.i64 20]
  (View.set u' b
  (Obj.cells
  #[Value.int IntKind.i64 768, Value.int IntKind.i64 879, Value.int IntKind.i64 880, Value.int IntKind.i64 4352, Value.int IntKind.i64 4447, Value.int IntKind.i64 4448,
  Value.int IntKind.i64 11903, Value.int IntKind.i64 11904, Value.int IntKind.i64 42191, Value.int IntKind.i64 42192, Value.int IntKind.i64 44032,
  Value.int IntKind.i64 55203, Value.int IntKind.i64 63744, Value.int IntKind.i64 64255, Value.int IntKind.i64 65281, Value.int IntKind.i64 65376,
  Value.int IntKind.i64 65377, Value.int IntKind.i64 127744, Value.int IntKind.i64 129791, Value.int IntKind.i64 129792]
  2))
  fun (v : Value) (u' : View) =>
  ∃ (x : Int),
  v = Value.int IntKind.i64 x ∧
  ∃ (ad : Addr),
  some (Addr.mk b 0 none) = some ad ∧
  0 ≤ x ∧ x < (↑20 : Int) ∧ ∃ (x_1 : Int), View.cell u' (Addr.add ad (Int.toNat x * 1)) = some (Value.int IntKind.i64 x_1) ∧ R (Value.int IntKind.i64 x_1) u') ∧
  ((x == 3) = false →
  ((x == 4) = true →
  ∀ (b : Nat),
  View.lim u' ≤ b →
  CallsV Try.prog 40 #[Value.pointer (some s_0), Value.int IntKind.i64 8]
  (View.set u' b
  (Obj.cells
  #[Value.int IntKind.i64 233, Value.int IntKind.i64 960, Value.int IntKind.i64 8364, Value.int IntKind.i64 65533, Value.int IntKind.i64 1114111,
  Value.int IntKind.i64 65535, Value.int IntKind.i64 55295, Value.int IntKind.i64 57344]
  2))
  fun (v : Value) (u' : View) =>
  ∃ (x : Int),
  v = Value.int IntKind.i64 x ∧
  ∃ (ad : Addr),
  some (Addr.mk b 0 none) = some ad ∧
  0 ≤ x ∧ x < (↑8 : Int) ∧ ∃ (x_1 : Int), View.cell u' (Addr.add ad (Int.toNat x * 1)) = some (Value.int IntKind.i64 x_1) ∧ R (Value.int IntKind.i64 x_1) u') ∧
  ((x == 4) = false →
  ((x == 5) = true →
  ∀ (b : Nat),
  View.lim u' ≤ b →
  CallsV Try.prog 40 #[Value.pointer (some s_0), Value.int IntKind.i64 5]
  (View.set u' b (Obj.cells #[Value.int IntKind.i64 46, Value.int IntKind.i64 44, Value.int IntKind.i64 45, Value.int IntKind.i64 40, Value.int IntKind.i64 36] 2))
  fun (v : Value) (u' : View) =>
  ∃ (x : Int),
  v = Value.int IntKind.i64 x ∧
  ∃ (ad : Addr),
  some (Addr.mk b 0 none) = some ad ∧
  0 ≤ x ∧
  x < (↑5 : Int) ∧ ∃ (x_1 : Int), View.cell u' (Addr.add ad (Int.toNat x * 1)) = some (Value.int IntKind.i64 x_1) ∧ R (Value.int IntKind.i64 x_1) u') ∧
  ((x == 5) = false →
  ((x == 6) = true →
  CallsV Try.prog 40 #[Value.pointer (some s_0), Value.int IntKind.i64 10] u' fun (v : Value) (u' : View) =>
  ∃ (x : Int), v = Value.int IntKind.i64 x ∧ R (Value.int IntKind.i64 (IntKind.wrap IntKind.i64 (48 + x))) u') ∧
  ((x == 6) = false →
  CallsV Try.prog 40 #[Value.pointer (some s_0), Value.int IntKind.i64 6] u' fun (v : Value) (u' : View) =>
  ∃ (x : Int), v = Value.int IntKind.i64 x ∧ R (Value.int IntKind.i64 (IntKind.wrap IntKind.i64 (97 + x))) u')))))))

theorem vc_point (s_0 : Addr) (u : View) (R : Value → View → Prop) : VCfun Try.prog 149 pf (Option.getD Try.f105.body .skip) Try.f105.results.toList .no [] [.v (.pointer (some s_0))] [] u R = W_point s_0 u R := by kernel_rfl

theorem c_point (s_0 : Addr) (u : View) (R : Value → View → Prop) (hp : preOK u []) (h : W_point s_0 u R) :
    CallsV Try.prog F_point #[(.pointer (some s_0))] u R :=
  fcall (L0 := []) (xs := [.v (.pointer (some s_0))]) (fn := Try.f105) (by kernel_rfl) (by kernel_rfl) (by kernel_rfl) (by kernel_rfl) hp (Eq.mpr (vc_point s_0 u R) h)

/- spec.l11Motions:  -/
abbrev F_motions : FuncId := 106
def W_motions  (u : View) (R : Value → View → Prop) : Prop :=
  ∀ (b : Nat),
  View.lim u ≤ b →
  R (Value.slice (some (Addr.mk b 0 none)) 11 11)
  (View.set u b
  (Obj.cells
  #[Value.string (ByteArray.mk #[]), Value.string (ByteArray.mk #[108, 101, 102, 116]), Value.string (ByteArray.mk #[114, 105, 103, 104, 116]),
  Value.string (ByteArray.mk #[119, 111, 114, 100, 45, 98, 97, 99, 107]), Value.string (ByteArray.mk #[119, 111, 114, 100, 45, 110, 101, 120, 116]),
  Value.string (ByteArray.mk #[108, 105, 110, 101, 45, 115, 116, 97, 114, 116]), Value.string (ByteArray.mk #[108, 105, 110, 101, 45, 101, 110, 100]),
  Value.string (ByteArray.mk #[117, 112]), Value.string (ByteArray.mk #[100, 111, 119, 110]), Value.string (ByteArray.mk #[102, 105, 114, 115, 116]),
  Value.string (ByteArray.mk #[108, 97, 115, 116])]
  9))

theorem vc_motions  (u : View) (R : Value → View → Prop) : VCfun Try.prog 149 pf (Option.getD Try.f106.body .skip) Try.f106.results.toList .no [] [] [] u R = W_motions  u R := by kernel_rfl

theorem c_motions  (u : View) (R : Value → View → Prop) (hp : preOK u []) (h : W_motions  u R) :
    CallsV Try.prog F_motions #[] u R :=
  fcall (L0 := []) (xs := []) (fn := Try.f106) (by kernel_rfl) (by kernel_rfl) (by kernel_rfl) (by kernel_rfl) hp (Eq.mpr (vc_motions  u R) h)

/- (*spec.l01Src).l11Stmts: cut: t6 ; own [] | loop: t6 t8 ; own [] | cut: t9 ; own [] -/
abbrev F_stmts : FuncId := 74
def W_stmts (d_0 : Addr) (o_1 : Int) (u : View) (R : Value → View → Prop) : Prop :=
  CallsV Try.prog 40 #[Value.pointer (some d_0), Value.int IntKind.i64 10] u fun (v : Value) (u' : View) =>
  ∃ (x : Int),
  v = Value.int IntKind.i64 x ∧
  ((x == 0) = true →
  ∀ (b : Nat),
  View.lim u' ≤ b →
  CallsV Try.prog 42 #[Value.pointer (some d_0), Value.slice (some (Addr.mk b 0 none)) 2 2]
  (View.set u' b (Obj.cells #[Value.string (ByteArray.mk #[120]), Value.string (ByteArray.mk #[121])] 9)) fun (v : Value) (u' : View) =>
  ∃ (x : ByteArray),
  v = Value.string x ∧
  ∀ (b : Nat),
  View.lim u' ≤ b →
  CallsV Try.prog 104 #[Value.pointer (some d_0), Value.int IntKind.i64 2]
  (View.set u' b (Obj.cells #[Value.int IntKind.i64 2, Value.int IntKind.i64 0, Value.string x, Value.int IntKind.i64 1] 81)) fun (v : Value) (u' : View) =>
  ∃ (x : Sl),
  v = Value.slice (Sl.p x) (Sl.n x) (Sl.c x) ∧
  ∃ (new : List Value),
  List.length new = Sl.n x * 4 ∧
  (∀ (v : Value), v ∈ new → Value.oneCell' v = true) ∧
  CellsO u' (Sl.p x) new ∧
  appPre u' (some (Addr.mk b 0 none)) 1 1 4 40 (Sl.n x) new ∧
  ∀ (s' : Sl) (u'_1 : View),
  appPost u' (some (Addr.mk b 0 none)) 1 1 4
  (Value.agg #[Value.int IntKind.i64 0, Value.int IntKind.i64 0, Value.string (ByteArray.mk #[]), Value.int IntKind.i64 0]) 81 (Sl.n x) new s' u'_1 →
  R (Value.slice (Sl.p s') (Sl.n s') (Sl.c s')) u'_1) ∧
  ((x == 0) = false →
  ((x == 1) = true →
  ∀ (b : Nat),
  View.lim u' ≤ b →
  CallsV Try.prog 42 #[Value.pointer (some d_0), Value.slice (some (Addr.mk b 0 none)) 2 2]
  (View.set u' b (Obj.cells #[Value.string (ByteArray.mk #[120]), Value.string (ByteArray.mk #[121])] 9)) fun (v : Value) (u' : View) =>
  ∃ (x : ByteArray),
  v = Value.string x ∧
  ∀ (b : Nat),
  View.lim u' ≤ b →
  CallsV Try.prog 104 #[Value.pointer (some d_0), Value.int IntKind.i64 2]
  (View.set u' b (Obj.cells #[Value.int IntKind.i64 2, Value.int IntKind.i64 0, Value.string x, Value.int IntKind.i64 1] 81)) fun (v : Value) (u' : View) =>
  ∃ (x : Sl),
  v = Value.slice (Sl.p x) (Sl.n x) (Sl.c x) ∧
  ∃ (new : List Value),
  List.length new = Sl.n x * 4 ∧
  (∀ (v : Value), v ∈ new → Value.oneCell' v = true) ∧
  CellsO u' (Sl.p x) new ∧
  appPre u' (some (Addr.mk b 0 none)) 1 1 4 40 (Sl.n x) new ∧
  ∀ (s' : Sl) (u'_1 : View),
  appPost u' (some (Addr.mk b 0 none)) 1 1 4
  (Value.agg #[Value.int IntKind.i64 0, Value.int IntKind.i64 0, Value.string (ByteArray.mk #[]), Value.int IntKind.i64 0]) 81 (Sl.n x) new s' u'_1 →
  R (Value.slice (Sl.p s') (Sl.n s') (Sl.c s')) u'_1) ∧
  ((x == 1) = false →
  ((x == 2) = true →
  ∀ (b : Nat),
  View.lim u' ≤ b →
  CallsV Try.prog 105 #[Value.pointer (some d_0)]
  (View.set u' b (Obj.cells #[Value.int IntKind.i64 5, Value.int IntKind.i64 0, Value.string (ByteArray.mk #[]), Value.int IntKind.i64 1] 81)) fun (v : Value) (u' : View) =>
  ∃ (x : Int),
  v = Value.int IntKind.i64 x ∧
  ∀ (b_1 : Nat),
  View.lim u' ≤ b_1 →
  ∃ (new : List Value),
  List.length new = 4 ∧
  (∀ (v : Value), v ∈ new → Value.oneCell' v = true) ∧
  CellsO (View.set u' b_1 (Obj.cells #[Value.int IntKind.i64 11, Value.int IntKind.i64 x, Value.string (ByteArray.mk #[]), Value.int IntKind.i64 0] 81))
  (some (Addr.mk b_1 0 none)) new ∧
  appPre (View.set u' b_1 (Obj.cells #[Value.int IntKind.i64 11, Value.int IntKind.i64 x, Value.string (ByteArray.mk #[]), Value.int IntKind.i64 0] 81))
  (some (Addr.mk b 0 none)) 1 1 4 40 1 new ∧
  ∀ (s' : Sl) (u'_1 : View),
  appPost (View.set u' b_1 (Obj.cells #[Value.int IntKind.i64 11, Value.int IntKind.i64 x, Value.string (ByteArray.mk #[]), Value.int IntKind.i64 0] 81))
  (some (Addr.mk b 0 none)) 1 1 4
  (Value.agg #[Value.int IntKind.i64 0, Value.int IntKind.i64 0, Value.string (ByteArray.mk #[]), Value.int IntKind.i64 0]) 81 1 new s' u'_1 →
  R (Value.slice (Sl.p s') (Sl.n s') (Sl.c s')) u'_1) ∧
  ((x == 2) = false →
  ((x == 3) = true →
  CallsV Try.prog 40 #[Value.pointer (some d_0), Value.int IntKind.i64 2] u' fun (v : Value) (u' : View) =>
  ∃ (x : Int),
  v = Value.int IntKind.i64 x ∧
  ∀ (b : Nat),
  View.lim u' ≤ b →
  CallsV Try.prog 104 #[Value.pointer (some d_0), Value.int IntKind.i64 1]
  (View.set u' b
  (Obj.cells #[Value.int IntKind.i64 (IntKind.wrap IntKind.i64 (7 + x)), Value.int IntKind.i64 0, Value.string (ByteArray.mk #[]), Value.int IntKind.i64 1] 81))
  fun (v : Value) (u' : View) =>
  ∃ (x : Sl),
  v = Value.slice (Sl.p x) (Sl.n x) (Sl.c x) ∧
  ∃ (new : List Value),
  List.length new = Sl.n x * 4 ∧
  (∀ (v : Value), v ∈ new → Value.oneCell' v = true) ∧
  CellsO u' (Sl.p x) new ∧
  appPre u' (some (Addr.mk b 0 none)) 1 1 4 40 (Sl.n x) new ∧
  ∀ (s' : Sl) (u'_1 : View),
  appPost u' (some (Addr.mk b 0 none)) 1 1 4
  (Value.agg #[Value.int IntKind.i64 0, Value.int IntKind.i64 0, Value.string (ByteArray.mk #[]), Value.int IntKind.i64 0]) 81 (Sl.n x) new s'
  u'_1 →
  R (Value.slice (Sl.p s') (Sl.n s') (Sl.c s')) u'_1) ∧
  ((x == 3) = false →
  ((x == 4) = true →
  ∀ (b : Nat),
  View.lim u' ≤ b →
  R (Value.slice (some (Addr.mk b 0 none)) 1 1)
  (View.set u' b (Obj.cells #[Value.int IntKind.i64 9, Value.int IntKind.i64 0, Value.string (ByteArray.mk #[]), Value.int IntKind.i64 0] 81))) ∧
  ((x == 4) = false →
  ((x == 5) = true →
  ∀ (b : Nat),
  View.lim u' ≤ b →
  CallsV Try.prog 104 #[Value.pointer (some d_0), Value.int IntKind.i64 0]
  (View.set u' b (Obj.cells #[Value.int IntKind.i64 6, Value.int IntKind.i64 0, Value.string (ByteArray.mk #[]), Value.int IntKind.i64 2] 81))
  fun (v : Value) (u' : View) =>
  ∃ (x : Sl),
  v = Value.slice (Sl.p x) (Sl.n x) (Sl.c x) ∧
  ∃ (new : List Value),
  List.length new = Sl.n x * 4 ∧
  (∀ (v : Value), v ∈ new → Value.oneCell' v = true) ∧
  CellsO u' (Sl.p x) new ∧
  appPre u' (some (Addr.mk b 0 none)) 1 1 4 40 (Sl.n x) new ∧
  ∀ (s' : Sl) (u'_1 : View),
  appPost u' (some (Addr.mk b 0 none)) 1 1 4
  (Value.agg #[Value.int IntKind.i64 0, Value.int IntKind.i64 0, Value.string (ByteArray.mk #[]), Value.int IntKind.i64 0]) 81 (Sl.n x) new s'
  u'_1 →
  CallsV Try.prog 104 #[Value.pointer (some d_0), Value.int IntKind.i64 0] u'_1 fun (v : Value) (u' : View) =>
  ∃ (x : Sl),
  v = Value.slice (Sl.p x) (Sl.n x) (Sl.c x) ∧
  ∃ (new : List Value),
  List.length new = Sl.n x * 4 ∧
  (∀ (v : Value), v ∈ new → Value.oneCell' v = true) ∧
  CellsO u' (Sl.p x) new ∧
  appPre u' (Sl.p s') (Sl.n s') (Sl.c s') 4 40 (Sl.n x) new ∧
  ∀ (s'_1 : Sl) (u'_2 : View),
  appPost u' (Sl.p s') (Sl.n s') (Sl.c s') 4
  (Value.agg #[Value.int IntKind.i64 0, Value.int IntKind.i64 0, Value.string (ByteArray.mk #[]), Value.int IntKind.i64 0]) 81
  (Sl.n x) new s'_1 u'_2 →
  R (Value.slice (Sl.p s'_1) (Sl.n s'_1) (Sl.c s'_1)) u'_2) ∧
  ((x == 5) = false →
  ((x == 6) = true →
  (decide (o_1 > 0) = true →
  ∃ (J : Sl × View → Prop),
  (CallsV Try.prog 40 #[Value.pointer (some d_0), Value.int IntKind.i64 2] u' fun (v : Value) (u' : View) =>
  ∃ (x : Int),
  v = Value.int IntKind.i64 x ∧
  ∀ (b : Nat),
  View.lim u' ≤ b →
  J
  (Sl.mk (some (Addr.mk b 0 none)) 1 1,
  View.set u' b
  (Obj.cells
  #[Value.int IntKind.i64 3, Value.int IntKind.i64 0, Value.string (ByteArray.mk #[]),
  Value.int IntKind.i64 (IntKind.wrap IntKind.i64 (2 + x))]
  81)) ∧
  True) ∧
  ∀ (junk : Nat → Value) (x : Sl) (u : View),
  J (x, u) →
  ∃ (ad : Addr),
  Sl.p x = some ad ∧
  Int.ofNat 0 ≤ Int.ofNat 0 ∧
  0 < (↑(Sl.n x) : Int) ∧
  ∃ (x_1 : Int),
  View.cell u (Addr.add (Addr.add ad 0) 3) = some (Value.int IntKind.i64 x_1) ∧
  CallsV Try.prog 104 #[Value.pointer (some d_0), Value.int IntKind.i64 2] u fun (v : Value) (u' : View) =>
  ∃ (x_2 : Sl),
  v = Value.slice (Sl.p x_2) (Sl.n x_2) (Sl.c x_2) ∧
  ∃ (new : List Value),
  List.length new = Sl.n x_2 * 4 ∧
  (∀ (v : Value), v ∈ new → Value.oneCell' v = true) ∧
  CellsO u' (Sl.p x_2) new ∧
  appPre u' (Sl.p x) (Sl.n x) (Sl.c x) 4 40 (Sl.n x_2) new ∧
  ∀ (s' : Sl) (u'_1 : View),
  appPost u' (Sl.p x) (Sl.n x) (Sl.c x) 4
  (Value.agg
  #[Value.int IntKind.i64 0, Value.int IntKind.i64 0, Value.string (ByteArray.mk #[]), Value.int IntKind.i64 0])
  81 (Sl.n x_2) new s' u'_1 →
  ∃ (I : Sl × Int × View → Prop),
  ∃ (μ : Sl × Int × View → Nat),
  (I (Sl.mk (Sl.p s') (Sl.n s') (Sl.c s'), 1, u'_1) ∧ True) ∧
  ∀ (junk : Nat → Value) (x : Sl) (x_3 : Int) (u : View),
  I (x, x_3, u) →
  (decide (x_3 < x_1) = true →
  CallsV Try.prog 38 #[Value.pointer (some d_0), Value.int IntKind.i64 (IntKind.wrap IntKind.i64 (o_1 - 1))] u
  fun (v : Value) (u' : View) =>
  ∃ (x_4 : Sl),
  v = Value.slice (Sl.p x_4) (Sl.n x_4) (Sl.c x_4) ∧
  ∃ (new : List Value),
  List.length new = Sl.n x_4 * 4 ∧
  (∀ (v : Value), v ∈ new → Value.oneCell' v = true) ∧
  CellsO u' (Sl.p x_4) new ∧
  appPre u' (Sl.p x) (Sl.n x) (Sl.c x) 4 40 (Sl.n x_4) new ∧
  ∀ (s' : Sl) (u'_2 : View),
  appPost u' (Sl.p x) (Sl.n x) (Sl.c x) 4
  (Value.agg
  #[Value.int IntKind.i64 0, Value.int IntKind.i64 0, Value.string (ByteArray.mk #[]),
  Value.int IntKind.i64 0])
  81 (Sl.n x_4) new s' u'_2 →
  (I (Sl.mk (Sl.p s') (Sl.n s') (Sl.c s'), IntKind.wrap IntKind.i64 (x_3 + 1), u'_2) ∧
  μ (Sl.mk (Sl.p s') (Sl.n s') (Sl.c s'), IntKind.wrap IntKind.i64 (x_3 + 1), u'_2) <
  μ (x, x_3, u)) ∧
  True) ∧
  (decide (x_3 < x_1) = false → R (Value.slice (Sl.p x) (Sl.n x) (Sl.c x)) u)) ∧
  (decide (o_1 > 0) = false →
  CallsV Try.prog 106 #[] u' fun (v : Value) (u' : View) =>
  ∃ (x : Sl),
  v = Value.slice (Sl.p x) (Sl.n x) (Sl.c x) ∧
  CallsV Try.prog 40 #[Value.pointer (some d_0), Value.int IntKind.i64 10] u' fun (v : Value) (u' : View) =>
  ∃ (x_1 : Int),
  v = Value.int IntKind.i64 x_1 ∧
  ∃ (ad : Addr),
  Sl.p x = some ad ∧
  0 ≤ IntKind.wrap IntKind.i64 (1 + x_1) ∧
  IntKind.wrap IntKind.i64 (1 + x_1) < (↑(Sl.n x) : Int) ∧
  ∃ (x : ByteArray),
  View.cell u' (Addr.add ad (Int.toNat (IntKind.wrap IntKind.i64 (1 + x_1)) * 1)) = some (Value.string x) ∧
  ∀ (b : Nat),
  View.lim u' ≤ b →
  R (Value.slice (some (Addr.mk b 0 none)) 1 1)
  (View.set u' b (Obj.cells #[Value.int IntKind.i64 10, Value.int IntKind.i64 0, Value.string x, Value.int IntKind.i64 0] 81)))) ∧
  ((x == 6) = false →
  ((x == 7) = true →
  (decide (o_1 > 0) = true →
  ∃ (J : Sl × View → Prop),
  (CallsV Try.prog 40 #[Value.pointer (some d_0), Value.int IntKind.i64 5] u' fun (v : Value) (u' : View) =>
  ∃ (x : Int),
  v = Value.int IntKind.i64 x ∧
  ∀ (b : Nat),
  View.lim u' ≤ b →
  J
  (Sl.mk (some (Addr.mk b 0 none)) 4 4,
  View.set u' b
  (Obj.cells
  #[Value.int IntKind.i64 4, Value.int IntKind.i64 0, Value.string (ByteArray.mk #[]), Value.int IntKind.i64 2,
  Value.int IntKind.i64 20, Value.int IntKind.i64 0, Value.string (ByteArray.mk #[]), Value.int IntKind.i64 2,
  Value.int IntKind.i64 12, Value.int IntKind.i64 0, Value.string (ByteArray.mk #[120]), Value.int IntKind.i64 0,
  Value.int IntKind.i64 11, Value.int IntKind.i64 x, Value.string (ByteArray.mk #[]), Value.int IntKind.i64 0]
  81)) ∧
  True) ∧
  ∀ (junk : Nat → Value) (x : Sl) (u : View),
  J (x, u) →
  CallsV Try.prog 38 #[Value.pointer (some d_0), Value.int IntKind.i64 (IntKind.wrap IntKind.i64 (o_1 - 1))] u fun (v : Value) (u' : View) =>
  ∃ (x_1 : Sl),
  v = Value.slice (Sl.p x_1) (Sl.n x_1) (Sl.c x_1) ∧
  ∃ (ad : Addr),
  Sl.p x_1 = some ad ∧
  Int.ofNat 0 ≤ Int.ofNat 0 ∧
  0 < (↑(Sl.n x_1) : Int) ∧
  ∃ (x_2 : Int),
  View.cell u' (Addr.add (Addr.add ad 0) 3) = some (Value.int IntKind.i64 x_2) ∧
  ∃ (ad : Addr),
  Sl.p x_1 = some ad ∧
  Int.ofNat 0 ≤ Int.ofNat 0 ∧
  0 < (↑(Sl.n x_1) : Int) ∧
  ∃ (c : Array Value),
  ∃ (T' : TypeId),
  ∃ (fz : Nat × Nat),
  View.m u' (Addr.block (Addr.add (Addr.add ad 0) 3)) = some (Obj.cells c T' fz) ∧
  fzOK fz (Array.size c) ∧
  Addr.spot (Addr.add (Addr.add ad 0) 3) = none ∧
  Addr.off (Addr.add (Addr.add ad 0) 3) + 1 ≤ Array.size c ∧
  ∀ (b : Nat),
  View.lim
  (View.set u' (Addr.block (Addr.add (Addr.add ad 0) 3))
  (Obj.cells
  (List.toArray
  (List.set (Array.toList c) (Addr.off (Addr.add (Addr.add ad 0) 3))
  (Value.int IntKind.i64 (IntKind.wrap IntKind.i64 (x_2 + 1)))))
  T' fz)) ≤
  b →
  ∃ (new : List Value),
  List.length new = 16 ∧
  (∀ (v : Value), v ∈ new → Value.oneCell' v = true) ∧
  CellsO
  (View.set
  (View.set u' (Addr.block (Addr.add (Addr.add ad 0) 3))
  (Obj.cells
  (List.toArray
  (List.set (Array.toList c) (Addr.off (Addr.add (Addr.add ad 0) 3))
  (Value.int IntKind.i64 (IntKind.wrap IntKind.i64 (x_2 + 1)))))
  T' fz))
  b
  (Obj.cells
  #[Value.int IntKind.i64 2, Value.int IntKind.i64 0, Value.string (ByteArray.mk #[120]),
  Value.int IntKind.i64 1, Value.int IntKind.i64 23, Value.int IntKind.i64 0,
  Value.string (ByteArray.mk #[]), Value.int IntKind.i64 2, Value.int IntKind.i64 12,
  Value.int IntKind.i64 0, Value.string (ByteArray.mk #[120]), Value.int IntKind.i64 0,
  Value.int IntKind.i64 11, Value.int IntKind.i64 1, Value.string (ByteArray.mk #[]),
  Value.int IntKind.i64 0]
  81))
  (some (Addr.mk b 0 none)) new ∧
  appPre
  (View.set
  (View.set u' (Addr.block (Addr.add (Addr.add ad 0) 3))
  (Obj.cells
  (List.toArray
  (List.set (Array.toList c) (Addr.off (Addr.add (Addr.add ad 0) 3))
  (Value.int IntKind.i64 (IntKind.wrap IntKind.i64 (x_2 + 1)))))
  T' fz))
  b
  (Obj.cells
  #[Value.int IntKind.i64 2, Value.int IntKind.i64 0, Value.string (ByteArray.mk #[120]),
  Value.int IntKind.i64 1, Value.int IntKind.i64 23, Value.int IntKind.i64 0,
  Value.string (ByteArray.mk #[]), Value.int IntKind.i64 2, Value.int IntKind.i64 12,
  Value.int IntKind.i64 0, Value.string (ByteArray.mk #[120]), Value.int IntKind.i64 0,
  Value.int IntKind.i64 11, Value.int IntKind.i64 1, Value.string (ByteArray.mk #[]),
  Value.int IntKind.i64 0]
  81))
  (Sl.p x_1) (Sl.n x_1) (Sl.c x_1) 4 40 4 new ∧
  ∀ (s' : Sl) (u'_1 : View),
  appPost
  (View.set
  (View.set u' (Addr.block (Addr.add (Addr.add ad 0) 3))
  (Obj.cells
  (List.toArray
  (List.set (Array.toList c) (Addr.off (Addr.add (Addr.add ad 0) 3))
  (Value.int IntKind.i64 (IntKind.wrap IntKind.i64 (x_2 + 1)))))
  T' fz))
  b
  (Obj.cells
  #[Value.int IntKind.i64 2, Value.int IntKind.i64 0,
  Value.string (ByteArray.mk #[120]), Value.int IntKind.i64 1,
  Value.int IntKind.i64 23, Value.int IntKind.i64 0, Value.string (ByteArray.mk #[]),
  Value.int IntKind.i64 2, Value.int IntKind.i64 12, Value.int IntKind.i64 0,
  Value.string (ByteArray.mk #[120]), Value.int IntKind.i64 0,
  Value.int IntKind.i64 11, Value.int IntKind.i64 1, Value.string (ByteArray.mk #[]),
  Value.int IntKind.i64 0]
  81))
  (Sl.p x_1) (Sl.n x_1) (Sl.c x_1) 4
  (Value.agg
  #[Value.int IntKind.i64 0, Value.int IntKind.i64 0, Value.string (ByteArray.mk #[]),
  Value.int IntKind.i64 0])
  81 4 new s' u'_1 →
  ∃ (new : List Value),
  List.length new = Sl.n s' * 4 ∧
  (∀ (v : Value), v ∈ new → Value.oneCell' v = true) ∧
  CellsO u'_1 (Sl.p s') new ∧
  appPre u'_1 (Sl.p x) (Sl.n x) (Sl.c x) 4 40 (Sl.n s') new ∧
  ∀ (s'_1 : Sl) (u' : View),
  appPost u'_1 (Sl.p x) (Sl.n x) (Sl.c x) 4
  (Value.agg
  #[Value.int IntKind.i64 0, Value.int IntKind.i64 0,
  Value.string (ByteArray.mk #[]), Value.int IntKind.i64 0])
  81 (Sl.n s') new s'_1 u' →
  R (Value.slice (Sl.p s'_1) (Sl.n s'_1) (Sl.c s'_1)) u') ∧
  (decide (o_1 > 0) = false →
  CallsV Try.prog 106 #[] u' fun (v : Value) (u' : View) =>
  ∃ (x : Sl),
  v = Value.slice (Sl.p x) (Sl.n x) (Sl.c x) ∧
  CallsV Try.prog 40 #[Value.pointer (some d_0), Value.int IntKind.i64 10] u' fun (v : Value) (u' : View) =>
  ∃ (x_1 : Int),
  v = Value.int IntKind.i64 x_1 ∧
  ∃ (ad : Addr),
  Sl.p x = some ad ∧
  0 ≤ IntKind.wrap IntKind.i64 (1 + x_1) ∧
  IntKind.wrap IntKind.i64 (1 + x_1) < (↑(Sl.n x) : Int) ∧
  ∃ (x : ByteArray),
  View.cell u' (Addr.add ad (Int.toNat (IntKind.wrap IntKind.i64 (1 + x_1)) * 1)) = some (Value.string x) ∧
  ∀ (b : Nat),
  View.lim u' ≤ b →
  R (Value.slice (some (Addr.mk b 0 none)) 1 1)
  (View.set u' b (Obj.cells #[Value.int IntKind.i64 10, Value.int IntKind.i64 0, Value.string x, Value.int IntKind.i64 0] 81)))) ∧
  ((x == 7) = false →
  CallsV Try.prog 106 #[] u' fun (v : Value) (u' : View) =>
  ∃ (x : Sl),
  v = Value.slice (Sl.p x) (Sl.n x) (Sl.c x) ∧
  CallsV Try.prog 40 #[Value.pointer (some d_0), Value.int IntKind.i64 10] u' fun (v : Value) (u' : View) =>
  ∃ (x_1 : Int),
  v = Value.int IntKind.i64 x_1 ∧
  ∃ (ad : Addr),
  Sl.p x = some ad ∧
  0 ≤ IntKind.wrap IntKind.i64 (1 + x_1) ∧
  IntKind.wrap IntKind.i64 (1 + x_1) < (↑(Sl.n x) : Int) ∧
  ∃ (x : ByteArray),
  View.cell u' (Addr.add ad (Int.toNat (IntKind.wrap IntKind.i64 (1 + x_1)) * 1)) = some (Value.string x) ∧
  ∀ (b : Nat),
  View.lim u' ≤ b →
  R (Value.slice (some (Addr.mk b 0 none)) 1 1)
  (View.set u' b (Obj.cells #[Value.int IntKind.i64 10, Value.int IntKind.i64 0, Value.string x, Value.int IntKind.i64 0] 81))))))))))

theorem vc_stmts (d_0 : Addr) (o_1 : Int) (u : View) (R : Value → View → Prop) : VCfun Try.prog 149 pf (Option.getD Try.f74.body .skip) Try.f74.results.toList (.seq .no (.seq (.seq .no (.block (.seq .no (.cond .no (.seq .no (.cond .no (.seq .no (.cond .no (.seq .no (.cond .no (.seq .no (.cond .no (.seq .no (.cond (.seq .no (.cond (.cut [(6, .one .sl)] [(6, 7), (62, 67)] [] .no (.seq .no (.seq .no (.seq (.seq .no (.block (.loop [(6, .one .sl), (8, .one (.int .i64))] [(6, 7), (8, 9), (75, 86)] [] .no))) .no)))) .no)) (.seq .no (.cond (.seq .no (.cond (.cut [(9, .one .sl)] [(9, 10), (91, 98)] [] .no .no) .no)) .no)))))))))))))))) .no)) [] [.v (.pointer (some d_0)), .v (.int .i64 o_1)] [] u R = W_stmts d_0 o_1 u R := by kernel_rfl

theorem c_stmts (d_0 : Addr) (o_1 : Int) (u : View) (R : Value → View → Prop) (hp : preOK u []) (h : W_stmts d_0 o_1 u R) :
    CallsV Try.prog F_stmts #[(.pointer (some d_0)), (.int .i64 o_1)] u R :=
  fcall (L0 := []) (xs := [.v (.pointer (some d_0)), .v (.int .i64 o_1)]) (fn := Try.f74) (by kernel_rfl) (by kernel_rfl) (by kernel_rfl) (by kernel_rfl) hp (Eq.mpr (vc_stmts d_0 o_1 u R) h)

/- (*spec.l01Src).l11Block: loop: out k ; own [] -/
abbrev F_block : FuncId := 38
def W_block (s_0 : Addr) (deep : Int) (u : View) (R : Value → View → Prop) : Prop :=
  ∀ (b : Nat),
  View.lim u ≤ b →
  CallsV Try.prog 40 #[Value.pointer (some s_0), Value.int IntKind.i64 4]
  (View.set u b (Obj.cells #[Value.int IntKind.i64 1, Value.int IntKind.i64 0, Value.string (ByteArray.mk #[]), Value.int IntKind.i64 0] 81)) fun (v : Value) (u' : View) =>
  ∃ (x : Int),
  v = Value.int IntKind.i64 x ∧
  ∃ (I : Sl × Int × View → Prop),
  ∃ (μ : Sl × Int × View → Nat),
  (I (Sl.mk (some (Addr.mk b 0 none)) 1 1, 0, u') ∧ True) ∧
  ∀ (junk : Nat → Value) (x_1 : Sl) (x_2 : Int) (u : View),
  I (x_1, x_2, u) →
  (decide (x_2 < x) = true →
  CallsV Try.prog 74 #[Value.pointer (some s_0), Value.int IntKind.i64 deep] u fun (v : Value) (u' : View) =>
  ∃ (x : Sl),
  v = Value.slice (Sl.p x) (Sl.n x) (Sl.c x) ∧
  ∃ (new : List Value),
  List.length new = Sl.n x * 4 ∧
  (∀ (v : Value), v ∈ new → Value.oneCell' v = true) ∧
  CellsO u' (Sl.p x) new ∧
  appPre u' (Sl.p x_1) (Sl.n x_1) (Sl.c x_1) 4 40 (Sl.n x) new ∧
  ∀ (s' : Sl) (u'_1 : View),
  appPost u' (Sl.p x_1) (Sl.n x_1) (Sl.c x_1) 4
  (Value.agg #[Value.int IntKind.i64 0, Value.int IntKind.i64 0, Value.string (ByteArray.mk #[]), Value.int IntKind.i64 0]) 81 (Sl.n x) new s' u'_1 →
  (I (Sl.mk (Sl.p s') (Sl.n s') (Sl.c s'), IntKind.wrap IntKind.i64 (x_2 + 1), u'_1) ∧
  μ (Sl.mk (Sl.p s') (Sl.n s') (Sl.c s'), IntKind.wrap IntKind.i64 (x_2 + 1), u'_1) < μ (x_1, x_2, u)) ∧
  True) ∧
  (decide (x_2 < x) = false →
  ∃ (ad : Addr),
  Sl.p x_1 = some ad ∧
  Int.ofNat 0 ≤ Int.ofNat 0 ∧
  0 < (↑(Sl.n x_1) : Int) ∧
  ∃ (c : Array Value),
  ∃ (T' : TypeId),
  ∃ (fz : Nat × Nat),
  View.m u (Addr.block (Addr.add (Addr.add ad 0) 3)) = some (Obj.cells c T' fz) ∧
  fzOK fz (Array.size c) ∧
  Addr.spot (Addr.add (Addr.add ad 0) 3) = none ∧
  Addr.off (Addr.add (Addr.add ad 0) 3) + 1 ≤ Array.size c ∧
  R (Value.slice (Sl.p x_1) (Sl.n x_1) (Sl.c x_1))
  (View.set u (Addr.block (Addr.add (Addr.add ad 0) 3))
  (Obj.cells (List.toArray (List.set (Array.toList c) (Addr.off (Addr.add (Addr.add ad 0) 3)) (Value.int IntKind.i64 x))) T' fz)))

theorem vc_block (s_0 : Addr) (deep : Int) (u : View) (R : Value → View → Prop) : VCfun Try.prog 149 pf (Option.getD Try.f38.body .skip) Try.f38.results.toList (.seq .no (.seq .no (.seq .no (.seq (.seq .no (.block (.loop [(5, .one .sl), (7, .one (.int .i64))] [(5, 6), (7, 8), (12, 22)] [] .no))) .no)))) [] [.v (.pointer (some s_0)), .v (.int .i64 deep)] [] u R = W_block s_0 deep u R := by kernel_rfl

theorem c_block (s_0 : Addr) (deep : Int) (u : View) (R : Value → View → Prop) (hp : preOK u []) (h : W_block s_0 deep u R) :
    CallsV Try.prog F_block #[(.pointer (some s_0)), (.int .i64 deep)] u R :=
  fcall (L0 := []) (xs := [.v (.pointer (some s_0)), .v (.int .i64 deep)]) (fn := Try.f38) (by kernel_rfl) (by kernel_rfl) (by kernel_rfl) (by kernel_rfl) hp (Eq.mpr (vc_block s_0 deep u R) h)

/- (*spec.l01Src).edge:  -/
abbrev F_edge : FuncId := 41
def W_edge (s_0 : Addr) (u : View) (R : Value → View → Prop) : Prop :=
  ∀ (b : Nat),
  View.lim u ≤ b →
  CallsV Try.prog 40 #[Value.pointer (some s_0), Value.int IntKind.i64 14]
  (View.set u b
  (Obj.cells
  #[Value.int IntKind.i64 0, Value.int IntKind.i64 1, Value.int IntKind.i64 (-1), Value.int IntKind.i64 2, Value.int IntKind.i64 1000, Value.int IntKind.i64 1001,
  Value.int IntKind.i64 2147483648, Value.int IntKind.i64 2147483647, Value.int IntKind.i64 (-2147483648), Value.int IntKind.i64 4611686018427387904,
  Value.int IntKind.i64 9223372036854775807, Value.int IntKind.i64 (-9223372036854775808), Value.int IntKind.i64 1000000, Value.int IntKind.i64 1000001]
  2))
  fun (v : Value) (u' : View) =>
  ∃ (x : Int),
  v = Value.int IntKind.i64 x ∧
  ∃ (ad : Addr),
  some (Addr.mk b 0 none) = some ad ∧
  0 ≤ x ∧ x < (↑14 : Int) ∧ ∃ (x_1 : Int), View.cell u' (Addr.add ad (Int.toNat x * 1)) = some (Value.int IntKind.i64 x_1) ∧ R (Value.int IntKind.i64 x_1) u'

theorem vc_edge (s_0 : Addr) (u : View) (R : Value → View → Prop) : VCfun Try.prog 149 pf (Option.getD Try.f41.body .skip) Try.f41.results.toList .no [] [.v (.pointer (some s_0))] [] u R = W_edge s_0 u R := by kernel_rfl

theorem c_edge (s_0 : Addr) (u : View) (R : Value → View → Prop) (hp : preOK u []) (h : W_edge s_0 u R) :
    CallsV Try.prog F_edge #[(.pointer (some s_0))] u R :=
  fcall (L0 := []) (xs := [.v (.pointer (some s_0))]) (fn := Try.f41) (by kernel_rfl) (by kernel_rfl) (by kernel_rfl) (by kernel_rfl) hp (Eq.mpr (vc_edge s_0 u R) h)

/- (*spec.l01Src).l11Nodes: cut: t3 ; own [] | loop: t3 t5 ; own [] | cut: t3 ; own [] | loop: t3 t6 ; own [] -/
abbrev F_nodes : FuncId := 22
def W_nodes (d_0 : Addr) (u : View) (R : Value → View → Prop) : Prop :=
  CallsV Try.prog 38 #[Value.pointer (some d_0), Value.int IntKind.i64 3] u fun (v : Value) (u' : View) =>
  ∃ (x : Sl),
  v = Value.slice (Sl.p x) (Sl.n x) (Sl.c x) ∧
  ∃ (J : Sl × View → Prop),
  (CallsV Try.prog 39 #[Value.pointer (some d_0), Value.int IntKind.i64 12] u' fun (v : Value) (u' : View) =>
  ∃ (x_1 : Bool),
  v = Value.bool x_1 ∧
  (x_1 = true →
  CallsV Try.prog 40 #[Value.pointer (some d_0), Value.int IntKind.i64 (↑(Sl.n x) : Int)] u' fun (v : Value) (u' : View) =>
  ∃ (x_2 : Int),
  v = Value.int IntKind.i64 x_2 ∧
  CallsV Try.prog 40 #[Value.pointer (some d_0), Value.int IntKind.i64 5] u' fun (v : Value) (u' : View) =>
  ∃ (x_3 : Int),
  v = Value.int IntKind.i64 x_3 ∧
  ((x_3 == 0) = true →
  CallsV Try.prog 40 #[Value.pointer (some d_0), Value.int IntKind.i64 4] u' fun (v : Value) (u' : View) =>
  ∃ (x_4 : Int),
  v = Value.int IntKind.i64 x_4 ∧
  ∃ (ad : Addr),
  Sl.p x = some ad ∧
  0 ≤ x_2 ∧
  x_2 < (↑(Sl.n x) : Int) ∧
  ∃ (c : Array Value),
  ∃ (T' : TypeId),
  ∃ (fz : Nat × Nat),
  View.m u' (Addr.block (Addr.add (Addr.add ad (Int.toNat x_2 * 4)) 3)) = some (Obj.cells c T' fz) ∧
  fzOK fz (Array.size c) ∧
  Addr.spot (Addr.add (Addr.add ad (Int.toNat x_2 * 4)) 3) = none ∧
  Addr.off (Addr.add (Addr.add ad (Int.toNat x_2 * 4)) 3) + 1 ≤ Array.size c ∧
  J
  (Sl.mk (Sl.p x) (Sl.n x) (Sl.c x),
  View.set u' (Addr.block (Addr.add (Addr.add ad (Int.toNat x_2 * 4)) 3))
  (Obj.cells
  (List.toArray
  (List.set (Array.toList c) (Addr.off (Addr.add (Addr.add ad (Int.toNat x_2 * 4)) 3)) (Value.int IntKind.i64 x_4)))
  T' fz)) ∧
  True) ∧
  ((x_3 == 0) = false →
  ((x_3 == 1) = true →
  CallsV Try.prog 40 #[Value.pointer (some d_0), Value.int IntKind.i64 28] u' fun (v : Value) (u' : View) =>
  ∃ (x_4 : Int),
  v = Value.int IntKind.i64 x_4 ∧
  ∃ (ad : Addr),
  Sl.p x = some ad ∧
  0 ≤ x_2 ∧
  x_2 < (↑(Sl.n x) : Int) ∧
  ∃ (c : Array Value),
  ∃ (T' : TypeId),
  ∃ (fz : Nat × Nat),
  View.m u' (Addr.block (Addr.add (Addr.add ad (Int.toNat x_2 * 4)) 0)) = some (Obj.cells c T' fz) ∧
  fzOK fz (Array.size c) ∧
  Addr.spot (Addr.add (Addr.add ad (Int.toNat x_2 * 4)) 0) = none ∧
  Addr.off (Addr.add (Addr.add ad (Int.toNat x_2 * 4)) 0) + 1 ≤ Array.size c ∧
  J
  (Sl.mk (Sl.p x) (Sl.n x) (Sl.c x),
  View.set u' (Addr.block (Addr.add (Addr.add ad (Int.toNat x_2 * 4)) 0))
  (Obj.cells
  (List.toArray
  (List.set (Array.toList c) (Addr.off (Addr.add (Addr.add ad (Int.toNat x_2 * 4)) 0)) (Value.int IntKind.i64 x_4)))
  T' fz)) ∧
  True) ∧
  ((x_3 == 1) = false →
  ((x_3 == 2) = true →
  CallsV Try.prog 41 #[Value.pointer (some d_0)] u' fun (v : Value) (u' : View) =>
  ∃ (x_4 : Int),
  v = Value.int IntKind.i64 x_4 ∧
  ∃ (ad : Addr),
  Sl.p x = some ad ∧
  0 ≤ x_2 ∧
  x_2 < (↑(Sl.n x) : Int) ∧
  ∃ (c : Array Value),
  ∃ (T' : TypeId),
  ∃ (fz : Nat × Nat),
  View.m u' (Addr.block (Addr.add (Addr.add ad (Int.toNat x_2 * 4)) 1)) = some (Obj.cells c T' fz) ∧
  fzOK fz (Array.size c) ∧
  Addr.spot (Addr.add (Addr.add ad (Int.toNat x_2 * 4)) 1) = none ∧
  Addr.off (Addr.add (Addr.add ad (Int.toNat x_2 * 4)) 1) + 1 ≤ Array.size c ∧
  J
  (Sl.mk (Sl.p x) (Sl.n x) (Sl.c x),
  View.set u' (Addr.block (Addr.add (Addr.add ad (Int.toNat x_2 * 4)) 1))
  (Obj.cells
  (List.toArray
  (List.set (Array.toList c) (Addr.off (Addr.add (Addr.add ad (Int.toNat x_2 * 4)) 1)) (Value.int IntKind.i64 x_4)))
  T' fz)) ∧
  True) ∧
  ((x_3 == 2) = false →
  ((x_3 == 3) = true →
  ∀ (b : Nat),
  View.lim u' ≤ b →
  CallsV Try.prog 42 #[Value.pointer (some d_0), Value.slice (some (Addr.mk b 0 none)) 5 5]
  (View.set u' b
  (Obj.cells
  #[Value.string (ByteArray.mk #[]), Value.string (ByteArray.mk #[108, 101, 116]), Value.string (ByteArray.mk #[122]),
  Value.string (ByteArray.mk #[65]), Value.string (ByteArray.mk #[108, 101, 102, 116])]
  9))
  fun (v : Value) (u' : View) =>
  ∃ (x_4 : ByteArray),
  v = Value.string x_4 ∧
  ∃ (ad : Addr),
  Sl.p x = some ad ∧
  0 ≤ x_2 ∧
  x_2 < (↑(Sl.n x) : Int) ∧
  ∃ (c : Array Value),
  ∃ (T' : TypeId),
  ∃ (fz : Nat × Nat),
  View.m u' (Addr.block (Addr.add (Addr.add ad (Int.toNat x_2 * 4)) 2)) = some (Obj.cells c T' fz) ∧
  fzOK fz (Array.size c) ∧
  Addr.spot (Addr.add (Addr.add ad (Int.toNat x_2 * 4)) 2) = none ∧
  Addr.off (Addr.add (Addr.add ad (Int.toNat x_2 * 4)) 2) + 1 ≤ Array.size c ∧
  J
  (Sl.mk (Sl.p x) (Sl.n x) (Sl.c x),
  View.set u' (Addr.block (Addr.add (Addr.add ad (Int.toNat x_2 * 4)) 2))
  (Obj.cells
  (List.toArray
  (List.set (Array.toList c) (Addr.off (Addr.add (Addr.add ad (Int.toNat x_2 * 4)) 2)) (Value.string x_4)))
  T' fz)) ∧
  True) ∧
  ((x_3 == 3) = false →
  ∀ (b : Nat),
  View.lim u' ≤ b →
  ∃ (new : List Value),
  List.length new = 4 ∧
  (∀ (v : Value), v ∈ new → Value.oneCell' v = true) ∧
  CellsO
  (View.set u' b
  (Obj.cells #[Value.int IntKind.i64 9, Value.int IntKind.i64 0, Value.string (ByteArray.mk #[]), Value.int IntKind.i64 0] 81))
  (some (Addr.mk b 0 none)) new ∧
  appPre
  (View.set u' b
  (Obj.cells #[Value.int IntKind.i64 9, Value.int IntKind.i64 0, Value.string (ByteArray.mk #[]), Value.int IntKind.i64 0] 81))
  (Sl.p x) (Sl.n x) (Sl.c x) 4 40 1 new ∧
  ∀ (s' : Sl) (u'_1 : View),
  appPost
  (View.set u' b
  (Obj.cells #[Value.int IntKind.i64 9, Value.int IntKind.i64 0, Value.string (ByteArray.mk #[]), Value.int IntKind.i64 0] 81))
  (Sl.p x) (Sl.n x) (Sl.c x) 4
  (Value.agg #[Value.int IntKind.i64 0, Value.int IntKind.i64 0, Value.string (ByteArray.mk #[]), Value.int IntKind.i64 0]) 81 1 new
  s' u'_1 →
  J (Sl.mk (Sl.p s') (Sl.n s') (Sl.c s'), u'_1) ∧ True))))) ∧
  (x_1 = false → J (Sl.mk (Sl.p x) (Sl.n x) (Sl.c x), u') ∧ True)) ∧
  ∀ (junk : Nat → Value) (x : Sl) (u : View),
  J (x, u) →
  ∃ (J : Sl × View → Prop),
  (CallsV Try.prog 39 #[Value.pointer (some d_0), Value.int IntKind.i64 40] u fun (v : Value) (u' : View) =>
  ∃ (x_1 : Bool),
  v = Value.bool x_1 ∧
  (x_1 = true →
  CallsV Try.prog 40 #[Value.pointer (some d_0), Value.int IntKind.i64 3] u' fun (v : Value) (u' : View) =>
  ∃ (x : Int),
  v = Value.int IntKind.i64 x ∧
  ∀ (b : Nat),
  View.lim u' ≤ b →
  ∃ (I : Sl × Int × View → Prop),
  ∃ (μ : Sl × Int × View → Nat),
  (I
  (Sl.mk (some (Addr.mk b 0 none)) 1 1, 0,
  View.set u' b
  (Obj.cells
  #[Value.int IntKind.i64 1, Value.int IntKind.i64 0, Value.string (ByteArray.mk #[]), Value.int IntKind.i64 (IntKind.wrap IntKind.i64 (198 + x))]
  81)) ∧
  True) ∧
  ∀ (junk : Nat → Value) (x : Sl) (x_2 : Int) (u : View),
  I (x, x_2, u) →
  ∃ (ad : Addr),
  Sl.p x = some ad ∧
  Int.ofNat 0 ≤ Int.ofNat 0 ∧
  0 < (↑(Sl.n x) : Int) ∧
  ∃ (x_3 : Int),
  View.cell u (Addr.add (Addr.add ad 0) 3) = some (Value.int IntKind.i64 x_3) ∧
  (decide (x_2 < x_3) = true →
  ∀ (b : Nat),
  View.lim u ≤ b →
  ∃ (new : List Value),
  List.length new = 4 ∧
  (∀ (v : Value), v ∈ new → Value.oneCell' v = true) ∧
  CellsO
  (View.set u b
  (Obj.cells #[Value.int IntKind.i64 9, Value.int IntKind.i64 0, Value.string (ByteArray.mk #[]), Value.int IntKind.i64 0]
  81))
  (some (Addr.mk b 0 none)) new ∧
  appPre
  (View.set u b
  (Obj.cells
  #[Value.int IntKind.i64 9, Value.int IntKind.i64 0, Value.string (ByteArray.mk #[]), Value.int IntKind.i64 0] 81))
  (Sl.p x) (Sl.n x) (Sl.c x) 4 40 1 new ∧
  ∀ (s' : Sl) (u' : View),
  appPost
  (View.set u b
  (Obj.cells
  #[Value.int IntKind.i64 9, Value.int IntKind.i64 0, Value.string (ByteArray.mk #[]), Value.int IntKind.i64 0]
  81))
  (Sl.p x) (Sl.n x) (Sl.c x) 4
  (Value.agg
  #[Value.int IntKind.i64 0, Value.int IntKind.i64 0, Value.string (ByteArray.mk #[]), Value.int IntKind.i64 0])
  81 1 new s' u' →
  (I (Sl.mk (Sl.p s') (Sl.n s') (Sl.c s'), IntKind.wrap IntKind.i64 (x_2 + 1), u') ∧
  μ (Sl.mk (Sl.p s') (Sl.n s') (Sl.c s'), IntKind.wrap IntKind.i64 (x_2 + 1), u') < μ (x, x_2, u)) ∧
  True) ∧
  (decide (x_2 < x_3) = false → J (Sl.mk (Sl.p x) (Sl.n x) (Sl.c x), u) ∧ True)) ∧
  (x_1 = false → J (Sl.mk (Sl.p x) (Sl.n x) (Sl.c x), u') ∧ True)) ∧
  ∀ (junk : Nat → Value) (x : Sl) (u : View),
  J (x, u) →
  CallsV Try.prog 39 #[Value.pointer (some d_0), Value.int IntKind.i64 40] u fun (v : Value) (u' : View) =>
  ∃ (x_1 : Bool),
  v = Value.bool x_1 ∧
  (x_1 = true →
  ∀ (b : Nat),
  View.lim u' ≤ b →
  CallsV Try.prog 40 #[Value.pointer (some d_0), Value.int IntKind.i64 4]
  (View.set u' b
  (Obj.cells
  #[Value.int IntKind.i64 1, Value.int IntKind.i64 0, Value.string (ByteArray.mk #[]), Value.int IntKind.i64 1, Value.int IntKind.i64 7,
  Value.int IntKind.i64 0, Value.string (ByteArray.mk #[]), Value.int IntKind.i64 1]
  81))
  fun (v : Value) (u' : View) =>
  ∃ (x : Int),
  v = Value.int IntKind.i64 x ∧
  ∃ (I : Sl × Int × View → Prop),
  ∃ (μ : Sl × Int × View → Nat),
  (I (Sl.mk (some (Addr.mk b 0 none)) 2 2, IntKind.wrap IntKind.i64 (x + 15), u') ∧ True) ∧
  ∀ (junk : Nat → Value) (x : Sl) (x_2 : Int) (u : View),
  I (x, x_2, u) →
  (decide (x_2 > 0) = true →
  ∀ (b : Nat),
  View.lim u ≤ b →
  ∃ (new : List Value),
  List.length new = 4 ∧
  (∀ (v : Value), v ∈ new → Value.oneCell' v = true) ∧
  CellsO
  (View.set u b
  (Obj.cells #[Value.int IntKind.i64 17, Value.int IntKind.i64 0, Value.string (ByteArray.mk #[]), Value.int IntKind.i64 1] 81))
  (some (Addr.mk b 0 none)) new ∧
  appPre
  (View.set u b
  (Obj.cells #[Value.int IntKind.i64 17, Value.int IntKind.i64 0, Value.string (ByteArray.mk #[]), Value.int IntKind.i64 1] 81))
  (Sl.p x) (Sl.n x) (Sl.c x) 4 40 1 new ∧
  ∀ (s' : Sl) (u' : View),
  appPost
  (View.set u b
  (Obj.cells #[Value.int IntKind.i64 17, Value.int IntKind.i64 0, Value.string (ByteArray.mk #[]), Value.int IntKind.i64 1]
  81))
  (Sl.p x) (Sl.n x) (Sl.c x) 4
  (Value.agg #[Value.int IntKind.i64 0, Value.int IntKind.i64 0, Value.string (ByteArray.mk #[]), Value.int IntKind.i64 0]) 81
  1 new s' u' →
  (I (Sl.mk (Sl.p s') (Sl.n s') (Sl.c s'), IntKind.wrap IntKind.i64 (x_2 - 1), u') ∧
  μ (Sl.mk (Sl.p s') (Sl.n s') (Sl.c s'), IntKind.wrap IntKind.i64 (x_2 - 1), u') < μ (x, x_2, u)) ∧
  True) ∧
  (decide (x_2 > 0) = false →
  ∀ (b : Nat),
  View.lim u ≤ b →
  ∃ (new : List Value),
  List.length new = 4 ∧
  (∀ (v : Value), v ∈ new → Value.oneCell' v = true) ∧
  CellsO
  (View.set u b
  (Obj.cells #[Value.int IntKind.i64 13, Value.int IntKind.i64 0, Value.string (ByteArray.mk #[]), Value.int IntKind.i64 0] 81))
  (some (Addr.mk b 0 none)) new ∧
  appPre
  (View.set u b
  (Obj.cells #[Value.int IntKind.i64 13, Value.int IntKind.i64 0, Value.string (ByteArray.mk #[]), Value.int IntKind.i64 0] 81))
  (Sl.p x) (Sl.n x) (Sl.c x) 4 40 1 new ∧
  ∀ (s' : Sl) (u' : View),
  appPost
  (View.set u b
  (Obj.cells #[Value.int IntKind.i64 13, Value.int IntKind.i64 0, Value.string (ByteArray.mk #[]), Value.int IntKind.i64 0]
  81))
  (Sl.p x) (Sl.n x) (Sl.c x) 4
  (Value.agg #[Value.int IntKind.i64 0, Value.int IntKind.i64 0, Value.string (ByteArray.mk #[]), Value.int IntKind.i64 0]) 81
  1 new s' u' →
  R (Value.slice (Sl.p s') (Sl.n s') (Sl.c s')) u')) ∧
  (x_1 = false → R (Value.slice (Sl.p x) (Sl.n x) (Sl.c x)) u')

theorem vc_nodes (d_0 : Addr) (u : View) (R : Value → View → Prop) : VCfun Try.prog 149 pf (Option.getD Try.f22.body .skip) Try.f22.results.toList (.seq .no (.seq .no (.cut [(3, .one .sl)] [(3, 5), (9, 54)] [] .no (.cut [(3, .one .sl)] [(3, 4), (5, 6), (54, 73)] [] (.seq .no (.cond (.seq .no (.seq .no (.block (.loop [(3, .one .sl), (5, .one (.int .i64))] [(3, 4), (5, 6), (61, 73)] [] .no)))) .no)) (.seq (.seq .no (.cond (.seq .no (.seq (.seq .no (.block (.loop [(3, .one .sl), (6, .one (.int .i64))] [(3, 4), (6, 7), (81, 89)] [] .no))) .no)) .no)) .no))))) [] [.v (.pointer (some d_0))] [] u R = W_nodes d_0 u R := by kernel_rfl

theorem c_nodes (d_0 : Addr) (u : View) (R : Value → View → Prop) (hp : preOK u []) (h : W_nodes d_0 u R) :
    CallsV Try.prog F_nodes #[(.pointer (some d_0))] u R :=
  fcall (L0 := []) (xs := [.v (.pointer (some d_0))]) (fn := Try.f22) (by kernel_rfl) (by kernel_rfl) (by kernel_rfl) (by kernel_rfl) hp (Eq.mpr (vc_nodes d_0 u R) h)

/- spec.DrawCodeOf:  -/
abbrev F_drawCodeOf : FuncId := 5
def W_drawCodeOf (code : Sl) (u : View) (R : Value → View → Prop) : Prop :=
  CallsV Try.prog 21 #[Value.slice (Sl.p code) (Sl.n code) (Sl.c code)] u fun (v : Value) (u' : View) =>
  ∃ (x : Addr),
  v = Value.pointer (some x) ∧
  CallsV Try.prog 22 #[Value.pointer (some x)] u' fun (v : Value) (u' : View) => ∃ (x : Sl), v = Value.slice (Sl.p x) (Sl.n x) (Sl.c x) ∧ R (Value.slice (Sl.p x) (Sl.n x) (Sl.c x)) u'

theorem vc_drawCodeOf (code : Sl) (u : View) (R : Value → View → Prop) : VCfun Try.prog 149 pf (Option.getD Try.f5.body .skip) Try.f5.results.toList .no [] [.v (.slice code.p code.n code.c)] [] u R = W_drawCodeOf code u R := by kernel_rfl

theorem c_drawCodeOf (code : Sl) (u : View) (R : Value → View → Prop) (hp : preOK u []) (h : W_drawCodeOf code u R) :
    CallsV Try.prog F_drawCodeOf #[(.slice code.p code.n code.c)] u R :=
  fcall (L0 := []) (xs := [.v (.slice code.p code.n code.c)]) (fn := Try.f5) (by kernel_rfl) (by kernel_rfl) (by kernel_rfl) (by kernel_rfl) hp (Eq.mpr (vc_drawCodeOf code u R) h)

/- impl.within:  -/
abbrev F_within : FuncId := 70
def W_within (n_0 : Int) (low : Int) (high : Int) (u : View) (R : Value → View → Prop) : Prop :=
  (decide (low ≤ n_0) = true → R (Value.bool (decide (n_0 ≤ high))) u) ∧ (decide (low ≤ n_0) = false → R (Value.bool false) u)

theorem vc_within (n_0 : Int) (low : Int) (high : Int) (u : View) (R : Value → View → Prop) : VCfun Try.prog 149 pf (Option.getD Try.f70.body .skip) Try.f70.results.toList .no [] [.v (.int .i64 n_0), .v (.int .i64 low), .v (.int .i64 high)] [] u R = W_within n_0 low high u R := by kernel_rfl

theorem c_within (n_0 : Int) (low : Int) (high : Int) (u : View) (R : Value → View → Prop) (hp : preOK u []) (h : W_within n_0 low high u R) :
    CallsV Try.prog F_within #[(.int .i64 n_0), (.int .i64 low), (.int .i64 high)] u R :=
  fcall (L0 := []) (xs := [.v (.int .i64 n_0), .v (.int .i64 low), .v (.int .i64 high)]) (fn := Try.f70) (by kernel_rfl) (by kernel_rfl) (by kernel_rfl) (by kernel_rfl) hp (Eq.mpr (vc_within n_0 low high u R) h)

/- impl.kidsOf:  -/
abbrev F_kidsOf : FuncId := 75
def W_kidsOf (kind : Int) (u : View) (R : Value → View → Prop) : Prop :=
  ((kind == 1) = true → R (Value.tuple #[Value.int IntKind.i64 0, Value.int IntKind.i64 200]) u) ∧
  ((kind == 1) = false →
  ((kind == 3) = true → R (Value.tuple #[Value.int IntKind.i64 2, Value.int IntKind.i64 3]) u) ∧
  ((kind == 3) = false →
  ((kind == 4) = true → R (Value.tuple #[Value.int IntKind.i64 2, Value.int IntKind.i64 2]) u) ∧
  ((kind == 4) = false →
  ((kind == 6) = true → R (Value.tuple #[Value.int IntKind.i64 2, Value.int IntKind.i64 2]) u) ∧
  ((kind == 6) = false →
  ((kind == 2) = true → R (Value.tuple #[Value.int IntKind.i64 1, Value.int IntKind.i64 1]) u) ∧
  ((kind == 2) = false →
  ((kind == 5) = true → R (Value.tuple #[Value.int IntKind.i64 1, Value.int IntKind.i64 1]) u) ∧
  ((kind == 5) = false →
  ((kind == 7) = true → R (Value.tuple #[Value.int IntKind.i64 1, Value.int IntKind.i64 1]) u) ∧
  ((kind == 7) = false →
  ((kind == 8) = true → R (Value.tuple #[Value.int IntKind.i64 1, Value.int IntKind.i64 1]) u) ∧
  ((kind == 8) = false →
  ((kind == 16) = true → R (Value.tuple #[Value.int IntKind.i64 1, Value.int IntKind.i64 1]) u) ∧
  ((kind == 16) = false →
  ((kind == 17) = true → R (Value.tuple #[Value.int IntKind.i64 1, Value.int IntKind.i64 1]) u) ∧
  ((kind == 17) = false →
  CallsV Try.prog 70 #[Value.int IntKind.i64 kind, Value.int IntKind.i64 18, Value.int IntKind.i64 26] u fun (v : Value) (u' : View) =>
  ∃ (x : Bool),
  v = Value.bool x ∧
  (x = true → R (Value.tuple #[Value.int IntKind.i64 2, Value.int IntKind.i64 2]) u') ∧
  (x = false → R (Value.tuple #[Value.int IntKind.i64 0, Value.int IntKind.i64 0]) u')))))))))))

theorem vc_kidsOf (kind : Int) (u : View) (R : Value → View → Prop) : VCfun Try.prog 149 pf (Option.getD Try.f75.body .skip) Try.f75.results.toList .no [] [.v (.int .i64 kind)] [] u R = W_kidsOf kind u R := by kernel_rfl

theorem c_kidsOf (kind : Int) (u : View) (R : Value → View → Prop) (hp : preOK u []) (h : W_kidsOf kind u R) :
    CallsV Try.prog F_kidsOf #[(.int .i64 kind)] u R :=
  fcall (L0 := []) (xs := [.v (.int .i64 kind)]) (fn := Try.f75) (by kernel_rfl) (by kernel_rfl) (by kernel_rfl) (by kernel_rfl) hp (Eq.mpr (vc_kidsOf kind u R) h)

/- slices.Index<<>string,string>: loop: t8 ; own [] -/
abbrev F_indexS : FuncId := 48
def W_indexS (s_0 : Sl) (v_1 : ByteArray) (u : View) (R : Value → View → Prop) : Prop :=
  ∃ (I : Int × View → Prop),
  ∃ (μ : Int × View → Nat),
  (I (0, u) ∧ True) ∧
  ∀ (junk : Nat → Value) (x : Int) (u : View),
  I (x, u) →
  (decide (x < (↑(Sl.n s_0) : Int)) = true →
  ∃ (ad : Addr),
  Sl.p s_0 = some ad ∧
  0 ≤ x ∧
  x < (↑(Sl.n s_0) : Int) ∧
  ∃ (x_1 : ByteArray),
  View.cell u (Addr.add ad (Int.toNat x * 1)) = some (Value.string x_1) ∧
  (eqS v_1 x_1 = true → R (Value.int IntKind.i64 x) u) ∧
  (eqS v_1 x_1 = false → (I (IntKind.wrap IntKind.i64 (x + 1), u) ∧ μ (IntKind.wrap IntKind.i64 (x + 1), u) < μ (x, u)) ∧ True)) ∧
  (decide (x < (↑(Sl.n s_0) : Int)) = false → R (Value.int IntKind.i64 (-1)) u)

theorem vc_indexS (s_0 : Sl) (v_1 : ByteArray) (u : View) (R : Value → View → Prop) : VCfun Try.prog 149 pf (Option.getD Try.f48.body .skip) Try.f48.results.toList (.seq .no (.seq (.seq .no (.block (.loop [(8, .one (.int .i64))] [(4, 6), (8, 19)] [] .no))) .no)) [] [.v (.slice s_0.p s_0.n s_0.c), .v (.string v_1)] [] u R = W_indexS s_0 v_1 u R := by kernel_rfl

theorem c_indexS (s_0 : Sl) (v_1 : ByteArray) (u : View) (R : Value → View → Prop) (hp : preOK u []) (h : W_indexS s_0 v_1 u R) :
    CallsV Try.prog F_indexS #[(.slice s_0.p s_0.n s_0.c), (.string v_1)] u R :=
  fcall (L0 := []) (xs := [.v (.slice s_0.p s_0.n s_0.c), .v (.string v_1)]) (fn := Try.f48) (by kernel_rfl) (by kernel_rfl) (by kernel_rfl) (by kernel_rfl) hp (Eq.mpr (vc_indexS s_0 v_1 u R) h)

/- slices.Contains<<>string,string>:  -/
abbrev F_containsS : FuncId := 45
def W_containsS (s_0 : Sl) (v_1 : ByteArray) (u : View) (R : Value → View → Prop) : Prop :=
  CallsV Try.prog 48 #[Value.slice (Sl.p s_0) (Sl.n s_0) (Sl.c s_0), Value.string v_1] u fun (v : Value) (u' : View) => ∃ (x : Int), v = Value.int IntKind.i64 x ∧ R (Value.bool (decide (x ≥ 0))) u'

theorem vc_containsS (s_0 : Sl) (v_1 : ByteArray) (u : View) (R : Value → View → Prop) : VCfun Try.prog 149 pf (Option.getD Try.f45.body .skip) Try.f45.results.toList .no [] [.v (.slice s_0.p s_0.n s_0.c), .v (.string v_1)] [] u R = W_containsS s_0 v_1 u R := by kernel_rfl

theorem c_containsS (s_0 : Sl) (v_1 : ByteArray) (u : View) (R : Value → View → Prop) (hp : preOK u []) (h : W_containsS s_0 v_1 u R) :
    CallsV Try.prog F_containsS #[(.slice s_0.p s_0.n s_0.c), (.string v_1)] u R :=
  fcall (L0 := []) (xs := [.v (.slice s_0.p s_0.n s_0.c), .v (.string v_1)]) (fn := Try.f45) (by kernel_rfl) (by kernel_rfl) (by kernel_rfl) (by kernel_rfl) hp (Eq.mpr (vc_containsS s_0 v_1 u R) h)

/- impl.moves:  -/
abbrev F_moves : FuncId := 78
def W_moves  (u : View) (R : Value → View → Prop) : Prop :=
  ∀ (b : Nat),
  View.lim u ≤ b →
  R (Value.slice (some (Addr.mk b 0 none)) 10 10)
  (View.set u b
  (Obj.cells
  #[Value.string (ByteArray.mk #[108, 101, 102, 116]), Value.string (ByteArray.mk #[114, 105, 103, 104, 116]), Value.string (ByteArray.mk #[119, 111, 114, 100, 45, 98, 97, 99, 107]),
  Value.string (ByteArray.mk #[119, 111, 114, 100, 45, 110, 101, 120, 116]), Value.string (ByteArray.mk #[108, 105, 110, 101, 45, 115, 116, 97, 114, 116]),
  Value.string (ByteArray.mk #[108, 105, 110, 101, 45, 101, 110, 100]), Value.string (ByteArray.mk #[117, 112]), Value.string (ByteArray.mk #[100, 111, 119, 110]),
  Value.string (ByteArray.mk #[102, 105, 114, 115, 116]), Value.string (ByteArray.mk #[108, 97, 115, 116])]
  9))

theorem vc_moves  (u : View) (R : Value → View → Prop) : VCfun Try.prog 149 pf (Option.getD Try.f78.body .skip) Try.f78.results.toList .no [] [] [] u R = W_moves  u R := by kernel_rfl

theorem c_moves  (u : View) (R : Value → View → Prop) (hp : preOK u []) (h : W_moves  u R) :
    CallsV Try.prog F_moves #[] u R :=
  fcall (L0 := []) (xs := []) (fn := Try.f78) (by kernel_rfl) (by kernel_rfl) (by kernel_rfl) (by kernel_rfl) hp (Eq.mpr (vc_moves  u R) h)

/- impl.isKeyName: loop: t6 ; own [] -/
abbrev F_isKeyName : FuncId := 122
def W_isKeyName (s_0 : ByteArray) (u : View) (R : Value → View → Prop) : Prop :=
  ∃ (I : Int × View → Prop),
  ∃ (μ : Int × View → Nat),
  (I (0, u) ∧ True) ∧
  ∀ (junk : Nat → Value) (x : Int) (u : View),
  I (x, u) →
  (decide (x < (↑(ByteArray.size s_0) : Int)) = true →
  ∃ (b : UInt8),
  s_0[Int.toNat x]? = some b ∧
  0 ≤ x ∧
  (decide ((↑(UInt8.toNat b) : Int) ≥ 97) = true →
  ∃ (b : UInt8),
  s_0[Int.toNat x]? = some b ∧
  0 ≤ x ∧
  (decide ((↑(UInt8.toNat b) : Int) ≤ 122) = false →
  ∃ (b : UInt8),
  s_0[Int.toNat x]? = some b ∧
  0 ≤ x ∧
  ((!(↑(UInt8.toNat b) : Int) == 45) = true → R (Value.bool false) u) ∧
  ((!(↑(UInt8.toNat b) : Int) == 45) = false → (I (IntKind.wrap IntKind.i64 (x + 1), u) ∧ μ (IntKind.wrap IntKind.i64 (x + 1), u) < μ (x, u)) ∧ True)) ∧
  (decide ((↑(UInt8.toNat b) : Int) ≤ 122) = true → (I (IntKind.wrap IntKind.i64 (x + 1), u) ∧ μ (IntKind.wrap IntKind.i64 (x + 1), u) < μ (x, u)) ∧ True)) ∧
  (decide ((↑(UInt8.toNat b) : Int) ≥ 97) = false →
  ∃ (b : UInt8),
  s_0[Int.toNat x]? = some b ∧
  0 ≤ x ∧
  ((!(↑(UInt8.toNat b) : Int) == 45) = true → R (Value.bool false) u) ∧
  ((!(↑(UInt8.toNat b) : Int) == 45) = false → (I (IntKind.wrap IntKind.i64 (x + 1), u) ∧ μ (IntKind.wrap IntKind.i64 (x + 1), u) < μ (x, u)) ∧ True))) ∧
  (decide (x < (↑(ByteArray.size s_0) : Int)) = false →
  CallsV Try.prog 70 #[Value.int IntKind.i64 (↑(ByteArray.size s_0) : Int), Value.int IntKind.i64 1, Value.int IntKind.i64 20] u fun (v : Value) (u' : View) =>
  ∃ (x : Bool), v = Value.bool x ∧ R (Value.bool x) u')

theorem vc_isKeyName (s_0 : ByteArray) (u : View) (R : Value → View → Prop) : VCfun Try.prog 149 pf (Option.getD Try.f122.body .skip) Try.f122.results.toList (.seq .no (.seq (.seq .no (.block (.loop [(6, .one (.int .i64))] [(2, 4), (6, 27)] [] .no))) .no)) [] [.v (.string s_0)] [] u R = W_isKeyName s_0 u R := by kernel_rfl

theorem c_isKeyName (s_0 : ByteArray) (u : View) (R : Value → View → Prop) (hp : preOK u []) (h : W_isKeyName s_0 u R) :
    CallsV Try.prog F_isKeyName #[(.string s_0)] u R :=
  fcall (L0 := []) (xs := [.v (.string s_0)]) (fn := Try.f122) (by kernel_rfl) (by kernel_rfl) (by kernel_rfl) (by kernel_rfl) hp (Eq.mpr (vc_isKeyName s_0 u R) h)

/- impl.statementWords:  -/
abbrev F_statementWords : FuncId := 123
def W_statementWords  (u : View) (R : Value → View → Prop) : Prop :=
  ∀ (b : Nat),
  View.lim u ≤ b →
  R (Value.slice (some (Addr.mk b 0 none)) 9 9)
  (View.set u b
  (Obj.cells
  #[Value.string (ByteArray.mk #[108, 101, 116]), Value.string (ByteArray.mk #[105, 102]), Value.string (ByteArray.mk #[119, 104, 105, 108, 101]),
  Value.string (ByteArray.mk #[105, 110, 115, 101, 114, 116]), Value.string (ByteArray.mk #[100, 101, 108, 101, 116, 101]), Value.string (ByteArray.mk #[103, 111]),
  Value.string (ByteArray.mk #[109, 97, 114, 107]), Value.string (ByteArray.mk #[98, 101, 108, 108]), Value.string (ByteArray.mk #[100, 111])]
  9))

theorem vc_statementWords  (u : View) (R : Value → View → Prop) : VCfun Try.prog 149 pf (Option.getD Try.f123.body .skip) Try.f123.results.toList .no [] [] [] u R = W_statementWords  u R := by kernel_rfl

theorem c_statementWords  (u : View) (R : Value → View → Prop) (hp : preOK u []) (h : W_statementWords  u R) :
    CallsV Try.prog F_statementWords #[] u R :=
  fcall (L0 := []) (xs := []) (fn := Try.f123) (by kernel_rfl) (by kernel_rfl) (by kernel_rfl) (by kernel_rfl) hp (Eq.mpr (vc_statementWords  u R) h)

/- impl.leaves:  -/
abbrev F_leaves : FuncId := 124
def W_leaves  (u : View) (R : Value → View → Prop) : Prop :=
  ∀ (b : Nat),
  View.lim u ≤ b →
  ∃ (es : Array MapEntry),
  ∃ (clock : Nat),
  View.m (View.set u b (Obj.map #[] 0)) b = some (Obj.map es clock) ∧
  ∃ (a : Option (Nat × Value)),
  Instr.findNow TypeDesc.string (Value.string (ByteArray.mk #[99, 117, 114, 115, 111, 114])) (Array.toList es) 0 = some a ∧
  (∀ (i : Nat) (v : Value), a = some (i, v) → Option.map (fun (x : MapEntry) => MapEntry.key x) es[i]? = some (Value.string (ByteArray.mk #[99, 117, 114, 115, 111, 114]))) ∧
  ∃ (es_1 : Array MapEntry),
  ∃ (clock_1 : Nat),
  View.m (View.set (View.set u b (Obj.map #[] 0)) b (mapPut es clock (Value.string (ByteArray.mk #[99, 117, 114, 115, 111, 114])) (Value.int IntKind.i64 13) a)) b =
  some (Obj.map es_1 clock_1) ∧
  ∃ (a_1 : Option (Nat × Value)),
  Instr.findNow TypeDesc.string (Value.string (ByteArray.mk #[108, 101, 110, 103, 116, 104])) (Array.toList es_1) 0 = some a_1 ∧
  (∀ (i : Nat) (v : Value),
  a_1 = some (i, v) → Option.map (fun (x : MapEntry) => MapEntry.key x) es_1[i]? = some (Value.string (ByteArray.mk #[108, 101, 110, 103, 116, 104]))) ∧
  ∃ (es_2 : Array MapEntry),
  ∃ (clock_2 : Nat),
  View.m
  (View.set (View.set (View.set u b (Obj.map #[] 0)) b (mapPut es clock (Value.string (ByteArray.mk #[99, 117, 114, 115, 111, 114])) (Value.int IntKind.i64 13) a))
  b (mapPut es_1 clock_1 (Value.string (ByteArray.mk #[108, 101, 110, 103, 116, 104])) (Value.int IntKind.i64 14) a_1))
  b =
  some (Obj.map es_2 clock_2) ∧
  ∃ (a_2 : Option (Nat × Value)),
  Instr.findNow TypeDesc.string (Value.string (ByteArray.mk #[109, 97, 114, 107, 97, 116])) (Array.toList es_2) 0 = some a_2 ∧
  (∀ (i : Nat) (v : Value),
  a_2 = some (i, v) → Option.map (fun (x : MapEntry) => MapEntry.key x) es_2[i]? = some (Value.string (ByteArray.mk #[109, 97, 114, 107, 97, 116]))) ∧
  ∃ (es_3 : Array MapEntry),
  ∃ (clock_3 : Nat),
  View.m
  (View.set
  (View.set
  (View.set (View.set u b (Obj.map #[] 0)) b
  (mapPut es clock (Value.string (ByteArray.mk #[99, 117, 114, 115, 111, 114])) (Value.int IntKind.i64 13) a))
  b (mapPut es_1 clock_1 (Value.string (ByteArray.mk #[108, 101, 110, 103, 116, 104])) (Value.int IntKind.i64 14) a_1))
  b (mapPut es_2 clock_2 (Value.string (ByteArray.mk #[109, 97, 114, 107, 97, 116])) (Value.int IntKind.i64 15) a_2))
  b =
  some (Obj.map es_3 clock_3) ∧
  ∃ (a_3 : Option (Nat × Value)),
  Instr.findNow TypeDesc.string (Value.string (ByteArray.mk #[97, 116])) (Array.toList es_3) 0 = some a_3 ∧
  (∀ (i : Nat) (v : Value),
  a_3 = some (i, v) → Option.map (fun (x : MapEntry) => MapEntry.key x) es_3[i]? = some (Value.string (ByteArray.mk #[97, 116]))) ∧
  ∃ (es_4 : Array MapEntry),
  ∃ (clock_4 : Nat),
  View.m
  (View.set
  (View.set
  (View.set
  (View.set (View.set u b (Obj.map #[] 0)) b
  (mapPut es clock (Value.string (ByteArray.mk #[99, 117, 114, 115, 111, 114])) (Value.int IntKind.i64 13) a))
  b (mapPut es_1 clock_1 (Value.string (ByteArray.mk #[108, 101, 110, 103, 116, 104])) (Value.int IntKind.i64 14) a_1))
  b (mapPut es_2 clock_2 (Value.string (ByteArray.mk #[109, 97, 114, 107, 97, 116])) (Value.int IntKind.i64 15) a_2))
  b (mapPut es_3 clock_3 (Value.string (ByteArray.mk #[97, 116])) (Value.int IntKind.i64 16) a_3))
  b =
  some (Obj.map es_4 clock_4) ∧
  ∃ (a_4 : Option (Nat × Value)),
  Instr.findNow TypeDesc.string (Value.string (ByteArray.mk #[110, 111, 116])) (Array.toList es_4) 0 = some a_4 ∧
  (∀ (i : Nat) (v : Value),
  a_4 = some (i, v) →
  Option.map (fun (x : MapEntry) => MapEntry.key x) es_4[i]? = some (Value.string (ByteArray.mk #[110, 111, 116]))) ∧
  R (Value.map (some b))
  (View.set
  (View.set
  (View.set
  (View.set
  (View.set (View.set u b (Obj.map #[] 0)) b
  (mapPut es clock (Value.string (ByteArray.mk #[99, 117, 114, 115, 111, 114])) (Value.int IntKind.i64 13) a))
  b (mapPut es_1 clock_1 (Value.string (ByteArray.mk #[108, 101, 110, 103, 116, 104])) (Value.int IntKind.i64 14) a_1))
  b (mapPut es_2 clock_2 (Value.string (ByteArray.mk #[109, 97, 114, 107, 97, 116])) (Value.int IntKind.i64 15) a_2))
  b (mapPut es_3 clock_3 (Value.string (ByteArray.mk #[97, 116])) (Value.int IntKind.i64 16) a_3))
  b (mapPut es_4 clock_4 (Value.string (ByteArray.mk #[110, 111, 116])) (Value.int IntKind.i64 17) a_4))

theorem vc_leaves  (u : View) (R : Value → View → Prop) : VCfun Try.prog 149 pf (Option.getD Try.f124.body .skip) Try.f124.results.toList .no [] [] [] u R = W_leaves  u R := by kernel_rfl

theorem c_leaves  (u : View) (R : Value → View → Prop) (hp : preOK u []) (h : W_leaves  u R) :
    CallsV Try.prog F_leaves #[] u R :=
  fcall (L0 := []) (xs := []) (fn := Try.f124) (by kernel_rfl) (by kernel_rfl) (by kernel_rfl) (by kernel_rfl) hp (Eq.mpr (vc_leaves  u R) h)

/- impl.isVarName:  -/
abbrev F_isVarName : FuncId := 107
def W_isVarName (s_0 : ByteArray) (u : View) (R : Value → View → Prop) : Prop :=
  CallsV Try.prog 122 #[Value.string s_0] u fun (v : Value) (u' : View) =>
  ∃ (x : Bool),
  v = Value.bool x ∧
  (x = true →
  ((!eqS s_0 (ByteArray.mk #[101, 108, 115, 101])) = true →
  ((!eqS s_0 (ByteArray.mk #[111, 114])) = true →
  ((!eqS s_0 (ByteArray.mk #[97, 110, 100])) = true →
  CallsV Try.prog 123 #[] u' fun (v : Value) (u' : View) =>
  ∃ (x : Sl),
  v = Value.slice (Sl.p x) (Sl.n x) (Sl.c x) ∧
  CallsV Try.prog 45 #[Value.slice (Sl.p x) (Sl.n x) (Sl.c x), Value.string s_0] u' fun (v : Value) (u' : View) =>
  ∃ (x : Bool),
  v = Value.bool x ∧
  ((!x) = true →
  CallsV Try.prog 124 #[] u' fun (v : Value) (u' : View) =>
  ∃ (x : Nat),
  v = Value.map (some x) ∧
  ∃ (es : Array MapEntry),
  ∃ (clock : Nat),
  View.m u' x = some (Obj.map es clock) ∧
  ∃ (a : Option (Nat × Value)),
  Instr.findNow TypeDesc.string (Value.string s_0) (Array.toList es) 0 = some a ∧
  ∃ (x : Int),
  (match a with
  | some p => Prod.snd p = Value.int IntKind.i64 x
  | none => Value.int IntKind.i64 0 = Value.int IntKind.i64 x) ∧
  ((x == 0) = true → ∃ (b : UInt8), s_0[0]? = some b ∧ Int.ofNat 0 ≤ Int.ofNat 0 ∧ R (Value.bool ((↑(UInt8.toNat b) : Int) != 45)) u') ∧
  ((x == 0) = false → R (Value.bool false) u')) ∧
  ((!x) = false → R (Value.bool false) u')) ∧
  ((!eqS s_0 (ByteArray.mk #[97, 110, 100])) = false → R (Value.bool false) u')) ∧
  ((!eqS s_0 (ByteArray.mk #[111, 114])) = false → R (Value.bool false) u')) ∧
  ((!eqS s_0 (ByteArray.mk #[101, 108, 115, 101])) = false → R (Value.bool false) u')) ∧
  (x = false → R (Value.bool false) u')

theorem vc_isVarName (s_0 : ByteArray) (u : View) (R : Value → View → Prop) : VCfun Try.prog 149 pf (Option.getD Try.f107.body .skip) Try.f107.results.toList .no [] [.v (.string s_0)] [] u R = W_isVarName s_0 u R := by kernel_rfl

theorem c_isVarName (s_0 : ByteArray) (u : View) (R : Value → View → Prop) (hp : preOK u []) (h : W_isVarName s_0 u R) :
    CallsV Try.prog F_isVarName #[(.string s_0)] u R :=
  fcall (L0 := []) (xs := [.v (.string s_0)]) (fn := Try.f107) (by kernel_rfl) (by kernel_rfl) (by kernel_rfl) (by kernel_rfl) hp (Eq.mpr (vc_isVarName s_0 u R) h)

/- impl.fieldsRight:  -/
abbrev F_fieldsRight : FuncId := 76
def W_fieldsRight (n_0_0 : Int) (n_0_1 : Int) (n_0_2 : ByteArray) (n_0_3 : Int) (u : View) (R : Value → View → Prop) : Prop :=
  ∀ (b : Nat),
  View.lim u ≤ b →
  ((n_0_0 == 2) = true →
  ((n_0_1 == 0) = true → CallsV Try.prog 107 #[Value.string n_0_2] u fun (v : Value) (u' : View) => ∃ (x : Bool), v = Value.bool x ∧ R (Value.bool x) u') ∧
  ((n_0_1 == 0) = false → R (Value.bool false) u)) ∧
  ((n_0_0 == 2) = false →
  ((n_0_0 == 12) = true →
  ((n_0_1 == 0) = true → CallsV Try.prog 107 #[Value.string n_0_2] u fun (v : Value) (u' : View) => ∃ (x : Bool), v = Value.bool x ∧ R (Value.bool x) u') ∧
  ((n_0_1 == 0) = false → R (Value.bool false) u)) ∧
  ((n_0_0 == 12) = false →
  ((n_0_0 == 10) = true →
  ((n_0_1 == 0) = true →
  CallsV Try.prog 78 #[] u fun (v : Value) (u' : View) =>
  ∃ (x : Sl),
  v = Value.slice (Sl.p x) (Sl.n x) (Sl.c x) ∧
  CallsV Try.prog 45 #[Value.slice (Sl.p x) (Sl.n x) (Sl.c x), Value.string n_0_2] u' fun (v : Value) (u' : View) => ∃ (x : Bool), v = Value.bool x ∧ R (Value.bool x) u') ∧
  ((n_0_1 == 0) = false → R (Value.bool false) u)) ∧
  ((n_0_0 == 10) = false →
  ((n_0_0 == 11) = true →
  (eqS n_0_2 (ByteArray.mk #[]) = true →
  CallsV Try.prog 70 #[Value.int IntKind.i64 n_0_1, Value.int IntKind.i64 0, Value.int IntKind.i64 999999999] u fun (v : Value) (u' : View) =>
  ∃ (x : Bool), v = Value.bool x ∧ R (Value.bool x) u') ∧
  (eqS n_0_2 (ByteArray.mk #[]) = false → R (Value.bool false) u)) ∧
  ((n_0_0 == 11) = false → (eqS n_0_2 (ByteArray.mk #[]) = true → R (Value.bool (n_0_1 == 0)) u) ∧ (eqS n_0_2 (ByteArray.mk #[]) = false → R (Value.bool false) u)))))

theorem vc_fieldsRight (n_0_0 : Int) (n_0_1 : Int) (n_0_2 : ByteArray) (n_0_3 : Int) (u : View) (R : Value → View → Prop) : VCfun Try.prog 149 pf (Option.getD Try.f76.body .skip) Try.f76.results.toList .no [] [.v (.agg #[.int .i64 n_0_0, .int .i64 n_0_1, .string n_0_2, .int .i64 n_0_3])] [] u R = W_fieldsRight n_0_0 n_0_1 n_0_2 n_0_3 u R := by kernel_rfl

theorem c_fieldsRight (n_0_0 : Int) (n_0_1 : Int) (n_0_2 : ByteArray) (n_0_3 : Int) (u : View) (R : Value → View → Prop) (hp : preOK u []) (h : W_fieldsRight n_0_0 n_0_1 n_0_2 n_0_3 u R) :
    CallsV Try.prog F_fieldsRight #[(.agg #[.int .i64 n_0_0, .int .i64 n_0_1, .string n_0_2, .int .i64 n_0_3])] u R :=
  fcall (L0 := []) (xs := [.v (.agg #[.int .i64 n_0_0, .int .i64 n_0_1, .string n_0_2, .int .i64 n_0_3])]) (fn := Try.f76) (by kernel_rfl) (by kernel_rfl) (by kernel_rfl) (by kernel_rfl) hp (Eq.mpr (vc_fieldsRight n_0_0 n_0_1 n_0_2 n_0_3 u R) h)

/- impl.isKid:  -/
abbrev F_isKid : FuncId := 77
def W_isKid (parent_0 : Int) (parent_1 : Int) (parent_2 : ByteArray) (parent_3 : Int) (i_1 : Int) (kid_0 : Int) (kid_1 : Int) (kid_2 : ByteArray) (kid_3 : Int) (u : View) (R : Value → View → Prop) : Prop :=
  ∀ (b : Nat),
  View.lim u ≤ b →
  ∀ (b : Nat),
  View.lim u ≤ b →
  ((parent_0 == 1) = true →
  CallsV Try.prog 70 #[Value.int IntKind.i64 kid_0, Value.int IntKind.i64 2, Value.int IntKind.i64 10] u fun (v : Value) (u' : View) =>
  ∃ (x : Bool), v = Value.bool x ∧ R (Value.bool x) u') ∧
  ((parent_0 == 1) = false →
  (decide (i_1 > 0) = true →
  ((parent_0 == 3) = false →
  ((parent_0 == 4) = true → R (Value.bool (kid_0 == 1)) u) ∧
  ((parent_0 == 4) = false →
  CallsV Try.prog 70 #[Value.int IntKind.i64 kid_0, Value.int IntKind.i64 11, Value.int IntKind.i64 26] u fun (v : Value) (u' : View) =>
  ∃ (x : Bool), v = Value.bool x ∧ R (Value.bool x) u')) ∧
  ((parent_0 == 3) = true → R (Value.bool (kid_0 == 1)) u)) ∧
  (decide (i_1 > 0) = false →
  CallsV Try.prog 70 #[Value.int IntKind.i64 kid_0, Value.int IntKind.i64 11, Value.int IntKind.i64 26] u fun (v : Value) (u' : View) =>
  ∃ (x : Bool), v = Value.bool x ∧ R (Value.bool x) u'))

theorem vc_isKid (parent_0 : Int) (parent_1 : Int) (parent_2 : ByteArray) (parent_3 : Int) (i_1 : Int) (kid_0 : Int) (kid_1 : Int) (kid_2 : ByteArray) (kid_3 : Int) (u : View) (R : Value → View → Prop) : VCfun Try.prog 149 pf (Option.getD Try.f77.body .skip) Try.f77.results.toList .no [] [.v (.agg #[.int .i64 parent_0, .int .i64 parent_1, .string parent_2, .int .i64 parent_3]), .v (.int .i64 i_1), .v (.agg #[.int .i64 kid_0, .int .i64 kid_1, .string kid_2, .int .i64 kid_3])] [] u R = W_isKid parent_0 parent_1 parent_2 parent_3 i_1 kid_0 kid_1 kid_2 kid_3 u R := by kernel_rfl

theorem c_isKid (parent_0 : Int) (parent_1 : Int) (parent_2 : ByteArray) (parent_3 : Int) (i_1 : Int) (kid_0 : Int) (kid_1 : Int) (kid_2 : ByteArray) (kid_3 : Int) (u : View) (R : Value → View → Prop) (hp : preOK u []) (h : W_isKid parent_0 parent_1 parent_2 parent_3 i_1 kid_0 kid_1 kid_2 kid_3 u R) :
    CallsV Try.prog F_isKid #[(.agg #[.int .i64 parent_0, .int .i64 parent_1, .string parent_2, .int .i64 parent_3]), (.int .i64 i_1), (.agg #[.int .i64 kid_0, .int .i64 kid_1, .string kid_2, .int .i64 kid_3])] u R :=
  fcall (L0 := []) (xs := [.v (.agg #[.int .i64 parent_0, .int .i64 parent_1, .string parent_2, .int .i64 parent_3]), .v (.int .i64 i_1), .v (.agg #[.int .i64 kid_0, .int .i64 kid_1, .string kid_2, .int .i64 kid_3])]) (fn := Try.f77) (by kernel_rfl) (by kernel_rfl) (by kernel_rfl) (by kernel_rfl) hp (Eq.mpr (vc_isKid parent_0 parent_1 parent_2 parent_3 i_1 kid_0 kid_1 kid_2 kid_3 u R) h)

/- impl.survey$1:  -/
abbrev F_survey1 : FuncId := 44
def W_survey1 (n_0_0 : Int) (n_0_1 : Int) (n_0_2 : ByteArray) (n_0_3 : Int) (depth : Int) (t2 : Addr) (t3 : Addr) (u : View) (R : Value → View → Prop) : Prop :=
  ∀ (b : Nat),
  View.lim u ≤ b →
  ∃ (x : Int),
  View.cell u t2 = some (Value.int IntKind.i64 x) ∧
  ∃ (c : Array Value),
  ∃ (T' : TypeId),
  ∃ (fz : Nat × Nat),
  View.m u (Addr.block t2) = some (Obj.cells c T' fz) ∧
  fzOK fz (Array.size c) ∧
  Addr.spot t2 = none ∧
  Addr.off t2 + 1 ≤ Array.size c ∧
  ((n_0_0 == 2) = false →
  ((n_0_0 == 12) = true →
  ∃ (x_1 : Sl),
  View.cell
  (View.set u (Addr.block t2) (Obj.cells (List.toArray (List.set (Array.toList c) (Addr.off t2) (Value.int IntKind.i64 (if depth > x then depth else x)))) T' fz))
  t3 =
  some (Value.slice (Sl.p x_1) (Sl.n x_1) (Sl.c x_1)) ∧
  CallsV Try.prog 45 #[Value.slice (Sl.p x_1) (Sl.n x_1) (Sl.c x_1), Value.string n_0_2]
  (View.set u (Addr.block t2) (Obj.cells (List.toArray (List.set (Array.toList c) (Addr.off t2) (Value.int IntKind.i64 (if depth > x then depth else x)))) T' fz))
  fun (v : Value) (u' : View) =>
  ∃ (x : Bool),
  v = Value.bool x ∧
  ((!x) = true →
  ∃ (x : Sl),
  View.cell u' t3 = some (Value.slice (Sl.p x) (Sl.n x) (Sl.c x)) ∧
  ∀ (b : Nat),
  View.lim u' ≤ b →
  ∃ (new : List Value),
  List.length new = 1 ∧
  (∀ (v : Value), v ∈ new → Value.oneCell' v = true) ∧
  CellsO (View.set u' b (Obj.cells #[Value.string n_0_2] 9)) (some (Addr.mk b 0 none)) new ∧
  appPre (View.set u' b (Obj.cells #[Value.string n_0_2] 9)) (Sl.p x) (Sl.n x) (Sl.c x) 1 16 1 new ∧
  ∀ (s' : Sl) (u'_1 : View),
  appPost (View.set u' b (Obj.cells #[Value.string n_0_2] 9)) (Sl.p x) (Sl.n x) (Sl.c x) 1 (Value.string (ByteArray.mk #[])) 9 1 new s'
  u'_1 →
  ∃ (c : Array Value),
  ∃ (T' : TypeId),
  ∃ (fz : Nat × Nat),
  View.m u'_1 (Addr.block t3) = some (Obj.cells c T' fz) ∧
  fzOK fz (Array.size c) ∧
  Addr.spot t3 = none ∧
  Addr.off t3 + 1 ≤ Array.size c ∧
  R (Value.tuple #[])
  (View.set u'_1 (Addr.block t3)
  (Obj.cells (List.toArray (List.set (Array.toList c) (Addr.off t3) (Value.slice (Sl.p s') (Sl.n s') (Sl.c s')))) T'
  fz))) ∧
  ((!x) = false → R (Value.tuple #[]) u')) ∧
  ((n_0_0 == 12) = false →
  R (Value.tuple #[])
  (View.set u (Addr.block t2) (Obj.cells (List.toArray (List.set (Array.toList c) (Addr.off t2) (Value.int IntKind.i64 (if depth > x then depth else x)))) T' fz)))) ∧
  ((n_0_0 == 2) = true →
  ∃ (x_1 : Sl),
  View.cell (View.set u (Addr.block t2) (Obj.cells (List.toArray (List.set (Array.toList c) (Addr.off t2) (Value.int IntKind.i64 (if depth > x then depth else x)))) T' fz))
  t3 =
  some (Value.slice (Sl.p x_1) (Sl.n x_1) (Sl.c x_1)) ∧
  CallsV Try.prog 45 #[Value.slice (Sl.p x_1) (Sl.n x_1) (Sl.c x_1), Value.string n_0_2]
  (View.set u (Addr.block t2) (Obj.cells (List.toArray (List.set (Array.toList c) (Addr.off t2) (Value.int IntKind.i64 (if depth > x then depth else x)))) T' fz))
  fun (v : Value) (u' : View) =>
  ∃ (x : Bool),
  v = Value.bool x ∧
  ((!x) = true →
  ∃ (x : Sl),
  View.cell u' t3 = some (Value.slice (Sl.p x) (Sl.n x) (Sl.c x)) ∧
  ∀ (b : Nat),
  View.lim u' ≤ b →
  ∃ (new : List Value),
  List.length new = 1 ∧
  (∀ (v : Value), v ∈ new → Value.oneCell' v = true) ∧
  CellsO (View.set u' b (Obj.cells #[Value.string n_0_2] 9)) (some (Addr.mk b 0 none)) new ∧
  appPre (View.set u' b (Obj.cells #[Value.string n_0_2] 9)) (Sl.p x) (Sl.n x) (Sl.c x) 1 16 1 new ∧
  ∀ (s' : Sl) (u'_1 : View),
  appPost (View.set u' b (Obj.cells #[Value.string n_0_2] 9)) (Sl.p x) (Sl.n x) (Sl.c x) 1 (Value.string (ByteArray.mk #[])) 9 1 new s' u'_1 →
  ∃ (c : Array Value),
  ∃ (T' : TypeId),
  ∃ (fz : Nat × Nat),
  View.m u'_1 (Addr.block t3) = some (Obj.cells c T' fz) ∧
  fzOK fz (Array.size c) ∧
  Addr.spot t3 = none ∧
  Addr.off t3 + 1 ≤ Array.size c ∧
  R (Value.tuple #[])
  (View.set u'_1 (Addr.block t3)
  (Obj.cells (List.toArray (List.set (Array.toList c) (Addr.off t3) (Value.slice (Sl.p s') (Sl.n s') (Sl.c s')))) T'
  fz))) ∧
  ((!x) = false → R (Value.tuple #[]) u'))

theorem vc_survey1 (n_0_0 : Int) (n_0_1 : Int) (n_0_2 : ByteArray) (n_0_3 : Int) (depth : Int) (t2 : Addr) (t3 : Addr) (u : View) (R : Value → View → Prop) : VCfun Try.prog 149 pf (Option.getD Try.f44.body .skip) Try.f44.results.toList .no [] [.v (.agg #[.int .i64 n_0_0, .int .i64 n_0_1, .string n_0_2, .int .i64 n_0_3]), .v (.int .i64 depth), .v (.pointer (some t2)), .v (.pointer (some t3))] [] u R = W_survey1 n_0_0 n_0_1 n_0_2 n_0_3 depth t2 t3 u R := by kernel_rfl

theorem c_survey1 (n_0_0 : Int) (n_0_1 : Int) (n_0_2 : ByteArray) (n_0_3 : Int) (depth : Int) (t2 : Addr) (t3 : Addr) (u : View) (R : Value → View → Prop) (hp : preOK u []) (h : W_survey1 n_0_0 n_0_1 n_0_2 n_0_3 depth t2 t3 u R) :
    CallsV Try.prog F_survey1 #[(.agg #[.int .i64 n_0_0, .int .i64 n_0_1, .string n_0_2, .int .i64 n_0_3]), (.int .i64 depth), (.pointer (some t2)), (.pointer (some t3))] u R :=
  fcall (L0 := []) (xs := [.v (.agg #[.int .i64 n_0_0, .int .i64 n_0_1, .string n_0_2, .int .i64 n_0_3]), .v (.int .i64 depth), .v (.pointer (some t2)), .v (.pointer (some t3))]) (fn := Try.f44) (by kernel_rfl) (by kernel_rfl) (by kernel_rfl) (by kernel_rfl) hp (Eq.mpr (vc_survey1 n_0_0 n_0_1 n_0_2 n_0_3 depth t2 t3 u R) h)

/- impl.tree: cut:  ; own [] | cut:  ; own [] | loop: o t56 ; own [] -/
abbrev F_tree : FuncId := 43
def W_tree (nodes : Sl) (at_ depth : Int) (c0 c1 : Addr) (u : View) (R : Value → View → Prop) : Prop :=
  ∃ (J : View → Prop),
  ((decide (at_ ≥ (↑(Sl.n nodes) : Int)) = false → (decide (depth > 20) = true → R (Value.int IntKind.i64 (-1)) u) ∧ (decide (depth > 20) = false → J u ∧ True)) ∧
  (decide (at_ ≥ (↑(Sl.n nodes) : Int)) = true → R (Value.int IntKind.i64 (-1)) u)) ∧
  ∀ (junk : Nat → Value) (u : View),
  J u →
  ∃ (ad : Addr),
  Sl.p nodes = some ad ∧
  0 ≤ at_ ∧
  at_ < (↑(Sl.n nodes) : Int) ∧
  ∃ (x : Int),
  ∃ (x_1 : Int),
  ∃ (x_2 : ByteArray),
  ∃ (x_3 : Int),
  (View.cell u (Addr.add (Addr.add ad (Int.toNat at_ * 4)) 0) = some (Value.int IntKind.i64 x) ∧
  View.cell u (Addr.add (Addr.add ad (Int.toNat at_ * 4)) 1) = some (Value.int IntKind.i64 x_1) ∧
  View.cell u (Addr.add (Addr.add ad (Int.toNat at_ * 4)) 2) = some (Value.string x_2) ∧
  View.cell u (Addr.add (Addr.add ad (Int.toNat at_ * 4)) 3) = some (Value.int IntKind.i64 x_3) ∧ True) ∧
  ∀ (b : Nat),
  View.lim u ≤ b →
  CallsV Try.prog 75 #[Value.int IntKind.i64 x] u fun (v : Value) (u' : View) =>
  ∃ (x_4 : Int),
  ∃ (x_5 : Int),
  v = Value.tuple #[Value.int IntKind.i64 x_4, Value.int IntKind.i64 x_5] ∧
  ∃ (J : View → Prop),
  (CallsV Try.prog 70 #[Value.int IntKind.i64 x, Value.int IntKind.i64 1, Value.int IntKind.i64 26] u' fun (v : Value) (u' : View) =>
  ∃ (x_6 : Bool),
  v = Value.bool x_6 ∧
  ((!x_6) = false →
  CallsV Try.prog 70 #[Value.int IntKind.i64 x_3, Value.int IntKind.i64 x_4, Value.int IntKind.i64 x_5] u' fun (v : Value) (u' : View) =>
  ∃ (x_7 : Bool),
  v = Value.bool x_7 ∧
  ((!x_7) = false →
  CallsV Try.prog 76 #[Value.agg #[Value.int IntKind.i64 x, Value.int IntKind.i64 x_1, Value.string x_2, Value.int IntKind.i64 x_3]] u'
  fun (v : Value) (u' : View) =>
  ∃ (x_8 : Bool),
  v = Value.bool x_8 ∧
  ((!x_8) = true → R (Value.int IntKind.i64 (-1)) u') ∧
  ((!x_8) = false →
  J u' ∧
  sameL [Value.int IntKind.i64 x, Value.int IntKind.i64 x_1, Value.string x_2, Value.int IntKind.i64 x_3]
  [Value.int IntKind.i64 x, Value.int IntKind.i64 x_1, Value.string x_2, Value.int IntKind.i64 x_3] ∧
  True)) ∧
  ((!x_7) = true → R (Value.int IntKind.i64 (-1)) u')) ∧
  ((!x_6) = true → R (Value.int IntKind.i64 (-1)) u')) ∧
  ∀ (junk : Nat → Value) (u : View),
  J u →
  true = true ∧
  CallsV Try.prog 44
  #[Value.agg #[Value.int IntKind.i64 x, Value.int IntKind.i64 x_1, Value.string x_2, Value.int IntKind.i64 x_3], Value.int IntKind.i64 depth,
  Value.pointer (some c0), Value.pointer (some c1)]
  u fun (v : Value) (u' : View) =>
  v = Value.tuple #[] ∧
  ∃ (I : Int × Int × View → Prop),
  ∃ (μ : Int × Int × View → Nat),
  (I (IntKind.wrap IntKind.i64 (at_ + 1), 0, u') ∧
  sameL [Value.int IntKind.i64 x, Value.int IntKind.i64 x_1, Value.string x_2, Value.int IntKind.i64 x_3]
  [Value.int IntKind.i64 x, Value.int IntKind.i64 x_1, Value.string x_2, Value.int IntKind.i64 x_3] ∧
  True) ∧
  ∀ (junk : Nat → Value) (x_6 x_7 : Int) (u : View),
  I (x_6, x_7, u) →
  (decide (x_7 < x_3) = true →
  (decide (x_6 ≥ (↑(Sl.n nodes) : Int)) = false →
  ∃ (ad : Addr),
  Sl.p nodes = some ad ∧
  0 ≤ x_6 ∧
  x_6 < (↑(Sl.n nodes) : Int) ∧
  ∃ (x_8 : Int),
  ∃ (x_9 : Int),
  ∃ (x_10 : ByteArray),
  ∃ (x_11 : Int),
  (View.cell u (Addr.add (Addr.add ad (Int.toNat x_6 * 4)) 0) = some (Value.int IntKind.i64 x_8) ∧
  View.cell u (Addr.add (Addr.add ad (Int.toNat x_6 * 4)) 1) = some (Value.int IntKind.i64 x_9) ∧
  View.cell u (Addr.add (Addr.add ad (Int.toNat x_6 * 4)) 2) = some (Value.string x_10) ∧
  View.cell u (Addr.add (Addr.add ad (Int.toNat x_6 * 4)) 3) = some (Value.int IntKind.i64 x_11) ∧ True) ∧
  CallsV Try.prog 77
  #[Value.agg
  #[Value.int IntKind.i64 x, Value.int IntKind.i64 x_1, Value.string x_2, Value.int IntKind.i64 x_3],
  Value.int IntKind.i64 x_7,
  Value.agg
  #[Value.int IntKind.i64 x_8, Value.int IntKind.i64 x_9, Value.string x_10, Value.int IntKind.i64 x_11]]
  u fun (v : Value) (u' : View) =>
  ∃ (x_12 : Bool),
  v = Value.bool x_12 ∧
  ((!x_12) = true → R (Value.int IntKind.i64 (-1)) u') ∧
  ((!x_12) = false →
  CallsV Try.prog 43
  #[Value.slice (Sl.p nodes) (Sl.n nodes) (Sl.c nodes), Value.int IntKind.i64 x_6,
  Value.int IntKind.i64 (IntKind.wrap IntKind.i64 (depth + 1)),
  Value.func (Fn.func 44) #[] #[Value.pointer (some c0), Value.pointer (some c1)]]
  u' fun (v : Value) (u' : View) =>
  ∃ (x_13 : Int),
  v = Value.int IntKind.i64 x_13 ∧
  (decide (x_13 < 0) = true → R (Value.int IntKind.i64 (-1)) u') ∧
  (decide (x_13 < 0) = false →
  (I (x_13, IntKind.wrap IntKind.i64 (x_7 + 1), u') ∧
  μ (x_13, IntKind.wrap IntKind.i64 (x_7 + 1), u') < μ (x_6, x_7, u)) ∧
  sameL
  [Value.int IntKind.i64 x, Value.int IntKind.i64 x_1, Value.string x_2,
  Value.int IntKind.i64 x_3]
  [Value.int IntKind.i64 x, Value.int IntKind.i64 x_1, Value.string x_2,
  Value.int IntKind.i64 x_3] ∧
  True))) ∧
  (decide (x_6 ≥ (↑(Sl.n nodes) : Int)) = true → R (Value.int IntKind.i64 (-1)) u)) ∧
  (decide (x_7 < x_3) = false → R (Value.int IntKind.i64 x_6) u)

theorem vc_tree (nodes : Sl) (at_ depth : Int) (c0 c1 : Addr) (u : View) (R : Value → View → Prop) : VCfun Try.prog 149 pf (Option.getD Try.f43.body .skip) Try.f43.results.toList (.seq .no (.cut [] [(8, 9), (13, 21)] [] .no (.seq .no (.seq .no (.cut [] [(8, 9), (31, 48)] [] .no (.seq .no (.seq .no (.seq (.seq .no (.block (.loop [(1, .one (.int .i64)), (56, .one (.int .i64))] [(1, 2), (8, 9), (12, 13), (56, 82)] [] .no))) .no)))))))) [] [.v (.slice nodes.p nodes.n nodes.c), .v (.int .i64 at_), .v (.int .i64 depth), .v (.func (.func 44) #[] #[.pointer (some c0), .pointer (some c1)])] [] u R = W_tree nodes at_ depth c0 c1 u R := by kernel_rfl

theorem c_tree (nodes : Sl) (at_ depth : Int) (c0 c1 : Addr) (u : View) (R : Value → View → Prop) (hp : preOK u []) (h : W_tree nodes at_ depth c0 c1 u R) :
    CallsV Try.prog F_tree #[(.slice nodes.p nodes.n nodes.c), (.int .i64 at_), (.int .i64 depth), (.func (.func 44) #[] #[.pointer (some c0), .pointer (some c1)])] u R :=
  fcall (L0 := []) (xs := [.v (.slice nodes.p nodes.n nodes.c), .v (.int .i64 at_), .v (.int .i64 depth), .v (.func (.func 44) #[] #[.pointer (some c0), .pointer (some c1)])]) (fn := Try.f43) (by kernel_rfl) (by kernel_rfl) (by kernel_rfl) (by kernel_rfl) hp (Eq.mpr (vc_tree nodes at_ depth c0 c1 u R) h)

/- impl.survey: cut:  ; own [] -/
abbrev F_survey : FuncId := 23
def W_survey (nodes : Sl) (u : View) (R : Value → View → Prop) : Prop :=
  ∃ (J : View → Prop),
  ((((↑(Sl.n nodes) : Int) == 0) = false →
  (decide ((↑(Sl.n nodes) : Int) > 200) = false →
  ∃ (ad : Addr),
  Sl.p nodes = some ad ∧
  Int.ofNat 0 ≤ Int.ofNat 0 ∧
  0 < (↑(Sl.n nodes) : Int) ∧
  ∃ (x : Int),
  View.cell u (Addr.add (Addr.add ad 0) 0) = some (Value.int IntKind.i64 x) ∧
  ((x != 1) = true → R (Value.tuple #[Value.slice none 0 0, Value.int IntKind.i64 0, Value.bool false]) u) ∧ ((x != 1) = false → J u ∧ True)) ∧
  (decide ((↑(Sl.n nodes) : Int) > 200) = true → R (Value.tuple #[Value.slice none 0 0, Value.int IntKind.i64 0, Value.bool false]) u)) ∧
  (((↑(Sl.n nodes) : Int) == 0) = true → R (Value.tuple #[Value.slice none 0 0, Value.int IntKind.i64 0, Value.bool false]) u)) ∧
  ∀ (junk : Nat → Value) (u : View),
  J u →
  ∀ (b : Nat),
  View.lim u ≤ b →
  ∀ (b_1 : Nat),
  View.lim (View.set u b (Obj.cells #[] 9)) ≤ b_1 →
  ∀ (b_2 : Nat),
  View.lim (View.set u b (Obj.cells #[] 9)) ≤ b_2 →
  ∀ (uc : View),
  View.lim (View.set u b (Obj.cells #[] 9)) ≤ View.lim uc →
  (∀ (b_3 : Nat) (o : Obj), View.m (View.set u b (Obj.cells #[] 9)) b_3 = some o → View.m uc b_3 = some o) →
  View.m (View.set u b (Obj.cells #[] 9)) b_2 = none →
  b_2 < View.lim uc →
  View.m uc b_2 = some (Obj.cells #[Value.int IntKind.i64 0] 2) →
  View.m (View.set u b (Obj.cells #[] 9)) b_1 = none →
  b_1 < View.lim uc →
  View.m uc b_1 = some (Obj.cells #[Value.slice (some (Addr.mk b 0 none)) 0 0] 51) →
  CallsV Try.prog 43
  #[Value.slice (Sl.p nodes) (Sl.n nodes) (Sl.c nodes), Value.int IntKind.i64 0, Value.int IntKind.i64 1,
  Value.func (Fn.func 44) #[] #[Value.pointer (some (Addr.mk b_2 0 none)), Value.pointer (some (Addr.mk b_1 0 none))]]
  uc fun (v : Value) (u' : View) =>
  ∃ (x : Int),
  v = Value.int IntKind.i64 x ∧
  ∃ (x_1 : Int),
  View.m u' b_2 = some (Obj.cells #[Value.int IntKind.i64 x_1] 2) ∧
  ∃ (x_2 : Sl),
  View.m u' b_1 = some (Obj.cells #[Value.slice (Sl.p x_2) (Sl.n x_2) (Sl.c x_2)] 51) ∧
  ∀ (u'' : View),
  View.lim u'' = View.lim u' →
  (∀ (b_3 : Nat) (o o' : Obj), View.m (View.set u b (Obj.cells #[] 9)) b_3 = some o → View.m u' b_3 = some o' → View.m u'' b_3 = some o') →
  (∀ (b : Nat) (o : Obj), View.lim uc ≤ b → View.m u' b = some o → View.m u'' b = some o) →
  ((x == (↑(Sl.n nodes) : Int)) = true →
  R
  (Value.tuple
  #[Value.slice (Sl.p x_2) (Sl.n x_2) (Sl.c x_2), Value.int IntKind.i64 x_1, Value.bool (decide ((↑(Sl.n x_2) : Int) ≤ 8))])
  u'') ∧
  ((x == (↑(Sl.n nodes) : Int)) = false →
  R (Value.tuple #[Value.slice (Sl.p x_2) (Sl.n x_2) (Sl.c x_2), Value.int IntKind.i64 x_1, Value.bool false]) u'')

theorem vc_survey (nodes : Sl) (u : View) (R : Value → View → Prop) : VCfun Try.prog 149 pf (Option.getD Try.f23.body .skip) Try.f23.results.toList (.seq .no (.cut [] [(2, 5), (8, 23)] [] .no .no)) [] [.v (.slice nodes.p nodes.n nodes.c)] [] u R = W_survey nodes u R := by kernel_rfl

theorem c_survey (nodes : Sl) (u : View) (R : Value → View → Prop) (hp : preOK u []) (h : W_survey nodes u R) :
    CallsV Try.prog F_survey #[(.slice nodes.p nodes.n nodes.c)] u R :=
  fcall (L0 := []) (xs := [.v (.slice nodes.p nodes.n nodes.c)]) (fn := Try.f23) (by kernel_rfl) (by kernel_rfl) (by kernel_rfl) (by kernel_rfl) hp (Eq.mpr (vc_survey nodes u R) h)

/- (*impl.coder).add:  -/
abbrev F_add : FuncId := 46
def W_add (c_0 : Addr) (kind : Int) (num : Int) (u : View) (R : Value → View → Prop) : Prop :=
  ∃ (x : Sl),
  View.cell u (Addr.add c_0 2) = some (Value.slice (Sl.p x) (Sl.n x) (Sl.c x)) ∧
  ∀ (b : Nat),
  View.lim u ≤ b →
  ∃ (new : List Value),
  List.length new = 2 ∧
  (∀ (v : Value), v ∈ new → Value.oneCell' v = true) ∧
  CellsO (View.set u b (Obj.cells #[Value.int IntKind.i64 kind, Value.int IntKind.i64 num] 33)) (some (Addr.mk b 0 none)) new ∧
  appPre (View.set u b (Obj.cells #[Value.int IntKind.i64 kind, Value.int IntKind.i64 num] 33)) (Sl.p x) (Sl.n x) (Sl.c x) 2 16 1 new ∧
  ∀ (s' : Sl) (u' : View),
  appPost (View.set u b (Obj.cells #[Value.int IntKind.i64 kind, Value.int IntKind.i64 num] 33)) (Sl.p x) (Sl.n x) (Sl.c x) 2
  (Value.agg #[Value.int IntKind.i64 0, Value.int IntKind.i64 0]) 33 1 new s' u' →
  ∃ (c : Array Value),
  ∃ (T' : TypeId),
  ∃ (fz : Nat × Nat),
  View.m u' (Addr.block (Addr.add c_0 2)) = some (Obj.cells c T' fz) ∧
  fzOK fz (Array.size c) ∧
  Addr.spot (Addr.add c_0 2) = none ∧
  Addr.off (Addr.add c_0 2) + 1 ≤ Array.size c ∧
  ∃ (x : Sl),
  View.cell
  (View.set u' (Addr.block (Addr.add c_0 2))
  (Obj.cells (List.toArray (List.set (Array.toList c) (Addr.off (Addr.add c_0 2)) (Value.slice (Sl.p s') (Sl.n s') (Sl.c s')))) T' fz))
  (Addr.add c_0 2) =
  some (Value.slice (Sl.p x) (Sl.n x) (Sl.c x)) ∧
  R (Value.int IntKind.i64 (IntKind.wrap IntKind.i64 ((↑(Sl.n x) : Int) - 1)))
  (View.set u' (Addr.block (Addr.add c_0 2))
  (Obj.cells (List.toArray (List.set (Array.toList c) (Addr.off (Addr.add c_0 2)) (Value.slice (Sl.p s') (Sl.n s') (Sl.c s')))) T' fz))

theorem vc_add (c_0 : Addr) (kind : Int) (num : Int) (u : View) (R : Value → View → Prop) : VCfun Try.prog 149 pf (Option.getD Try.f46.body .skip) Try.f46.results.toList .no [] [.v (.pointer (some c_0)), .v (.int .i64 kind), .v (.int .i64 num)] [] u R = W_add c_0 kind num u R := by kernel_rfl

theorem c_add (c_0 : Addr) (kind : Int) (num : Int) (u : View) (R : Value → View → Prop) (hp : preOK u []) (h : W_add c_0 kind num u R) :
    CallsV Try.prog F_add #[(.pointer (some c_0)), (.int .i64 kind), (.int .i64 num)] u R :=
  fcall (L0 := []) (xs := [.v (.pointer (some c_0)), .v (.int .i64 kind), .v (.int .i64 num)]) (fn := Try.f46) (by kernel_rfl) (by kernel_rfl) (by kernel_rfl) (by kernel_rfl) hp (Eq.mpr (vc_add c_0 kind num u R) h)

/- impl.size<impl.Op>:  -/
abbrev F_sizeOp : FuncId := 55
def W_sizeOp (list : Sl) (u : View) (R : Value → View → Prop) : Prop :=
  R (Value.int IntKind.i64 (↑(Sl.n list) : Int)) u

theorem vc_sizeOp (list : Sl) (u : View) (R : Value → View → Prop) : VCfun Try.prog 149 pf (Option.getD Try.f55.body .skip) Try.f55.results.toList .no [] [.v (.slice list.p list.n list.c)] [] u R = W_sizeOp list u R := by kernel_rfl

theorem c_sizeOp (list : Sl) (u : View) (R : Value → View → Prop) (hp : preOK u []) (h : W_sizeOp list u R) :
    CallsV Try.prog F_sizeOp #[(.slice list.p list.n list.c)] u R :=
  fcall (L0 := []) (xs := [.v (.slice list.p list.n list.c)]) (fn := Try.f55) (by kernel_rfl) (by kernel_rfl) (by kernel_rfl) (by kernel_rfl) hp (Eq.mpr (vc_sizeOp list u R) h)

/- (*impl.coder).here:  -/
abbrev F_here : FuncId := 47
def W_here (c_0 : Addr) (u : View) (R : Value → View → Prop) : Prop :=
  ∃ (x : Sl),
  View.cell u (Addr.add c_0 2) = some (Value.slice (Sl.p x) (Sl.n x) (Sl.c x)) ∧
  CallsV Try.prog 55 #[Value.slice (Sl.p x) (Sl.n x) (Sl.c x)] u fun (v : Value) (u' : View) => ∃ (x : Int), v = Value.int IntKind.i64 x ∧ R (Value.int IntKind.i64 x) u'

theorem vc_here (c_0 : Addr) (u : View) (R : Value → View → Prop) : VCfun Try.prog 149 pf (Option.getD Try.f47.body .skip) Try.f47.results.toList .no [] [.v (.pointer (some c_0))] [] u R = W_here c_0 u R := by kernel_rfl

theorem c_here (c_0 : Addr) (u : View) (R : Value → View → Prop) (hp : preOK u []) (h : W_here c_0 u R) :
    CallsV Try.prog F_here #[(.pointer (some c_0))] u R :=
  fcall (L0 := []) (xs := [.v (.pointer (some c_0))]) (fn := Try.f47) (by kernel_rfl) (by kernel_rfl) (by kernel_rfl) (by kernel_rfl) hp (Eq.mpr (vc_here c_0 u R) h)

/- impl.moveKind:  -/
abbrev F_moveKind : FuncId := 49
def W_moveKind (word : ByteArray) (u : View) (R : Value → View → Prop) : Prop :=
  CallsV Try.prog 78 #[] u fun (v : Value) (u' : View) =>
  ∃ (x : Sl),
  v = Value.slice (Sl.p x) (Sl.n x) (Sl.c x) ∧
  CallsV Try.prog 48 #[Value.slice (Sl.p x) (Sl.n x) (Sl.c x), Value.string word] u' fun (v : Value) (u' : View) =>
  ∃ (x : Int), v = Value.int IntKind.i64 x ∧ R (Value.int IntKind.i64 (IntKind.wrap IntKind.i64 (x + 1))) u'

theorem vc_moveKind (word : ByteArray) (u : View) (R : Value → View → Prop) : VCfun Try.prog 149 pf (Option.getD Try.f49.body .skip) Try.f49.results.toList .no [] [.v (.string word)] [] u R = W_moveKind word u R := by kernel_rfl

theorem c_moveKind (word : ByteArray) (u : View) (R : Value → View → Prop) (hp : preOK u []) (h : W_moveKind word u R) :
    CallsV Try.prog F_moveKind #[(.string word)] u R :=
  fcall (L0 := []) (xs := [.v (.string word)]) (fn := Try.f49) (by kernel_rfl) (by kernel_rfl) (by kernel_rfl) (by kernel_rfl) hp (Eq.mpr (vc_moveKind word u R) h)

/- impl.plainOp:  -/
abbrev F_plainOp : FuncId := 50
def W_plainOp (kind : Int) (u : View) (R : Value → View → Prop) : Prop :=
  ((kind == 13) = true → R (Value.int IntKind.i64 5) u) ∧
  ((kind == 13) = false →
  ((kind == 14) = true → R (Value.int IntKind.i64 6) u) ∧
  ((kind == 14) = false →
  ((kind == 15) = true → R (Value.int IntKind.i64 7) u) ∧
  ((kind == 15) = false →
  ((kind == 16) = true → R (Value.int IntKind.i64 8) u) ∧
  ((kind == 16) = false →
  ((kind == 17) = true → R (Value.int IntKind.i64 9) u) ∧
  ((kind == 17) = false →
  ((kind == 5) = true → R (Value.int IntKind.i64 13) u) ∧
  ((kind == 5) = false →
  ((kind == 6) = true → R (Value.int IntKind.i64 14) u) ∧
  ((kind == 6) = false →
  ((kind == 7) = true → R (Value.int IntKind.i64 15) u) ∧
  ((kind == 7) = false →
  ((kind == 8) = true → R (Value.int IntKind.i64 16) u) ∧
  ((kind == 8) = false → ((kind == 9) = true → R (Value.int IntKind.i64 17) u) ∧ ((kind == 9) = false → R (Value.int IntKind.i64 0) u))))))))))

theorem vc_plainOp (kind : Int) (u : View) (R : Value → View → Prop) : VCfun Try.prog 149 pf (Option.getD Try.f50.body .skip) Try.f50.results.toList .no [] [.v (.int .i64 kind)] [] u R = W_plainOp kind u R := by kernel_rfl

theorem c_plainOp (kind : Int) (u : View) (R : Value → View → Prop) (hp : preOK u []) (h : W_plainOp kind u R) :
    CallsV Try.prog F_plainOp #[(.int .i64 kind)] u R :=
  fcall (L0 := []) (xs := [.v (.int .i64 kind)]) (fn := Try.f50) (by kernel_rfl) (by kernel_rfl) (by kernel_rfl) (by kernel_rfl) hp (Eq.mpr (vc_plainOp kind u R) h)

/- (*impl.coder).node: cut: o t6 ; own [] | loop: o t89 ; own [] -/
abbrev F_node : FuncId := 24
def W_node (d_0 : Addr) (o_1 : Int) (u : View) (R : Value → View → Prop) : Prop :=
  ∃ (x : Sl),
  View.cell u (Addr.add d_0 0) = some (Value.slice (Sl.p x) (Sl.n x) (Sl.c x)) ∧
  ∃ (ad : Addr),
  Sl.p x = some ad ∧
  0 ≤ o_1 ∧
  o_1 < (↑(Sl.n x) : Int) ∧
  ∃ (x : Int),
  ∃ (x_1 : Int),
  ∃ (x_2 : ByteArray),
  ∃ (x_3 : Int),
  (View.cell u (Addr.add (Addr.add ad (Int.toNat o_1 * 4)) 0) = some (Value.int IntKind.i64 x) ∧
  View.cell u (Addr.add (Addr.add ad (Int.toNat o_1 * 4)) 1) = some (Value.int IntKind.i64 x_1) ∧
  View.cell u (Addr.add (Addr.add ad (Int.toNat o_1 * 4)) 2) = some (Value.string x_2) ∧
  View.cell u (Addr.add (Addr.add ad (Int.toNat o_1 * 4)) 3) = some (Value.int IntKind.i64 x_3) ∧ True) ∧
  ∀ (b : Nat),
  View.lim u ≤ b →
  CallsV Try.prog 46 #[Value.pointer (some d_0), Value.int IntKind.i64 1, Value.int IntKind.i64 0] u fun (v : Value) (u' : View) =>
  ∃ (x_4 : Int),
  v = Value.int IntKind.i64 x_4 ∧
  ((x == 3) = true →
  CallsV Try.prog 24 #[Value.pointer (some d_0), Value.int IntKind.i64 (IntKind.wrap IntKind.i64 (o_1 + 1))] u' fun (v : Value) (u' : View) =>
  ∃ (x_5 : Int),
  v = Value.int IntKind.i64 x_5 ∧
  CallsV Try.prog 46 #[Value.pointer (some d_0), Value.int IntKind.i64 12, Value.int IntKind.i64 0] u' fun (v : Value) (u' : View) =>
  ∃ (x_6 : Int),
  v = Value.int IntKind.i64 x_6 ∧
  CallsV Try.prog 24 #[Value.pointer (some d_0), Value.int IntKind.i64 x_5] u' fun (v : Value) (u' : View) =>
  ∃ (x_7 : Int),
  v = Value.int IntKind.i64 x_7 ∧
  ∃ (J : Int × Int × View → Prop),
  (((x_3 == 3) = true →
  CallsV Try.prog 46 #[Value.pointer (some d_0), Value.int IntKind.i64 11, Value.int IntKind.i64 0] u' fun (v : Value) (u' : View) =>
  ∃ (x_8 : Int),
  v = Value.int IntKind.i64 x_8 ∧
  ∃ (x_9 : Sl),
  View.cell u' (Addr.add d_0 2) = some (Value.slice (Sl.p x_9) (Sl.n x_9) (Sl.c x_9)) ∧
  CallsV Try.prog 47 #[Value.pointer (some d_0)] u' fun (v : Value) (u'_1 : View) =>
  ∃ (x_10 : Int),
  v = Value.int IntKind.i64 x_10 ∧
  View.lim u' ≤ View.lim u'_1 ∧
  (∀ (b : Nat) (o : Obj), View.m u' b = some o → View.m u'_1 b = some o) ∧
  ∃ (ad : Addr),
  Sl.p x_9 = some ad ∧
  0 ≤ x_6 ∧
  x_6 < (↑(Sl.n x_9) : Int) ∧
  ∃ (c : Array Value),
  ∃ (T' : TypeId),
  ∃ (fz : Nat × Nat),
  View.m u'_1 (Addr.block (Addr.add (Addr.add ad (Int.toNat x_6 * 2)) 1)) = some (Obj.cells c T' fz) ∧
  fzOK fz (Array.size c) ∧
  Addr.spot (Addr.add (Addr.add ad (Int.toNat x_6 * 2)) 1) = none ∧
  Addr.off (Addr.add (Addr.add ad (Int.toNat x_6 * 2)) 1) + 1 ≤ Array.size c ∧
  CallsV Try.prog 24 #[Value.pointer (some d_0), Value.int IntKind.i64 x_7]
  (View.set u'_1 (Addr.block (Addr.add (Addr.add ad (Int.toNat x_6 * 2)) 1))
  (Obj.cells
  (List.toArray
  (List.set (Array.toList c) (Addr.off (Addr.add (Addr.add ad (Int.toNat x_6 * 2)) 1))
  (Value.int IntKind.i64 x_10)))
  T' fz))
  fun (v : Value) (u' : View) =>
  ∃ (x_11 : Int),
  v = Value.int IntKind.i64 x_11 ∧
  J (x_11, x_8, u') ∧
  sameL
  [Value.int IntKind.i64 x, Value.int IntKind.i64 x_1, Value.string x_2,
  Value.int IntKind.i64 x_3]
  [Value.int IntKind.i64 x, Value.int IntKind.i64 x_1, Value.string x_2,
  Value.int IntKind.i64 x_3] ∧
  True) ∧
  ((x_3 == 3) = false →
  J (x_7, x_6, u') ∧
  sameL [Value.int IntKind.i64 x, Value.int IntKind.i64 x_1, Value.string x_2, Value.int IntKind.i64 x_3]
  [Value.int IntKind.i64 x, Value.int IntKind.i64 x_1, Value.string x_2, Value.int IntKind.i64 x_3] ∧
  True)) ∧
  ∀ (junk : Nat → Value) (x x_8 : Int) (u : View),
  J (x, x_8, u) →
  ∃ (x_9 : Sl),
  View.cell u (Addr.add d_0 2) = some (Value.slice (Sl.p x_9) (Sl.n x_9) (Sl.c x_9)) ∧
  CallsV Try.prog 47 #[Value.pointer (some d_0)] u fun (v : Value) (u' : View) =>
  ∃ (x_10 : Int),
  v = Value.int IntKind.i64 x_10 ∧
  View.lim u ≤ View.lim u' ∧
  (∀ (b : Nat) (o : Obj), View.m u b = some o → View.m u' b = some o) ∧
  ∃ (ad : Addr),
  Sl.p x_9 = some ad ∧
  0 ≤ x_8 ∧
  x_8 < (↑(Sl.n x_9) : Int) ∧
  ∃ (c : Array Value),
  ∃ (T' : TypeId),
  ∃ (fz : Nat × Nat),
  View.m u' (Addr.block (Addr.add (Addr.add ad (Int.toNat x_8 * 2)) 1)) = some (Obj.cells c T' fz) ∧
  fzOK fz (Array.size c) ∧
  Addr.spot (Addr.add (Addr.add ad (Int.toNat x_8 * 2)) 1) = none ∧
  Addr.off (Addr.add (Addr.add ad (Int.toNat x_8 * 2)) 1) + 1 ≤ Array.size c ∧
  R (Value.int IntKind.i64 x)
  (View.set u' (Addr.block (Addr.add (Addr.add ad (Int.toNat x_8 * 2)) 1))
  (Obj.cells
  (List.toArray
  (List.set (Array.toList c) (Addr.off (Addr.add (Addr.add ad (Int.toNat x_8 * 2)) 1))
  (Value.int IntKind.i64 x_10)))
  T' fz))) ∧
  ((x == 3) = false →
  ((x == 4) = true →
  CallsV Try.prog 47 #[Value.pointer (some d_0)] u' fun (v : Value) (u' : View) =>
  ∃ (x : Int),
  v = Value.int IntKind.i64 x ∧
  CallsV Try.prog 24 #[Value.pointer (some d_0), Value.int IntKind.i64 (IntKind.wrap IntKind.i64 (o_1 + 1))] u' fun (v : Value) (u' : View) =>
  ∃ (x_5 : Int),
  v = Value.int IntKind.i64 x_5 ∧
  CallsV Try.prog 46 #[Value.pointer (some d_0), Value.int IntKind.i64 12, Value.int IntKind.i64 0] u' fun (v : Value) (u' : View) =>
  ∃ (x_6 : Int),
  v = Value.int IntKind.i64 x_6 ∧
  CallsV Try.prog 24 #[Value.pointer (some d_0), Value.int IntKind.i64 x_5] u' fun (v : Value) (u' : View) =>
  ∃ (x_7 : Int),
  v = Value.int IntKind.i64 x_7 ∧
  CallsV Try.prog 46 #[Value.pointer (some d_0), Value.int IntKind.i64 11, Value.int IntKind.i64 x] u' fun (v : Value) (u' : View) =>
  ∃ (x : Int),
  v = Value.int IntKind.i64 x ∧
  ∃ (x : Sl),
  View.cell u' (Addr.add d_0 2) = some (Value.slice (Sl.p x) (Sl.n x) (Sl.c x)) ∧
  CallsV Try.prog 47 #[Value.pointer (some d_0)] u' fun (v : Value) (u'_1 : View) =>
  ∃ (x_8 : Int),
  v = Value.int IntKind.i64 x_8 ∧
  View.lim u' ≤ View.lim u'_1 ∧
  (∀ (b : Nat) (o : Obj), View.m u' b = some o → View.m u'_1 b = some o) ∧
  ∃ (ad : Addr),
  Sl.p x = some ad ∧
  0 ≤ x_6 ∧
  x_6 < (↑(Sl.n x) : Int) ∧
  ∃ (c : Array Value),
  ∃ (T' : TypeId),
  ∃ (fz : Nat × Nat),
  View.m u'_1 (Addr.block (Addr.add (Addr.add ad (Int.toNat x_6 * 2)) 1)) = some (Obj.cells c T' fz) ∧
  fzOK fz (Array.size c) ∧
  Addr.spot (Addr.add (Addr.add ad (Int.toNat x_6 * 2)) 1) = none ∧
  Addr.off (Addr.add (Addr.add ad (Int.toNat x_6 * 2)) 1) + 1 ≤ Array.size c ∧
  R (Value.int IntKind.i64 x_7)
  (View.set u'_1 (Addr.block (Addr.add (Addr.add ad (Int.toNat x_6 * 2)) 1))
  (Obj.cells
  (List.toArray
  (List.set (Array.toList c) (Addr.off (Addr.add (Addr.add ad (Int.toNat x_6 * 2)) 1))
  (Value.int IntKind.i64 x_8)))
  T' fz))) ∧
  ((x == 4) = false →
  ∃ (I : Int × Int × View → Prop),
  ∃ (μ : Int × Int × View → Nat),
  (I (IntKind.wrap IntKind.i64 (o_1 + 1), 0, u') ∧
  sameL [Value.int IntKind.i64 x, Value.int IntKind.i64 x_1, Value.string x_2, Value.int IntKind.i64 x_3]
  [Value.int IntKind.i64 x, Value.int IntKind.i64 x_1, Value.string x_2, Value.int IntKind.i64 x_3] ∧
  True) ∧
  ∀ (junk : Nat → Value) (x_5 x_6 : Int) (u : View),
  I (x_5, x_6, u) →
  (decide (x_6 < x_3) = true →
  CallsV Try.prog 24 #[Value.pointer (some d_0), Value.int IntKind.i64 x_5] u fun (v : Value) (u' : View) =>
  ∃ (x_7 : Int),
  v = Value.int IntKind.i64 x_7 ∧
  (I (x_7, IntKind.wrap IntKind.i64 (x_6 + 1), u') ∧ μ (x_7, IntKind.wrap IntKind.i64 (x_6 + 1), u') < μ (x_5, x_6, u)) ∧
  sameL [Value.int IntKind.i64 x, Value.int IntKind.i64 x_1, Value.string x_2, Value.int IntKind.i64 x_3]
  [Value.int IntKind.i64 x, Value.int IntKind.i64 x_1, Value.string x_2, Value.int IntKind.i64 x_3] ∧
  True) ∧
  (decide (x_6 < x_3) = false →
  ((x == 1) = true → R (Value.int IntKind.i64 x_5) u) ∧
  ((x == 1) = false →
  ((x == 2) = true →
  ∃ (x : Sl),
  View.cell u (Addr.add d_0 1) = some (Value.slice (Sl.p x) (Sl.n x) (Sl.c x)) ∧
  CallsV Try.prog 48 #[Value.slice (Sl.p x) (Sl.n x) (Sl.c x), Value.string x_2] u fun (v : Value) (u' : View) =>
  ∃ (x : Int),
  v = Value.int IntKind.i64 x ∧
  View.lim u ≤ View.lim u' ∧
  (∀ (b : Nat) (o : Obj), View.m u b = some o → View.m u' b = some o) ∧
  CallsV Try.prog 46 #[Value.pointer (some d_0), Value.int IntKind.i64 4, Value.int IntKind.i64 x] u'
  fun (v : Value) (u' : View) => ∃ (x : Int), v = Value.int IntKind.i64 x ∧ R (Value.int IntKind.i64 x_5) u') ∧
  ((x == 2) = false →
  ((x == 12) = true →
  ∃ (x : Sl),
  View.cell u (Addr.add d_0 1) = some (Value.slice (Sl.p x) (Sl.n x) (Sl.c x)) ∧
  CallsV Try.prog 48 #[Value.slice (Sl.p x) (Sl.n x) (Sl.c x), Value.string x_2] u fun (v : Value) (u' : View) =>
  ∃ (x : Int),
  v = Value.int IntKind.i64 x ∧
  View.lim u ≤ View.lim u' ∧
  (∀ (b : Nat) (o : Obj), View.m u b = some o → View.m u' b = some o) ∧
  CallsV Try.prog 46 #[Value.pointer (some d_0), Value.int IntKind.i64 3, Value.int IntKind.i64 x] u'
  fun (v : Value) (u' : View) => ∃ (x : Int), v = Value.int IntKind.i64 x ∧ R (Value.int IntKind.i64 x_5) u') ∧
  ((x == 12) = false →
  ((x == 11) = true →
  CallsV Try.prog 46 #[Value.pointer (some d_0), Value.int IntKind.i64 2, Value.int IntKind.i64 x_1] u
  fun (v : Value) (u' : View) => ∃ (x : Int), v = Value.int IntKind.i64 x ∧ R (Value.int IntKind.i64 x_5) u') ∧
  ((x == 11) = false →
  ((x == 10) = true →
  CallsV Try.prog 49 #[Value.string x_2] u fun (v : Value) (u' : View) =>
  ∃ (x : Int),
  v = Value.int IntKind.i64 x ∧
  CallsV Try.prog 46 #[Value.pointer (some d_0), Value.int IntKind.i64 18, Value.int IntKind.i64 x] u'
  fun (v : Value) (u' : View) => ∃ (x : Int), v = Value.int IntKind.i64 x ∧ R (Value.int IntKind.i64 x_5) u') ∧
  ((x == 10) = false →
  CallsV Try.prog 50 #[Value.int IntKind.i64 x] u fun (v : Value) (u' : View) =>
  ∃ (x_7 : Int),
  v = Value.int IntKind.i64 x_7 ∧
  (decide (x_7 > 0) = true →
  CallsV Try.prog 46 #[Value.pointer (some d_0), Value.int IntKind.i64 x_7, Value.int IntKind.i64 0] u'
  fun (v : Value) (u' : View) => ∃ (x : Int), v = Value.int IntKind.i64 x ∧ R (Value.int IntKind.i64 x_5) u') ∧
  (decide (x_7 > 0) = false →
  CallsV Try.prog 46 #[Value.pointer (some d_0), Value.int IntKind.i64 10, Value.int IntKind.i64 x] u'
  fun (v : Value) (u' : View) =>
  ∃ (x : Int), v = Value.int IntKind.i64 x ∧ R (Value.int IntKind.i64 x_5) u')))))))))

theorem vc_node (d_0 : Addr) (o_1 : Int) (u : View) (R : Value → View → Prop) : VCfun Try.prog 149 pf (Option.getD Try.f24.body .skip) Try.f24.results.toList (.seq .no (.seq .no (.seq .no (.seq .no (.seq (.seq .no (.block (.seq .no (.cond (.seq .no (.seq .no (.seq .no (.cut [(1, .one (.int .i64)), (6, .one (.int .i64))] [(1, 2), (6, 8), (34, 52)] [] .no .no)))) .no)))) (.seq (.seq .no (.block (.loop [(1, .one (.int .i64)), (89, .one (.int .i64))] [(1, 2), (89, 95)] [] .no))) .no)))))) [] [.v (.pointer (some d_0)), .v (.int .i64 o_1)] [] u R = W_node d_0 o_1 u R := by kernel_rfl

theorem c_node (d_0 : Addr) (o_1 : Int) (u : View) (R : Value → View → Prop) (hp : preOK u []) (h : W_node d_0 o_1 u R) :
    CallsV Try.prog F_node #[(.pointer (some d_0)), (.int .i64 o_1)] u R :=
  fcall (L0 := []) (xs := [.v (.pointer (some d_0)), .v (.int .i64 o_1)]) (fn := Try.f24) (by kernel_rfl) (by kernel_rfl) (by kernel_rfl) (by kernel_rfl) hp (Eq.mpr (vc_node d_0 o_1 u R) h)

/- impl.CodeOf:  -/
abbrev F_codeOf : FuncId := 6
def W_codeOf (nodes : Sl) (u : View) (R : Value → View → Prop) : Prop :=
  CallsV Try.prog 23 #[Value.slice (Sl.p nodes) (Sl.n nodes) (Sl.c nodes)] u fun (v : Value) (u' : View) =>
  ∃ (x : Sl),
  ∃ (x_1 : Int),
  ∃ (x_2 : Bool),
  v = Value.tuple #[Value.slice (Sl.p x) (Sl.n x) (Sl.c x), Value.int IntKind.i64 x_1, Value.bool x_2] ∧
  ((!x_2) = true → R (Value.slice none 0 0) u') ∧
  ((!x_2) = false →
  ∀ (b : Nat),
  View.lim u' ≤ b →
  ∀ (uc : View),
  View.lim u' ≤ View.lim uc →
  (∀ (b : Nat) (o : Obj), View.m u' b = some o → View.m uc b = some o) →
  View.m u' b = none →
  b < View.lim uc →
  View.m uc b = some (Obj.cells #[Value.slice (Sl.p nodes) (Sl.n nodes) (Sl.c nodes), Value.slice (Sl.p x) (Sl.n x) (Sl.c x), Value.slice none 0 0] 56) →
  CallsV Try.prog 24 #[Value.pointer (some (Addr.mk b 0 none)), Value.int IntKind.i64 0] uc fun (v : Value) (u'_1 : View) =>
  ∃ (x : Int),
  v = Value.int IntKind.i64 x ∧
  ∃ (x : Sl),
  ∃ (x_3 : Sl),
  ∃ (x_4 : Sl),
  View.m u'_1 b =
  some
  (Obj.cells #[Value.slice (Sl.p x) (Sl.n x) (Sl.c x), Value.slice (Sl.p x_3) (Sl.n x_3) (Sl.c x_3), Value.slice (Sl.p x_4) (Sl.n x_4) (Sl.c x_4)] 56) ∧
  ∀ (u'' : View),
  View.lim u'' = View.lim u'_1 →
  (∀ (b : Nat) (o o' : Obj), View.m u' b = some o → View.m u'_1 b = some o' → View.m u'' b = some o') →
  (∀ (b : Nat) (o : Obj), View.lim uc ≤ b → View.m u'_1 b = some o → View.m u'' b = some o) → R (Value.slice (Sl.p x_4) (Sl.n x_4) (Sl.c x_4)) u'')

theorem vc_codeOf (nodes : Sl) (u : View) (R : Value → View → Prop) : VCfun Try.prog 149 pf (Option.getD Try.f6.body .skip) Try.f6.results.toList .no [] [.v (.slice nodes.p nodes.n nodes.c)] [] u R = W_codeOf nodes u R := by kernel_rfl

theorem c_codeOf (nodes : Sl) (u : View) (R : Value → View → Prop) (hp : preOK u []) (h : W_codeOf nodes u R) :
    CallsV Try.prog F_codeOf #[(.slice nodes.p nodes.n nodes.c)] u R :=
  fcall (L0 := []) (xs := [.v (.slice nodes.p nodes.n nodes.c)]) (fn := Try.f6) (by kernel_rfl) (by kernel_rfl) (by kernel_rfl) (by kernel_rfl) hp (Eq.mpr (vc_codeOf nodes u R) h)

/- laws.lwTree:  -/
abbrev F_lwTree : FuncId := 7
def W_lwTree (l_0 : Sl) (u : View) (R : Value → View → Prop) : Prop :=
  ∀ (b : Nat),
  View.lim u ≤ b →
  ∃ (new : List Value),
  List.length new = Sl.n l_0 * 4 ∧
  (∀ (v : Value), v ∈ new → Value.oneCell' v = true) ∧
  CellsO (View.set u b (Obj.cells #[] 81)) (Sl.p l_0) new ∧
  appPre (View.set u b (Obj.cells #[] 81)) (some (Addr.mk b 0 none)) 0 0 4 40 (Sl.n l_0) new ∧
  ∀ (s' : Sl) (u' : View),
  appPost (View.set u b (Obj.cells #[] 81)) (some (Addr.mk b 0 none)) 0 0 4
  (Value.agg #[Value.int IntKind.i64 0, Value.int IntKind.i64 0, Value.string (ByteArray.mk #[]), Value.int IntKind.i64 0]) 81 (Sl.n l_0) new s' u' →
  R (Value.slice (Sl.p s') (Sl.n s') (Sl.c s')) u'

theorem vc_lwTree (l_0 : Sl) (u : View) (R : Value → View → Prop) : VCfun Try.prog 149 pf (Option.getD Try.f7.body .skip) Try.f7.results.toList .no [] [.v (.slice l_0.p l_0.n l_0.c)] [] u R = W_lwTree l_0 u R := by kernel_rfl

theorem c_lwTree (l_0 : Sl) (u : View) (R : Value → View → Prop) (hp : preOK u []) (h : W_lwTree l_0 u R) :
    CallsV Try.prog F_lwTree #[(.slice l_0.p l_0.n l_0.c)] u R :=
  fcall (L0 := []) (xs := [.v (.slice l_0.p l_0.n l_0.c)]) (fn := Try.f7) (by kernel_rfl) (by kernel_rfl) (by kernel_rfl) (by kernel_rfl) hp (Eq.mpr (vc_lwTree l_0 u R) h)

/- spec.l07Name: cut:  ; own [] | loop: i ; own [] -/
abbrev F_l07Name : FuncId := 108
def W_l07Name (t_0 : ByteArray) (u : View) (R : Value → View → Prop) : Prop :=
  ∃ (J : View → Prop),
  ((decide ((↑(ByteArray.size t_0) : Int) < 1) = false →
  (decide ((↑(ByteArray.size t_0) : Int) > 20) = true → R (Value.bool false) u) ∧ (decide ((↑(ByteArray.size t_0) : Int) > 20) = false → J u ∧ True)) ∧
  (decide ((↑(ByteArray.size t_0) : Int) < 1) = true → R (Value.bool false) u)) ∧
  ∀ (junk : Nat → Value) (u : View),
  J u →
  ∃ (I : Int × View → Prop),
  ∃ (μ : Int × View → Nat),
  (I (0, u) ∧ True) ∧
  ∀ (junk : Nat → Value) (x : Int) (u : View),
  I (x, u) →
  (decide (x < (↑(ByteArray.size t_0) : Int)) = true →
  ∃ (b : UInt8),
  t_0[Int.toNat x]? = some b ∧
  0 ≤ x ∧
  (decide ((↑(UInt8.toNat b) : Int) ≥ 97) = true →
  ∃ (b : UInt8),
  t_0[Int.toNat x]? = some b ∧
  0 ≤ x ∧
  (decide ((↑(UInt8.toNat b) : Int) ≤ 122) = false →
  ∃ (b : UInt8),
  t_0[Int.toNat x]? = some b ∧
  0 ≤ x ∧
  ((!(↑(UInt8.toNat b) : Int) == 45) = true → R (Value.bool false) u) ∧
  ((!(↑(UInt8.toNat b) : Int) == 45) = false → (I (IntKind.wrap IntKind.i64 (x + 1), u) ∧ μ (IntKind.wrap IntKind.i64 (x + 1), u) < μ (x, u)) ∧ True)) ∧
  (decide ((↑(UInt8.toNat b) : Int) ≤ 122) = true → (I (IntKind.wrap IntKind.i64 (x + 1), u) ∧ μ (IntKind.wrap IntKind.i64 (x + 1), u) < μ (x, u)) ∧ True)) ∧
  (decide ((↑(UInt8.toNat b) : Int) ≥ 97) = false →
  ∃ (b : UInt8),
  t_0[Int.toNat x]? = some b ∧
  0 ≤ x ∧
  ((!(↑(UInt8.toNat b) : Int) == 45) = true → R (Value.bool false) u) ∧
  ((!(↑(UInt8.toNat b) : Int) == 45) = false → (I (IntKind.wrap IntKind.i64 (x + 1), u) ∧ μ (IntKind.wrap IntKind.i64 (x + 1), u) < μ (x, u)) ∧ True))) ∧
  (decide (x < (↑(ByteArray.size t_0) : Int)) = false → R (Value.bool true) u)

theorem vc_l07Name (t_0 : ByteArray) (u : View) (R : Value → View → Prop) : VCfun Try.prog 149 pf (Option.getD Try.f108.body .skip) Try.f108.results.toList (.seq .no (.cut [] [(2, 3), (4, 12)] [] .no (.seq (.seq .no (.block (.loop [(3, .one (.int .i64))] [(2, 4), (12, 35)] [] .no))) .no))) [] [.v (.string t_0)] [] u R = W_l07Name t_0 u R := by kernel_rfl

theorem c_l07Name (t_0 : ByteArray) (u : View) (R : Value → View → Prop) (hp : preOK u []) (h : W_l07Name t_0 u R) :
    CallsV Try.prog F_l07Name #[(.string t_0)] u R :=
  fcall (L0 := []) (xs := [.v (.string t_0)]) (fn := Try.f108) (by kernel_rfl) (by kernel_rfl) (by kernel_rfl) (by kernel_rfl) hp (Eq.mpr (vc_l07Name t_0 u R) h)

/- spec.l11Words:  -/
abbrev F_l11Words : FuncId := 125
def W_l11Words  (u : View) (R : Value → View → Prop) : Prop :=
  ∀ (b : Nat),
  View.lim u ≤ b →
  R (Value.slice (some (Addr.mk b 0 none)) 28 28)
  (View.set u b
  (Obj.cells
  #[Value.string (ByteArray.mk #[]), Value.string (ByteArray.mk #[]), Value.string (ByteArray.mk #[108, 101, 116]), Value.string (ByteArray.mk #[105, 102]),
  Value.string (ByteArray.mk #[119, 104, 105, 108, 101]), Value.string (ByteArray.mk #[105, 110, 115, 101, 114, 116]), Value.string (ByteArray.mk #[100, 101, 108, 101, 116, 101]),
  Value.string (ByteArray.mk #[103, 111]), Value.string (ByteArray.mk #[109, 97, 114, 107]), Value.string (ByteArray.mk #[98, 101, 108, 108]), Value.string (ByteArray.mk #[100, 111]),
  Value.string (ByteArray.mk #[]), Value.string (ByteArray.mk #[]), Value.string (ByteArray.mk #[99, 117, 114, 115, 111, 114]), Value.string (ByteArray.mk #[108, 101, 110, 103, 116, 104]),
  Value.string (ByteArray.mk #[109, 97, 114, 107, 97, 116]), Value.string (ByteArray.mk #[97, 116]), Value.string (ByteArray.mk #[110, 111, 116]), Value.string (ByteArray.mk #[111, 114]),
  Value.string (ByteArray.mk #[97, 110, 100]), Value.string (ByteArray.mk #[60]), Value.string (ByteArray.mk #[61]), Value.string (ByteArray.mk #[62]), Value.string (ByteArray.mk #[43]),
  Value.string (ByteArray.mk #[45]), Value.string (ByteArray.mk #[42]), Value.string (ByteArray.mk #[47]), Value.string (ByteArray.mk #[101, 108, 115, 101])]
  9))

theorem vc_l11Words  (u : View) (R : Value → View → Prop) : VCfun Try.prog 149 pf (Option.getD Try.f125.body .skip) Try.f125.results.toList .no [] [] [] u R = W_l11Words  u R := by kernel_rfl

theorem c_l11Words  (u : View) (R : Value → View → Prop) (hp : preOK u []) (h : W_l11Words  u R) :
    CallsV Try.prog F_l11Words #[] u R :=
  fcall (L0 := []) (xs := []) (fn := Try.f125) (by kernel_rfl) (by kernel_rfl) (by kernel_rfl) (by kernel_rfl) hp (Eq.mpr (vc_l11Words  u R) h)

/- spec.l11Word: loop: i ; own [] -/
abbrev F_l11Word : FuncId := 109
def W_l11Word (t_0 : ByteArray) (u : View) (R : Value → View → Prop) : Prop :=
  CallsV Try.prog 125 #[] u fun (v : Value) (u' : View) =>
  ∃ (x : Sl),
  v = Value.slice (Sl.p x) (Sl.n x) (Sl.c x) ∧
  ∃ (I : Int × View → Prop),
  ∃ (μ : Int × View → Nat),
  (I (2, u') ∧ True) ∧
  ∀ (junk : Nat → Value) (x_1 : Int) (u : View),
  I (x_1, u) →
  (decide (x_1 < (↑(Sl.n x) : Int)) = true →
  ∃ (ad : Addr),
  Sl.p x = some ad ∧
  0 ≤ x_1 ∧
  x_1 < (↑(Sl.n x) : Int) ∧
  ∃ (x : ByteArray),
  View.cell u (Addr.add ad (Int.toNat x_1 * 1)) = some (Value.string x) ∧
  (eqS x t_0 = true →
  ((!eqS t_0 (ByteArray.mk #[])) = true → R (Value.int IntKind.i64 x_1) u) ∧
  ((!eqS t_0 (ByteArray.mk #[])) = false → (I (IntKind.wrap IntKind.i64 (x_1 + 1), u) ∧ μ (IntKind.wrap IntKind.i64 (x_1 + 1), u) < μ (x_1, u)) ∧ True)) ∧
  (eqS x t_0 = false → (I (IntKind.wrap IntKind.i64 (x_1 + 1), u) ∧ μ (IntKind.wrap IntKind.i64 (x_1 + 1), u) < μ (x_1, u)) ∧ True)) ∧
  (decide (x_1 < (↑(Sl.n x) : Int)) = false → R (Value.int IntKind.i64 0) u)

theorem vc_l11Word (t_0 : ByteArray) (u : View) (R : Value → View → Prop) : VCfun Try.prog 149 pf (Option.getD Try.f109.body .skip) Try.f109.results.toList (.seq .no (.seq .no (.seq (.seq .no (.block (.loop [(4, .one (.int .i64))] [(2, 3), (4, 5), (6, 23)] [] .no))) .no))) [] [.v (.string t_0)] [] u R = W_l11Word t_0 u R := by kernel_rfl

theorem c_l11Word (t_0 : ByteArray) (u : View) (R : Value → View → Prop) (hp : preOK u []) (h : W_l11Word t_0 u R) :
    CallsV Try.prog F_l11Word #[(.string t_0)] u R :=
  fcall (L0 := []) (xs := [.v (.string t_0)]) (fn := Try.f109) (by kernel_rfl) (by kernel_rfl) (by kernel_rfl) (by kernel_rfl) hp (Eq.mpr (vc_l11Word t_0 u R) h)

/- spec.l11Name:  -/
abbrev F_l11Name : FuncId := 79
def W_l11Name (t_0 : ByteArray) (u : View) (R : Value → View → Prop) : Prop :=
  CallsV Try.prog 108 #[Value.string t_0] u fun (v : Value) (u' : View) =>
  ∃ (x : Bool),
  v = Value.bool x ∧
  (x = true →
  ∃ (b : UInt8),
  t_0[0]? = some b ∧
  Int.ofNat 0 ≤ Int.ofNat 0 ∧
  (((↑(UInt8.toNat b) : Int) != 45) = true →
  CallsV Try.prog 109 #[Value.string t_0] u' fun (v : Value) (u' : View) => ∃ (x : Int), v = Value.int IntKind.i64 x ∧ R (Value.bool (x == 0)) u') ∧
  (((↑(UInt8.toNat b) : Int) != 45) = false → R (Value.bool false) u')) ∧
  (x = false → R (Value.bool false) u')

theorem vc_l11Name (t_0 : ByteArray) (u : View) (R : Value → View → Prop) : VCfun Try.prog 149 pf (Option.getD Try.f79.body .skip) Try.f79.results.toList .no [] [.v (.string t_0)] [] u R = W_l11Name t_0 u R := by kernel_rfl

theorem c_l11Name (t_0 : ByteArray) (u : View) (R : Value → View → Prop) (hp : preOK u []) (h : W_l11Name t_0 u R) :
    CallsV Try.prog F_l11Name #[(.string t_0)] u R :=
  fcall (L0 := []) (xs := [.v (.string t_0)]) (fn := Try.f79) (by kernel_rfl) (by kernel_rfl) (by kernel_rfl) (by kernel_rfl) hp (Eq.mpr (vc_l11Name t_0 u R) h)

/- spec.l11Motion: loop: i ; own [] -/
abbrev F_l11Motion : FuncId := 80
def W_l11Motion (t_0 : ByteArray) (u : View) (R : Value → View → Prop) : Prop :=
  CallsV Try.prog 106 #[] u fun (v : Value) (u' : View) =>
  ∃ (x : Sl),
  v = Value.slice (Sl.p x) (Sl.n x) (Sl.c x) ∧
  ∃ (I : Int × View → Prop),
  ∃ (μ : Int × View → Nat),
  (I (1, u') ∧ True) ∧
  ∀ (junk : Nat → Value) (x_1 : Int) (u : View),
  I (x_1, u) →
  (decide (x_1 < (↑(Sl.n x) : Int)) = true →
  ∃ (ad : Addr),
  Sl.p x = some ad ∧
  0 ≤ x_1 ∧
  x_1 < (↑(Sl.n x) : Int) ∧
  ∃ (x : ByteArray),
  View.cell u (Addr.add ad (Int.toNat x_1 * 1)) = some (Value.string x) ∧
  (eqS x t_0 = true → R (Value.int IntKind.i64 x_1) u) ∧
  (eqS x t_0 = false → (I (IntKind.wrap IntKind.i64 (x_1 + 1), u) ∧ μ (IntKind.wrap IntKind.i64 (x_1 + 1), u) < μ (x_1, u)) ∧ True)) ∧
  (decide (x_1 < (↑(Sl.n x) : Int)) = false → R (Value.int IntKind.i64 0) u)

theorem vc_l11Motion (t_0 : ByteArray) (u : View) (R : Value → View → Prop) : VCfun Try.prog 149 pf (Option.getD Try.f80.body .skip) Try.f80.results.toList (.seq .no (.seq .no (.seq (.seq .no (.block (.loop [(4, .one (.int .i64))] [(2, 3), (4, 5), (6, 19)] [] .no))) .no))) [] [.v (.string t_0)] [] u R = W_l11Motion t_0 u R := by kernel_rfl

theorem c_l11Motion (t_0 : ByteArray) (u : View) (R : Value → View → Prop) (hp : preOK u []) (h : W_l11Motion t_0 u R) :
    CallsV Try.prog F_l11Motion #[(.string t_0)] u R :=
  fcall (L0 := []) (xs := [.v (.string t_0)]) (fn := Try.f80) (by kernel_rfl) (by kernel_rfl) (by kernel_rfl) (by kernel_rfl) hp (Eq.mpr (vc_l11Motion t_0 u R) h)

/- spec.l11Own: cut:  ; own [] -/
abbrev F_l11Own : FuncId := 51
def W_l11Own (n_0_0 : Int) (n_0_1 : Int) (n_0_2 : ByteArray) (n_0_3 : Int) (u : View) (R : Value → View → Prop) : Prop :=
  ∀ (b : Nat),
  View.lim u ≤ b →
  ∃ (J : View → Prop),
  ((decide (n_0_0 < 1) = false →
  (decide (n_0_0 > 26) = true → R (Value.bool false) u) ∧
  (decide (n_0_0 > 26) = false →
  J u ∧
  sameL [Value.int IntKind.i64 n_0_0, Value.int IntKind.i64 n_0_1, Value.string n_0_2, Value.int IntKind.i64 n_0_3]
  [Value.int IntKind.i64 n_0_0, Value.int IntKind.i64 n_0_1, Value.string n_0_2, Value.int IntKind.i64 n_0_3] ∧
  True)) ∧
  (decide (n_0_0 < 1) = true → R (Value.bool false) u)) ∧
  ∀ (junk : Nat → Value) (u : View),
  J u →
  ((n_0_0 == 11) = true →
  (decide (n_0_1 ≥ 0) = true → (decide (n_0_1 ≤ 999999999) = true → R (Value.bool (eqS n_0_2 (ByteArray.mk #[]))) u) ∧ (decide (n_0_1 ≤ 999999999) = false → R (Value.bool false) u)) ∧
  (decide (n_0_1 ≥ 0) = false → R (Value.bool false) u)) ∧
  ((n_0_0 == 11) = false →
  ((n_0_0 == 2) = true →
  ((n_0_1 == 0) = true → CallsV Try.prog 79 #[Value.string n_0_2] u fun (v : Value) (u' : View) => ∃ (x : Bool), v = Value.bool x ∧ R (Value.bool x) u') ∧
  ((n_0_1 == 0) = false → R (Value.bool false) u)) ∧
  ((n_0_0 == 2) = false →
  ((n_0_0 == 12) = true →
  ((n_0_1 == 0) = true → CallsV Try.prog 79 #[Value.string n_0_2] u fun (v : Value) (u' : View) => ∃ (x : Bool), v = Value.bool x ∧ R (Value.bool x) u') ∧
  ((n_0_1 == 0) = false → R (Value.bool false) u)) ∧
  ((n_0_0 == 12) = false →
  ((n_0_0 == 10) = true →
  ((n_0_1 == 0) = true →
  CallsV Try.prog 80 #[Value.string n_0_2] u fun (v : Value) (u' : View) => ∃ (x : Int), v = Value.int IntKind.i64 x ∧ R (Value.bool (decide (x > 0))) u') ∧
  ((n_0_1 == 0) = false → R (Value.bool false) u)) ∧
  ((n_0_0 == 10) = false → ((n_0_1 == 0) = true → R (Value.bool (eqS n_0_2 (ByteArray.mk #[]))) u) ∧ ((n_0_1 == 0) = false → R (Value.bool false) u)))))

theorem vc_l11Own (n_0_0 : Int) (n_0_1 : Int) (n_0_2 : ByteArray) (n_0_3 : Int) (u : View) (R : Value → View → Prop) : VCfun Try.prog 149 pf (Option.getD Try.f51.body .skip) Try.f51.results.toList (.seq .no (.cut [] [(2, 11)] [] .no .no)) [] [.v (.agg #[.int .i64 n_0_0, .int .i64 n_0_1, .string n_0_2, .int .i64 n_0_3])] [] u R = W_l11Own n_0_0 n_0_1 n_0_2 n_0_3 u R := by kernel_rfl

theorem c_l11Own (n_0_0 : Int) (n_0_1 : Int) (n_0_2 : ByteArray) (n_0_3 : Int) (u : View) (R : Value → View → Prop) (hp : preOK u []) (h : W_l11Own n_0_0 n_0_1 n_0_2 n_0_3 u R) :
    CallsV Try.prog F_l11Own #[(.agg #[.int .i64 n_0_0, .int .i64 n_0_1, .string n_0_2, .int .i64 n_0_3])] u R :=
  fcall (L0 := []) (xs := [.v (.agg #[.int .i64 n_0_0, .int .i64 n_0_1, .string n_0_2, .int .i64 n_0_3])]) (fn := Try.f51) (by kernel_rfl) (by kernel_rfl) (by kernel_rfl) (by kernel_rfl) hp (Eq.mpr (vc_l11Own n_0_0 n_0_1 n_0_2 n_0_3 u R) h)

/- spec.l11Stmt:  -/
abbrev F_l11Stmt : FuncId := 52
def W_l11Stmt (kind : Int) (u : View) (R : Value → View → Prop) : Prop :=
  (decide (kind ≥ 2) = true → R (Value.bool (decide (kind ≤ 10))) u) ∧ (decide (kind ≥ 2) = false → R (Value.bool false) u)

theorem vc_l11Stmt (kind : Int) (u : View) (R : Value → View → Prop) : VCfun Try.prog 149 pf (Option.getD Try.f52.body .skip) Try.f52.results.toList .no [] [.v (.int .i64 kind)] [] u R = W_l11Stmt kind u R := by kernel_rfl

theorem c_l11Stmt (kind : Int) (u : View) (R : Value → View → Prop) (hp : preOK u []) (h : W_l11Stmt kind u R) :
    CallsV Try.prog F_l11Stmt #[(.int .i64 kind)] u R :=
  fcall (L0 := []) (xs := [.v (.int .i64 kind)]) (fn := Try.f52) (by kernel_rfl) (by kernel_rfl) (by kernel_rfl) (by kernel_rfl) hp (Eq.mpr (vc_l11Stmt kind u R) h)

/- spec.l11Expr:  -/
abbrev F_l11Expr : FuncId := 53
def W_l11Expr (kind : Int) (u : View) (R : Value → View → Prop) : Prop :=
  (decide (kind ≥ 11) = true → R (Value.bool (decide (kind ≤ 26))) u) ∧ (decide (kind ≥ 11) = false → R (Value.bool false) u)

theorem vc_l11Expr (kind : Int) (u : View) (R : Value → View → Prop) : VCfun Try.prog 149 pf (Option.getD Try.f53.body .skip) Try.f53.results.toList .no [] [.v (.int .i64 kind)] [] u R = W_l11Expr kind u R := by kernel_rfl

theorem c_l11Expr (kind : Int) (u : View) (R : Value → View → Prop) (hp : preOK u []) (h : W_l11Expr kind u R) :
    CallsV Try.prog F_l11Expr #[(.int .i64 kind)] u R :=
  fcall (L0 := []) (xs := [.v (.int .i64 kind)]) (fn := Try.f53) (by kernel_rfl) (by kernel_rfl) (by kernel_rfl) (by kernel_rfl) hp (Eq.mpr (vc_l11Expr kind u R) h)

/- spec.l11Kids:  -/
abbrev F_l11Kids : FuncId := 54
def W_l11Kids (n_0_0 : Int) (n_0_1 : Int) (n_0_2 : ByteArray) (n_0_3 : Int) (u : View) (R : Value → View → Prop) : Prop :=
  ∀ (b : Nat),
  View.lim u ≤ b →
  ((n_0_0 == 1) = true → R (Value.string (ByteArray.mk #[42])) u) ∧
  ((n_0_0 == 1) = false →
  ((n_0_0 == 2) = true → R (Value.string (ByteArray.mk #[101])) u) ∧
  ((n_0_0 == 2) = false →
  ((n_0_0 == 5) = true → R (Value.string (ByteArray.mk #[101])) u) ∧
  ((n_0_0 == 5) = false →
  ((n_0_0 == 7) = true → R (Value.string (ByteArray.mk #[101])) u) ∧
  ((n_0_0 == 7) = false →
  ((n_0_0 == 8) = true → R (Value.string (ByteArray.mk #[101])) u) ∧
  ((n_0_0 == 8) = false →
  ((n_0_0 == 16) = true → R (Value.string (ByteArray.mk #[101])) u) ∧
  ((n_0_0 == 16) = false →
  ((n_0_0 == 17) = true → R (Value.string (ByteArray.mk #[101])) u) ∧
  ((n_0_0 == 17) = false →
  ((n_0_0 == 3) = true →
  ((n_0_3 == 3) = true → R (Value.string (ByteArray.mk #[101, 98, 98])) u) ∧ ((n_0_3 == 3) = false → R (Value.string (ByteArray.mk #[101, 98])) u)) ∧
  ((n_0_0 == 3) = false →
  ((n_0_0 == 4) = true → R (Value.string (ByteArray.mk #[101, 98])) u) ∧
  ((n_0_0 == 4) = false →
  ((n_0_0 == 6) = true → R (Value.string (ByteArray.mk #[101, 101])) u) ∧
  ((n_0_0 == 6) = false →
  ((n_0_0 == 9) = true → R (Value.string (ByteArray.mk #[])) u) ∧
  ((n_0_0 == 9) = false →
  ((n_0_0 == 10) = true → R (Value.string (ByteArray.mk #[])) u) ∧
  ((n_0_0 == 10) = false →
  ((n_0_0 == 11) = true → R (Value.string (ByteArray.mk #[])) u) ∧
  ((n_0_0 == 11) = false →
  ((n_0_0 == 12) = true → R (Value.string (ByteArray.mk #[])) u) ∧
  ((n_0_0 == 12) = false →
  ((n_0_0 == 13) = true → R (Value.string (ByteArray.mk #[])) u) ∧
  ((n_0_0 == 13) = false →
  ((n_0_0 == 14) = true → R (Value.string (ByteArray.mk #[])) u) ∧
  ((n_0_0 == 14) = false →
  ((n_0_0 == 15) = true → R (Value.string (ByteArray.mk #[])) u) ∧
  ((n_0_0 == 15) = false → R (Value.string (ByteArray.mk #[101, 101])) u)))))))))))))))))

theorem vc_l11Kids (n_0_0 : Int) (n_0_1 : Int) (n_0_2 : ByteArray) (n_0_3 : Int) (u : View) (R : Value → View → Prop) : VCfun Try.prog 149 pf (Option.getD Try.f54.body .skip) Try.f54.results.toList .no [] [.v (.agg #[.int .i64 n_0_0, .int .i64 n_0_1, .string n_0_2, .int .i64 n_0_3])] [] u R = W_l11Kids n_0_0 n_0_1 n_0_2 n_0_3 u R := by kernel_rfl

theorem c_l11Kids (n_0_0 : Int) (n_0_1 : Int) (n_0_2 : ByteArray) (n_0_3 : Int) (u : View) (R : Value → View → Prop) (hp : preOK u []) (h : W_l11Kids n_0_0 n_0_1 n_0_2 n_0_3 u R) :
    CallsV Try.prog F_l11Kids #[(.agg #[.int .i64 n_0_0, .int .i64 n_0_1, .string n_0_2, .int .i64 n_0_3])] u R :=
  fcall (L0 := []) (xs := [.v (.agg #[.int .i64 n_0_0, .int .i64 n_0_1, .string n_0_2, .int .i64 n_0_3])]) (fn := Try.f54) (by kernel_rfl) (by kernel_rfl) (by kernel_rfl) (by kernel_rfl) hp (Eq.mpr (vc_l11Kids n_0_0 n_0_1 n_0_2 n_0_3 u R) h)

/- spec.l11End: cut:  ; own [] | cut:  ; own [] | cut:  ; own [] | loop: t11 t12 ; own [] -/
abbrev F_l11End : FuncId := 25
def W_l11End (d_0 : Sl) (o_1 : Int) (t2 : Int) (t3 : Int) (u : View) (R : Value → View → Prop) : Prop :=
  ∃ (J : View → Prop),
  ((decide (o_1 ≥ (↑(Sl.n d_0) : Int)) = false →
  (decide (t3 > 20) = false →
  ∃ (ad : Addr),
  Sl.p d_0 = some ad ∧
  0 ≤ o_1 ∧
  o_1 < (↑(Sl.n d_0) : Int) ∧
  ∃ (x : Int),
  ∃ (x_1 : Int),
  ∃ (x_2 : ByteArray),
  ∃ (x_3 : Int),
  (View.cell u (Addr.add (Addr.add ad (Int.toNat o_1 * 4)) 0) = some (Value.int IntKind.i64 x) ∧
  View.cell u (Addr.add (Addr.add ad (Int.toNat o_1 * 4)) 1) = some (Value.int IntKind.i64 x_1) ∧
  View.cell u (Addr.add (Addr.add ad (Int.toNat o_1 * 4)) 2) = some (Value.string x_2) ∧
  View.cell u (Addr.add (Addr.add ad (Int.toNat o_1 * 4)) 3) = some (Value.int IntKind.i64 x_3) ∧ True) ∧
  CallsV Try.prog 51 #[Value.agg #[Value.int IntKind.i64 x, Value.int IntKind.i64 x_1, Value.string x_2, Value.int IntKind.i64 x_3]] u fun (v : Value) (u' : View) =>
  ∃ (x : Bool), v = Value.bool x ∧ ((!x) = true → R (Value.int IntKind.i64 (-1)) u') ∧ ((!x) = false → J u' ∧ True)) ∧
  (decide (t3 > 20) = true → R (Value.int IntKind.i64 (-1)) u)) ∧
  (decide (o_1 ≥ (↑(Sl.n d_0) : Int)) = true → R (Value.int IntKind.i64 (-1)) u)) ∧
  ∀ (junk : Nat → Value) (u : View),
  J u →
  ∃ (ad : Addr),
  Sl.p d_0 = some ad ∧
  0 ≤ o_1 ∧
  o_1 < (↑(Sl.n d_0) : Int) ∧
  ∃ (x : Int),
  ∃ (x_1 : Int),
  ∃ (x_2 : ByteArray),
  ∃ (x_3 : Int),
  (View.cell u (Addr.add (Addr.add ad (Int.toNat o_1 * 4)) 0) = some (Value.int IntKind.i64 x) ∧
  View.cell u (Addr.add (Addr.add ad (Int.toNat o_1 * 4)) 1) = some (Value.int IntKind.i64 x_1) ∧
  View.cell u (Addr.add (Addr.add ad (Int.toNat o_1 * 4)) 2) = some (Value.string x_2) ∧
  View.cell u (Addr.add (Addr.add ad (Int.toNat o_1 * 4)) 3) = some (Value.int IntKind.i64 x_3) ∧ True) ∧
  ∀ (b : Nat),
  View.lim u ≤ b →
  ∃ (J : View → Prop),
  (((t2 == 98) = true →
  ((x != 1) = false →
  ((t2 == 115) = true →
  CallsV Try.prog 52 #[Value.int IntKind.i64 x] u fun (v : Value) (u' : View) =>
  ∃ (x_4 : Bool),
  v = Value.bool x_4 ∧
  ((!x_4) = false →
  ((t2 == 101) = true →
  CallsV Try.prog 53 #[Value.int IntKind.i64 x] u' fun (v : Value) (u' : View) =>
  ∃ (x_5 : Bool),
  v = Value.bool x_5 ∧
  ((!x_5) = true → R (Value.int IntKind.i64 (-1)) u') ∧
  ((!x_5) = false →
  J u' ∧
  sameL [Value.int IntKind.i64 x, Value.int IntKind.i64 x_1, Value.string x_2, Value.int IntKind.i64 x_3]
  [Value.int IntKind.i64 x, Value.int IntKind.i64 x_1, Value.string x_2, Value.int IntKind.i64 x_3] ∧
  True)) ∧
  ((t2 == 101) = false →
  J u' ∧
  sameL [Value.int IntKind.i64 x, Value.int IntKind.i64 x_1, Value.string x_2, Value.int IntKind.i64 x_3]
  [Value.int IntKind.i64 x, Value.int IntKind.i64 x_1, Value.string x_2, Value.int IntKind.i64 x_3] ∧
  True)) ∧
  ((!x_4) = true → R (Value.int IntKind.i64 (-1)) u')) ∧
  ((t2 == 115) = false →
  ((t2 == 101) = true →
  CallsV Try.prog 53 #[Value.int IntKind.i64 x] u fun (v : Value) (u' : View) =>
  ∃ (x_4 : Bool),
  v = Value.bool x_4 ∧
  ((!x_4) = true → R (Value.int IntKind.i64 (-1)) u') ∧
  ((!x_4) = false →
  J u' ∧
  sameL [Value.int IntKind.i64 x, Value.int IntKind.i64 x_1, Value.string x_2, Value.int IntKind.i64 x_3]
  [Value.int IntKind.i64 x, Value.int IntKind.i64 x_1, Value.string x_2, Value.int IntKind.i64 x_3] ∧
  True)) ∧
  ((t2 == 101) = false →
  J u ∧
  sameL [Value.int IntKind.i64 x, Value.int IntKind.i64 x_1, Value.string x_2, Value.int IntKind.i64 x_3]
  [Value.int IntKind.i64 x, Value.int IntKind.i64 x_1, Value.string x_2, Value.int IntKind.i64 x_3] ∧
  True))) ∧
  ((x != 1) = true → R (Value.int IntKind.i64 (-1)) u)) ∧
  ((t2 == 98) = false →
  ((t2 == 115) = true →
  CallsV Try.prog 52 #[Value.int IntKind.i64 x] u fun (v : Value) (u' : View) =>
  ∃ (x_4 : Bool),
  v = Value.bool x_4 ∧
  ((!x_4) = false →
  ((t2 == 101) = true →
  CallsV Try.prog 53 #[Value.int IntKind.i64 x] u' fun (v : Value) (u' : View) =>
  ∃ (x_5 : Bool),
  v = Value.bool x_5 ∧
  ((!x_5) = true → R (Value.int IntKind.i64 (-1)) u') ∧
  ((!x_5) = false →
  J u' ∧
  sameL [Value.int IntKind.i64 x, Value.int IntKind.i64 x_1, Value.string x_2, Value.int IntKind.i64 x_3]
  [Value.int IntKind.i64 x, Value.int IntKind.i64 x_1, Value.string x_2, Value.int IntKind.i64 x_3] ∧
  True)) ∧
  ((t2 == 101) = false →
  J u' ∧
  sameL [Value.int IntKind.i64 x, Value.int IntKind.i64 x_1, Value.string x_2, Value.int IntKind.i64 x_3]
  [Value.int IntKind.i64 x, Value.int IntKind.i64 x_1, Value.string x_2, Value.int IntKind.i64 x_3] ∧
  True)) ∧
  ((!x_4) = true → R (Value.int IntKind.i64 (-1)) u')) ∧
  ((t2 == 115) = false →
  ((t2 == 101) = true →
  CallsV Try.prog 53 #[Value.int IntKind.i64 x] u fun (v : Value) (u' : View) =>
  ∃ (x_4 : Bool),
  v = Value.bool x_4 ∧
  ((!x_4) = true → R (Value.int IntKind.i64 (-1)) u') ∧
  ((!x_4) = false →
  J u' ∧
  sameL [Value.int IntKind.i64 x, Value.int IntKind.i64 x_1, Value.string x_2, Value.int IntKind.i64 x_3]
  [Value.int IntKind.i64 x, Value.int IntKind.i64 x_1, Value.string x_2, Value.int IntKind.i64 x_3] ∧
  True)) ∧
  ((t2 == 101) = false →
  J u ∧
  sameL [Value.int IntKind.i64 x, Value.int IntKind.i64 x_1, Value.string x_2, Value.int IntKind.i64 x_3]
  [Value.int IntKind.i64 x, Value.int IntKind.i64 x_1, Value.string x_2, Value.int IntKind.i64 x_3] ∧
  True)))) ∧
  ∀ (junk : Nat → Value) (u : View),
  J u →
  CallsV Try.prog 54 #[Value.agg #[Value.int IntKind.i64 x, Value.int IntKind.i64 x_1, Value.string x_2, Value.int IntKind.i64 x_3]] u
  fun (v : Value) (u' : View) =>
  ∃ (x_4 : ByteArray),
  v = Value.string x_4 ∧
  ∃ (J : View → Prop),
  (((!eqS x_4 (ByteArray.mk #[42])) = true →
  ((x_3 != (↑(ByteArray.size x_4) : Int)) = false →
  (decide (x_3 < 0) = false →
  (decide (x_3 > 200) = true → R (Value.int IntKind.i64 (-1)) u') ∧
  (decide (x_3 > 200) = false →
  J u' ∧
  sameL [Value.int IntKind.i64 x, Value.int IntKind.i64 x_1, Value.string x_2, Value.int IntKind.i64 x_3]
  [Value.int IntKind.i64 x, Value.int IntKind.i64 x_1, Value.string x_2, Value.int IntKind.i64 x_3] ∧
  True)) ∧
  (decide (x_3 < 0) = true → R (Value.int IntKind.i64 (-1)) u')) ∧
  ((x_3 != (↑(ByteArray.size x_4) : Int)) = true → R (Value.int IntKind.i64 (-1)) u')) ∧
  ((!eqS x_4 (ByteArray.mk #[42])) = false →
  (decide (x_3 < 0) = false →
  (decide (x_3 > 200) = true → R (Value.int IntKind.i64 (-1)) u') ∧
  (decide (x_3 > 200) = false →
  J u' ∧
  sameL [Value.int IntKind.i64 x, Value.int IntKind.i64 x_1, Value.string x_2, Value.int IntKind.i64 x_3]
  [Value.int IntKind.i64 x, Value.int IntKind.i64 x_1, Value.string x_2, Value.int IntKind.i64 x_3] ∧
  True)) ∧
  (decide (x_3 < 0) = true → R (Value.int IntKind.i64 (-1)) u'))) ∧
  ∀ (junk : Nat → Value) (u : View),
  J u →
  ∃ (I : Int × Int × View → Prop),
  ∃ (μ : Int × Int × View → Nat),
  (I (IntKind.wrap IntKind.i64 (o_1 + 1), 0, u) ∧
  sameL [Value.int IntKind.i64 x, Value.int IntKind.i64 x_1, Value.string x_2, Value.int IntKind.i64 x_3]
  [Value.int IntKind.i64 x, Value.int IntKind.i64 x_1, Value.string x_2, Value.int IntKind.i64 x_3] ∧
  True) ∧
  ∀ (junk : Nat → Value) (x_5 x_6 : Int) (u : View),
  I (x_5, x_6, u) →
  (decide (x_6 < x_3) = true →
  ((!eqS x_4 (ByteArray.mk #[42])) = true →
  ∃ (b : UInt8),
  x_4[Int.toNat x_6]? = some b ∧
  0 ≤ x_6 ∧
  CallsV Try.prog 25
  #[Value.slice (Sl.p d_0) (Sl.n d_0) (Sl.c d_0), Value.int IntKind.i64 x_5, Value.int IntKind.u8 (↑(UInt8.toNat b) : Int),
  Value.int IntKind.i64 (IntKind.wrap IntKind.i64 (t3 + 1))]
  u fun (v : Value) (u' : View) =>
  ∃ (x_7 : Int),
  v = Value.int IntKind.i64 x_7 ∧
  (decide (x_7 < 0) = true → R (Value.int IntKind.i64 (-1)) u') ∧
  (decide (x_7 < 0) = false →
  (I (x_7, IntKind.wrap IntKind.i64 (x_6 + 1), u') ∧
  μ (x_7, IntKind.wrap IntKind.i64 (x_6 + 1), u') < μ (x_5, x_6, u)) ∧
  sameL [Value.int IntKind.i64 x, Value.int IntKind.i64 x_1, Value.string x_2, Value.int IntKind.i64 x_3]
  [Value.int IntKind.i64 x, Value.int IntKind.i64 x_1, Value.string x_2, Value.int IntKind.i64 x_3] ∧
  True)) ∧
  ((!eqS x_4 (ByteArray.mk #[42])) = false →
  CallsV Try.prog 25
  #[Value.slice (Sl.p d_0) (Sl.n d_0) (Sl.c d_0), Value.int IntKind.i64 x_5, Value.int IntKind.u8 115,
  Value.int IntKind.i64 (IntKind.wrap IntKind.i64 (t3 + 1))]
  u fun (v : Value) (u' : View) =>
  ∃ (x_7 : Int),
  v = Value.int IntKind.i64 x_7 ∧
  (decide (x_7 < 0) = true → R (Value.int IntKind.i64 (-1)) u') ∧
  (decide (x_7 < 0) = false →
  (I (x_7, IntKind.wrap IntKind.i64 (x_6 + 1), u') ∧ μ (x_7, IntKind.wrap IntKind.i64 (x_6 + 1), u') < μ (x_5, x_6, u)) ∧
  sameL [Value.int IntKind.i64 x, Value.int IntKind.i64 x_1, Value.string x_2, Value.int IntKind.i64 x_3]
  [Value.int IntKind.i64 x, Value.int IntKind.i64 x_1, Value.string x_2, Value.int IntKind.i64 x_3] ∧
  True))) ∧
  (decide (x_6 < x_3) = false → R (Value.int IntKind.i64 x_5) u)

theorem vc_l11End (d_0 : Sl) (o_1 : Int) (t2 : Int) (t3 : Int) (u : View) (R : Value → View → Prop) : VCfun Try.prog 149 pf (Option.getD Try.f25.body .skip) Try.f25.results.toList (.seq .no (.cut [] [(8, 9), (14, 30)] [] .no (.seq .no (.cut [] [(8, 9), (34, 61)] [] .no (.seq .no (.cut [] [(8, 9), (63, 82)] [] .no (.seq .no (.seq (.seq .no (.block (.loop [(11, .one (.int .i64)), (12, .one (.int .i64))] [(8, 9), (11, 14), (84, 103)] [] .no))) .no)))))))) [] [.v (.slice d_0.p d_0.n d_0.c), .v (.int .i64 o_1), .v (.int .u8 t2), .v (.int .i64 t3)] [] u R = W_l11End d_0 o_1 t2 t3 u R := by kernel_rfl

theorem c_l11End (d_0 : Sl) (o_1 : Int) (t2 : Int) (t3 : Int) (u : View) (R : Value → View → Prop) (hp : preOK u []) (h : W_l11End d_0 o_1 t2 t3 u R) :
    CallsV Try.prog F_l11End #[(.slice d_0.p d_0.n d_0.c), (.int .i64 o_1), (.int .u8 t2), (.int .i64 t3)] u R :=
  fcall (L0 := []) (xs := [.v (.slice d_0.p d_0.n d_0.c), .v (.int .i64 o_1), .v (.int .u8 t2), .v (.int .i64 t3)]) (fn := Try.f25) (by kernel_rfl) (by kernel_rfl) (by kernel_rfl) (by kernel_rfl) hp (Eq.mpr (vc_l11End d_0 o_1 t2 t3 u R) h)

/- spec.l11Vars: loop: out i ; own [] | cut:  ; own [] | loop: has k ; own [] -/
abbrev F_l11Vars : FuncId := 26
def W_l11Vars (nodes : Sl) (u : View) (R : Value → View → Prop) : Prop :=
  ∀ (b : Nat),
  View.lim u ≤ b →
  ∃ (I : Sl × Int × View → Prop),
  ∃ (μ : Sl × Int × View → Nat),
  (I (Sl.mk (some (Addr.mk b 0 none)) 0 0, 0, View.set u b (Obj.cells #[] 9)) ∧ True) ∧
  ∀ (junk : Nat → Value) (x : Sl) (x_1 : Int) (u : View),
  I (x, x_1, u) →
  (decide (x_1 < (↑(Sl.n nodes) : Int)) = true →
  ∃ (J : View → Prop),
  (∃ (ad : Addr),
  Sl.p nodes = some ad ∧
  0 ≤ x_1 ∧
  x_1 < (↑(Sl.n nodes) : Int) ∧
  ∃ (x_2 : Int),
  View.cell u (Addr.add (Addr.add ad (Int.toNat x_1 * 4)) 0) = some (Value.int IntKind.i64 x_2) ∧
  ((x_2 != 2) = true →
  ∃ (ad : Addr),
  Sl.p nodes = some ad ∧
  0 ≤ x_1 ∧
  x_1 < (↑(Sl.n nodes) : Int) ∧
  ∃ (x_3 : Int),
  View.cell u (Addr.add (Addr.add ad (Int.toNat x_1 * 4)) 0) = some (Value.int IntKind.i64 x_3) ∧
  ((x_3 != 12) = true →
  (I (Sl.mk (Sl.p x) (Sl.n x) (Sl.c x), IntKind.wrap IntKind.i64 (x_1 + 1), u) ∧
  μ (Sl.mk (Sl.p x) (Sl.n x) (Sl.c x), IntKind.wrap IntKind.i64 (x_1 + 1), u) < μ (x, x_1, u)) ∧
  True) ∧
  ((x_3 != 12) = false → J u ∧ True)) ∧
  ((x_2 != 2) = false → J u ∧ True)) ∧
  ∀ (junk : Nat → Value) (u_1 : View),
  J u_1 →
  ∃ (I_1 : Bool × Int × View → Prop),
  ∃ (μ_1 : Bool × Int × View → Nat),
  (I_1 (false, 0, u_1) ∧ True) ∧
  ∀ (junk : Nat → Value) (x_2 : Bool) (x_3 : Int) (u_2 : View),
  I_1 (x_2, x_3, u_2) →
  (decide (x_3 < (↑(Sl.n x) : Int)) = true →
  (x_2 = false →
  ∃ (ad : Addr),
  Sl.p x = some ad ∧
  0 ≤ x_3 ∧
  x_3 < (↑(Sl.n x) : Int) ∧
  ∃ (x : ByteArray),
  View.cell u_2 (Addr.add ad (Int.toNat x_3 * 1)) = some (Value.string x) ∧
  ∃ (ad : Addr),
  Sl.p nodes = some ad ∧
  0 ≤ x_1 ∧
  x_1 < (↑(Sl.n nodes) : Int) ∧
  ∃ (x_4 : ByteArray),
  View.cell u_2 (Addr.add (Addr.add ad (Int.toNat x_1 * 4)) 2) = some (Value.string x_4) ∧
  (I_1 (eqS x x_4, IntKind.wrap IntKind.i64 (x_3 + 1), u_2) ∧
  μ_1 (eqS x x_4, IntKind.wrap IntKind.i64 (x_3 + 1), u_2) < μ_1 (x_2, x_3, u_2)) ∧
  True) ∧
  (x_2 = true → (I_1 (true, IntKind.wrap IntKind.i64 (x_3 + 1), u_2) ∧ μ_1 (true, IntKind.wrap IntKind.i64 (x_3 + 1), u_2) < μ_1 (x_2, x_3, u_2)) ∧ True)) ∧
  (decide (x_3 < (↑(Sl.n x) : Int)) = false →
  ((!x_2) = true →
  ∃ (ad : Addr),
  Sl.p nodes = some ad ∧
  0 ≤ x_1 ∧
  x_1 < (↑(Sl.n nodes) : Int) ∧
  ∃ (x_4 : ByteArray),
  View.cell u_2 (Addr.add (Addr.add ad (Int.toNat x_1 * 4)) 2) = some (Value.string x_4) ∧
  ∀ (b : Nat),
  View.lim u_2 ≤ b →
  ∃ (new : List Value),
  List.length new = 1 ∧
  (∀ (v : Value), v ∈ new → Value.oneCell' v = true) ∧
  CellsO (View.set u_2 b (Obj.cells #[Value.string x_4] 9)) (some (Addr.mk b 0 none)) new ∧
  appPre (View.set u_2 b (Obj.cells #[Value.string x_4] 9)) (Sl.p x) (Sl.n x) (Sl.c x) 1 16 1 new ∧
  ∀ (s' : Sl) (u' : View),
  appPost (View.set u_2 b (Obj.cells #[Value.string x_4] 9)) (Sl.p x) (Sl.n x) (Sl.c x) 1 (Value.string (ByteArray.mk #[])) 9 1
  new s' u' →
  (I (Sl.mk (Sl.p s') (Sl.n s') (Sl.c s'), IntKind.wrap IntKind.i64 (x_1 + 1), u') ∧
  μ (Sl.mk (Sl.p s') (Sl.n s') (Sl.c s'), IntKind.wrap IntKind.i64 (x_1 + 1), u') < μ (x, x_1, u)) ∧
  True) ∧
  ((!x_2) = false →
  (I (Sl.mk (Sl.p x) (Sl.n x) (Sl.c x), IntKind.wrap IntKind.i64 (x_1 + 1), u_2) ∧
  μ (Sl.mk (Sl.p x) (Sl.n x) (Sl.c x), IntKind.wrap IntKind.i64 (x_1 + 1), u_2) < μ (x, x_1, u)) ∧
  True))) ∧
  (decide (x_1 < (↑(Sl.n nodes) : Int)) = false → R (Value.slice (Sl.p x) (Sl.n x) (Sl.c x)) u)

theorem vc_l11Vars (nodes : Sl) (u : View) (R : Value → View → Prop) : VCfun Try.prog 149 pf (Option.getD Try.f26.body .skip) Try.f26.results.toList (.seq .no (.seq .no (.seq (.seq .no (.block (.loop [(3, .one .sl), (4, .one (.int .i64))] [(3, 7), (8, 57)] [] (.seq .no (.seq (.block (.cut [] [(14, 28)] [] .no (.seq .no (.seq (.seq .no (.block (.loop [(5, .one .bool), (6, .one (.int .i64))] [(5, 7), (28, 47)] [] .no))) .no)))) .no))))) .no))) [] [.v (.slice nodes.p nodes.n nodes.c)] [] u R = W_l11Vars nodes u R := by kernel_rfl

theorem c_l11Vars (nodes : Sl) (u : View) (R : Value → View → Prop) (hp : preOK u []) (h : W_l11Vars nodes u R) :
    CallsV Try.prog F_l11Vars #[(.slice nodes.p nodes.n nodes.c)] u R :=
  fcall (L0 := []) (xs := [.v (.slice nodes.p nodes.n nodes.c)]) (fn := Try.f26) (by kernel_rfl) (by kernel_rfl) (by kernel_rfl) (by kernel_rfl) hp (Eq.mpr (vc_l11Vars nodes u R) h)

/- spec.NodesRight:  -/
abbrev F_nodesRight : FuncId := 8
def W_nodesRight (nodes : Sl) (u : View) (R : Value → View → Prop) : Prop :=
  (decide ((↑(Sl.n nodes) : Int) ≤ 200) = true →
  CallsV Try.prog 25 #[Value.slice (Sl.p nodes) (Sl.n nodes) (Sl.c nodes), Value.int IntKind.i64 0, Value.int IntKind.u8 98, Value.int IntKind.i64 1] u fun (v : Value) (u' : View) =>
  ∃ (x : Int),
  v = Value.int IntKind.i64 x ∧
  ((x == (↑(Sl.n nodes) : Int)) = true →
  CallsV Try.prog 26 #[Value.slice (Sl.p nodes) (Sl.n nodes) (Sl.c nodes)] u' fun (v : Value) (u' : View) =>
  ∃ (x : Sl), v = Value.slice (Sl.p x) (Sl.n x) (Sl.c x) ∧ R (Value.bool (decide ((↑(Sl.n x) : Int) ≤ 8))) u') ∧
  ((x == (↑(Sl.n nodes) : Int)) = false → R (Value.bool false) u')) ∧
  (decide ((↑(Sl.n nodes) : Int) ≤ 200) = false → R (Value.bool false) u)

theorem vc_nodesRight (nodes : Sl) (u : View) (R : Value → View → Prop) : VCfun Try.prog 149 pf (Option.getD Try.f8.body .skip) Try.f8.results.toList .no [] [.v (.slice nodes.p nodes.n nodes.c)] [] u R = W_nodesRight nodes u R := by kernel_rfl

theorem c_nodesRight (nodes : Sl) (u : View) (R : Value → View → Prop) (hp : preOK u []) (h : W_nodesRight nodes u R) :
    CallsV Try.prog F_nodesRight #[(.slice nodes.p nodes.n nodes.c)] u R :=
  fcall (L0 := []) (xs := [.v (.slice nodes.p nodes.n nodes.c)]) (fn := Try.f8) (by kernel_rfl) (by kernel_rfl) (by kernel_rfl) (by kernel_rfl) hp (Eq.mpr (vc_nodesRight nodes u R) h)

/- slices.ContainsFunc<<>impl.Op,impl.Op>:  -/
abbrev F_containsF : FuncId := 56
def W_containsF (s : Sl) (c0 : Addr) (u : View) (R : Value → View → Prop) : Prop :=
  CallsV Try.prog 81 #[Value.slice (Sl.p s) (Sl.n s) (Sl.c s), Value.func (Fn.func 57) #[] #[Value.pointer (some c0)]] u fun (v : Value) (u' : View) =>
  ∃ (x : Int), v = Value.int IntKind.i64 x ∧ R (Value.bool (decide (x ≥ 0))) u'

theorem vc_containsF (s : Sl) (c0 : Addr) (u : View) (R : Value → View → Prop) : VCfun Try.prog 149 pf (Option.getD Try.f56.body .skip) Try.f56.results.toList .no [] [.v (.slice s.p s.n s.c), .v (.func (.func 57) #[] #[.pointer (some c0)])] [] u R = W_containsF s c0 u R := by kernel_rfl

theorem c_containsF (s : Sl) (c0 : Addr) (u : View) (R : Value → View → Prop) (hp : preOK u []) (h : W_containsF s c0 u R) :
    CallsV Try.prog F_containsF #[(.slice s.p s.n s.c), (.func (.func 57) #[] #[.pointer (some c0)])] u R :=
  fcall (L0 := []) (xs := [.v (.slice s.p s.n s.c), .v (.func (.func 57) #[] #[.pointer (some c0)])]) (fn := Try.f56) (by kernel_rfl) (by kernel_rfl) (by kernel_rfl) (by kernel_rfl) hp (Eq.mpr (vc_containsF s c0 u R) h)

/- impl.opRight:  -/
abbrev F_opRight : FuncId := 58
def W_opRight (o_0_0 : Int) (o_0_1 : Int) (many : Int) (u : View) (R : Value → View → Prop) : Prop :=
  ∀ (b : Nat),
  View.lim u ≤ b →
  ((o_0_0 == 2) = true →
  CallsV Try.prog 70 #[Value.int IntKind.i64 o_0_1, Value.int IntKind.i64 0, Value.int IntKind.i64 999999999] u fun (v : Value) (u' : View) =>
  ∃ (x : Bool), v = Value.bool x ∧ R (Value.bool x) u') ∧
  ((o_0_0 == 2) = false →
  ((o_0_0 == 3) = true →
  CallsV Try.prog 70 #[Value.int IntKind.i64 o_0_1, Value.int IntKind.i64 0, Value.int IntKind.i64 7] u fun (v : Value) (u' : View) => ∃ (x : Bool), v = Value.bool x ∧ R (Value.bool x) u') ∧
  ((o_0_0 == 3) = false →
  ((o_0_0 == 4) = true →
  CallsV Try.prog 70 #[Value.int IntKind.i64 o_0_1, Value.int IntKind.i64 0, Value.int IntKind.i64 7] u fun (v : Value) (u' : View) =>
  ∃ (x : Bool), v = Value.bool x ∧ R (Value.bool x) u') ∧
  ((o_0_0 == 4) = false →
  ((o_0_0 == 10) = true →
  CallsV Try.prog 70 #[Value.int IntKind.i64 o_0_1, Value.int IntKind.i64 18, Value.int IntKind.i64 26] u fun (v : Value) (u' : View) =>
  ∃ (x : Bool), v = Value.bool x ∧ R (Value.bool x) u') ∧
  ((o_0_0 == 10) = false →
  ((o_0_0 == 11) = true →
  CallsV Try.prog 70 #[Value.int IntKind.i64 o_0_1, Value.int IntKind.i64 0, Value.int IntKind.i64 many] u fun (v : Value) (u' : View) =>
  ∃ (x : Bool), v = Value.bool x ∧ R (Value.bool x) u') ∧
  ((o_0_0 == 11) = false →
  ((o_0_0 == 12) = true →
  CallsV Try.prog 70 #[Value.int IntKind.i64 o_0_1, Value.int IntKind.i64 0, Value.int IntKind.i64 many] u fun (v : Value) (u' : View) =>
  ∃ (x : Bool), v = Value.bool x ∧ R (Value.bool x) u') ∧
  ((o_0_0 == 12) = false →
  ((o_0_0 == 18) = true →
  CallsV Try.prog 70 #[Value.int IntKind.i64 o_0_1, Value.int IntKind.i64 1, Value.int IntKind.i64 10] u fun (v : Value) (u' : View) =>
  ∃ (x : Bool), v = Value.bool x ∧ R (Value.bool x) u') ∧
  ((o_0_0 == 18) = false →
  CallsV Try.prog 70 #[Value.int IntKind.i64 o_0_0, Value.int IntKind.i64 1, Value.int IntKind.i64 18] u fun (v : Value) (u' : View) =>
  ∃ (x : Bool), v = Value.bool x ∧ (x = true → R (Value.bool (o_0_1 == 0)) u') ∧ (x = false → R (Value.bool false) u'))))))))

theorem vc_opRight (o_0_0 : Int) (o_0_1 : Int) (many : Int) (u : View) (R : Value → View → Prop) : VCfun Try.prog 149 pf (Option.getD Try.f58.body .skip) Try.f58.results.toList .no [] [.v (.agg #[.int .i64 o_0_0, .int .i64 o_0_1]), .v (.int .i64 many)] [] u R = W_opRight o_0_0 o_0_1 many u R := by kernel_rfl

theorem c_opRight (o_0_0 : Int) (o_0_1 : Int) (many : Int) (u : View) (R : Value → View → Prop) (hp : preOK u []) (h : W_opRight o_0_0 o_0_1 many u R) :
    CallsV Try.prog F_opRight #[(.agg #[.int .i64 o_0_0, .int .i64 o_0_1]), (.int .i64 many)] u R :=
  fcall (L0 := []) (xs := [.v (.agg #[.int .i64 o_0_0, .int .i64 o_0_1]), .v (.int .i64 many)]) (fn := Try.f58) (by kernel_rfl) (by kernel_rfl) (by kernel_rfl) (by kernel_rfl) hp (Eq.mpr (vc_opRight o_0_0 o_0_1 many u R) h)

/- impl.depths$1:  -/
abbrev F_depths1 : FuncId := 57
def W_depths1 (o_0_0 : Int) (o_0_1 : Int) (t1 : Addr) (u : View) (R : Value → View → Prop) : Prop :=
  ∀ (b : Nat),
  View.lim u ≤ b →
  ∃ (x : Int),
  View.cell u t1 = some (Value.int IntKind.i64 x) ∧
  CallsV Try.prog 58 #[Value.agg #[Value.int IntKind.i64 o_0_0, Value.int IntKind.i64 o_0_1], Value.int IntKind.i64 x] u fun (v : Value) (u' : View) =>
  ∃ (x : Bool), v = Value.bool x ∧ R (Value.bool !x) u'

theorem vc_depths1 (o_0_0 : Int) (o_0_1 : Int) (t1 : Addr) (u : View) (R : Value → View → Prop) : VCfun Try.prog 149 pf (Option.getD Try.f57.body .skip) Try.f57.results.toList .no [] [.v (.agg #[.int .i64 o_0_0, .int .i64 o_0_1]), .v (.pointer (some t1))] [] u R = W_depths1 o_0_0 o_0_1 t1 u R := by kernel_rfl

theorem c_depths1 (o_0_0 : Int) (o_0_1 : Int) (t1 : Addr) (u : View) (R : Value → View → Prop) (hp : preOK u []) (h : W_depths1 o_0_0 o_0_1 t1 u R) :
    CallsV Try.prog F_depths1 #[(.agg #[.int .i64 o_0_0, .int .i64 o_0_1]), (.pointer (some t1))] u R :=
  fcall (L0 := []) (xs := [.v (.agg #[.int .i64 o_0_0, .int .i64 o_0_1]), .v (.pointer (some t1))]) (fn := Try.f57) (by kernel_rfl) (by kernel_rfl) (by kernel_rfl) (by kernel_rfl) hp (Eq.mpr (vc_depths1 o_0_0 o_0_1 t1 u R) h)

/- slices.IndexFunc<<>impl.Op,impl.Op>: loop: t8 ; own [] -/
abbrev F_indexF : FuncId := 81
def W_indexF (s : Sl) (c0 : Addr) (u : View) (R : Value → View → Prop) : Prop :=
  ∃ (I : Int × View → Prop),
  ∃ (μ : Int × View → Nat),
  (I (0, u) ∧ True) ∧
  ∀ (junk : Nat → Value) (x : Int) (u : View),
  I (x, u) →
  (decide (x < (↑(Sl.n s) : Int)) = true →
  ∃ (ad : Addr),
  Sl.p s = some ad ∧
  0 ≤ x ∧
  x < (↑(Sl.n s) : Int) ∧
  ∃ (x_1 : Int),
  ∃ (x_2 : Int),
  (View.cell u (Addr.add (Addr.add ad (Int.toNat x * 2)) 0) = some (Value.int IntKind.i64 x_1) ∧
  View.cell u (Addr.add (Addr.add ad (Int.toNat x * 2)) 1) = some (Value.int IntKind.i64 x_2) ∧ True) ∧
  true = true ∧
  CallsV Try.prog 57 #[Value.agg #[Value.int IntKind.i64 x_1, Value.int IntKind.i64 x_2], Value.pointer (some c0)] u fun (v : Value) (u' : View) =>
  ∃ (x_3 : Bool),
  v = Value.bool x_3 ∧
  (x_3 = true → R (Value.int IntKind.i64 x) u') ∧
  (x_3 = false → (I (IntKind.wrap IntKind.i64 (x + 1), u') ∧ μ (IntKind.wrap IntKind.i64 (x + 1), u') < μ (x, u)) ∧ True)) ∧
  (decide (x < (↑(Sl.n s) : Int)) = false → R (Value.int IntKind.i64 (-1)) u)

theorem vc_indexF (s : Sl) (c0 : Addr) (u : View) (R : Value → View → Prop) : VCfun Try.prog 149 pf (Option.getD Try.f81.body .skip) Try.f81.results.toList (.seq .no (.seq (.seq .no (.block (.loop [(8, .one (.int .i64))] [(4, 6), (8, 19)] [] .no))) .no)) [] [.v (.slice s.p s.n s.c), .v (.func (.func 57) #[] #[.pointer (some c0)])] [] u R = W_indexF s c0 u R := by kernel_rfl

theorem c_indexF (s : Sl) (c0 : Addr) (u : View) (R : Value → View → Prop) (hp : preOK u []) (h : W_indexF s c0 u R) :
    CallsV Try.prog F_indexF #[(.slice s.p s.n s.c), (.func (.func 57) #[] #[.pointer (some c0)])] u R :=
  fcall (L0 := []) (xs := [.v (.slice s.p s.n s.c), .v (.func (.func 57) #[] #[.pointer (some c0)])]) (fn := Try.f81) (by kernel_rfl) (by kernel_rfl) (by kernel_rfl) (by kernel_rfl) hp (Eq.mpr (vc_indexF s c0 u R) h)

/- math/bits.Mul:  -/
abbrev F_mul : FuncId := 82
def W_mul (x_0 : Int) (y_1 : Int) (u : View) (R : Value → View → Prop) : Prop :=
  CallsV Try.prog 111 #[Value.int IntKind.u64 x_0, Value.int IntKind.u64 y_1] u fun (v : Value) (u' : View) =>
  ∃ (x : Int), ∃ (x_1 : Int), v = Value.tuple #[Value.int IntKind.u64 x, Value.int IntKind.u64 x_1] ∧ R (Value.tuple #[Value.int IntKind.u64 x, Value.int IntKind.u64 x_1]) u'

theorem vc_mul (x_0 : Int) (y_1 : Int) (u : View) (R : Value → View → Prop) : VCfun Try.prog 149 pf (Option.getD Try.f82.body .skip) Try.f82.results.toList .no [] [.v (.int .u64 x_0), .v (.int .u64 y_1)] [] u R = W_mul x_0 y_1 u R := by kernel_rfl

theorem c_mul (x_0 : Int) (y_1 : Int) (u : View) (R : Value → View → Prop) (hp : preOK u []) (h : W_mul x_0 y_1 u R) :
    CallsV Try.prog F_mul #[(.int .u64 x_0), (.int .u64 y_1)] u R :=
  fcall (L0 := []) (xs := [.v (.int .u64 x_0), .v (.int .u64 y_1)]) (fn := Try.f82) (by kernel_rfl) (by kernel_rfl) (by kernel_rfl) (by kernel_rfl) hp (Eq.mpr (vc_mul x_0 y_1 u R) h)

/- slices.Repeat<<>int64,int64>: cut:  ; own [] | cut:  ; own [] | loop: n ; own [] -/
abbrev F_repeat : FuncId := 59
def W_repeat (x_0 : Sl) (count : Int) (u : View) (R : Value → View → Prop) : Prop :=
  ∃ (J : View → Prop),
  ((decide (count < 0) = true → False) ∧ (decide (count < 0) = false → J u ∧ True)) ∧
  ∀ (junk : Nat → Value) (u : View),
  J u →
  CallsV Try.prog 82 #[Value.int IntKind.u64 (IntKind.wrap IntKind.u64 (↑(Sl.n x_0) : Int)), Value.int IntKind.u64 (IntKind.wrap IntKind.u64 count)] u fun (v : Value) (u' : View) =>
  ∃ (x : Int),
  ∃ (x_1 : Int),
  v = Value.tuple #[Value.int IntKind.u64 x, Value.int IntKind.u64 x_1] ∧
  ∃ (J : View → Prop),
  ((decide (x > 0) = false → (decide (x_1 > 9223372036854775807) = true → False) ∧ (decide (x_1 > 9223372036854775807) = false → J u' ∧ True)) ∧ (decide (x > 0) = true → False)) ∧
  ∀ (junk : Nat → Value) (u : View),
  J u →
  0 ≤ IntKind.wrap IntKind.i64 x_1 ∧
  IntKind.wrap IntKind.i64 x_1 ≤ IntKind.wrap IntKind.i64 x_1 ∧
  IntKind.wrap IntKind.i64 x_1 ≤ 4611686018427387904 ∧
  (↑(TypeInfo.bytes (Tables.types (Program.toTables Try.prog))[2]) : Int) * IntKind.wrap IntKind.i64 x_1 ≤ 140737488355328 ∧
  ∀ (b : Nat),
  View.lim u ≤ b →
  ∃ (new : List Value),
  List.length new = min (Sl.n x_0) (Int.toNat (IntKind.wrap IntKind.i64 x_1)) * 1 ∧
  (∀ (v : Value), v ∈ new → Value.oneCell' v = true) ∧
  CellsO (View.set u b (Obj.cells (List.toArray (zerosL (Value.int IntKind.i64 0) (Int.toNat (IntKind.wrap IntKind.i64 x_1)))) 2)) (Sl.p x_0) new ∧
  ((new = [] ∧
  ∃ (I : Int × View → Prop),
  ∃ (μ : Int × View → Nat),
  (I
  ((↑(min (Sl.n x_0) (Int.toNat (IntKind.wrap IntKind.i64 x_1))) : Int),
  View.set u b (Obj.cells (List.toArray (zerosL (Value.int IntKind.i64 0) (Int.toNat (IntKind.wrap IntKind.i64 x_1)))) 2)) ∧
  True) ∧
  ∀ (junk : Nat → Value) (x : Int) (u : View),
  I (x, u) →
  (decide (x < (↑(Int.toNat (IntKind.wrap IntKind.i64 x_1)) : Int)) = true →
  0 ≤ x ∧
  x ≤ (↑(Int.toNat (IntKind.wrap IntKind.i64 x_1)) : Int) ∧
  (↑(Int.toNat (IntKind.wrap IntKind.i64 x_1)) : Int) ≤ (↑(Int.toNat (IntKind.wrap IntKind.i64 x_1)) : Int) ∧
  Int.ofNat 0 ≤ Int.ofNat 0 ∧
  Int.ofNat 0 ≤ x ∧
  x ≤ (↑(Int.toNat (IntKind.wrap IntKind.i64 x_1)) : Int) ∧
  ∃ (new : List Value),
  List.length new = min (Int.toNat x - 0) (Int.toNat (↑(Int.toNat (IntKind.wrap IntKind.i64 x_1)) : Int) - Int.toNat x) * 1 ∧
  (∀ (v : Value), v ∈ new → Value.oneCell' v = true) ∧
  CellsO u (slP (some (Addr.mk b 0 none)) 0 (Int.toNat (IntKind.wrap IntKind.i64 x_1)) 1) new ∧
  (new = [] ∧
  (I
  (IntKind.wrap IntKind.i64
  (x +
  (↑(min (Int.toNat x - 0)
  (Int.toNat (↑(Int.toNat (IntKind.wrap IntKind.i64 x_1)) : Int) - Int.toNat x)) :
  Int)),
  u) ∧
  μ
  (IntKind.wrap IntKind.i64
  (x +
  (↑(min (Int.toNat x - 0)
  (Int.toNat (↑(Int.toNat (IntKind.wrap IntKind.i64 x_1)) : Int) - Int.toNat x)) :
  Int)),
  u) <
  μ (x, u)) ∧
  True ∨
  ∃ (b_1 : Nat),
  ∃ (o : Nat),
  ∃ (arr : Array Value),
  ∃ (T : TypeId),
  ∃ (fz : Nat × Nat),
  slP (some (Addr.mk b 0 none)) (Int.toNat x) (Int.toNat (IntKind.wrap IntKind.i64 x_1)) 1 =
  some (Addr.mk b_1 o none) ∧
  View.m u b_1 = some (Obj.cells arr T fz) ∧
  fzOK fz (Array.size arr) ∧
  o +
  min (Int.toNat x - 0)
  (Int.toNat (↑(Int.toNat (IntKind.wrap IntKind.i64 x_1)) : Int) - Int.toNat x) *
  1 ≤
  Array.size arr ∧
  (I
  (IntKind.wrap IntKind.i64
  (x +
  (↑(min (Int.toNat x - 0)
  (Int.toNat (↑(Int.toNat (IntKind.wrap IntKind.i64 x_1)) : Int) - Int.toNat x)) :
  Int)),
  View.set u b_1 (Obj.cells (List.toArray (splice (Array.toList arr) o new)) T fz)) ∧
  μ
  (IntKind.wrap IntKind.i64
  (x +
  (↑(min (Int.toNat x - 0)
  (Int.toNat (↑(Int.toNat (IntKind.wrap IntKind.i64 x_1)) : Int) -
  Int.toNat x)) :
  Int)),
  View.set u b_1 (Obj.cells (List.toArray (splice (Array.toList arr) o new)) T fz)) <
  μ (x, u)) ∧
  True)) ∧
  (decide (x < (↑(Int.toNat (IntKind.wrap IntKind.i64 x_1)) : Int)) = false →
  R (Value.slice (some (Addr.mk b 0 none)) (Int.toNat (IntKind.wrap IntKind.i64 x_1)) (Int.toNat (IntKind.wrap IntKind.i64 x_1))) u)) ∨
  ∃ (b_1 : Nat),
  ∃ (o : Nat),
  ∃ (arr : Array Value),
  ∃ (T : TypeId),
  ∃ (fz : Nat × Nat),
  some (Addr.mk b 0 none) = some (Addr.mk b_1 o none) ∧
  View.m (View.set u b (Obj.cells (List.toArray (zerosL (Value.int IntKind.i64 0) (Int.toNat (IntKind.wrap IntKind.i64 x_1)))) 2)) b_1 =
  some (Obj.cells arr T fz) ∧
  fzOK fz (Array.size arr) ∧
  o + min (Sl.n x_0) (Int.toNat (IntKind.wrap IntKind.i64 x_1)) * 1 ≤ Array.size arr ∧
  ∃ (I : Int × View → Prop),
  ∃ (μ : Int × View → Nat),
  (I
  ((↑(min (Sl.n x_0) (Int.toNat (IntKind.wrap IntKind.i64 x_1))) : Int),
  View.set
  (View.set u b (Obj.cells (List.toArray (zerosL (Value.int IntKind.i64 0) (Int.toNat (IntKind.wrap IntKind.i64 x_1)))) 2))
  b_1 (Obj.cells (List.toArray (splice (Array.toList arr) o new)) T fz)) ∧
  True) ∧
  ∀ (junk : Nat → Value) (x : Int) (u : View),
  I (x, u) →
  (decide (x < (↑(Int.toNat (IntKind.wrap IntKind.i64 x_1)) : Int)) = true →
  0 ≤ x ∧
  x ≤ (↑(Int.toNat (IntKind.wrap IntKind.i64 x_1)) : Int) ∧
  (↑(Int.toNat (IntKind.wrap IntKind.i64 x_1)) : Int) ≤ (↑(Int.toNat (IntKind.wrap IntKind.i64 x_1)) : Int) ∧
  Int.ofNat 0 ≤ Int.ofNat 0 ∧
  Int.ofNat 0 ≤ x ∧
  x ≤ (↑(Int.toNat (IntKind.wrap IntKind.i64 x_1)) : Int) ∧
  ∃ (new : List Value),
  List.length new =
  min (Int.toNat x - 0) (Int.toNat (↑(Int.toNat (IntKind.wrap IntKind.i64 x_1)) : Int) - Int.toNat x) *
  1 ∧
  (∀ (v : Value), v ∈ new → Value.oneCell' v = true) ∧
  CellsO u (slP (some (Addr.mk b 0 none)) 0 (Int.toNat (IntKind.wrap IntKind.i64 x_1)) 1) new ∧
  (new = [] ∧
  (I
  (IntKind.wrap IntKind.i64
  (x +
  (↑(min (Int.toNat x - 0)
  (Int.toNat (↑(Int.toNat (IntKind.wrap IntKind.i64 x_1)) : Int) - Int.toNat x)) :
  Int)),
  u) ∧
  μ
  (IntKind.wrap IntKind.i64
  (x +
  (↑(min (Int.toNat x - 0)
  (Int.toNat (↑(Int.toNat (IntKind.wrap IntKind.i64 x_1)) : Int) -
  Int.toNat x)) :
  Int)),
  u) <
  μ (x, u)) ∧
  True ∨
  ∃ (b_2 : Nat),
  ∃ (o : Nat),
  ∃ (arr : Array Value),
  ∃ (T : TypeId),
  ∃ (fz : Nat × Nat),
  slP (some (Addr.mk b 0 none)) (Int.toNat x) (Int.toNat (IntKind.wrap IntKind.i64 x_1)) 1 =
  some (Addr.mk b_2 o none) ∧
  View.m u b_2 = some (Obj.cells arr T fz) ∧
  fzOK fz (Array.size arr) ∧
  o +
  min (Int.toNat x - 0)
  (Int.toNat (↑(Int.toNat (IntKind.wrap IntKind.i64 x_1)) : Int) -
  Int.toNat x) *
  1 ≤
  Array.size arr ∧
  (I
  (IntKind.wrap IntKind.i64
  (x +
  (↑(min (Int.toNat x - 0)
  (Int.toNat (↑(Int.toNat (IntKind.wrap IntKind.i64 x_1)) : Int) -
  Int.toNat x)) :
  Int)),
  View.set u b_2
  (Obj.cells (List.toArray (splice (Array.toList arr) o new)) T fz)) ∧
  μ
  (IntKind.wrap IntKind.i64
  (x +
  (↑(min (Int.toNat x - 0)
  (Int.toNat
  (↑(Int.toNat (IntKind.wrap IntKind.i64 x_1)) : Int) -
  Int.toNat x)) :
  Int)),
  View.set u b_2
  (Obj.cells (List.toArray (splice (Array.toList arr) o new)) T fz)) <
  μ (x, u)) ∧
  True)) ∧
  (decide (x < (↑(Int.toNat (IntKind.wrap IntKind.i64 x_1)) : Int)) = false →
  R
  (Value.slice (some (Addr.mk b 0 none)) (Int.toNat (IntKind.wrap IntKind.i64 x_1))
  (Int.toNat (IntKind.wrap IntKind.i64 x_1)))
  u))

theorem vc_repeat (x_0 : Sl) (count : Int) (u : View) (R : Value → View → Prop) : VCfun Try.prog 149 pf (Option.getD Try.f59.body .skip) Try.f59.results.toList (.seq .no (.cut [] [(9, 12)] [] .no (.seq .no (.cut [] [(21, 28)] [] .no (.seq .no (.seq .no (.seq (.block (.loop [(8, .one (.int .i64))] [(8, 9), (34, 47)] [] .no)) .no))))))) [] [.v (.slice x_0.p x_0.n x_0.c), .v (.int .i64 count)] [] u R = W_repeat x_0 count u R := by kernel_rfl

theorem c_repeat (x_0 : Sl) (count : Int) (u : View) (R : Value → View → Prop) (hp : preOK u []) (h : W_repeat x_0 count u R) :
    CallsV Try.prog F_repeat #[(.slice x_0.p x_0.n x_0.c), (.int .i64 count)] u R :=
  fcall (L0 := []) (xs := [.v (.slice x_0.p x_0.n x_0.c), .v (.int .i64 count)]) (fn := Try.f59) (by kernel_rfl) (by kernel_rfl) (by kernel_rfl) (by kernel_rfl) hp (Eq.mpr (vc_repeat x_0 count u R) h)

/- impl.takes:  -/
abbrev F_takes : FuncId := 60
def W_takes (kind : Int) (u : View) (R : Value → View → Prop) : Prop :=
  ((kind == 2) = true → R (Value.tuple #[Value.int IntKind.i64 0, Value.int IntKind.i64 1]) u) ∧
  ((kind == 2) = false →
  ((kind == 3) = true → R (Value.tuple #[Value.int IntKind.i64 0, Value.int IntKind.i64 1]) u) ∧
  ((kind == 3) = false →
  ((kind == 5) = true → R (Value.tuple #[Value.int IntKind.i64 0, Value.int IntKind.i64 1]) u) ∧
  ((kind == 5) = false →
  ((kind == 6) = true → R (Value.tuple #[Value.int IntKind.i64 0, Value.int IntKind.i64 1]) u) ∧
  ((kind == 6) = false →
  ((kind == 7) = true → R (Value.tuple #[Value.int IntKind.i64 0, Value.int IntKind.i64 1]) u) ∧
  ((kind == 7) = false →
  ((kind == 4) = true → R (Value.tuple #[Value.int IntKind.i64 1, Value.int IntKind.i64 0]) u) ∧
  ((kind == 4) = false →
  ((kind == 12) = true → R (Value.tuple #[Value.int IntKind.i64 1, Value.int IntKind.i64 0]) u) ∧
  ((kind == 12) = false →
  ((kind == 13) = true → R (Value.tuple #[Value.int IntKind.i64 1, Value.int IntKind.i64 0]) u) ∧
  ((kind == 13) = false →
  ((kind == 15) = true → R (Value.tuple #[Value.int IntKind.i64 1, Value.int IntKind.i64 0]) u) ∧
  ((kind == 15) = false →
  ((kind == 16) = true → R (Value.tuple #[Value.int IntKind.i64 1, Value.int IntKind.i64 0]) u) ∧
  ((kind == 16) = false →
  ((kind == 8) = true → R (Value.tuple #[Value.int IntKind.i64 1, Value.int IntKind.i64 1]) u) ∧
  ((kind == 8) = false →
  ((kind == 9) = true → R (Value.tuple #[Value.int IntKind.i64 1, Value.int IntKind.i64 1]) u) ∧
  ((kind == 9) = false →
  ((kind == 10) = true → R (Value.tuple #[Value.int IntKind.i64 2, Value.int IntKind.i64 1]) u) ∧
  ((kind == 10) = false →
  ((kind == 14) = true → R (Value.tuple #[Value.int IntKind.i64 2, Value.int IntKind.i64 0]) u) ∧
  ((kind == 14) = false → R (Value.tuple #[Value.int IntKind.i64 0, Value.int IntKind.i64 0]) u))))))))))))))

theorem vc_takes (kind : Int) (u : View) (R : Value → View → Prop) : VCfun Try.prog 149 pf (Option.getD Try.f60.body .skip) Try.f60.results.toList .no [] [.v (.int .i64 kind)] [] u R = W_takes kind u R := by kernel_rfl

theorem c_takes (kind : Int) (u : View) (R : Value → View → Prop) (hp : preOK u []) (h : W_takes kind u R) :
    CallsV Try.prog F_takes #[(.int .i64 kind)] u R :=
  fcall (L0 := []) (xs := [.v (.int .i64 kind)]) (fn := Try.f60) (by kernel_rfl) (by kernel_rfl) (by kernel_rfl) (by kernel_rfl) hp (Eq.mpr (vc_takes kind u R) h)

/- impl.depths: cut:  ; own [0] | loop: t6 ; own [] | cut:  ; own [] | cut: t12 ; own [] | cut: t12 ; own [] | loop: t6 t101 ; own [] -/
abbrev F_depths : FuncId := 27
def W_depths (d_0 : Sl) (u : View) (R : Value → View → Prop) : Prop :=
  CallsV Try.prog 55 #[Value.slice (Sl.p d_0) (Sl.n d_0) (Sl.c d_0)] u fun (v : Value) (u' : View) =>
  ∃ (x : Int),
  v = Value.int IntKind.i64 x ∧
  ∀ (b : Nat),
  View.lim u' ≤ b →
  ∃ (J : Int × View → Prop),
  ((decide (x > 1500) = false →
  ∀ (uc : View),
  View.lim u' ≤ View.lim uc →
  (∀ (b : Nat) (o : Obj), View.m u' b = some o → View.m uc b = some o) →
  View.m u' b = none →
  b < View.lim uc →
  View.m uc b = some (Obj.cells #[Value.int IntKind.i64 x] 2) →
  CallsV Try.prog 56 #[Value.slice (Sl.p d_0) (Sl.n d_0) (Sl.c d_0), Value.func (Fn.func 57) #[] #[Value.pointer (some (Addr.mk b 0 none))]] uc
  fun (v : Value) (u'_1 : View) =>
  ∃ (x : Bool),
  v = Value.bool x ∧
  ∃ (x_1 : Int),
  View.m u'_1 b = some (Obj.cells #[Value.int IntKind.i64 x_1] 2) ∧
  ∀ (u'' : View),
  View.lim u'' = View.lim u'_1 →
  (∀ (b : Nat) (o o' : Obj), View.m u' b = some o → View.m u'_1 b = some o' → View.m u'' b = some o') →
  (∀ (b : Nat) (o : Obj), View.lim uc ≤ b → View.m u'_1 b = some o → View.m u'' b = some o) →
  (x = true → R (Value.tuple #[Value.slice none 0 0, Value.bool false]) u'') ∧ (x = false → J (x_1, u'') ∧ sameL [] [] ∧ True)) ∧
  (decide (x > 1500) = true → R (Value.tuple #[Value.slice none 0 0, Value.bool false]) u')) ∧
  ∀ (junk : Nat → Value) (x : Int) (u : View),
  J (x, u) →
  ∀ (b : Nat),
  View.lim u ≤ b →
  CallsV Try.prog 59 #[Value.slice (some (Addr.mk b 0 none)) 1 1, Value.int IntKind.i64 (IntKind.wrap IntKind.i64 (x + 1))]
  (View.set u b (Obj.cells #[Value.int IntKind.i64 (-1)] 2)) fun (v : Value) (u' : View) =>
  ∃ (x_1 : Sl),
  v = Value.slice (Sl.p x_1) (Sl.n x_1) (Sl.c x_1) ∧
  ∃ (ad : Addr),
  Sl.p x_1 = some ad ∧
  Int.ofNat 0 ≤ Int.ofNat 0 ∧
  0 < (↑(Sl.n x_1) : Int) ∧
  ∃ (c : Array Value),
  ∃ (T' : TypeId),
  ∃ (fz : Nat × Nat),
  View.m u' (Addr.block (Addr.add ad 0)) = some (Obj.cells c T' fz) ∧
  fzOK fz (Array.size c) ∧
  Addr.spot (Addr.add ad 0) = none ∧
  Addr.off (Addr.add ad 0) + 1 ≤ Array.size c ∧
  ∀ (b : Nat),
  View.lim
  (View.set u' (Addr.block (Addr.add ad 0))
  (Obj.cells (List.toArray (List.set (Array.toList c) (Addr.off (Addr.add ad 0)) (Value.int IntKind.i64 0))) T' fz)) ≤
  b →
  ∃ (I : Sl × View → Prop),
  ∃ (μ : Sl × View → Nat),
  (I
  (Sl.mk (some (Addr.mk b 0 none)) 1 1,
  View.set
  (View.set u' (Addr.block (Addr.add ad 0))
  (Obj.cells (List.toArray (List.set (Array.toList c) (Addr.off (Addr.add ad 0)) (Value.int IntKind.i64 0))) T' fz))
  b (Obj.cells #[Value.int IntKind.i64 0] 2)) ∧
  sameL [Value.int IntKind.i64 x] [Value.int IntKind.i64 x] ∧ True) ∧
  ∀ (junk : Nat → Value) (x_2 : Sl) (u : View),
  I (x_2, u) →
  (decide ((↑(Sl.n x_2) : Int) > 0) = true →
  ∃ (ad : Addr),
  Sl.p x_2 = some ad ∧
  0 ≤ IntKind.wrap IntKind.i64 ((↑(Sl.n x_2) : Int) - 1) ∧
  IntKind.wrap IntKind.i64 ((↑(Sl.n x_2) : Int) - 1) < (↑(Sl.n x_2) : Int) ∧
  ∃ (x_3 : Int),
  View.cell u (Addr.add ad (Int.toNat (IntKind.wrap IntKind.i64 ((↑(Sl.n x_2) : Int) - 1)) * 1)) =
  some (Value.int IntKind.i64 x_3) ∧
  Int.ofNat 0 ≤ Int.ofNat 0 ∧
  Int.ofNat 0 ≤ IntKind.wrap IntKind.i64 ((↑(Sl.n x_2) : Int) - 1) ∧
  IntKind.wrap IntKind.i64 ((↑(Sl.n x_2) : Int) - 1) ≤ (↑(Sl.c x_2) : Int) ∧
  ((x_3 == x) = true →
  ∃ (ad : Addr),
  Sl.p x_1 = some ad ∧
  0 ≤ x ∧
  x < (↑(Sl.n x_1) : Int) ∧
  ∃ (x_4 : Int),
  View.cell u (Addr.add ad (Int.toNat x * 1)) = some (Value.int IntKind.i64 x_4) ∧
  ((x_4 != 0) = true → R (Value.tuple #[Value.slice none 0 0, Value.bool false]) u) ∧
  ((x_4 != 0) = false →
  (I
  (Sl.mk (slP (Sl.p x_2) 0 (Sl.c x_2) 1)
  (Int.toNat (IntKind.wrap IntKind.i64 ((↑(Sl.n x_2) : Int) - 1)) - 0) (Sl.c x_2 - 0),
  u) ∧
  μ
  (Sl.mk (slP (Sl.p x_2) 0 (Sl.c x_2) 1)
  (Int.toNat (IntKind.wrap IntKind.i64 ((↑(Sl.n x_2) : Int) - 1)) - 0)
  (Sl.c x_2 - 0),
  u) <
  μ (x_2, u)) ∧
  sameL [Value.int IntKind.i64 x] [Value.int IntKind.i64 x] ∧ True)) ∧
  ((x_3 == x) = false →
  ∃ (ad : Addr),
  Sl.p d_0 = some ad ∧
  0 ≤ x_3 ∧
  x_3 < (↑(Sl.n d_0) : Int) ∧
  ∃ (x_4 : Int),
  ∃ (x_5 : Int),
  (View.cell u (Addr.add (Addr.add ad (Int.toNat x_3 * 2)) 0) = some (Value.int IntKind.i64 x_4) ∧
  View.cell u (Addr.add (Addr.add ad (Int.toNat x_3 * 2)) 1) =
  some (Value.int IntKind.i64 x_5) ∧
  True) ∧
  ∀ (b : Nat),
  View.lim u ≤ b →
  CallsV Try.prog 60 #[Value.int IntKind.i64 x_4] u fun (v : Value) (u' : View) =>
  ∃ (x_6 : Int),
  ∃ (x_7 : Int),
  v = Value.tuple #[Value.int IntKind.i64 x_6, Value.int IntKind.i64 x_7] ∧
  ∃ (ad : Addr),
  Sl.p x_1 = some ad ∧
  0 ≤ x_3 ∧
  x_3 < (↑(Sl.n x_1) : Int) ∧
  ∃ (x_8 : Int),
  View.cell u' (Addr.add ad (Int.toNat x_3 * 1)) =
  some (Value.int IntKind.i64 x_8) ∧
  ∃ (J : View → Prop),
  ((decide (IntKind.wrap IntKind.i64 (x_8 - x_6) < 0) = false →
  (decide
  (IntKind.wrap IntKind.i64
  (IntKind.wrap IntKind.i64 (x_8 - x_6) + x_7) >
  24) =
  true →
  R (Value.tuple #[Value.slice none 0 0, Value.bool false])
  u') ∧
  (decide
  (IntKind.wrap IntKind.i64
  (IntKind.wrap IntKind.i64 (x_8 - x_6) + x_7) >
  24) =
  false →
  J u' ∧
  sameL [Value.int IntKind.i64 x]
  [Value.int IntKind.i64 x] ∧
  sameL
  [Value.int IntKind.i64 x_4,
  Value.int IntKind.i64 x_5]
  [Value.int IntKind.i64 x_4,
  Value.int IntKind.i64 x_5] ∧
  True)) ∧
  (decide (IntKind.wrap IntKind.i64 (x_8 - x_6) < 0) = true →
  R (Value.tuple #[Value.slice none 0 0, Value.bool false]) u')) ∧
  ∀ (junk : Nat → Value) (u_1 : View),
  J u_1 →
  ∀ (b : Nat),
  View.lim u_1 ≤ b →
  ∃ (J : Sl × View → Prop),
  (((x_4 != 11) = true →
  ∀ (b_1 : Nat),
  View.lim (View.set u_1 b (Obj.cells #[] 2)) ≤
  b_1 →
  ∃ (new : List Value),
  List.length new = 1 ∧
  (∀ (v : Value),
  v ∈ new → Value.oneCell' v = true) ∧
  CellsO
  (View.set
  (View.set u_1 b (Obj.cells #[] 2))
  b_1
  (Obj.cells
  #[Value.int IntKind.i64
  (IntKind.wrap IntKind.i64
  (x_3 + 1))]
  2))
  (some (Addr.mk b_1 0 none)) new ∧
  appPre
  (View.set
  (View.set u_1 b (Obj.cells #[] 2))
  b_1
  (Obj.cells
  #[Value.int IntKind.i64
  (IntKind.wrap IntKind.i64
  (x_3 + 1))]
  2))
  (some (Addr.mk b 0 none)) 0 0 1 8 1
  new ∧
  ∀ (s' : Sl) (u' : View),
  appPost
  (View.set
  (View.set u_1 b
  (Obj.cells #[] 2))
  b_1
  (Obj.cells
  #[Value.int IntKind.i64
  (IntKind.wrap
  IntKind.i64
  (x_3 + 1))]
  2))
  (some (Addr.mk b 0 none)) 0 0 1
  (Value.int IntKind.i64 0) 2 1
  new s' u' →
  J
  (Sl.mk (Sl.p s') (Sl.n s')
  (Sl.c s'),
  u') ∧
  sameL [Value.int IntKind.i64 x]
  [Value.int IntKind.i64 x] ∧
  sameL
  [Value.int IntKind.i64
  x_4,
  Value.int IntKind.i64
  x_5]
  [Value.int IntKind.i64
  x_4,
  Value.int IntKind.i64
  x_5] ∧
  True) ∧
  ((x_4 != 11) = false →
  J
  (Sl.mk (some (Addr.mk b 0 none)) 0 0,
  View.set u_1 b (Obj.cells #[] 2)) ∧
  sameL [Value.int IntKind.i64 x]
  [Value.int IntKind.i64 x] ∧
  sameL
  [Value.int IntKind.i64 x_4,
  Value.int IntKind.i64 x_5]
  [Value.int IntKind.i64 x_4,
  Value.int IntKind.i64 x_5] ∧
  True)) ∧
  ∀ (junk : Nat → Value) (x_9 : Sl) (u_2 : View),
  J (x_9, u_2) →
  ∃ (J : Sl × View → Prop),
  (((x_4 == 11) = false →
  ((x_4 == 12) = true →
  ∀ (b : Nat),
  View.lim u_2 ≤ b →
  ∃ (new : List Value),
  List.length new = 1 ∧
  (∀ (v : Value),
  v ∈ new →
  Value.oneCell' v = true) ∧
  CellsO
  (View.set u_2 b
  (Obj.cells
  #[Value.int
  IntKind.i64 x_5]
  2))
  (some (Addr.mk b 0 none))
  new ∧
  appPre
  (View.set u_2 b
  (Obj.cells
  #[Value.int
  IntKind.i64 x_5]
  2))
  (Sl.p x_9) (Sl.n x_9)
  (Sl.c x_9) 1 8 1 new ∧
  ∀ (s' : Sl) (u' : View),
  appPost
  (View.set u_2 b
  (Obj.cells
  #[Value.int
  IntKind.i64
  x_5]
  2))
  (Sl.p x_9)
  (Sl.n x_9)
  (Sl.c x_9) 1
  (Value.int
  IntKind.i64 0)
  2 1 new s' u' →
  J
  (Sl.mk (Sl.p s')
  (Sl.n s')
  (Sl.c s'),
  u') ∧
  sameL
  [Value.int
  IntKind.i64
  x]
  [Value.int
  IntKind.i64
  x] ∧
  sameL
  [Value.int
  IntKind.i64
  x_4,
  Value.int
  IntKind.i64
  x_5]
  [Value.int
  IntKind.i64
  x_4,
  Value.int
  IntKind.i64
  x_5] ∧
  True) ∧
  ((x_4 == 12) = false →
  J
  (Sl.mk (Sl.p x_9) (Sl.n x_9)
  (Sl.c x_9),
  u_2) ∧
  sameL [Value.int IntKind.i64 x]
  [Value.int IntKind.i64 x] ∧
  sameL
  [Value.int IntKind.i64 x_4,
  Value.int IntKind.i64 x_5]
  [Value.int IntKind.i64 x_4,
  Value.int IntKind.i64 x_5] ∧
  True)) ∧
  ((x_4 == 11) = true →
  ∀ (b : Nat),
  View.lim u_2 ≤ b →
  ∃ (new : List Value),
  List.length new = 1 ∧
  (∀ (v : Value),
  v ∈ new →
  Value.oneCell' v = true) ∧
  CellsO
  (View.set u_2 b
  (Obj.cells
  #[Value.int IntKind.i64
  x_5]
  2))
  (some (Addr.mk b 0 none))
  new ∧
  appPre
  (View.set u_2 b
  (Obj.cells
  #[Value.int IntKind.i64
  x_5]
  2))
  (Sl.p x_9) (Sl.n x_9)
  (Sl.c x_9) 1 8 1 new ∧
  ∀ (s' : Sl) (u' : View),
  appPost
  (View.set u_2 b
  (Obj.cells
  #[Value.int
  IntKind.i64 x_5]
  2))
  (Sl.p x_9) (Sl.n x_9)
  (Sl.c x_9) 1
  (Value.int IntKind.i64
  0)
  2 1 new s' u' →
  J
  (Sl.mk (Sl.p s')
  (Sl.n s')
  (Sl.c s'),
  u') ∧
  sameL
  [Value.int
  IntKind.i64 x]
  [Value.int
  IntKind.i64 x] ∧
  sameL
  [Value.int
  IntKind.i64
  x_4,
  Value.int
  IntKind.i64
  x_5]
  [Value.int
  IntKind.i64
  x_4,
  Value.int
  IntKind.i64
  x_5] ∧
  True)) ∧
  ∀ (junk : Nat → Value) (x_10 : Sl) (u_3 : View),
  J (x_10, u_3) →
  ∃ (I_1 : Sl × Int × View → Prop),
  ∃ (μ_1 : Sl × Int × View → Nat),
  (I_1
  (Sl.mk
  (slP (Sl.p x_2) 0 (Sl.c x_2)
  1)
  (Int.toNat
  (IntKind.wrap IntKind.i64
  ((↑(Sl.n x_2) : Int) -
  1)) -
  0)
  (Sl.c x_2 - 0),
  0, u_3) ∧
  sameL [Value.int IntKind.i64 x]
  [Value.int IntKind.i64 x] ∧
  sameL
  [Value.int IntKind.i64 x_4,
  Value.int IntKind.i64 x_5]
  [Value.int IntKind.i64 x_4,
  Value.int IntKind.i64 x_5] ∧
  True) ∧
  ∀ (junk : Nat → Value) (x_11 : Sl)
  (x_12 : Int) (u_4 : View),
  I_1 (x_11, x_12, u_4) →
  (decide
  (x_12 <
  (↑(Sl.n x_10) : Int)) =
  true →
  ∃ (ad : Addr),
  Sl.p x_10 = some ad ∧
  0 ≤ x_12 ∧
  x_12 <
  (↑(Sl.n x_10) :
  Int) ∧
  ∃ (x_13 : Int),
  View.cell u_4
  (Addr.add ad
  (Int.toNat
  x_12 *
  1)) =
  some
  (Value.int
  IntKind.i64
  x_13) ∧
  ∃ (ad : Addr),
  Sl.p x_1 =
  some ad ∧
  0 ≤ x_13 ∧
  x_13 <
  (↑(Sl.n
  x_1) :
  Int) ∧
  ∃ (x_14 :
  Int),
  View.cell
  u_4
  (Addr.add
  ad
  (Int.toNat
  x_13 *
  1)) =
  some
  (Value.int
  IntKind.i64
  x_14) ∧
  ((x_14 ==
  -1) =
  true →
  ∃
  (ad
  :
  Addr),
  Sl.p
  x_1 =
  some
  ad ∧
  0 ≤
  x_13 ∧
  x_13 <
  (↑(Sl.n
  x_1) :
  Int) ∧
  ∃
  (c
  :
  Array
  Value),
  ∃
  (T'
  :
  TypeId),
  ∃
  (fz
  :
  Nat ×
  Nat),
  View.m
  u_4
  (Addr.block
  (Addr.add
  ad
  (Int.toNat
  x_13 *
  1))) =
  some
  (Obj.cells
  c
  T'
  fz) ∧
  fzOK
  fz
  (Array.size
  c) ∧
  Addr.spot
  (Addr.add
  ad
  (Int.toNat
  x_13 *
  1)) =
  none ∧
  Addr.off
  (Addr.add
  ad
  (Int.toNat
  x_13 *
  1)) +
  1 ≤
  Array.size
  c ∧
  ∀
  (b :
  Nat),
  View.lim
  (View.set
  u_4
  (Addr.block
  (Addr.add
  ad
  (Int.toNat
  x_13 *
  1)))
  (Obj.cells
  (List.toArray
  (List.set
  (Array.toList
  c)
  (Addr.off
  (Addr.add
  ad
  (Int.toNat
  x_13 *
  1)))
  (Value.int
  IntKind.i64
  (IntKind.wrap
  IntKind.i64
  (IntKind.wrap
  IntKind.i64
  (x_8 -
  x_6) +
  x_7)))))
  T'
  fz)) ≤
  b →
  ∃
  (new
  :
  List
  Value),
  List.length
  new =
  1 ∧
  (∀
  (v :
  Value),
  v ∈
  new →
  Value.oneCell'
  v =
  true) ∧
  CellsO
  (View.set
  (View.set
  u_4
  (Addr.block
  (Addr.add
  ad
  (Int.toNat
  x_13 *
  1)))
  (Obj.cells
  (List.toArray
  (List.set
  (Array.toList
  c)
  (Addr.off
  (Addr.add
  ad
  (Int.toNat
  x_13 *
  1)))
  (Value.int
  IntKind.i64
  (IntKind.wrap
  IntKind.i64
  (IntKind.wrap
  IntKind.i64
  (x_8 -
  x_6) +
  x_7)))))
  T'
  fz))
  b
  (Obj.cells
  #[Value.int
  IntKind.i64
  x_13]
  2))
  (some
  (Addr.mk
  b
  0
  none))
  new ∧
  appPre
  (View.set
  (View.set
  u_4
  (Addr.block
  (Addr.add
  ad
  (Int.toNat
  x_13 *
  1)))
  (Obj.cells
  (List.toArray
  (List.set
  (Array.toList
  c)
  (Addr.off
  (Addr.add
  ad
  (Int.toNat
  x_13 *
  1)))
  (Value.int
  IntKind.i64
  (IntKind.wrap
  IntKind.i64
  (IntKind.wrap
  IntKind.i64
  (x_8 -
  x_6) +
  x_7)))))
  T'
  fz))
  b
  (Obj.cells
  #[Value.int
  IntKind.i64
  x_13]
  2))
  (Sl.p
  x_11)
  (Sl.n
  x_11)
  (Sl.c
  x_11)
  1
  8
  1
  new ∧
  ∀
  (s' :
  Sl)
  (u' :
  View),
  appPost
  (View.set
  (View.set
  u_4
  (Addr.block
  (Addr.add
  ad
  (Int.toNat
  x_13 *
  1)))
  (Obj.cells
  (List.toArray
  (List.set
  (Array.toList
  c)
  (Addr.off
  (Addr.add
  ad
  (Int.toNat
  x_13 *
  1)))
  (Value.int
  IntKind.i64
  (IntKind.wrap
  IntKind.i64
  (IntKind.wrap
  IntKind.i64
  (x_8 -
  x_6) +
  x_7)))))
  T'
  fz))
  b
  (Obj.cells
  #[Value.int
  IntKind.i64
  x_13]
  2))
  (Sl.p
  x_11)
  (Sl.n
  x_11)
  (Sl.c
  x_11)
  1
  (Value.int
  IntKind.i64
  0)
  2
  1
  new
  s'
  u' →
  (I_1
  (Sl.mk
  (Sl.p
  s')
  (Sl.n
  s')
  (Sl.c
  s'),
  IntKind.wrap
  IntKind.i64
  (x_12 +
  1),
  u') ∧
  μ_1
  (Sl.mk
  (Sl.p
  s')
  (Sl.n
  s')
  (Sl.c
  s'),
  IntKind.wrap
  IntKind.i64
  (x_12 +
  1),
  u') <
  μ_1
  (x_11,
  x_12,
  u_4)) ∧
  sameL
  [Value.int
  IntKind.i64
  x]
  [Value.int
  IntKind.i64
  x] ∧
  sameL
  [Value.int
  IntKind.i64
  x_4,
  Value.int
  IntKind.i64
  x_5]
  [Value.int
  IntKind.i64
  x_4,
  Value.int
  IntKind.i64
  x_5] ∧
  True) ∧
  ((x_14 ==
  -1) =
  false →
  ((x_14 ==
  IntKind.wrap
  IntKind.i64
  (IntKind.wrap
  IntKind.i64
  (x_8 -
  x_6) +
  x_7)) =
  true →
  (I_1
  (Sl.mk
  (Sl.p
  x_11)
  (Sl.n
  x_11)
  (Sl.c
  x_11),
  IntKind.wrap
  IntKind.i64
  (x_12 +
  1),
  u_4) ∧
  μ_1
  (Sl.mk
  (Sl.p
  x_11)
  (Sl.n
  x_11)
  (Sl.c
  x_11),
  IntKind.wrap
  IntKind.i64
  (x_12 +
  1),
  u_4) <
  μ_1
  (x_11,
  x_12,
  u_4)) ∧
  sameL
  [Value.int
  IntKind.i64
  x]
  [Value.int
  IntKind.i64
  x] ∧
  sameL
  [Value.int
  IntKind.i64
  x_4,
  Value.int
  IntKind.i64
  x_5]
  [Value.int
  IntKind.i64
  x_4,
  Value.int
  IntKind.i64
  x_5] ∧
  True) ∧
  ((x_14 ==
  IntKind.wrap
  IntKind.i64
  (IntKind.wrap
  IntKind.i64
  (x_8 -
  x_6) +
  x_7)) =
  false →
  R
  (Value.tuple
  #[Value.slice
  none
  0
  0,
  Value.bool
  false])
  u_4))) ∧
  (decide
  (x_12 <
  (↑(Sl.n x_10) : Int)) =
  false →
  (I
  (Sl.mk (Sl.p x_11)
  (Sl.n x_11)
  (Sl.c x_11),
  u_4) ∧
  μ
  (Sl.mk (Sl.p x_11)
  (Sl.n x_11)
  (Sl.c x_11),
  u_4) <
  μ (x_2, u)) ∧
  sameL
  [Value.int IntKind.i64
  x]
  [Value.int IntKind.i64
  x] ∧
  True))) ∧
  (decide ((↑(Sl.n x_2) : Int) > 0) = false → R (Value.tuple #[Value.slice (Sl.p x_1) (Sl.n x_1) (Sl.c x_1), Value.bool true]) u)

theorem vc_depths (d_0 : Sl) (u : View) (R : Value → View → Prop) : VCfun Try.prog 149 pf (Option.getD Try.f27.body .skip) Try.f27.results.toList (.seq .no (.seq .no (.cut [] [(2, 4), (17, 24)] [0] .no (.seq .no (.seq .no (.seq (.seq .no (.block (.loop [(6, .one .sl)] [(2, 4), (6, 13), (14, 15), (31, 127)] [] (.seq .no (.block (.seq .no (.seq .no (.seq .no (.seq .no (.seq .no (.seq .no (.cut [] [(2, 4), (69, 77)] [] .no (.seq .no (.cut [(12, .one .sl)] [(12, 13), (78, 86)] [] .no (.cut [(12, .one .sl)] [(12, 13), (86, 99)] [] .no (.seq .no (.block (.loop [(6, .one .sl), (101, .one (.int .i64))] [(2, 4), (6, 7), (14, 15), (101, 127)] [] .no)))))))))))))))))) .no)))))) [] [.v (.slice d_0.p d_0.n d_0.c)] [] u R = W_depths d_0 u R := by kernel_rfl

theorem c_depths (d_0 : Sl) (u : View) (R : Value → View → Prop) (hp : preOK u []) (h : W_depths d_0 u R) :
    CallsV Try.prog F_depths #[(.slice d_0.p d_0.n d_0.c)] u R :=
  fcall (L0 := []) (xs := [.v (.slice d_0.p d_0.n d_0.c)]) (fn := Try.f27) (by kernel_rfl) (by kernel_rfl) (by kernel_rfl) (by kernel_rfl) hp (Eq.mpr (vc_depths d_0 u R) h)

/- impl.CodeRight:  -/
abbrev F_codeRight : FuncId := 9
def W_codeRight (ops : Sl) (u : View) (R : Value → View → Prop) : Prop :=
  CallsV Try.prog 27 #[Value.slice (Sl.p ops) (Sl.n ops) (Sl.c ops)] u fun (v : Value) (u' : View) =>
  ∃ (x : Sl), ∃ (x_1 : Bool), v = Value.tuple #[Value.slice (Sl.p x) (Sl.n x) (Sl.c x), Value.bool x_1] ∧ R (Value.bool x_1) u'

theorem vc_codeRight (ops : Sl) (u : View) (R : Value → View → Prop) : VCfun Try.prog 149 pf (Option.getD Try.f9.body .skip) Try.f9.results.toList .no [] [.v (.slice ops.p ops.n ops.c)] [] u R = W_codeRight ops u R := by kernel_rfl

theorem c_codeRight (ops : Sl) (u : View) (R : Value → View → Prop) (hp : preOK u []) (h : W_codeRight ops u R) :
    CallsV Try.prog F_codeRight #[(.slice ops.p ops.n ops.c)] u R :=
  fcall (L0 := []) (xs := [.v (.slice ops.p ops.n ops.c)]) (fn := Try.f9) (by kernel_rfl) (by kernel_rfl) (by kernel_rfl) (by kernel_rfl) hp (Eq.mpr (vc_codeRight ops u R) h)

/- spec.l13Op: cut:  ; own [] -/
abbrev F_l13Op : FuncId := 28
def W_l13Op (d_0_0 : Int) (d_0_1 : Int) (o_1 : Int) (u : View) (R : Value → View → Prop) : Prop :=
  ∀ (b : Nat),
  View.lim u ≤ b →
  ∃ (J : View → Prop),
  (((d_0_0 == 2) = true → (decide (d_0_1 ≥ 0) = true → R (Value.bool (decide (d_0_1 ≤ 999999999))) u) ∧ (decide (d_0_1 ≥ 0) = false → R (Value.bool false) u)) ∧
  ((d_0_0 == 2) = false →
  ((d_0_0 == 3) = true → (decide (d_0_1 ≥ 0) = true → R (Value.bool (decide (d_0_1 ≤ 7))) u) ∧ (decide (d_0_1 ≥ 0) = false → R (Value.bool false) u)) ∧
  ((d_0_0 == 3) = false →
  ((d_0_0 == 4) = true → (decide (d_0_1 ≥ 0) = true → R (Value.bool (decide (d_0_1 ≤ 7))) u) ∧ (decide (d_0_1 ≥ 0) = false → R (Value.bool false) u)) ∧
  ((d_0_0 == 4) = false →
  ((d_0_0 == 10) = true → (decide (d_0_1 ≥ 18) = true → R (Value.bool (decide (d_0_1 ≤ 26))) u) ∧ (decide (d_0_1 ≥ 18) = false → R (Value.bool false) u)) ∧
  ((d_0_0 == 10) = false →
  ((d_0_0 == 11) = true → (decide (d_0_1 ≥ 0) = true → R (Value.bool (decide (d_0_1 ≤ o_1))) u) ∧ (decide (d_0_1 ≥ 0) = false → R (Value.bool false) u)) ∧
  ((d_0_0 == 11) = false →
  ((d_0_0 == 12) = true → (decide (d_0_1 ≥ 0) = true → R (Value.bool (decide (d_0_1 ≤ o_1))) u) ∧ (decide (d_0_1 ≥ 0) = false → R (Value.bool false) u)) ∧
  ((d_0_0 == 12) = false →
  ((d_0_0 == 18) = true → (decide (d_0_1 ≥ 1) = true → R (Value.bool (decide (d_0_1 ≤ 10))) u) ∧ (decide (d_0_1 ≥ 1) = false → R (Value.bool false) u)) ∧
  ((d_0_0 == 18) = false →
  J u ∧ sameL [Value.int IntKind.i64 d_0_0, Value.int IntKind.i64 d_0_1] [Value.int IntKind.i64 d_0_0, Value.int IntKind.i64 d_0_1] ∧ True)))))))) ∧
  ∀ (junk : Nat → Value) (u : View),
  J u →
  (decide (d_0_0 ≥ 1) = true → (decide (d_0_0 ≤ 18) = true → R (Value.bool (d_0_1 == 0)) u) ∧ (decide (d_0_0 ≤ 18) = false → R (Value.bool false) u)) ∧
  (decide (d_0_0 ≥ 1) = false → R (Value.bool false) u)

theorem vc_l13Op (d_0_0 : Int) (d_0_1 : Int) (o_1 : Int) (u : View) (R : Value → View → Prop) : VCfun Try.prog 149 pf (Option.getD Try.f28.body .skip) Try.f28.results.toList (.seq .no (.cut [] [(4, 60)] [] .no .no)) [] [.v (.agg #[.int .i64 d_0_0, .int .i64 d_0_1]), .v (.int .i64 o_1)] [] u R = W_l13Op d_0_0 d_0_1 o_1 u R := by kernel_rfl

theorem c_l13Op (d_0_0 : Int) (d_0_1 : Int) (o_1 : Int) (u : View) (R : Value → View → Prop) (hp : preOK u []) (h : W_l13Op d_0_0 d_0_1 o_1 u R) :
    CallsV Try.prog F_l13Op #[(.agg #[.int .i64 d_0_0, .int .i64 d_0_1]), (.int .i64 o_1)] u R :=
  fcall (L0 := []) (xs := [.v (.agg #[.int .i64 d_0_0, .int .i64 d_0_1]), .v (.int .i64 o_1)]) (fn := Try.f28) (by kernel_rfl) (by kernel_rfl) (by kernel_rfl) (by kernel_rfl) hp (Eq.mpr (vc_l13Op d_0_0 d_0_1 o_1 u R) h)

/- spec.l13Takes:  -/
abbrev F_l13Takes : FuncId := 61
def W_l13Takes (kind : Int) (u : View) (R : Value → View → Prop) : Prop :=
  ((kind == 2) = true → R (Value.tuple #[Value.int IntKind.i64 0, Value.int IntKind.i64 1]) u) ∧
  ((kind == 2) = false →
  ((kind == 3) = true → R (Value.tuple #[Value.int IntKind.i64 0, Value.int IntKind.i64 1]) u) ∧
  ((kind == 3) = false →
  ((kind == 5) = true → R (Value.tuple #[Value.int IntKind.i64 0, Value.int IntKind.i64 1]) u) ∧
  ((kind == 5) = false →
  ((kind == 6) = true → R (Value.tuple #[Value.int IntKind.i64 0, Value.int IntKind.i64 1]) u) ∧
  ((kind == 6) = false →
  ((kind == 7) = true → R (Value.tuple #[Value.int IntKind.i64 0, Value.int IntKind.i64 1]) u) ∧
  ((kind == 7) = false →
  ((kind == 4) = true → R (Value.tuple #[Value.int IntKind.i64 1, Value.int IntKind.i64 0]) u) ∧
  ((kind == 4) = false →
  ((kind == 12) = true → R (Value.tuple #[Value.int IntKind.i64 1, Value.int IntKind.i64 0]) u) ∧
  ((kind == 12) = false →
  ((kind == 13) = true → R (Value.tuple #[Value.int IntKind.i64 1, Value.int IntKind.i64 0]) u) ∧
  ((kind == 13) = false →
  ((kind == 15) = true → R (Value.tuple #[Value.int IntKind.i64 1, Value.int IntKind.i64 0]) u) ∧
  ((kind == 15) = false →
  ((kind == 16) = true → R (Value.tuple #[Value.int IntKind.i64 1, Value.int IntKind.i64 0]) u) ∧
  ((kind == 16) = false →
  ((kind == 8) = true → R (Value.tuple #[Value.int IntKind.i64 1, Value.int IntKind.i64 1]) u) ∧
  ((kind == 8) = false →
  ((kind == 9) = true → R (Value.tuple #[Value.int IntKind.i64 1, Value.int IntKind.i64 1]) u) ∧
  ((kind == 9) = false →
  ((kind == 10) = true → R (Value.tuple #[Value.int IntKind.i64 2, Value.int IntKind.i64 1]) u) ∧
  ((kind == 10) = false →
  ((kind == 14) = true → R (Value.tuple #[Value.int IntKind.i64 2, Value.int IntKind.i64 0]) u) ∧
  ((kind == 14) = false → R (Value.tuple #[Value.int IntKind.i64 0, Value.int IntKind.i64 0]) u))))))))))))))

theorem vc_l13Takes (kind : Int) (u : View) (R : Value → View → Prop) : VCfun Try.prog 149 pf (Option.getD Try.f61.body .skip) Try.f61.results.toList .no [] [.v (.int .i64 kind)] [] u R = W_l13Takes kind u R := by kernel_rfl

theorem c_l13Takes (kind : Int) (u : View) (R : Value → View → Prop) (hp : preOK u []) (h : W_l13Takes kind u R) :
    CallsV Try.prog F_l13Takes #[(.int .i64 kind)] u R :=
  fcall (L0 := []) (xs := [.v (.int .i64 kind)]) (fn := Try.f61) (by kernel_rfl) (by kernel_rfl) (by kernel_rfl) (by kernel_rfl) hp (Eq.mpr (vc_l13Takes kind u R) h)

/- spec.l13Depths: loop: t5 t6 ; own [] | loop: t7 ; own [] | cut:  ; own [] | cut: t12 ; own [] | loop: t7 t13 ; own [] -/
abbrev F_l13Depths : FuncId := 29
def W_l13Depths (d_0 : Sl) (u : View) (R : Value → View → Prop) : Prop :=
  ∀ (b : Nat),
  View.lim u ≤ b →
  ∃ (I : Sl × Int × View → Prop),
  ∃ (μ : Sl × Int × View → Nat),
  (I (Sl.mk (some (Addr.mk b 0 none)) 0 0, 0, View.set u b (Obj.cells #[] 2)) ∧ True) ∧
  ∀ (junk : Nat → Value) (x : Sl) (x_1 : Int) (u : View),
  I (x, x_1, u) →
  (decide (x_1 ≤ (↑(Sl.n d_0) : Int)) = true →
  ∀ (b : Nat),
  View.lim u ≤ b →
  ∃ (new : List Value),
  List.length new = 1 ∧
  (∀ (v : Value), v ∈ new → Value.oneCell' v = true) ∧
  CellsO (View.set u b (Obj.cells #[Value.int IntKind.i64 (-1)] 2)) (some (Addr.mk b 0 none)) new ∧
  appPre (View.set u b (Obj.cells #[Value.int IntKind.i64 (-1)] 2)) (Sl.p x) (Sl.n x) (Sl.c x) 1 8 1 new ∧
  ∀ (s' : Sl) (u' : View),
  appPost (View.set u b (Obj.cells #[Value.int IntKind.i64 (-1)] 2)) (Sl.p x) (Sl.n x) (Sl.c x) 1 (Value.int IntKind.i64 0) 2 1 new s' u' →
  (I (Sl.mk (Sl.p s') (Sl.n s') (Sl.c s'), IntKind.wrap IntKind.i64 (x_1 + 1), u') ∧
  μ (Sl.mk (Sl.p s') (Sl.n s') (Sl.c s'), IntKind.wrap IntKind.i64 (x_1 + 1), u') < μ (x, x_1, u)) ∧
  True) ∧
  (decide (x_1 ≤ (↑(Sl.n d_0) : Int)) = false →
  ∃ (ad : Addr),
  Sl.p x = some ad ∧
  Int.ofNat 0 ≤ Int.ofNat 0 ∧
  0 < (↑(Sl.n x) : Int) ∧
  ∃ (c : Array Value),
  ∃ (T' : TypeId),
  ∃ (fz : Nat × Nat),
  View.m u (Addr.block (Addr.add ad 0)) = some (Obj.cells c T' fz) ∧
  fzOK fz (Array.size c) ∧
  Addr.spot (Addr.add ad 0) = none ∧
  Addr.off (Addr.add ad 0) + 1 ≤ Array.size c ∧
  ∀ (b : Nat),
  View.lim
  (View.set u (Addr.block (Addr.add ad 0))
  (Obj.cells (List.toArray (List.set (Array.toList c) (Addr.off (Addr.add ad 0)) (Value.int IntKind.i64 0))) T' fz)) ≤
  b →
  ∃ (I : Sl × View → Prop),
  ∃ (μ : Sl × View → Nat),
  (I
  (Sl.mk (some (Addr.mk b 0 none)) 1 1,
  View.set
  (View.set u (Addr.block (Addr.add ad 0))
  (Obj.cells (List.toArray (List.set (Array.toList c) (Addr.off (Addr.add ad 0)) (Value.int IntKind.i64 0))) T' fz))
  b (Obj.cells #[Value.int IntKind.i64 0] 2)) ∧
  True) ∧
  ∀ (junk : Nat → Value) (x_2 : Sl) (u : View),
  I (x_2, u) →
  (decide ((↑(Sl.n x_2) : Int) > 0) = true →
  ∃ (ad : Addr),
  Sl.p x_2 = some ad ∧
  0 ≤ IntKind.wrap IntKind.i64 ((↑(Sl.n x_2) : Int) - 1) ∧
  IntKind.wrap IntKind.i64 ((↑(Sl.n x_2) : Int) - 1) < (↑(Sl.n x_2) : Int) ∧
  ∃ (x_3 : Int),
  View.cell u (Addr.add ad (Int.toNat (IntKind.wrap IntKind.i64 ((↑(Sl.n x_2) : Int) - 1)) * 1)) = some (Value.int IntKind.i64 x_3) ∧
  Int.ofNat 0 ≤ Int.ofNat 0 ∧
  Int.ofNat 0 ≤ IntKind.wrap IntKind.i64 ((↑(Sl.n x_2) : Int) - 1) ∧
  IntKind.wrap IntKind.i64 ((↑(Sl.n x_2) : Int) - 1) ≤ (↑(Sl.c x_2) : Int) ∧
  ((x_3 == (↑(Sl.n d_0) : Int)) = true →
  (I
  (Sl.mk (slP (Sl.p x_2) 0 (Sl.c x_2) 1) (Int.toNat (IntKind.wrap IntKind.i64 ((↑(Sl.n x_2) : Int) - 1)) - 0)
  (Sl.c x_2 - 0),
  u) ∧
  μ
  (Sl.mk (slP (Sl.p x_2) 0 (Sl.c x_2) 1) (Int.toNat (IntKind.wrap IntKind.i64 ((↑(Sl.n x_2) : Int) - 1)) - 0)
  (Sl.c x_2 - 0),
  u) <
  μ (x_2, u)) ∧
  True) ∧
  ((x_3 == (↑(Sl.n d_0) : Int)) = false →
  ∃ (ad : Addr),
  Sl.p d_0 = some ad ∧
  0 ≤ x_3 ∧
  x_3 < (↑(Sl.n d_0) : Int) ∧
  ∃ (x_4 : Int),
  View.cell u (Addr.add (Addr.add ad (Int.toNat x_3 * 2)) 0) = some (Value.int IntKind.i64 x_4) ∧
  CallsV Try.prog 61 #[Value.int IntKind.i64 x_4] u fun (v : Value) (u' : View) =>
  ∃ (x_5 : Int),
  ∃ (x_6 : Int),
  v = Value.tuple #[Value.int IntKind.i64 x_5, Value.int IntKind.i64 x_6] ∧
  ∃ (ad : Addr),
  Sl.p x = some ad ∧
  0 ≤ x_3 ∧
  x_3 < (↑(Sl.n x) : Int) ∧
  ∃ (x_7 : Int),
  View.cell u' (Addr.add ad (Int.toNat x_3 * 1)) = some (Value.int IntKind.i64 x_7) ∧
  ∃ (J : View → Prop),
  ((decide (IntKind.wrap IntKind.i64 (x_7 - x_5) < 0) = false →
  (decide
  (IntKind.wrap IntKind.i64 (IntKind.wrap IntKind.i64 (x_7 - x_5) + x_6) >
  24) =
  true →
  R (Value.tuple #[Value.slice (Sl.p x) (Sl.n x) (Sl.c x), Value.bool false])
  u') ∧
  (decide
  (IntKind.wrap IntKind.i64 (IntKind.wrap IntKind.i64 (x_7 - x_5) + x_6) >
  24) =
  false →
  J u' ∧ True)) ∧
  (decide (IntKind.wrap IntKind.i64 (x_7 - x_5) < 0) = true →
  R (Value.tuple #[Value.slice (Sl.p x) (Sl.n x) (Sl.c x), Value.bool false])
  u')) ∧
  ∀ (junk : Nat → Value) (u_1 : View),
  J u_1 →
  ∀ (b : Nat),
  View.lim u_1 ≤ b →
  ∃ (J : Sl × View → Prop),
  (∃ (ad : Addr),
  Sl.p d_0 = some ad ∧
  0 ≤ x_3 ∧
  x_3 < (↑(Sl.n d_0) : Int) ∧
  ∃ (x : Int),
  View.cell
  (View.set u_1 b
  (Obj.cells
  #[Value.int IntKind.i64
  (IntKind.wrap IntKind.i64 (x_3 + 1))]
  2))
  (Addr.add (Addr.add ad (Int.toNat x_3 * 2)) 0) =
  some (Value.int IntKind.i64 x) ∧
  ((x == 11) = true →
  ∃ (ad : Addr),
  Sl.p d_0 = some ad ∧
  0 ≤ x_3 ∧
  x_3 < (↑(Sl.n d_0) : Int) ∧
  ∃ (x : Int),
  View.cell
  (View.set u_1 b
  (Obj.cells
  #[Value.int IntKind.i64
  (IntKind.wrap IntKind.i64
  (x_3 + 1))]
  2))
  (Addr.add
  (Addr.add ad (Int.toNat x_3 * 2)) 1) =
  some (Value.int IntKind.i64 x) ∧
  ∀ (b_1 : Nat),
  View.lim
  (View.set u_1 b
  (Obj.cells
  #[Value.int IntKind.i64
  (IntKind.wrap IntKind.i64
  (x_3 + 1))]
  2)) ≤
  b_1 →
  J
  (Sl.mk (some (Addr.mk b_1 0 none)) 1
  1,
  View.set
  (View.set u_1 b
  (Obj.cells
  #[Value.int IntKind.i64
  (IntKind.wrap
  IntKind.i64
  (x_3 + 1))]
  2))
  b_1
  (Obj.cells
  #[Value.int IntKind.i64 x]
  2)) ∧
  True) ∧
  ((x == 11) = false →
  ∃ (ad : Addr),
  Sl.p d_0 = some ad ∧
  0 ≤ x_3 ∧
  x_3 < (↑(Sl.n d_0) : Int) ∧
  ∃ (x : Int),
  View.cell
  (View.set u_1 b
  (Obj.cells
  #[Value.int IntKind.i64
  (IntKind.wrap IntKind.i64
  (x_3 + 1))]
  2))
  (Addr.add
  (Addr.add ad (Int.toNat x_3 * 2)) 0) =
  some (Value.int IntKind.i64 x) ∧
  ((x == 12) = true →
  ∃ (ad : Addr),
  Sl.p d_0 = some ad ∧
  0 ≤ x_3 ∧
  x_3 < (↑(Sl.n d_0) : Int) ∧
  ∃ (x : Int),
  View.cell
  (View.set u_1 b
  (Obj.cells
  #[Value.int
  IntKind.i64
  (IntKind.wrap
  IntKind.i64
  (x_3 + 1))]
  2))
  (Addr.add
  (Addr.add ad
  (Int.toNat x_3 * 2))
  1) =
  some
  (Value.int IntKind.i64
  x) ∧
  ∀ (b_1 : Nat),
  View.lim
  (View.set u_1 b
  (Obj.cells
  #[Value.int
  IntKind.i64
  (IntKind.wrap
  IntKind.i64
  (x_3 +
  1))]
  2)) ≤
  b_1 →
  ∃ (new : List Value),
  List.length new = 1 ∧
  (∀ (v : Value),
  v ∈ new →
  Value.oneCell'
  v =
  true) ∧
  CellsO
  (View.set
  (View.set
  u_1 b
  (Obj.cells
  #[Value.int
  IntKind.i64
  (IntKind.wrap
  IntKind.i64
  (x_3 +
  1))]
  2))
  b_1
  (Obj.cells
  #[Value.int
  IntKind.i64
  x]
  2))
  (some
  (Addr.mk b_1
  0 none))
  new ∧
  appPre
  (View.set
  (View.set
  u_1 b
  (Obj.cells
  #[Value.int
  IntKind.i64
  (IntKind.wrap
  IntKind.i64
  (x_3 +
  1))]
  2))
  b_1
  (Obj.cells
  #[Value.int
  IntKind.i64
  x]
  2))
  (some
  (Addr.mk b
  0 none))
  1 1 1 8 1
  new ∧
  ∀ (s' : Sl)
  (u' : View),
  appPost
  (View.set
  (View.set
  u_1
  b
  (Obj.cells
  #[Value.int
  IntKind.i64
  (IntKind.wrap
  IntKind.i64
  (x_3 +
  1))]
  2))
  b_1
  (Obj.cells
  #[Value.int
  IntKind.i64
  x]
  2))
  (some
  (Addr.mk
  b 0
  none))
  1 1 1
  (Value.int
  IntKind.i64
  0)
  2 1 new
  s' u' →
  J
  (Sl.mk
  (Sl.p
  s')
  (Sl.n
  s')
  (Sl.c
  s'),
  u') ∧
  True) ∧
  ((x == 12) = false →
  J
  (Sl.mk (some (Addr.mk b 0 none)) 1
  1,
  View.set u_1 b
  (Obj.cells
  #[Value.int IntKind.i64
  (IntKind.wrap IntKind.i64
  (x_3 + 1))]
  2)) ∧
  True))) ∧
  ∀ (junk : Nat → Value) (x_8 : Sl) (u_2 : View),
  J (x_8, u_2) →
  ∃ (I_1 : Sl × Int × View → Prop),
  ∃ (μ_1 : Sl × Int × View → Nat),
  (I_1
  (Sl.mk (slP (Sl.p x_2) 0 (Sl.c x_2) 1)
  (Int.toNat
  (IntKind.wrap IntKind.i64
  ((↑(Sl.n x_2) : Int) - 1)) -
  0)
  (Sl.c x_2 - 0),
  0, u_2) ∧
  True) ∧
  ∀ (junk : Nat → Value) (x_9 : Sl) (x_10 : Int) (u_3 : View),
  I_1 (x_9, x_10, u_3) →
  (decide (x_10 < (↑(Sl.n x_8) : Int)) = true →
  ∃ (ad : Addr),
  Sl.p x_8 = some ad ∧
  0 ≤ x_10 ∧
  x_10 < (↑(Sl.n x_8) : Int) ∧
  ∃ (x_11 : Int),
  View.cell u_3
  (Addr.add ad (Int.toNat x_10 * 1)) =
  some (Value.int IntKind.i64 x_11) ∧
  ∃ (ad : Addr),
  Sl.p x = some ad ∧
  0 ≤ x_11 ∧
  x_11 < (↑(Sl.n x) : Int) ∧
  ∃ (x_12 : Int),
  View.cell u_3
  (Addr.add ad
  (Int.toNat x_11 * 1)) =
  some
  (Value.int IntKind.i64
  x_12) ∧
  ((x_12 == -1) = true →
  ∃ (ad : Addr),
  Sl.p x_8 = some ad ∧
  0 ≤ x_10 ∧
  x_10 <
  (↑(Sl.n x_8) :
  Int) ∧
  ∃ (x_13 : Int),
  View.cell u_3
  (Addr.add
  ad
  (Int.toNat
  x_10 *
  1)) =
  some
  (Value.int
  IntKind.i64
  x_13) ∧
  ∃ (ad : Addr),
  Sl.p x =
  some
  ad ∧
  0 ≤ x_13 ∧
  x_13 <
  (↑(Sl.n
  x) :
  Int) ∧
  ∃ (c :
  Array
  Value),
  ∃
  (T'
  :
  TypeId),
  ∃
  (fz
  :
  Nat ×
  Nat),
  View.m
  u_3
  (Addr.block
  (Addr.add
  ad
  (Int.toNat
  x_13 *
  1))) =
  some
  (Obj.cells
  c
  T'
  fz) ∧
  fzOK
  fz
  (Array.size
  c) ∧
  Addr.spot
  (Addr.add
  ad
  (Int.toNat
  x_13 *
  1)) =
  none ∧
  Addr.off
  (Addr.add
  ad
  (Int.toNat
  x_13 *
  1)) +
  1 ≤
  Array.size
  c ∧
  ∃
  (ad_1
  :
  Addr),
  Sl.p
  x_8 =
  some
  ad_1 ∧
  0 ≤
  x_10 ∧
  x_10 <
  (↑(Sl.n
  x_8) :
  Int) ∧
  ∃
  (x
  :
  Int),
  View.cell
  (View.set
  u_3
  (Addr.block
  (Addr.add
  ad
  (Int.toNat
  x_13 *
  1)))
  (Obj.cells
  (List.toArray
  (List.set
  (Array.toList
  c)
  (Addr.off
  (Addr.add
  ad
  (Int.toNat
  x_13 *
  1)))
  (Value.int
  IntKind.i64
  (IntKind.wrap
  IntKind.i64
  (IntKind.wrap
  IntKind.i64
  (x_7 -
  x_5) +
  x_6)))))
  T'
  fz))
  (Addr.add
  ad_1
  (Int.toNat
  x_10 *
  1)) =
  some
  (Value.int
  IntKind.i64
  x) ∧
  ∀
  (b :
  Nat),
  View.lim
  (View.set
  u_3
  (Addr.block
  (Addr.add
  ad
  (Int.toNat
  x_13 *
  1)))
  (Obj.cells
  (List.toArray
  (List.set
  (Array.toList
  c)
  (Addr.off
  (Addr.add
  ad
  (Int.toNat
  x_13 *
  1)))
  (Value.int
  IntKind.i64
  (IntKind.wrap
  IntKind.i64
  (IntKind.wrap
  IntKind.i64
  (x_7 -
  x_5) +
  x_6)))))
  T'
  fz)) ≤
  b →
  ∃
  (new
  :
  List
  Value),
  List.length
  new =
  1 ∧
  (∀
  (v :
  Value),
  v ∈
  new →
  Value.oneCell'
  v =
  true) ∧
  CellsO
  (View.set
  (View.set
  u_3
  (Addr.block
  (Addr.add
  ad
  (Int.toNat
  x_13 *
  1)))
  (Obj.cells
  (List.toArray
  (List.set
  (Array.toList
  c)
  (Addr.off
  (Addr.add
  ad
  (Int.toNat
  x_13 *
  1)))
  (Value.int
  IntKind.i64
  (IntKind.wrap
  IntKind.i64
  (IntKind.wrap
  IntKind.i64
  (x_7 -
  x_5) +
  x_6)))))
  T'
  fz))
  b
  (Obj.cells
  #[Value.int
  IntKind.i64
  x]
  2))
  (some
  (Addr.mk
  b
  0
  none))
  new ∧
  appPre
  (View.set
  (View.set
  u_3
  (Addr.block
  (Addr.add
  ad
  (Int.toNat
  x_13 *
  1)))
  (Obj.cells
  (List.toArray
  (List.set
  (Array.toList
  c)
  (Addr.off
  (Addr.add
  ad
  (Int.toNat
  x_13 *
  1)))
  (Value.int
  IntKind.i64
  (IntKind.wrap
  IntKind.i64
  (IntKind.wrap
  IntKind.i64
  (x_7 -
  x_5) +
  x_6)))))
  T'
  fz))
  b
  (Obj.cells
  #[Value.int
  IntKind.i64
  x]
  2))
  (Sl.p
  x_9)
  (Sl.n
  x_9)
  (Sl.c
  x_9)
  1
  8
  1
  new ∧
  ∀
  (s' :
  Sl)
  (u' :
  View),
  appPost
  (View.set
  (View.set
  u_3
  (Addr.block
  (Addr.add
  ad
  (Int.toNat
  x_13 *
  1)))
  (Obj.cells
  (List.toArray
  (List.set
  (Array.toList
  c)
  (Addr.off
  (Addr.add
  ad
  (Int.toNat
  x_13 *
  1)))
  (Value.int
  IntKind.i64
  (IntKind.wrap
  IntKind.i64
  (IntKind.wrap
  IntKind.i64
  (x_7 -
  x_5) +
  x_6)))))
  T'
  fz))
  b
  (Obj.cells
  #[Value.int
  IntKind.i64
  x]
  2))
  (Sl.p
  x_9)
  (Sl.n
  x_9)
  (Sl.c
  x_9)
  1
  (Value.int
  IntKind.i64
  0)
  2
  1
  new
  s'
  u' →
  (I_1
  (Sl.mk
  (Sl.p
  s')
  (Sl.n
  s')
  (Sl.c
  s'),
  IntKind.wrap
  IntKind.i64
  (x_10 +
  1),
  u') ∧
  μ_1
  (Sl.mk
  (Sl.p
  s')
  (Sl.n
  s')
  (Sl.c
  s'),
  IntKind.wrap
  IntKind.i64
  (x_10 +
  1),
  u') <
  μ_1
  (x_9,
  x_10,
  u_3)) ∧
  True) ∧
  ((x_12 == -1) = false →
  ∃ (ad : Addr),
  Sl.p x_8 = some ad ∧
  0 ≤ x_10 ∧
  x_10 <
  (↑(Sl.n x_8) :
  Int) ∧
  ∃ (x_13 : Int),
  View.cell u_3
  (Addr.add
  ad
  (Int.toNat
  x_10 *
  1)) =
  some
  (Value.int
  IntKind.i64
  x_13) ∧
  ∃ (ad : Addr),
  Sl.p x =
  some
  ad ∧
  0 ≤ x_13 ∧
  x_13 <
  (↑(Sl.n
  x) :
  Int) ∧
  ∃
  (x_14
  :
  Int),
  View.cell
  u_3
  (Addr.add
  ad
  (Int.toNat
  x_13 *
  1)) =
  some
  (Value.int
  IntKind.i64
  x_14) ∧
  ((x_14 !=
  IntKind.wrap
  IntKind.i64
  (IntKind.wrap
  IntKind.i64
  (x_7 -
  x_5) +
  x_6)) =
  true →
  R
  (Value.tuple
  #[Value.slice
  (Sl.p
  x)
  (Sl.n
  x)
  (Sl.c
  x),
  Value.bool
  false])
  u_3) ∧
  ((x_14 !=
  IntKind.wrap
  IntKind.i64
  (IntKind.wrap
  IntKind.i64
  (x_7 -
  x_5) +
  x_6)) =
  false →
  (I_1
  (Sl.mk
  (Sl.p
  x_9)
  (Sl.n
  x_9)
  (Sl.c
  x_9),
  IntKind.wrap
  IntKind.i64
  (x_10 +
  1),
  u_3) ∧
  μ_1
  (Sl.mk
  (Sl.p
  x_9)
  (Sl.n
  x_9)
  (Sl.c
  x_9),
  IntKind.wrap
  IntKind.i64
  (x_10 +
  1),
  u_3) <
  μ_1
  (x_9,
  x_10,
  u_3)) ∧
  True))) ∧
  (decide (x_10 < (↑(Sl.n x_8) : Int)) = false →
  (I (Sl.mk (Sl.p x_9) (Sl.n x_9) (Sl.c x_9), u_3) ∧
  μ (Sl.mk (Sl.p x_9) (Sl.n x_9) (Sl.c x_9), u_3) <
  μ (x_2, u)) ∧
  True))) ∧
  (decide ((↑(Sl.n x_2) : Int) > 0) = false →
  ∃ (ad : Addr),
  Sl.p x = some ad ∧
  0 ≤ (↑(Sl.n d_0) : Int) ∧
  (↑(Sl.n d_0) : Int) < (↑(Sl.n x) : Int) ∧
  ∃ (x_3 : Int),
  View.cell u (Addr.add ad (Int.toNat (↑(Sl.n d_0) : Int) * 1)) = some (Value.int IntKind.i64 x_3) ∧
  R (Value.tuple #[Value.slice (Sl.p x) (Sl.n x) (Sl.c x), Value.bool (decide (x_3 ≤ 0))]) u))

theorem vc_l13Depths (d_0 : Sl) (u : View) (R : Value → View → Prop) : VCfun Try.prog 149 pf (Option.getD Try.f29.body .skip) Try.f29.results.toList (.seq .no (.seq .no (.seq .no (.seq (.seq .no (.block (.loop [(5, .one .sl), (6, .one (.int .i64))] [(5, 7), (17, 25)] [] .no))) (.seq .no (.seq .no (.seq (.block (.loop [(7, .one .sl)] [(2, 4), (7, 14), (28, 139)] [] (.seq .no (.block (.seq .no (.seq .no (.seq .no (.seq .no (.seq .no (.cut [] [(2, 4), (60, 69)] [] .no (.seq .no (.seq .no (.cut [(12, .one .sl)] [(12, 13), (75, 101)] [] .no (.seq .no (.block (.loop [(7, .one .sl), (13, .one (.int .i64))] [(2, 4), (7, 8), (13, 14), (101, 139)] [] .no)))))))))))))))) .no))))))) [] [.v (.slice d_0.p d_0.n d_0.c)] [] u R = W_l13Depths d_0 u R := by kernel_rfl

theorem c_l13Depths (d_0 : Sl) (u : View) (R : Value → View → Prop) (hp : preOK u []) (h : W_l13Depths d_0 u R) :
    CallsV Try.prog F_l13Depths #[(.slice d_0.p d_0.n d_0.c)] u R :=
  fcall (L0 := []) (xs := [.v (.slice d_0.p d_0.n d_0.c)]) (fn := Try.f29) (by kernel_rfl) (by kernel_rfl) (by kernel_rfl) (by kernel_rfl) hp (Eq.mpr (vc_l13Depths d_0 u R) h)

/- spec.CodeRight: loop: i ; own [] -/
abbrev F_sCodeRight : FuncId := 10
def W_sCodeRight (ops : Sl) (u : View) (R : Value → View → Prop) : Prop :=
  (decide ((↑(Sl.n ops) : Int) > 1500) = true → R (Value.bool false) u) ∧
  (decide ((↑(Sl.n ops) : Int) > 1500) = false →
  ∃ (I : Int × View → Prop),
  ∃ (μ : Int × View → Nat),
  (I (0, u) ∧ True) ∧
  ∀ (junk : Nat → Value) (x : Int) (u : View),
  I (x, u) →
  (decide (x < (↑(Sl.n ops) : Int)) = true →
  ∃ (ad : Addr),
  Sl.p ops = some ad ∧
  0 ≤ x ∧
  x < (↑(Sl.n ops) : Int) ∧
  ∃ (x_1 : Int),
  ∃ (x_2 : Int),
  (View.cell u (Addr.add (Addr.add ad (Int.toNat x * 2)) 0) = some (Value.int IntKind.i64 x_1) ∧
  View.cell u (Addr.add (Addr.add ad (Int.toNat x * 2)) 1) = some (Value.int IntKind.i64 x_2) ∧ True) ∧
  CallsV Try.prog 28 #[Value.agg #[Value.int IntKind.i64 x_1, Value.int IntKind.i64 x_2], Value.int IntKind.i64 (↑(Sl.n ops) : Int)] u fun (v : Value) (u' : View) =>
  ∃ (x_3 : Bool),
  v = Value.bool x_3 ∧
  ((!x_3) = true → R (Value.bool false) u') ∧
  ((!x_3) = false → (I (IntKind.wrap IntKind.i64 (x + 1), u') ∧ μ (IntKind.wrap IntKind.i64 (x + 1), u') < μ (x, u)) ∧ True)) ∧
  (decide (x < (↑(Sl.n ops) : Int)) = false →
  CallsV Try.prog 29 #[Value.slice (Sl.p ops) (Sl.n ops) (Sl.c ops)] u fun (v : Value) (u' : View) =>
  ∃ (x : Sl), ∃ (x_1 : Bool), v = Value.tuple #[Value.slice (Sl.p x) (Sl.n x) (Sl.c x), Value.bool x_1] ∧ R (Value.bool x_1) u'))

theorem vc_sCodeRight (ops : Sl) (u : View) (R : Value → View → Prop) : VCfun Try.prog 149 pf (Option.getD Try.f10.body .skip) Try.f10.results.toList (.seq .no (.seq .no (.seq (.seq .no (.block (.loop [(3, .one (.int .i64))] [(2, 4), (9, 23)] [] .no))) .no))) [] [.v (.slice ops.p ops.n ops.c)] [] u R = W_sCodeRight ops u R := by kernel_rfl

theorem c_sCodeRight (ops : Sl) (u : View) (R : Value → View → Prop) (hp : preOK u []) (h : W_sCodeRight ops u R) :
    CallsV Try.prog F_sCodeRight #[(.slice ops.p ops.n ops.c)] u R :=
  fcall (L0 := []) (xs := [.v (.slice ops.p ops.n ops.c)]) (fn := Try.f10) (by kernel_rfl) (by kernel_rfl) (by kernel_rfl) (by kernel_rfl) hp (Eq.mpr (vc_sCodeRight ops u R) h)

/- impl.CodeDepths:  -/
abbrev F_codeDepths : FuncId := 11
def W_codeDepths (ops : Sl) (u : View) (R : Value → View → Prop) : Prop :=
  CallsV Try.prog 27 #[Value.slice (Sl.p ops) (Sl.n ops) (Sl.c ops)] u fun (v : Value) (u' : View) =>
  ∃ (x : Sl),
  ∃ (x_1 : Bool),
  v = Value.tuple #[Value.slice (Sl.p x) (Sl.n x) (Sl.c x), Value.bool x_1] ∧
  ((!x_1) = true → R (Value.slice none 0 0) u') ∧
  ((!x_1) = false →
  Int.ofNat 0 ≤ Int.ofNat 0 ∧
  Int.ofNat 0 ≤ (↑(Sl.n ops) : Int) ∧ (↑(Sl.n ops) : Int) ≤ (↑(Sl.c x) : Int) ∧ R (Value.slice (slP (Sl.p x) 0 (Sl.c x) 1) (Int.toNat (↑(Sl.n ops) : Int) - 0) (Sl.c x - 0)) u')

theorem vc_codeDepths (ops : Sl) (u : View) (R : Value → View → Prop) : VCfun Try.prog 149 pf (Option.getD Try.f11.body .skip) Try.f11.results.toList .no [] [.v (.slice ops.p ops.n ops.c)] [] u R = W_codeDepths ops u R := by kernel_rfl

theorem c_codeDepths (ops : Sl) (u : View) (R : Value → View → Prop) (hp : preOK u []) (h : W_codeDepths ops u R) :
    CallsV Try.prog F_codeDepths #[(.slice ops.p ops.n ops.c)] u R :=
  fcall (L0 := []) (xs := [.v (.slice ops.p ops.n ops.c)]) (fn := Try.f11) (by kernel_rfl) (by kernel_rfl) (by kernel_rfl) (by kernel_rfl) hp (Eq.mpr (vc_codeDepths ops u R) h)

/- impl.OpsUsed: loop: many t9 ; own [] -/
abbrev F_opsUsed : FuncId := 12
def W_opsUsed (ops : Sl) (u : View) (R : Value → View → Prop) : Prop :=
  CallsV Try.prog 11 #[Value.slice (Sl.p ops) (Sl.n ops) (Sl.c ops)] u fun (v : Value) (u' : View) =>
  ∃ (x : Sl),
  v = Value.slice (Sl.p x) (Sl.n x) (Sl.c x) ∧
  ∃ (I : Int × Int × View → Prop),
  ∃ (μ : Int × Int × View → Nat),
  (I (0, 0, u') ∧ True) ∧
  ∀ (junk : Nat → Value) (x_1 x_2 : Int) (u : View),
  I (x_1, x_2, u) →
  (decide (x_2 < (↑(Sl.n x) : Int)) = true →
  ∃ (ad : Addr),
  Sl.p x = some ad ∧
  0 ≤ x_2 ∧
  x_2 < (↑(Sl.n x) : Int) ∧
  ∃ (x : Int),
  View.cell u (Addr.add ad (Int.toNat x_2 * 1)) = some (Value.int IntKind.i64 x) ∧
  (decide (x ≥ 0) = true →
  (I (IntKind.wrap IntKind.i64 (x_1 + 1), IntKind.wrap IntKind.i64 (x_2 + 1), u) ∧
  μ (IntKind.wrap IntKind.i64 (x_1 + 1), IntKind.wrap IntKind.i64 (x_2 + 1), u) < μ (x_1, x_2, u)) ∧
  True) ∧
  (decide (x ≥ 0) = false → (I (x_1, IntKind.wrap IntKind.i64 (x_2 + 1), u) ∧ μ (x_1, IntKind.wrap IntKind.i64 (x_2 + 1), u) < μ (x_1, x_2, u)) ∧ True)) ∧
  (decide (x_2 < (↑(Sl.n x) : Int)) = false → R (Value.int IntKind.i64 x_1) u)

theorem vc_opsUsed (ops : Sl) (u : View) (R : Value → View → Prop) : VCfun Try.prog 149 pf (Option.getD Try.f12.body .skip) Try.f12.results.toList (.seq .no (.seq .no (.seq (.seq .no (.block (.loop [(3, .one (.int .i64)), (9, .one (.int .i64))] [(3, 4), (5, 6), (9, 18)] [] .no))) .no))) [] [.v (.slice ops.p ops.n ops.c)] [] u R = W_opsUsed ops u R := by kernel_rfl

theorem c_opsUsed (ops : Sl) (u : View) (R : Value → View → Prop) (hp : preOK u []) (h : W_opsUsed ops u R) :
    CallsV Try.prog F_opsUsed #[(.slice ops.p ops.n ops.c)] u R :=
  fcall (L0 := []) (xs := [.v (.slice ops.p ops.n ops.c)]) (fn := Try.f12) (by kernel_rfl) (by kernel_rfl) (by kernel_rfl) (by kernel_rfl) hp (Eq.mpr (vc_opsUsed ops u R) h)

/- laws.FnCode: cut:  ; own [] | loop: t6 t7 ; own [] | loop: t8 ; own [] -/
abbrev F_fnCode : FuncId := 3
def W_fnCode (d_0 : Sl) (u : View) (R : Value → View → Prop) : Prop :=
  (decide ((↑(Sl.n d_0) : Int) > 1048576) = true → R (Value.bool true) u) ∧
  (decide ((↑(Sl.n d_0) : Int) > 1048576) = false →
  CallsV Try.prog 5 #[Value.slice (Sl.p d_0) (Sl.n d_0) (Sl.c d_0)] u fun (v : Value) (u' : View) =>
  ∃ (x : Sl),
  v = Value.slice (Sl.p x) (Sl.n x) (Sl.c x) ∧
  CallsV Try.prog 7 #[Value.slice (Sl.p x) (Sl.n x) (Sl.c x)] u' fun (v : Value) (u' : View) =>
  ∃ (x_1 : Sl),
  v = Value.slice (Sl.p x_1) (Sl.n x_1) (Sl.c x_1) ∧
  CallsV Try.prog 6 #[Value.slice (Sl.p x_1) (Sl.n x_1) (Sl.c x_1)] u' fun (v : Value) (u' : View) =>
  ∃ (x_2 : Sl),
  v = Value.slice (Sl.p x_2) (Sl.n x_2) (Sl.c x_2) ∧
  CallsV Try.prog 8 #[Value.slice (Sl.p x) (Sl.n x) (Sl.c x)] u' fun (v : Value) (u' : View) =>
  ∃ (x_3 : Bool),
  v = Value.bool x_3 ∧
  ((!x_3) = true → R (Value.bool ((↑(Sl.n x_2) : Int) == 0)) u') ∧
  ((!x_3) = false →
  ∃ (J : View → Prop),
  ((decide ((↑(Sl.n x_2) : Int) < (↑(Sl.n x) : Int)) = false →
  (decide ((↑(Sl.n x_2) : Int) > 1500) = false →
  CallsV Try.prog 9 #[Value.slice (Sl.p x_2) (Sl.n x_2) (Sl.c x_2)] u' fun (v : Value) (u' : View) =>
  ∃ (x : Bool),
  v = Value.bool x ∧
  ((!x) = false →
  CallsV Try.prog 10 #[Value.slice (Sl.p x_2) (Sl.n x_2) (Sl.c x_2)] u' fun (v : Value) (u' : View) =>
  ∃ (x : Bool), v = Value.bool x ∧ ((!x) = true → R (Value.bool false) u') ∧ ((!x) = false → J u' ∧ True)) ∧
  ((!x) = true → R (Value.bool false) u')) ∧
  (decide ((↑(Sl.n x_2) : Int) > 1500) = true → R (Value.bool false) u')) ∧
  (decide ((↑(Sl.n x_2) : Int) < (↑(Sl.n x) : Int)) = true → R (Value.bool false) u')) ∧
  ∀ (junk : Nat → Value) (u : View),
  J u →
  CallsV Try.prog 11 #[Value.slice (Sl.p x_2) (Sl.n x_2) (Sl.c x_2)] u fun (v : Value) (u' : View) =>
  ∃ (x_4 : Sl),
  v = Value.slice (Sl.p x_4) (Sl.n x_4) (Sl.c x_4) ∧
  ∃ (I : Int × Int × View → Prop),
  ∃ (μ : Int × Int × View → Nat),
  (I (0, 0, u') ∧ True) ∧
  ∀ (junk : Nat → Value) (x_5 x_6 : Int) (u : View),
  I (x_5, x_6, u) →
  (decide (x_6 < (↑(Sl.n x_2) : Int)) = true →
  ∃ (ad : Addr),
  Sl.p x_2 = some ad ∧
  0 ≤ x_6 ∧
  x_6 < (↑(Sl.n x_2) : Int) ∧
  ∃ (x : Int),
  View.cell u (Addr.add (Addr.add ad (Int.toNat x_6 * 2)) 0) = some (Value.int IntKind.i64 x) ∧
  ((x == 1) = true →
  (I (IntKind.wrap IntKind.i64 (x_5 + 1), IntKind.wrap IntKind.i64 (x_6 + 1), u) ∧
  μ (IntKind.wrap IntKind.i64 (x_5 + 1), IntKind.wrap IntKind.i64 (x_6 + 1), u) < μ (x_5, x_6, u)) ∧
  True) ∧
  ((x == 1) = false →
  (I (x_5, IntKind.wrap IntKind.i64 (x_6 + 1), u) ∧ μ (x_5, IntKind.wrap IntKind.i64 (x_6 + 1), u) < μ (x_5, x_6, u)) ∧
  True)) ∧
  (decide (x_6 < (↑(Sl.n x_2) : Int)) = false →
  (((↑(Sl.n x_4) : Int) != (↑(Sl.n x_2) : Int)) = true → R (Value.bool false) u) ∧
  (((↑(Sl.n x_4) : Int) != (↑(Sl.n x_2) : Int)) = false →
  ∃ (I : Int × View → Prop),
  ∃ (μ : Int × View → Nat),
  (I (0, u) ∧ True) ∧
  ∀ (junk : Nat → Value) (x_7 : Int) (u : View),
  I (x_7, u) →
  (decide (x_7 < (↑(Sl.n x_4) : Int)) = true →
  ∃ (ad : Addr),
  Sl.p x_4 = some ad ∧
  0 ≤ x_7 ∧
  x_7 < (↑(Sl.n x_4) : Int) ∧
  ∃ (x : Int),
  View.cell u (Addr.add ad (Int.toNat x_7 * 1)) = some (Value.int IntKind.i64 x) ∧
  (decide (x < 0) = false →
  ∃ (ad : Addr),
  Sl.p x_4 = some ad ∧
  0 ≤ x_7 ∧
  x_7 < (↑(Sl.n x_4) : Int) ∧
  ∃ (x : Int),
  View.cell u (Addr.add ad (Int.toNat x_7 * 1)) = some (Value.int IntKind.i64 x) ∧
  (decide (x > 20) = true → R (Value.bool false) u) ∧
  (decide (x > 20) = false →
  (I (IntKind.wrap IntKind.i64 (x_7 + 1), u) ∧
  μ (IntKind.wrap IntKind.i64 (x_7 + 1), u) < μ (x_7, u)) ∧
  True)) ∧
  (decide (x < 0) = true → R (Value.bool false) u)) ∧
  (decide (x_7 < (↑(Sl.n x_4) : Int)) = false →
  ((x_5 == (↑(Sl.n x) : Int)) = true →
  ∃ (ad : Addr),
  Sl.p x_2 = some ad ∧
  Int.ofNat 0 ≤ Int.ofNat 0 ∧
  0 < (↑(Sl.n x_2) : Int) ∧
  ∃ (x : Int),
  View.cell u (Addr.add (Addr.add ad 0) 0) = some (Value.int IntKind.i64 x) ∧
  ((x == 1) = true →
  ∃ (ad : Addr),
  Sl.p x_4 = some ad ∧
  Int.ofNat 0 ≤ Int.ofNat 0 ∧
  0 < (↑(Sl.n x_4) : Int) ∧
  ∃ (x : Int),
  View.cell u (Addr.add ad 0) = some (Value.int IntKind.i64 x) ∧
  ((x == 0) = true →
  CallsV Try.prog 12 #[Value.slice (Sl.p x_2) (Sl.n x_2) (Sl.c x_2)] u
  fun (v : Value) (u' : View) =>
  ∃ (x : Int),
  v = Value.int IntKind.i64 x ∧ R (Value.bool (x == (↑(Sl.n x_2) : Int))) u') ∧
  ((x == 0) = false → R (Value.bool false) u)) ∧
  ((x == 1) = false → R (Value.bool false) u)) ∧
  ((x_5 == (↑(Sl.n x) : Int)) = false → R (Value.bool false) u))))))

theorem vc_fnCode (d_0 : Sl) (u : View) (R : Value → View → Prop) : VCfun Try.prog 149 pf (Option.getD Try.f3.body .skip) Try.f3.results.toList (.seq .no (.seq .no (.seq .no (.seq .no (.seq .no (.cut [] [(2, 3), (23, 43)] [] .no (.seq .no (.seq .no (.seq (.seq .no (.block (.loop [(6, .one (.int .i64)), (7, .one (.int .i64))] [(6, 8), (45, 59)] [] .no))) (.seq .no (.seq (.seq .no (.block (.loop [(8, .one (.int .i64))] [(2, 3), (8, 9), (64, 82)] [] .no))) .no))))))))))) [] [.v (.slice d_0.p d_0.n d_0.c)] [] u R = W_fnCode d_0 u R := by kernel_rfl

theorem c_fnCode (d_0 : Sl) (u : View) (R : Value → View → Prop) (hp : preOK u []) (h : W_fnCode d_0 u R) :
    CallsV Try.prog F_fnCode #[(.slice d_0.p d_0.n d_0.c)] u R :=
  fcall (L0 := []) (xs := [.v (.slice d_0.p d_0.n d_0.c)]) (fn := Try.f3) (by kernel_rfl) (by kernel_rfl) (by kernel_rfl) (by kernel_rfl) hp (Eq.mpr (vc_fnCode d_0 u R) h)

end Go.Proofs.Ytkjddlgaldnbnaa
