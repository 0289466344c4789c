import Derived.Test.YtkjddlgaldnbnaaCD

/-
  CONTRACTS: the draws: the source; numbers; slices of nodes at work.
-/
section
set_option linter.unusedVariables false
set_option linter.unusedSimpArgs false
namespace Go.Proofs.Ytkjddlgaldnbnaa

def encB (n : Int) : List Value := [.int .u8 n]
theorem encB_sz (x : Int) : (encB x).length = 1 := rfl

/-- the source of draws -/
def Src (u0 u : View) (p : Nat) : Prop := Keep u0 u ∧ u0.m p = none ∧ ∃ (sb : Sl) (code : List Int) (a m z : Int), u.m p = some (.cells #[.slice sb.p sb.n sb.c, .int .i64 a, .int .u64 m, .int .i64 z] 76 (0, 0)) ∧
  Arr encB 1 u0 sb code ∧ 0 ≤ a ∧ a ≤ sb.n ∧ 0 ≤ z ∧ z ≤ 12

theorem Src.keep {u0 u w : View} {p : Nat} (h : Src u0 u p) (g : Keep u w) : Src u0 w p := by
  obtain ⟨h1, h2, sb, code, a, m, z, h3, h4⟩ := h
  exact ⟨h1.trans g, h2, sb, code, a, m, z, g.2 _ _ h3, h4⟩

theorem Src.lt {u0 u : View} {p : Nat} (h : Src u0 u p) : p < u.lim := by
  obtain ⟨h1, h2, sb, code, a, m, z, h3, h4⟩ := h
  exact u.lt _ _ h3

theorem Src.chg {u0 u w : View} {p : Nat} {b : Int} (h : Src u0 u p) (g : Chg [b] u w) (hb : b ≠ p) (ho : Out u0 b) : Src u0 w p := by
  obtain ⟨h1, h2, sb, code, a, m, z, h3, h4⟩ := h
  exact ⟨h1.chg1 g (by simpa using ho), h2, sb, code, a, m, z, g.m h3 (by simp; omega), h4⟩

theorem Keep.del {u0 u : View} {p : Nat} (h : Keep u0 u) (hp : u0.m p = none) : Keep u0 (u.del p) :=
  ⟨h.1, fun b o hm => by
    have hne : b ≠ p := fun e => by subst e; rw [hp] at hm; cases hm
    rw [View.del_ne _ hne]; exact h.2 _ _ hm⟩

theorem Chg.delset (u : View) (p : Nat) (o : Obj) : Chg [(p : Int)] u ((u.del p).set p o) :=
  ⟨by simp only [View.set, View.del]; omega, fun b o' hb hm => by
    have hne : b ≠ p := fun e => by subst e; simp at hb
    rw [View.set_ne _ _ hne, View.del_ne _ hne]; exact hm⟩

theorem wrapU_nonneg (z : Int) : 0 ≤ IntKind.wrap .u64 z := by
  simp [IntKind.wrap, IntKind.signed, IntKind.bits]; omega

theorem k_n {u0 u : View} {p : Nat} (h : Src u0 u p) {most : Int} (hm : most ≤ 4611686018427387904) : CallsV Try.prog F_n #[.pointer (some ⟨p, 0, none⟩), .int .i64 most] u fun v u' =>
    ∃ x : Int, v = .int .i64 x ∧ 0 ≤ x ∧ (1 ≤ most → x < most) ∧ Src u0 u' p ∧ Chg [(p : Int)] u u' := by
  obtain ⟨hk, hp, sb, code, a, m, z, hc, hb, a0, a1, z0, z1⟩ := h
  have hbd := hb.bd
  have hd : Keep u0 (u.del p) := hk.del hp
  have new : ∀ {a' m' : Int}, 0 ≤ a' → a' ≤ sb.n → Src u0 ((u.del p).set p (.cells #[.slice sb.p sb.n sb.c, .int .i64 a', .int .u64 m', .int .i64 z] 76 (0, 0))) p := fun g0 g1 =>
    ⟨hd.setN hp, hp, sb, code, _, _, z, View.set_self _ _ _, hb, g0, g1, z0, z1⟩
  refine c_n p sb a m z most u _ ⟨hc, by simp, trivial⟩ ⟨fun h1 => ?_, fun h1 => ?_⟩
  · have h1 := of_decide_eq_true h1
    exact ⟨0, rfl, by omega, fun _ => by omega, new a0 a1, Chg.delset _ _ _⟩
  · have h1 := of_decide_eq_false h1
    have hmost : IntKind.wrap .u64 most = most := wrapU64 (by omega) (by omega)
    refine ⟨fun (x, x1, x2, x3, x4, v) => x1 = sb ∧ 0 ≤ x2 ∧ x2 ≤ sb.n ∧ x4 = z ∧ v = u.del p, ⟨fun h2 => ?_, fun h2 => ⟨⟨rfl, a0, a1, rfl, rfl⟩, rfl, trivial⟩⟩, ?_⟩
    · have h2 := of_decide_eq_true h2
      obtain ⟨ad, y, e, hy, hcell⟩ := (hb.keep hd).one (c := fun n => .int .u8 n) (fun _ => rfl) a0 h2
      refine ⟨ad, e, a0, h2, y, hcell, ⟨rfl, ?_, ?_, rfl, rfl⟩, rfl, trivial⟩
      · rw [wrap64 (by omega) (by omega)]; omega
      · rw [wrap64 (by omega) (by omega)]; omega
    rintro _ x x1 x2 x3 x4 v ⟨rfl, g0, g1, rfl, rfl⟩
    rw [hmost]
    refine ⟨by decide, by decide, by decide, by decide, by omega, _, rfl, ?_, fun _ => ?_, new g0 g1, Chg.delset _ _ _⟩
    all_goals
      generalize hq : IntKind.wrap .u64 (x + _) = q
      have hq0 : 0 ≤ q := by rw [← hq]; exact wrapU_nonneg _
      have t0 : 0 ≤ Int.tmod q most := Int.tmod_nonneg _ hq0
      have t1 : Int.tmod q most < most := Int.tmod_lt_of_pos _ (by omega)
      rw [wrap64 (by omega) (by omega)]
      omega

theorem k_one {u0 u : View} {p : Nat} (h : Src u0 u p) {of : Int} (hm : of ≤ 4611686018427387904) : CallsV Try.prog F_one #[.pointer (some ⟨p, 0, none⟩), .int .i64 of] u fun v u' =>
    ∃ x : Bool, v = .bool x ∧ Src u0 u' p ∧ Chg [(p : Int)] u u' := by
  refine c_one2 ⟨p, 0, none⟩ of u _ trivial ((k_n h hm).mono ?_)
  rintro _ u1 ⟨x, rfl, _, _, hs, hc⟩
  exact ⟨x, rfl, _, rfl, hs, hc⟩

theorem k_pick {u0 u : View} {p : Nat} (h : Src u0 u p) {s : Sl} {b : Int} {L : List ByteArray} (ho : OwnB encS 1 u b s L) (hb : b ≠ p) (hL : 1 ≤ L.length ∧ L.length ≤ 1000) (hsm : ∀ t ∈ L, t.size ≤ 100) :
    CallsV Try.prog F_pick #[.pointer (some ⟨p, 0, none⟩), .slice s.p s.n s.c] u fun v u' => ∃ x : ByteArray, v = .string x ∧ x.size ≤ 100 ∧ Src u0 u' p ∧ Chg [(p : Int)] u u' := by
  have hn := ho.n
  refine c_pick2 ⟨p, 0, none⟩ s u _ trivial ((k_n h (most := s.n) (by omega)).mono ?_)
  rintro _ u1 ⟨x, rfl, x0, x1, hs, hc⟩
  have x1 := x1 (by omega)
  obtain ⟨ad, t, e, ht, hcell⟩ := ((ho.chg hc (by simp; exact hb)).arr (by omega)).one (c := fun t => .string t) (fun _ => rfl) x0 x1
  exact ⟨x, rfl, ad, e, x0, x1, t, hcell, t, rfl, hsm t (List.mem_of_getElem? ht), hs, hc⟩

/-- a number out of a literal list is drawn -/
theorem Src.draw {u0 u : View} {p : Nat} (h : Src u0 u p) {b : Nat} (hb : u.lim ≤ b) (L : List Int) {cs : Array Value} {T : TypeId} (hcs : cs = (L.flatMap encI).toArray) {N M : Int} (hN : N = L.length) (hM : M = L.length) (hpos : 1 ≤ L.length ∧ L.length ≤ 1000) {K : Int → View → Prop} (hK : ∀ x u', Src u0 u' p → Chg [(p : Int)] u u' → K x u') :
    CallsV Try.prog F_n #[.pointer (some ⟨p, 0, none⟩), .int .i64 N] (u.set b (.cells cs T (0, 0))) fun v u' => ∃ x : Int, v = .int .i64 x ∧ ∃ ad : Addr, some (Addr.mk b 0 none) = some ad ∧ 0 ≤ x ∧ x < M ∧ ∃ x1 : Int, u'.cell (ad.add (x.toNat * 1)) = some (.int .i64 x1) ∧ K x1 u' := by
  have hk : Keep u (u.set b (.cells cs T (0, 0))) := Keep.set hb
  have hlt := h.lt
  have ho : OwnB encI 1 (u.set b (.cells cs T (0, 0))) b ⟨some ⟨b, 0, none⟩, L.length, L.length⟩ L := OwnB.made hcs encI_sz rfl
  refine (k_n (h.keep hk) (by omega)).mono ?_
  rintro _ u1 ⟨x, rfl, x0, x1, hs, hc⟩
  have x1 := x1 (by omega)
  obtain ⟨ad, t, e, ht, hcell⟩ := ((ho.chg hc (by simp; omega)).arr (by omega)).one (c := fun n => .int .i64 n) (fun _ => rfl) x0 (by show x < (L.length : Int); omega)
  exact ⟨x, rfl, ad, e, x0, by omega, t, hcell, hK t u1 hs ((hk.chg []).trans hc (by simp) (by simp))⟩

/-- a slice of nodes at work beside the source -/
structure Acc (u0 u w : View) (p : Nat) (s : Sl) (b : Int) (l : List Nd) : Prop where
  own : OwnB encN 4 w b s l
  fr : (u.lim : Int) ≤ b
  src : Src u0 w p
  chg : Chg [(p : Int)] u w
  nm : ∀ n ∈ l, n.name.size ≤ 100
  pl : p < u.lim

theorem encN_one (x : Nd) : ((encN x).all Value.oneCell') = true := rfl

section
variable {u0 u w w' : View} {p : Nat} {s x : Sl} {b b1 : Int} {l l1 : List Nd}

theorem Acc.ne (h : Acc u0 u w p s b l) : b ≠ p := by have := h.pl; have := h.fr; omega

theorem Acc.out (h : Acc u0 u w p s b l) (hu : u0.lim ≤ u.lim) : Out u0 b := Out.lim (by have := h.fr; omega)

theorem Acc.frame (h : Acc u0 u w p s b l) (g : Chg [(p : Int)] w w') (hs : Src u0 w' p) : Acc u0 u w' p s b l :=
  ⟨h.own.chg g (by simp; exact h.ne), h.fr, hs, h.chg.trans g (by simp) (by simp), h.nm, h.pl⟩

theorem Acc.made (hs : Src u0 w p) (hc : Chg [(p : Int)] u w) (hp : p < u.lim) {c : Nat} (hcl : w.lim ≤ c) {cs : Array Value} {n : Nat} (l : List Nd) (hcs : cs = (l.flatMap encN).toArray) (hn : n = l.length) (hnm : ∀ n ∈ l, n.name.size ≤ 100) {T : TypeId} :
    Acc u0 u (w.set c (.cells cs T (0, 0))) p ⟨some ⟨c, 0, none⟩, n, n⟩ c l :=
  ⟨OwnB.made hcs encN_sz hn, by have := hc.1; omega, hs.keep (Keep.set hcl), hc.trans ((Keep.set hcl).chg []) (by simp) (by simp), hnm, hp⟩

theorem Acc.upd (h : Acc u0 u w p s b l) (hu : u0.lim ≤ u.lim) (g : Chg [b] w w') {s' : Sl} {b' : Int} {l' : List Nd} (ho : OwnB encN 4 w' b' s' l') (hb' : b' = b ∨ (w.lim : Int) ≤ b') (hnm : ∀ n ∈ l', n.name.size ≤ 100) : Acc u0 u w' p s' b' l' := by
  have hf := h.fr
  have hl := h.chg.1
  refine ⟨ho, by rcases hb' with rfl | hb' <;> omega, h.src.chg g h.ne (h.out hu), h.chg.trans g (by simp) (by simp; omega), hnm, h.pl⟩

/-- what a call has told is put behind -/
theorem Acc.cat (h : Acc u0 u w p s b l) (h1 : Acc u0 w w' p x b1 l1) (hu : u0.lim ≤ u.lim) (hl : l.length + l1.length ≤ 1000000) {z : Value} (hz : z.cells.size = 4) {e : TypeId} {K : Sl → View → Prop} (hK : ∀ (b' : Int) (s' : Sl) (w'' : View), Acc u0 u w'' p s' b' (l ++ l1) → K s' w'') :
    ∃ new : List Value, new.length = x.n * 4 ∧ (∀ v : Value, v ∈ new → v.oneCell' = true) ∧ CellsO w' x.p new ∧ appPre w' s.p s.n s.c 4 40 x.n new ∧ ∀ (s' : Sl) (w'' : View), appPost w' s.p s.n s.c 4 z e x.n new s' w'' → K s' w'' := by
  have h2 := h.frame h1.chg h1.src
  refine h2.own.concat encN_sz encN_one (h1.own.arr (by omega)) hz (by omega) (by omega) fun b' s' w'' ho hch hb' => hK b' s' w'' (h2.upd hu hch ho hb' fun n hn => ?_)
  rcases List.mem_append.1 hn with hn | hn
  · exact h.nm n hn
  · exact h1.nm n hn

/-- a node that is written out is put behind -/
theorem Acc.push (h : Acc u0 u w p s b l) (hu : u0.lim ≤ u.lim) (hl : l.length ≤ 1000000) (n : Nd) (hn : n.name.size ≤ 100) {z : Value} (hz : z.cells.size = 4) {e T : TypeId} {cs : List Value} {k m : Nat} (hx : cs = encN n) (h1c : (cs.all Value.oneCell') = true) (hk1 : cs.length = k) (hm1 : m = 1)
    {K : Sl → View → Prop} (hK : ∀ (b' : Int) (s' : Sl) (w'' : View), Acc u0 u w'' p s' b' (l ++ [n]) → K s' w'') :
    ∀ c : Nat, w.lim ≤ c → ∃ new : List Value, new.length = k ∧ (∀ v : Value, v ∈ new → v.oneCell' = true) ∧ CellsO (w.set c (.cells cs.toArray T (0, 0))) (some ⟨c, 0, none⟩) new ∧
      appPre (w.set c (.cells cs.toArray T (0, 0))) s.p s.n s.c 4 40 m new ∧ ∀ (s' : Sl) (w'' : View), appPost (w.set c (.cells cs.toArray T (0, 0))) s.p s.n s.c 4 z e m new s' w'' → K s' w'' :=
  h.own.push encN_sz n hz hx h1c hk1 hm1 (by omega) (by omega) fun b' s' w'' ho hch hb' => hK b' s' w'' (h.upd hu hch ho hb' fun n' hn' => by
    rcases List.mem_append.1 hn' with hn' | hn'
    · exact h.nm n' hn'
    · simp at hn'; subst hn'; exact hn)

end

/-- what a draw of nodes tells -/
def DN (u0 u : View) (p lo hi : Nat) (v : Value) (u' : View) : Prop := ∃ (x : Sl) (b : Int) (l : List Nd), v = .slice x.p x.n x.c ∧ Acc u0 u u' p x b l ∧ lo ≤ l.length ∧ l.length ≤ hi

theorem k_edge {u0 u : View} {p : Nat} (h : Src u0 u p) : CallsV Try.prog F_edge #[.pointer (some ⟨p, 0, none⟩)] u fun v u' => ∃ x : Int, v = .int .i64 x ∧ Src u0 u' p ∧ Chg [(p : Int)] u u' :=
  c_edge ⟨p, 0, none⟩ u _ trivial fun b hb => h.draw hb [0, 1, -1, 2, 1000, 1001, 2147483648, 2147483647, -2147483648, 4611686018427387904, 9223372036854775807, -9223372036854775808, 1000000, 1000001] rfl rfl rfl (by simp) fun x u' hs hc => ⟨x, rfl, hs, hc⟩

theorem k_point {u0 u : View} {p : Nat} (h : Src u0 u p) : CallsV Try.prog F_point #[.pointer (some ⟨p, 0, none⟩)] u fun v u' => ∃ x : Int, v = .int .i64 x ∧ Src u0 u' p ∧ Chg [(p : Int)] u u' := by
  refine c_point ⟨p, 0, none⟩ u _ trivial ((k_n h (by omega)).mono ?_)
  rintro _ u1 ⟨x, rfl, _, _, hs, hc⟩
  have fin : ∀ x u', Src u0 u' p → Chg [(p : Int)] u1 u' → ∃ y : Int, Value.int .i64 x = .int .i64 y ∧ Src u0 u' p ∧ Chg [(p : Int)] u u' := fun x u' hs' hc' => ⟨x, rfl, hs', hc.trans hc' (by simp) (by simp)⟩
  refine ⟨x, rfl, fun _ => fin _ _ hs (Chg.refl _ _), fun _ => ⟨fun _ => fin _ _ hs (Chg.refl _ _), fun _ => ⟨fun _ b hb => ?_, fun _ => ⟨fun _ b hb => ?_, fun _ => ⟨fun _ b hb => ?_, fun _ => ⟨fun _ b hb => ?_, fun _ => ⟨fun _ => ?_, fun _ => ?_⟩⟩⟩⟩⟩⟩⟩
  · exact hs.draw hb [0, 9, 27, 31, 127] rfl rfl rfl (by simp) fin
  · exact hs.draw hb [768, 879, 880, 4352, 4447, 4448, 11903, 11904, 42191, 42192, 44032, 55203, 63744, 64255, 65281, 65376, 65377, 127744, 129791, 129792] rfl rfl rfl (by simp) fin
  · exact hs.draw hb [233, 960, 8364, 65533, 1114111, 65535, 55295, 57344] rfl rfl rfl (by simp) fin
  · exact hs.draw hb [46, 44, 45, 40, 36] rfl rfl rfl (by simp) fin
  · refine (k_n hs (by omega)).mono ?_
    rintro _ u2 ⟨y, rfl, _, _, hs2, hc2⟩
    exact ⟨y, rfl, fin _ _ hs2 hc2⟩
  · refine (k_n hs (by omega)).mono ?_
    rintro _ u2 ⟨y, rfl, _, _, hs2, hc2⟩
    exact ⟨y, rfl, fin _ _ hs2 hc2⟩

end Go.Proofs.Ytkjddlgaldnbnaa
end

/-
  CONTRACTS: the draws: expressions, statements, blocks.
-/
section
set_option linter.unusedVariables false
set_option linter.unusedSimpArgs false
namespace Go.Proofs.Ytkjddlgaldnbnaa

theorem DN.leaf {u0 u w : View} {p : Nat} (hs : Src u0 w p) (hc : Chg [(p : Int)] u w) (hp : p < u.lim) {c : Nat} (hcl : w.lim ≤ c) {lo hi : Nat} (hlo : lo ≤ 1) (hhi : 1 ≤ hi) {k m i : Int} {t : ByteArray} (ht : t.size ≤ 100) {T : TypeId} :
    DN u0 u p lo hi (.slice (some ⟨c, 0, none⟩) 1 1) (w.set c (.cells #[.int .i64 k, .int .i64 m, .string t, .int .i64 i] T (0, 0))) :=
  ⟨⟨some ⟨c, 0, none⟩, 1, 1⟩, c, [⟨k, m, t, i⟩], rfl, Acc.made hs hc hp hcl [⟨k, m, t, i⟩] rfl rfl (fun n hn => by simp at hn; subst hn; exact ht), by simpa using hlo, by simpa using hhi⟩

theorem Acc.leaf {u0 u w : View} {p : Nat} (hs : Src u0 w p) (hc : Chg [(p : Int)] u w) (hp : p < u.lim) {c : Nat} (hcl : w.lim ≤ c) {k m i : Int} {t : ByteArray} (ht : t.size ≤ 100) {T : TypeId} :
    Acc u0 u (w.set c (.cells #[.int .i64 k, .int .i64 m, .string t, .int .i64 i] T (0, 0))) p ⟨some ⟨c, 0, none⟩, 1, 1⟩ c [⟨k, m, t, i⟩] := Acc.made hs hc hp hcl [⟨k, m, t, i⟩] rfl rfl (fun n hn => by simp at hn; subst hn; exact ht)

def namesE : List ByteArray := [⟨#[120]⟩, ⟨#[121]⟩, ⟨#[110, 45, 97]⟩]

theorem k_exprs' {u0 : View} {p : Nat} (dp : Nat) (hdp : dp ≤ 3) (ih : ∀ d', dp = d' + 1 → ∀ u, Src u0 u p → CallsV Try.prog F_exprs #[.pointer (some ⟨p, 0, none⟩), .int .i64 d'] u (DN u0 u p 1 (2 ^ (d' + 1) - 1))) (u : View) (h : Src u0 u p) :
    CallsV Try.prog F_exprs #[.pointer (some ⟨p, 0, none⟩), .int .i64 dp] u (DN u0 u p 1 (2 ^ (dp + 1) - 1)) := by
  have hu := h.1.1
  have hp := h.lt
  have hpow : 2 ≤ 2 ^ (dp + 1) := by have := Nat.one_le_two_pow (n := dp); rw [Nat.pow_succ]; omega
  refine c_exprs ⟨p, 0, none⟩ dp u _ trivial fun b hb => ?_
  have hk : Keep u (u.set b (.cells #[.string ⟨#[120]⟩, .string ⟨#[121]⟩, .string ⟨#[110, 45, 97]⟩] 9 (0, 0))) := Keep.set hb
  have hn0 : OwnB encS 1 (u.set b (.cells #[.string ⟨#[120]⟩, .string ⟨#[121]⟩, .string ⟨#[110, 45, 97]⟩] 9 (0, 0))) b ⟨some ⟨b, 0, none⟩, 3, 3⟩ namesE := OwnB.made rfl encS_sz rfl
  have hs0 := h.keep hk
  have hc0 : Chg [(p : Int)] u (u.set b (.cells #[.string ⟨#[120]⟩, .string ⟨#[121]⟩, .string ⟨#[110, 45, 97]⟩] 9 (0, 0))) := hk.chg _
  refine ⟨fun v => 1 ≤ dp ∧ Src u0 v p ∧ Chg [(p : Int)] u v, ⟨fun h1 => (k_one hs0 (by omega)).mono ?_, fun h1 => ?_⟩, ?_⟩
  rotate_left 2
  · rintro _ v ⟨hd1, hs, hc⟩
    obtain ⟨d', rfl⟩ : ∃ d', dp = d' + 1 := ⟨dp - 1, by omega⟩
    have wd : IntKind.wrap .i64 (((d' + 1 : Nat) : Int) - 1) = d' := by rw [wrap64 (by omega) (by omega)]; omega
    have hpow2 : 2 ^ (d' + 1 + 1) = 2 * 2 ^ (d' + 1) := by rw [Nat.pow_succ]; omega
    have hpow3 : 2 ^ (d' + 1) ≤ 2 ^ 4 := Nat.pow_le_pow_right (by omega) (by omega)
    rw [wd]
    refine (k_one hs (by omega)).mono ?_
    rintro _ v1 ⟨x, rfl, hs1, hc1⟩
    have hc1 := hc.trans hc1 (D := [(p : Int)]) (by simp) (by simp)
    refine ⟨x, rfl, fun _ => (k_n hs1 (by omega)).mono ?_, fun _ => (k_n hs1 (by omega)).mono ?_⟩
    · rintro _ v2 ⟨y, rfl, _, _, hs2, hc2⟩
      have hc2 := hc1.trans hc2 (D := [(p : Int)]) (by simp) (by simp)
      refine ⟨y, rfl, fun c hcl => ?_⟩
      have acc := Acc.leaf hs2 hc2 hp hcl (k := IntKind.wrap .i64 (16 + y)) (m := 0) (i := 1) (t := ⟨#[]⟩) (by decide) (T := 81)
      refine (ih d' rfl _ acc.src).mono ?_
      rintro _ v3 ⟨x1, b1, l1, rfl, acc1, lo1, hi1⟩
      exact ⟨x1, rfl, acc.cat acc1 hu (by simp; omega) rfl fun b' s' w'' hacc => ⟨s', b', _, rfl, hacc, by simp, by simp; omega⟩⟩
    · rintro _ v2 ⟨y, rfl, _, _, hs2, hc2⟩
      have hc2 := hc1.trans hc2 (D := [(p : Int)]) (by simp) (by simp)
      refine ⟨y, rfl, fun c hcl => ?_⟩
      have acc := Acc.leaf hs2 hc2 hp hcl (k := IntKind.wrap .i64 (18 + y)) (m := 0) (i := 2) (t := ⟨#[]⟩) (by decide) (T := 81)
      refine (ih d' rfl _ acc.src).mono ?_
      rintro _ v3 ⟨x1, b1, l1, rfl, acc1, lo1, hi1⟩
      refine ⟨x1, rfl, acc.cat acc1 hu (by simp; omega) rfl fun b' s' w'' hacc => ?_⟩
      refine (ih d' rfl _ hacc.src).mono ?_
      rintro _ v4 ⟨x2, b2, l2, rfl, acc2, lo2, hi2⟩
      exact ⟨x2, rfl, hacc.cat acc2 hu (by simp; omega) rfl fun b' s' w'' hacc => ⟨s', b', _, rfl, hacc, by simp, by simp; omega⟩⟩
  · rintro _ v ⟨x, rfl, hs, hc⟩
    have h1 := of_decide_eq_false h1
    have ho := hn0.chg hc (by simp; omega)
    have hc := hc0.trans hc (D := [(p : Int)]) (by simp) (by simp)
    refine ⟨x, rfl, fun _ => ?_, fun _ => ⟨⟨by omega, hs, hc⟩, trivial⟩⟩
    refine ⟨fun (x, v) => Src u0 v p ∧ Chg [(p : Int)] u v ∧ OwnB encS 1 v b ⟨some ⟨b, 0, none⟩, 3, 3⟩ namesE, (k_n hs (by omega)).mono ?_, ?_⟩
    · rintro _ v1 ⟨y, rfl, _, _, hs1, hc1⟩
      exact ⟨y, rfl, ⟨hs1, hc.trans hc1 (by simp) (by simp), ho.chg hc1 (by simp; omega)⟩, trivial⟩
    rintro _ x v ⟨hs, hc, ho⟩
    refine ⟨fun _ => (k_pick hs ho (by omega) (by simp [namesE]) (by simp [namesE]; decide)).mono ?_, fun _ => ⟨fun _ => (k_n hs (by omega)).mono ?_, fun _ => ⟨fun _ c hcl => ?_, fun _ => (k_n hs (by omega)).mono ?_⟩⟩⟩
    · rintro _ v1 ⟨t, rfl, ht, hs1, hc1⟩
      exact ⟨t, rfl, fun c hcl => DN.leaf hs1 (hc.trans hc1 (by simp) (by simp)) hp hcl (by omega) (by omega) ht⟩
    · rintro _ v1 ⟨y, rfl, _, _, hs1, hc1⟩
      exact ⟨y, rfl, fun c hcl => DN.leaf hs1 (hc.trans hc1 (by simp) (by simp)) hp hcl (by omega) (by omega) (by decide)⟩
    · exact hs.draw hcl [97, 98, 10, 999999999, 55296] rfl rfl rfl (by simp) fun x u' hs1 hc1 c hcl => DN.leaf hs1 (hc.trans hc1 (by simp) (by simp)) hp hcl (by omega) (by omega) (by decide)
    · rintro _ v1 ⟨y, rfl, _, _, hs1, hc1⟩
      exact ⟨y, rfl, fun c hcl => DN.leaf hs1 (hc.trans hc1 (by simp) (by simp)) hp hcl (by omega) (by omega) (by decide)⟩
  · refine ⟨fun (x, v) => Src u0 v p ∧ Chg [(p : Int)] u v ∧ OwnB encS 1 v b ⟨some ⟨b, 0, none⟩, 3, 3⟩ namesE, (k_n hs0 (by omega)).mono ?_, ?_⟩
    · rintro _ v1 ⟨y, rfl, _, _, hs1, hc1⟩
      exact ⟨y, rfl, ⟨hs1, hc0.trans hc1 (by simp) (by simp), hn0.chg hc1 (by simp; omega)⟩, trivial⟩
    rintro _ x v ⟨hs, hc, ho⟩
    refine ⟨fun _ => (k_pick hs ho (by omega) (by simp [namesE]) (by simp [namesE]; decide)).mono ?_, fun _ => ⟨fun _ => (k_n hs (by omega)).mono ?_, fun _ => ⟨fun _ c hcl => ?_, fun _ => (k_n hs (by omega)).mono ?_⟩⟩⟩
    · rintro _ v1 ⟨t, rfl, ht, hs1, hc1⟩
      exact ⟨t, rfl, fun c hcl => DN.leaf hs1 (hc.trans hc1 (by simp) (by simp)) hp hcl (by omega) (by omega) ht⟩
    · rintro _ v1 ⟨y, rfl, _, _, hs1, hc1⟩
      exact ⟨y, rfl, fun c hcl => DN.leaf hs1 (hc.trans hc1 (by simp) (by simp)) hp hcl (by omega) (by omega) (by decide)⟩
    · exact hs.draw hcl [97, 98, 10, 999999999, 55296] rfl rfl rfl (by simp) fun x u' hs1 hc1 c hcl => DN.leaf hs1 (hc.trans hc1 (by simp) (by simp)) hp hcl (by omega) (by omega) (by decide)
    · rintro _ v1 ⟨y, rfl, _, _, hs1, hc1⟩
      exact ⟨y, rfl, fun c hcl => DN.leaf hs1 (hc.trans hc1 (by simp) (by simp)) hp hcl (by omega) (by omega) (by decide)⟩

theorem k_exprs {u0 : View} {p : Nat} : ∀ (dp : Nat), dp ≤ 3 → ∀ u, Src u0 u p → CallsV Try.prog F_exprs #[.pointer (some ⟨p, 0, none⟩), .int .i64 dp] u (DN u0 u p 1 (2 ^ (dp + 1) - 1)) := by
  intro dp
  induction dp with
  | zero => exact fun h u hs => k_exprs' 0 h (fun d' e => by omega) u hs
  | succ d ih => exact fun h u hs => k_exprs' (d + 1) h (fun d' e => by
      have : d' = d := by omega
      subst this; exact ih (by omega)) u hs

theorem k_motionsB (u : View) : CallsV Try.prog F_motions #[] u fun v u' => ∃ (s : Sl) (b : Int), v = .slice s.p s.n s.c ∧ Keep u u' ∧ OwnB encS 1 u' b s motionsL ∧ (u.lim : Int) ≤ b :=
  c_motions u _ trivial fun b hb => ⟨⟨some ⟨b, 0, none⟩, 11, 11⟩, b, rfl, Keep.set hb, OwnB.made rfl encS_sz rfl, by omega⟩

end Go.Proofs.Ytkjddlgaldnbnaa
end

/-
  CONTRACTS: the draws: statements and blocks.
-/
section
set_option linter.unusedVariables false
set_option linter.unusedSimpArgs false
namespace Go.Proofs.Ytkjddlgaldnbnaa

theorem Chg.then {B : List Int} {u v w : View} (h : Chg B u v) (g : Chg B v w) : Chg B u w := h.trans g (fun _ h => .inl h) (fun _ h => .inl h)
theorem Chg.thenK {B : List Int} {u v w : View} (h : Chg B u v) (g : Keep v w) : Chg B u w := h.then (g.chg B)

section
variable {u0 u w w' : View} {p : Nat} {s x : Sl} {b b1 : Int} {l l1 : List Nd}

/-- nodes that are written out are put behind -/
theorem Acc.pushL (h : Acc u0 u w p s b l) (hu : u0.lim ≤ u.lim) (hl : l.length ≤ 1000000) (ns : List Nd) (hn : ∀ n ∈ ns, n.name.size ≤ 100) {z : Value} (hz : z.cells.size = 4) {e T : TypeId} {cs : List Value} {k m : Nat} (hx : cs = ns.flatMap encN) (h1c : (cs.all Value.oneCell') = true) (hk1 : cs.length = k) (hm1 : ns.length = m) (hm2 : m ≤ 1000)
    {K : Sl → View → Prop} (hK : ∀ (b' : Int) (s' : Sl) (w'' : View), Acc u0 u w'' p s' b' (l ++ ns) → K s' w'') :
    ∀ c : Nat, w.lim ≤ c → ∃ new : List Value, new.length = k ∧ (∀ v : Value, v ∈ new → v.oneCell' = true) ∧ CellsO (w.set c (.cells cs.toArray T (0, 0))) (some ⟨c, 0, none⟩) new ∧
      appPre (w.set c (.cells cs.toArray T (0, 0))) s.p s.n s.c 4 40 m new ∧ ∀ (s' : Sl) (w'' : View), appPost (w.set c (.cells cs.toArray T (0, 0))) s.p s.n s.c 4 z e m new s' w'' → K s' w'' :=
  h.own.pushL encN_sz ns hz hx h1c hk1 hm1 (by omega) (by omega) fun b' s' w'' ho hch hb' => hK b' s' w'' (h.upd hu hch ho hb' fun n' hn' => by
    rcases List.mem_append.1 hn' with hn' | hn'
    · exact h.nm n' hn'
    · exact hn n' hn')

end

/-- a draw's base may be earlier -/
theorem DN.base {u0 u w w' : View} {p lo hi : Nat} {v : Value} (hc : Chg [(p : Int)] u w) (hp : p < u.lim) (h : DN u0 w p lo hi v w') : DN u0 u p lo hi v w' := by
  obtain ⟨x, b, l, rfl, acc, h1, h2⟩ := h
  exact ⟨x, b, l, rfl, ⟨acc.own, by have := acc.fr; have := hc.1; omega, acc.src, hc.trans acc.chg (by simp) (by simp), acc.nm, hp⟩, h1, h2⟩

theorem k_stmts {u0 : View} {p : Nat} (dp : Nat) (hdp : dp ≤ 3) (ih : ∀ d', dp = d' + 1 → ∀ u, Src u0 u p → CallsV Try.prog F_block #[.pointer (some ⟨p, 0, none⟩), .int .i64 d'] u (DN u0 u p 1 (31 * 8 ^ d'))) (u : View) (h : Src u0 u p) :
    CallsV Try.prog F_stmts #[.pointer (some ⟨p, 0, none⟩), .int .i64 dp] u (DN u0 u p 1 (10 * 8 ^ dp)) := by
  have hu := h.1.1
  have hp := h.lt
  have hp8 : 1 ≤ 8 ^ dp := Nat.one_le_pow _ _ (by omega)
  have hp8' : 8 ^ dp ≤ 8 ^ 3 := Nat.pow_le_pow_right (by omega) hdp
  refine c_stmts ⟨p, 0, none⟩ dp u _ trivial ((k_n h (by omega)).mono ?_)
  rintro _ v1 ⟨x, rfl, _, _, hs1, hc1⟩
  -- the branches that are told twice
  have letB : ∀ b : Nat, v1.lim ≤ b → CallsV Try.prog F_pick #[.pointer (some ⟨p, 0, none⟩), .slice (some ⟨b, 0, none⟩) 2 2] (v1.set b (.cells #[.string ⟨#[120]⟩, .string ⟨#[121]⟩] 9 (0, 0))) fun v u' => ∃ t : ByteArray, v = .string t ∧ t.size ≤ 100 ∧ Src u0 u' p ∧ Chg [(p : Int)] u u' := fun b hb => by
    have hk : Keep v1 (v1.set b (.cells #[.string ⟨#[120]⟩, .string ⟨#[121]⟩] 9 (0, 0))) := Keep.set hb
    have hl := hc1.1
    refine (k_pick (hs1.keep hk) (s := ⟨some ⟨b, 0, none⟩, 2, 2⟩) (b := b) (L := [⟨#[120]⟩, ⟨#[121]⟩]) (OwnB.made rfl encS_sz rfl) (by omega) (by simp) (by simp; decide)).mono ?_
    rintro _ v2 ⟨t, rfl, ht, hs2, hc2⟩
    exact ⟨t, rfl, ht, hs2, (hc1.thenK hk).then hc2⟩
  have letC : ∀ (v2 : View) (t : ByteArray), t.size ≤ 100 → Src u0 v2 p → Chg [(p : Int)] u v2 → ∀ c : Nat, v2.lim ≤ c → CallsV Try.prog F_exprs #[.pointer (some ⟨p, 0, none⟩), .int .i64 2] (v2.set c (.cells #[.int .i64 2, .int .i64 0, .string t, .int .i64 1] 81 (0, 0))) fun v u' => ∃ (x : Sl) (b1 : Int) (l1 : List Nd), v = .slice x.p x.n x.c ∧ Acc u0 (v2.set c (.cells #[.int .i64 2, .int .i64 0, .string t, .int .i64 1] 81 (0, 0))) u' p x b1 l1 ∧ l1.length ≤ 7 ∧
      Acc u0 u (v2.set c (.cells #[.int .i64 2, .int .i64 0, .string t, .int .i64 1] 81 (0, 0))) p ⟨some ⟨c, 0, none⟩, 1, 1⟩ c [⟨2, 0, t, 1⟩] := fun v2 t ht hs2 hc2 c hcl => by
    have acc := Acc.leaf hs2 hc2 hp hcl (k := 2) (m := 0) (i := 1) ht (T := 81)
    refine (k_exprs 2 (by omega) _ acc.src).mono ?_
    rintro _ v3 ⟨x1, b1, l1, rfl, acc1, lo1, hi1⟩
    exact ⟨x1, b1, l1, rfl, acc1, hi1, acc⟩
  have doB : CallsV Try.prog F_motions #[] v1 fun v u' => ∃ x : Sl, v = .slice x.p x.n x.c ∧ CallsV Try.prog F_n #[.pointer (some ⟨p, 0, none⟩), .int .i64 10] u' fun v u' => ∃ x1 : Int, v = .int .i64 x1 ∧ ∃ ad : Addr, x.p = some ad ∧ 0 ≤ IntKind.wrap .i64 (1 + x1) ∧ IntKind.wrap .i64 (1 + x1) < (x.n : Int) ∧
      ∃ t : ByteArray, u'.cell (ad.add ((IntKind.wrap .i64 (1 + x1)).toNat * 1)) = some (.string t) ∧ ∀ c : Nat, u'.lim ≤ c → DN u0 u p 1 (10 * 8 ^ dp) (.slice (some ⟨c, 0, none⟩) 1 1) (u'.set c (.cells #[.int .i64 10, .int .i64 0, .string t, .int .i64 0] 81 (0, 0))) := by
    refine (k_motionsB v1).mono ?_
    rintro _ v2 ⟨xm, bm, rfl, hkm, hom, hbm⟩
    have hl := hc1.1
    have hxn : xm.n = 11 := hom.n
    refine ⟨xm, rfl, (k_n (hs1.keep hkm) (by omega)).mono ?_⟩
    rintro _ v3 ⟨y, rfl, y0, y1, hs3, hc3⟩
    have y1 := y1 (by omega)
    have wy : IntKind.wrap .i64 (1 + y) = 1 + y := wrap64 (by omega) (by omega)
    obtain ⟨ad, t, e, ht, hcell⟩ := ((hom.chg hc3 (by simp; omega)).arr (by decide)).one (c := fun t => .string t) (fun _ => rfl) (i := 1 + y) (by omega) (by omega)
    have hsz : t.size ≤ 100 := by
      have hall : ∀ t ∈ motionsL, t.size ≤ 100 := by decide
      exact hall t (List.mem_of_getElem? ht)
    have hc3' := (hc1.thenK hkm).then hc3
    refine ⟨y, rfl, ?_⟩
    rw [wy]
    exact ⟨ad, e, by omega, by omega, t, hcell, fun c hcl => DN.leaf hs3 hc3' hp hcl (by omega) (by omega) hsz⟩
  refine ⟨x, rfl, fun _ b hb => ?_, fun _ => ⟨fun _ b hb => ?_, fun _ => ⟨fun _ b hb => ?_, fun _ => ⟨fun _ => ?_, fun _ => ⟨fun _ b hb => DN.leaf hs1 hc1 hp hb (by omega) (by omega) (by decide), fun _ => ⟨fun _ b hb => ?_, fun _ => ⟨fun _ => ⟨fun hd => ?_, fun _ => doB⟩, fun _ => ⟨fun _ => ⟨fun hd => ?_, fun _ => doB⟩, fun _ => doB⟩⟩⟩⟩⟩⟩⟩⟩
  · refine (letB b hb).mono ?_
    rintro _ v2 ⟨t, rfl, ht, hs2, hc2⟩
    refine ⟨t, rfl, fun c hcl => (letC v2 t ht hs2 hc2 c hcl).mono ?_⟩
    rintro _ v3 ⟨x1, b1, l1, rfl, acc1, hi1, acc⟩
    exact ⟨x1, rfl, acc.cat acc1 hu (by simp; omega) rfl fun b' s' w'' hacc => ⟨s', b', _, rfl, hacc, by simp, by simp; omega⟩⟩
  · refine (letB b hb).mono ?_
    rintro _ v2 ⟨t, rfl, ht, hs2, hc2⟩
    refine ⟨t, rfl, fun c hcl => (letC v2 t ht hs2 hc2 c hcl).mono ?_⟩
    rintro _ v3 ⟨x1, b1, l1, rfl, acc1, hi1, acc⟩
    exact ⟨x1, rfl, acc.cat acc1 hu (by simp; omega) rfl fun b' s' w'' hacc => ⟨s', b', _, rfl, hacc, by simp, by simp; omega⟩⟩
  · have acc := Acc.leaf hs1 hc1 hp hb (k := 5) (m := 0) (i := 1) (t := ⟨#[]⟩) (by decide) (T := 81)
    refine (k_point acc.src).mono ?_
    rintro _ v2 ⟨y, rfl, hs2, hc2⟩
    exact ⟨y, rfl, (acc.frame hc2 hs2).push hu (by simp) ⟨11, y, ⟨#[]⟩, 0⟩ (show (0 : Nat) ≤ 100 by omega) rfl rfl rfl rfl rfl fun b' s' w'' hacc => ⟨s', b', _, rfl, hacc, by simp, by simp; omega⟩⟩
  · refine (k_n hs1 (by omega)).mono ?_
    rintro _ v2 ⟨y, rfl, _, _, hs2, hc2⟩
    have hc2 := hc1.trans hc2 (D := [(p : Int)]) (by simp) (by simp)
    refine ⟨y, rfl, fun c hcl => ?_⟩
    have acc := Acc.leaf hs2 hc2 hp hcl (k := IntKind.wrap .i64 (7 + y)) (m := 0) (i := 1) (t := ⟨#[]⟩) (by decide) (T := 81)
    refine (k_exprs 1 (by omega) _ acc.src).mono ?_
    rintro _ v3 ⟨x1, b1, l1, rfl, acc1, lo1, hi1⟩
    exact ⟨x1, rfl, acc.cat acc1 hu (by simp; omega) rfl fun b' s' w'' hacc => ⟨s', b', _, rfl, hacc, by simp, by simp; omega⟩⟩
  · have acc := Acc.leaf hs1 hc1 hp hb (k := 6) (m := 0) (i := 2) (t := ⟨#[]⟩) (by decide) (T := 81)
    refine (k_exprs 0 (by omega) _ acc.src).mono ?_
    rintro _ v3 ⟨x1, b1, l1, rfl, acc1, lo1, hi1⟩
    refine ⟨x1, rfl, acc.cat acc1 hu (by simp; omega) rfl fun b' s' w'' hacc => ?_⟩
    refine (k_exprs 0 (by omega) _ hacc.src).mono ?_
    rintro _ v4 ⟨x2, b2, l2, rfl, acc2, lo2, hi2⟩
    exact ⟨x2, rfl, hacc.cat acc2 hu (by simp; omega) rfl fun b' s' w'' hacc => ⟨s', b', _, rfl, hacc, by simp, by simp; omega⟩⟩
  · have hd := of_decide_eq_true hd
    obtain ⟨d', rfl⟩ : ∃ d', dp = d' + 1 := ⟨dp - 1, by omega⟩
    have wd : IntKind.wrap .i64 (((d' + 1 : Nat) : Int) - 1) = d' := by rw [wrap64 (by omega) (by omega)]; omega
    have h8 : 8 ^ (d' + 1) = 8 * 8 ^ d' := by rw [Nat.pow_succ]; omega
    have h81 : 1 ≤ 8 ^ d' := Nat.one_le_pow _ _ (by omega)
    have ih' := ih d' rfl
    clear ih letB letC doB
    rw [wd, h8]
    rw [h8] at hp8 hp8'
    clear h8
    generalize 8 ^ d' = E at *
    refine ⟨fun (x, v) => ∃ (b : Int) (kids : Int), Acc u0 u v p x b [⟨3, 0, ⟨#[]⟩, kids⟩] ∧ kids ≤ 3, (k_n hs1 (by omega)).mono ?_, ?_⟩
    · rintro _ v2 ⟨y, rfl, y0, y1, hs2, hc2⟩
      have y1 := y1 (by omega)
      exact ⟨y, rfl, fun c hcl => ⟨⟨c, _, Acc.leaf hs2 (hc1.trans hc2 (by simp) (by simp)) hp hcl (by decide), by rw [wrap64 (by omega) (by omega)]; omega⟩, trivial⟩⟩
    rintro _ xo v2 ⟨bo, kids, acc, hkids⟩
    obtain ⟨ad, n, e, hn, hcells⟩ := (acc.own.arr (by simp)).node (i := 0) (by omega) (by have := acc.own.n; simp at this; omega)
    cases hn
    refine ⟨ad, e, by decide, by have := acc.own.n; simp at this; omega, kids, hcells.2.2.2.1, ?_⟩
    refine (k_exprs 2 (by omega) _ acc.src).mono ?_
    rintro _ v3 ⟨x1, b1, l1, rfl, acc1, lo1, hi1⟩
    refine ⟨x1, rfl, acc.cat acc1 hu (by simp; omega) rfl fun b' s' w'' hacc => ?_⟩
    refine ⟨fun (x, k, v) => 1 ≤ k ∧ (k ≤ kids ∨ k = 1) ∧ ∃ (b : Int) (l : List Nd), Acc u0 u v p x b l ∧ 1 ≤ l.length ∧ (l.length : Int) ≤ 8 + (k - 1) * (31 * E : Nat), fun (_, k, _) => (kids - k).toNat, ⟨⟨by omega, .inr rfl, b', _, hacc, by simp, by simp; omega⟩, trivial⟩, ?_⟩
    rintro _ xk k v4 ⟨k0, k1, bk, lk, acck, lk1, lk2⟩
    refine ⟨fun hlt => ?_, fun hlt => ?_⟩
    · have hlt := of_decide_eq_true hlt
      refine (ih' _ acck.src).mono ?_
      rintro _ v5 ⟨x2, b2, l2, rfl, acc2, lo2, hi2⟩
      have hk3 : k = 1 ∨ k = 2 := by omega
      have hlk : (lk.length : Int) ≤ 8 + (31 * E : Nat) := by rcases hk3 with rfl | rfl <;> simp at lk2 ⊢ <;> omega
      refine ⟨x2, rfl, acck.cat acc2 hu (by omega) rfl fun b' s' w'' hacc => ?_⟩
      rw [wrap64 (by omega) (by omega)]
      refine ⟨⟨⟨by omega, by omega, b', _, hacc, by simp; omega, ?_⟩, ?_⟩, trivial⟩
      · rcases hk3 with rfl | rfl <;> simp at lk2 ⊢ <;> omega
      · show (kids - (k + 1)).toNat < (kids - k).toNat; omega
    · refine ⟨xk, bk, lk, rfl, acck, lk1, ?_⟩
      have hk3 : k = 1 ∨ k = 2 ∨ k = 3 := by omega
      rcases hk3 with rfl | rfl | rfl <;> simp at lk2 <;> omega
  · have hd := of_decide_eq_true hd
    obtain ⟨d', rfl⟩ : ∃ d', dp = d' + 1 := ⟨dp - 1, by omega⟩
    have wd : IntKind.wrap .i64 (((d' + 1 : Nat) : Int) - 1) = d' := by rw [wrap64 (by omega) (by omega)]; omega
    have h8 : 8 ^ (d' + 1) = 8 * 8 ^ d' := by rw [Nat.pow_succ]; omega
    have h81 : 1 ≤ 8 ^ d' := Nat.one_le_pow _ _ (by omega)
    have ih' := ih d' rfl
    clear ih letB letC doB
    rw [wd, h8]
    rw [h8] at hp8 hp8'
    clear h8
    generalize 8 ^ d' = E at *
    refine ⟨fun (x, v) => ∃ (b : Int) (l : List Nd), Acc u0 u v p x b l ∧ l.length = 4, (k_n hs1 (by omega)).mono ?_, ?_⟩
    · rintro _ v2 ⟨y, rfl, y0, y1, hs2, hc2⟩
      refine ⟨y, rfl, fun c hcl => ⟨⟨c, [⟨4, 0, ⟨#[]⟩, 2⟩, ⟨20, 0, ⟨#[]⟩, 2⟩, ⟨12, 0, ⟨#[120]⟩, 0⟩, ⟨11, y, ⟨#[]⟩, 0⟩], ?_, rfl⟩, trivial⟩⟩
      exact Acc.made hs2 (hc1.trans hc2 (by simp) (by simp)) hp hcl [⟨4, 0, ⟨#[]⟩, 2⟩, ⟨20, 0, ⟨#[]⟩, 2⟩, ⟨12, 0, ⟨#[120]⟩, 0⟩, ⟨11, y, ⟨#[]⟩, 0⟩] rfl rfl (by simp; decide)
    rintro _ xo v2 ⟨bo, lo, acc, hlo⟩
    refine (ih' _ acc.src).mono ?_
    rintro _ v3 ⟨x1, b1, l1, rfl, acc1, lo1, hi1⟩
    have hx1 := acc1.own.n
    obtain ⟨ad, n, e, hn, hcells⟩ := (acc1.own.arr (by omega)).node (i := 0) (by omega) (by omega)
    simp only [Int.toNat_zero] at hn
    obtain ⟨ad6, arr6, T6, fz6, g1, g2, g3, g4, g5, g6, g7⟩ := acc1.own.store encN_sz ⟨n.kind, n.num, n.name, IntKind.wrap .i64 (n.kids + 1)⟩ (.int .i64 (IntKind.wrap .i64 (n.kids + 1))) hn (k := 3) (by omega) rfl
    simp only [Nat.zero_mul] at g2 g3 g4 g5 g6 g7
    have acc2 := acc1.upd (Nat.le_trans hu acc.chg.1) g7 g6 (.inl rfl) (fun m hm => by
      rcases List.mem_or_eq_of_mem_set hm with h' | h'
      · exact acc1.nm m h'
      · subst h'; exact acc1.nm n (List.mem_of_getElem? hn))
    refine ⟨x1, rfl, ad, e, by decide, by omega, n.kids, hcells.2.2.2.1, ad6, g1, by decide, by omega, arr6, T6, fz6, g2, g3, g4, g5, ?_⟩
    refine acc2.pushL (Nat.le_trans hu acc.chg.1) (by simp; omega) [⟨2, 0, ⟨#[120]⟩, 1⟩, ⟨23, 0, ⟨#[]⟩, 2⟩, ⟨12, 0, ⟨#[120]⟩, 0⟩, ⟨11, 1, ⟨#[]⟩, 0⟩] (by simp; decide) rfl rfl rfl rfl rfl (by decide) fun b' s' w'' hacc => ?_
    exact acc.cat hacc hu (by simp; omega) rfl fun b' s' w'' hacc => ⟨s', b', _, rfl, hacc, by simp; omega, by simp; omega⟩

theorem k_block' {u0 : View} {p : Nat} (dp : Nat) (hdp : dp ≤ 3) (ih : ∀ u, Src u0 u p → CallsV Try.prog F_stmts #[.pointer (some ⟨p, 0, none⟩), .int .i64 dp] u (DN u0 u p 1 (10 * 8 ^ dp))) (u : View) (h : Src u0 u p) :
    CallsV Try.prog F_block #[.pointer (some ⟨p, 0, none⟩), .int .i64 dp] u (DN u0 u p 1 (31 * 8 ^ dp)) := by
  have hu := h.1.1
  have hp := h.lt
  have hp8 : 1 ≤ 8 ^ dp := Nat.one_le_pow _ _ (by omega)
  have hp8' : 8 ^ dp ≤ 8 ^ 3 := Nat.pow_le_pow_right (by omega) hdp
  generalize 8 ^ dp = E at *
  refine c_block ⟨p, 0, none⟩ dp u _ trivial fun b hb => ?_
  have acc := Acc.leaf h (Chg.refl [(p : Int)] u) hp hb (k := 1) (m := 0) (i := 0) (t := ⟨#[]⟩) (by decide) (T := 81)
  refine (k_n acc.src (by omega)).mono ?_
  rintro _ v1 ⟨x, rfl, x0, x1, hs1, hc1⟩
  have x1 := x1 (by omega)
  refine ⟨x, rfl, fun (s, k, v) => 0 ≤ k ∧ k ≤ x ∧ ∃ (b : Int) (l : List Nd), Acc u0 u v p s b l ∧ 1 ≤ l.length ∧ (l.length : Int) ≤ 1 + k * (10 * E : Nat), fun (_, k, _) => (x - k).toNat, ⟨⟨by omega, by omega, b, _, acc.frame hc1 hs1, by simp, by simp⟩, trivial⟩, ?_⟩
  rintro _ sk k v ⟨k0, k1, bk, lk, acck, lk1, lk2⟩
  have hk3 : k = 0 ∨ k = 1 ∨ k = 2 ∨ k = 3 := by omega
  have hlk : (lk.length : Int) ≤ 1 + 30 * (E : Nat) := by rcases hk3 with rfl | rfl | rfl | rfl <;> simp at lk2 ⊢ <;> omega
  refine ⟨fun hlt => ?_, fun hlt => ?_⟩
  · have hlt := of_decide_eq_true hlt
    refine (ih _ acck.src).mono ?_
    rintro _ v2 ⟨x2, b2, l2, rfl, acc2, lo2, hi2⟩
    refine ⟨x2, rfl, acck.cat acc2 hu (by omega) rfl fun b' s' w'' hacc => ?_⟩
    rw [wrap64 (by omega) (by omega)]
    refine ⟨⟨⟨by omega, by omega, b', _, hacc, by simp; omega, ?_⟩, ?_⟩, trivial⟩
    · rcases hk3 with rfl | rfl | rfl | rfl <;> simp at lk2 ⊢ <;> omega
    · show (x - (k + 1)).toNat < (x - k).toNat; omega
  · have hskn := acck.own.n
    obtain ⟨n, hn⟩ : ∃ n, lk[0]? = some n := ⟨lk[0], List.getElem?_eq_getElem (by omega)⟩
    obtain ⟨ad6, arr6, T6, fz6, g1, g2, g3, g4, g5, g6, g7⟩ := acck.own.store encN_sz ⟨n.kind, n.num, n.name, x⟩ (.int .i64 x) hn (k := 3) (by omega) rfl
    simp only [Nat.zero_mul] at g2 g3 g4 g5 g6 g7
    have acc2 := acck.upd hu g7 g6 (.inl rfl) (fun m hm => by
      rcases List.mem_or_eq_of_mem_set hm with h' | h'
      · exact acck.nm m h'
      · subst h'; exact acck.nm n (List.mem_of_getElem? hn))
    exact ⟨ad6, g1, by decide, by omega, arr6, T6, fz6, g2, g3, g4, g5, sk, bk, _, rfl, acc2, by simp; omega, by simp; omega⟩

theorem k_block {u0 : View} {p : Nat} : ∀ (dp : Nat), dp ≤ 3 → ∀ u, Src u0 u p → CallsV Try.prog F_block #[.pointer (some ⟨p, 0, none⟩), .int .i64 dp] u (DN u0 u p 1 (31 * 8 ^ dp)) := by
  intro dp
  induction dp with
  | zero => exact fun h u hs => k_block' 0 h (fun u hs => k_stmts 0 h (fun d' e => by omega) u hs) u hs
  | succ d ih => exact fun h u hs => k_block' (d + 1) h (fun u hs => k_stmts (d + 1) h (fun d' e => by
      have : d' = d := by omega
      subst this; exact ih (by omega)) u hs) u hs

end Go.Proofs.Ytkjddlgaldnbnaa
end

/-
  CONTRACTS: the draws: widgets.
-/
section
set_option linter.unusedVariables false
set_option linter.unusedSimpArgs false
namespace Go.Proofs.Ytkjddlgaldnbnaa

theorem k_l01Source {u : View} {s : Sl} {code : List Int} (ha : Arr encB 1 u s code) : CallsV Try.prog F_l01Source #[.slice s.p s.n s.c] u fun v u' => ∃ p : Nat, v = .pointer (some ⟨p, 0, none⟩) ∧ Src u u' p := by
  have hn := ha.n
  have hbd := ha.bd
  refine c_l01Source s u _ trivial fun b hb => ?_
  have fin : ∀ (m z : Int), 0 ≤ z → z ≤ 12 → ∃ p : Nat, Value.pointer (some ⟨b, 0, none⟩) = .pointer (some ⟨p, 0, none⟩) ∧ Src u (u.set b (.cells #[.slice s.p s.n s.c, .int .i64 0, .int .u64 m, .int .i64 z] 76 (0, 0))) p := fun m z z0 z1 =>
    ⟨b, rfl, Keep.set hb, View.fresh hb, s, code, 0, m, z, View.set_self _ _ _, ha, by omega, by omega, z0, z1⟩
  have hdiv : 0 ≤ Int.tdiv (s.n : Int) 20 ∧ Int.tdiv (s.n : Int) 20 ≤ s.n := by
    rw [Int.tdiv_eq_ediv_of_nonneg (by omega)]; omega
  have wdiv : IntKind.wrap .i64 (Int.tdiv (s.n : Int) 20) = Int.tdiv (s.n : Int) 20 := wrap64 (by omega) (by omega)
  refine ⟨fun (x, x1, x2, x3, x4, v) => 0 ≤ x ∧ x ≤ s.n ∧ x1 = s ∧ x2 = 0 ∧ v = u, fun (x, _) => (s.n - x).toNat, ⟨⟨by omega, by omega, rfl, rfl, rfl⟩, rfl, trivial⟩, ?_⟩
  rintro _ x x1 x2 x3 x4 v ⟨x0, xn, rfl, rfl, rfl⟩
  rw [wdiv]
  refine ⟨fun w => w = v ∧ x < x1.n, ⟨fun h => ⟨fun h2 => ⟨⟨rfl, of_decide_eq_true h⟩, rfl, trivial⟩, fun h2 => ⟨by decide, fun h3 => fin _ _ (by omega) (by omega), fun h3 => fin _ _ (by omega) (by have := of_decide_eq_false h3; omega)⟩⟩, fun h => ⟨by decide, fun h3 => fin _ _ (by omega) (by omega), fun h3 => fin _ _ (by omega) (by have := of_decide_eq_false h3; omega)⟩⟩, ?_⟩
  rintro _ w ⟨rfl, hlt⟩
  obtain ⟨ad, y, e, hy, hc⟩ := ha.one (c := fun n => .int .u8 n) (fun _ => rfl) x0 hlt
  refine ⟨ad, e, x0, hlt, y, hc, ⟨⟨?_, ?_, rfl, rfl, rfl⟩, ?_⟩, rfl, trivial⟩
  · rw [wrap64 (by omega) (by omega)]; omega
  · rw [wrap64 (by omega) (by omega)]; omega
  · show (x1.n - IntKind.wrap .i64 (x + 1)).toNat < (x1.n - x).toNat
    rw [wrap64 (by omega) (by omega)]; omega

theorem k_nodes {u0 u : View} {p : Nat} (h : Src u0 u p) : CallsV Try.prog F_nodes #[.pointer (some ⟨p, 0, none⟩)] u (DN u0 u p 1 16000) := by
  have hu := h.1.1
  have hp := h.lt
  refine c_nodes ⟨p, 0, none⟩ u _ trivial ((k_block 3 (by omega) u h).mono ?_)
  rintro _ v1 ⟨x, b, l, rfl, acc, l0, l1⟩
  have l1 : l.length ≤ 15872 := l1
  have hxn := acc.own.n
  refine ⟨x, rfl, fun (x, v) => ∃ (b : Int) (l : List Nd), Acc u0 u v p x b l ∧ 1 ≤ l.length ∧ l.length ≤ 16000, (k_one acc.src (by omega)).mono ?_, ?_⟩
  · rintro _ v2 ⟨q, rfl, hs2, hc2⟩
    have acc := acc.frame hc2 hs2
    refine ⟨q, rfl, fun _ => (k_n acc.src (by omega)).mono ?_, fun _ => ⟨⟨b, l, acc, l0, by omega⟩, trivial⟩⟩
    rintro _ v3 ⟨k, rfl, k0, k1, hs3, hc3⟩
    have k1 := k1 (by omega)
    have acc := acc.frame hc3 hs3
    refine ⟨k, rfl, (k_n acc.src (by omega)).mono ?_⟩
    rintro _ v4 ⟨j, rfl, _, _, hs4, hc4⟩
    have acc := acc.frame hc4 hs4
    obtain ⟨n, hn⟩ : ∃ n, l[k.toNat]? = some n := ⟨l[k.toNat], List.getElem?_eq_getElem (by omega)⟩
    have upd : ∀ {v : View} (m : Nd), Acc u0 u v p x b l → m.name.size ≤ 100 → ∀ {w : View}, OwnB encN 4 w b x (l.set k.toNat m) → Chg [b] v w → ∃ (b : Int) (l : List Nd), Acc u0 u w p x b l ∧ 1 ≤ l.length ∧ l.length ≤ 16000 := fun m acc hm w ho hc =>
      ⟨b, _, acc.upd hu hc ho (.inl rfl) (fun m' hm' => by
        rcases List.mem_or_eq_of_mem_set hm' with h' | h'
        · exact acc.nm m' h'
        · subst h'; exact hm), by simp; omega, by simp; omega⟩
    have hnn := acc.nm n (List.mem_of_getElem? hn)
    refine ⟨j, rfl, fun _ => (k_n acc.src (by omega)).mono ?_, fun _ => ⟨fun _ => (k_n acc.src (by omega)).mono ?_, fun _ => ⟨fun _ => (k_edge acc.src).mono ?_, fun _ => ⟨fun _ c hcl => ?_, fun _ => ?_⟩⟩⟩⟩
    · rintro _ v5 ⟨y, rfl, _, _, hs5, hc5⟩
      have acc := acc.frame hc5 hs5
      obtain ⟨ad6, arr6, T6, fz6, g1, g2, g3, g4, g5, g6, g7⟩ := acc.own.store encN_sz ⟨n.kind, n.num, n.name, y⟩ (.int .i64 y) hn (k := 3) (by omega) rfl
      exact ⟨y, rfl, ad6, g1, k0, by omega, arr6, T6, fz6, g2, g3, g4, g5, upd ⟨n.kind, n.num, n.name, y⟩ acc hnn g6 g7, trivial⟩
    · rintro _ v5 ⟨y, rfl, _, _, hs5, hc5⟩
      have acc := acc.frame hc5 hs5
      obtain ⟨ad6, arr6, T6, fz6, g1, g2, g3, g4, g5, g6, g7⟩ := acc.own.store encN_sz ⟨y, n.num, n.name, n.kids⟩ (.int .i64 y) hn (k := 0) (by omega) rfl
      exact ⟨y, rfl, ad6, g1, k0, by omega, arr6, T6, fz6, g2, g3, g4, g5, upd ⟨y, n.num, n.name, n.kids⟩ acc hnn g6 g7, trivial⟩
    · rintro _ v5 ⟨y, rfl, hs5, hc5⟩
      have acc := acc.frame hc5 hs5
      obtain ⟨ad6, arr6, T6, fz6, g1, g2, g3, g4, g5, g6, g7⟩ := acc.own.store encN_sz ⟨n.kind, y, n.name, n.kids⟩ (.int .i64 y) hn (k := 1) (by omega) rfl
      exact ⟨y, rfl, ad6, g1, k0, by omega, arr6, T6, fz6, g2, g3, g4, g5, upd ⟨n.kind, y, n.name, n.kids⟩ acc hnn g6 g7, trivial⟩
    · have hlc := acc.chg.1
      have acc1 : Acc u0 u (v4.set c (.cells #[.string ⟨#[]⟩, .string ⟨#[108, 101, 116]⟩, .string ⟨#[122]⟩, .string ⟨#[65]⟩, .string ⟨#[108, 101, 102, 116]⟩] 9 (0, 0))) p x b l := acc.frame ((Keep.set hcl).chg _) (acc.src.keep (Keep.set hcl))
      refine (k_pick acc1.src (s := ⟨some ⟨c, 0, none⟩, 5, 5⟩) (b := c) (L := [⟨#[]⟩, ⟨#[108, 101, 116]⟩, ⟨#[122]⟩, ⟨#[65]⟩, ⟨#[108, 101, 102, 116]⟩]) (OwnB.made rfl encS_sz rfl) (by omega) (by simp) (by simp; decide)).mono ?_
      rintro _ v5 ⟨t, rfl, ht, hs5, hc5⟩
      have acc := acc1.frame hc5 hs5
      obtain ⟨ad6, arr6, T6, fz6, g1, g2, g3, g4, g5, g6, g7⟩ := acc.own.store encN_sz ⟨n.kind, n.num, t, n.kids⟩ (.string t) hn (k := 2) (by omega) rfl
      exact ⟨t, rfl, ad6, g1, k0, by omega, arr6, T6, fz6, g2, g3, g4, g5, upd ⟨n.kind, n.num, t, n.kids⟩ acc ht g6 g7, trivial⟩
    · exact acc.push hu (by omega) ⟨9, 0, ⟨#[]⟩, 0⟩ (show (0 : Nat) ≤ 100 by omega) rfl rfl rfl rfl rfl fun b' s' w'' hacc => ⟨⟨b', _, hacc, by simp, by simp; omega⟩, trivial⟩
  rintro _ x v ⟨b, l, acc, l0, l1⟩
  refine ⟨fun (x, v) => ∃ (b : Int) (l : List Nd), Acc u0 u v p x b l ∧ 1 ≤ l.length ∧ l.length ≤ 16000, (k_one acc.src (by omega)).mono ?_, ?_⟩
  · rintro _ v2 ⟨q, rfl, hs2, hc2⟩
    have acc := acc.frame hc2 hs2
    refine ⟨q, rfl, fun _ => (k_n acc.src (by omega)).mono ?_, fun _ => ⟨⟨b, l, acc, l0, l1⟩, trivial⟩⟩
    rintro _ v3 ⟨y, rfl, y0, y1, hs3, hc3⟩
    have y1 := y1 (by omega)
    have wy : IntKind.wrap .i64 (198 + y) = 198 + y := wrap64 (by omega) (by omega)
    refine ⟨y, rfl, fun c hcl => ?_⟩
    refine ⟨fun (x, i, v) => 0 ≤ i ∧ i ≤ 198 + y ∧ ∃ (b : Int) (l : List Nd), Acc u0 u v p x b l ∧ l[0]? = some ⟨1, 0, ⟨#[]⟩, 198 + y⟩ ∧ (l.length : Int) = 1 + i, fun (_, i, _) => (201 - i).toNat, ⟨⟨by omega, by omega, c, [⟨1, 0, ⟨#[]⟩, 198 + y⟩], ?_, rfl, by simp⟩, trivial⟩, ?_⟩
    · have := Acc.leaf hs3 (acc.chg.then hc3) hp hcl (k := 1) (m := 0) (i := 198 + y) (t := ⟨#[]⟩) (by decide) (T := 81)
      rw [wy]; exact this
    rintro _ xk i v ⟨i0, i1, bk, lk, acck, hk0, hkl⟩
    have hskn := acck.own.n
    obtain ⟨ad, n, e, hn, hcells⟩ := (acck.own.arr (by omega)).node (i := 0) (by omega) (by omega)
    simp only [Int.toNat_zero] at hn
    rw [hk0] at hn
    cases hn
    refine ⟨ad, e, by decide, by omega, _, hcells.2.2.2.1, fun hlt => ?_, fun hlt => ⟨⟨bk, lk, acck, by omega, by omega⟩, trivial⟩⟩
    have hlt : i < 198 + y := of_decide_eq_true hlt
    refine acck.push hu (by omega) ⟨9, 0, ⟨#[]⟩, 0⟩ (show (0 : Nat) ≤ 100 by omega) rfl rfl rfl rfl rfl fun b' s' w'' hacc => ?_
    rw [wrap64 (by omega) (by omega)]
    refine ⟨⟨⟨by omega, by omega, b', _, hacc, ?_, by simp; omega⟩, ?_⟩, trivial⟩
    · rw [List.getElem?_append_left (by omega)]; exact hk0
    · show (201 - (i + 1)).toNat < (201 - i).toNat; omega
  rintro _ x v ⟨b, l, acc, l0, l1⟩
  refine (k_one acc.src (by omega)).mono ?_
  rintro _ v2 ⟨q, rfl, hs2, hc2⟩
  have acc := acc.frame hc2 hs2
  refine ⟨q, rfl, fun _ c hcl => ?_, fun _ => ⟨x, b, l, rfl, acc, l0, l1⟩⟩
  have acc0 : Acc u0 u (v2.set c (.cells #[.int .i64 1, .int .i64 0, .string ⟨#[]⟩, .int .i64 1, .int .i64 7, .int .i64 0, .string ⟨#[]⟩, .int .i64 1] 81 (0, 0))) p ⟨some ⟨c, 0, none⟩, 2, 2⟩ c [⟨1, 0, ⟨#[]⟩, 1⟩, ⟨7, 0, ⟨#[]⟩, 1⟩] :=
    Acc.made hs2 acc.chg hp hcl [⟨1, 0, ⟨#[]⟩, 1⟩, ⟨7, 0, ⟨#[]⟩, 1⟩] rfl rfl (by simp; decide)
  refine (k_n acc0.src (by omega)).mono ?_
  rintro _ v3 ⟨y, rfl, y0, y1, hs3, hc3⟩
  have y1 := y1 (by omega)
  refine ⟨y, rfl, fun (x, i, v) => 0 ≤ i ∧ i ≤ 18 ∧ ∃ (b : Int) (l : List Nd), Acc u0 u v p x b l ∧ (l.length : Int) ≤ 20 - i, fun (_, i, _) => i.toNat, ⟨⟨?_, ?_, c, _, acc0.frame hc3 hs3, ?_⟩, trivial⟩, ?_⟩
  · rw [wrap64 (by omega) (by omega)]; omega
  · rw [wrap64 (by omega) (by omega)]; omega
  · rw [wrap64 (by omega) (by omega)]; simp; omega
  rintro _ xk i v ⟨i0, i1, bk, lk, acck, hkl⟩
  refine ⟨fun hlt => ?_, fun hlt => ?_⟩
  · have hlt := of_decide_eq_true hlt
    refine acck.push hu (by omega) ⟨17, 0, ⟨#[]⟩, 1⟩ (show (0 : Nat) ≤ 100 by omega) rfl rfl rfl rfl rfl fun b' s' w'' hacc => ?_
    rw [wrap64 (by omega) (by omega)]
    refine ⟨⟨⟨by omega, by omega, b', _, hacc, by simp; omega⟩, ?_⟩, trivial⟩
    show (i - 1).toNat < i.toNat; omega
  · exact acck.push hu (by omega) ⟨13, 0, ⟨#[]⟩, 0⟩ (show (0 : Nat) ≤ 100 by omega) rfl rfl rfl rfl rfl fun b' s' w'' hacc => ⟨s', b', _, rfl, hacc, by simp, by simp; omega⟩

theorem k_drawCodeOf {u : View} {s : Sl} {code : List Int} (ha : Arr encB 1 u s code) : CallsV Try.prog F_drawCodeOf #[.slice s.p s.n s.c] u fun v u' => ∃ (x : Sl) (b : Int) (l : List Nd), v = .slice x.p x.n x.c ∧ Keep u u' ∧ OwnB encN 4 u' b x l ∧ (u.lim : Int) ≤ b ∧
    l.length ≤ 16000 ∧ ∀ n ∈ l, n.name.size ≤ 100 := by
  refine c_drawCodeOf s u _ trivial ((k_l01Source ha).mono ?_)
  rintro _ v1 ⟨p, rfl, hs⟩
  have hl := hs.1.1
  refine ⟨_, rfl, (k_nodes hs).mono ?_⟩
  rintro _ v2 ⟨x, b, l, rfl, acc, l0, l1⟩
  have := acc.fr
  exact ⟨x, rfl, x, b, l, rfl, acc.src.1, acc.own, by omega, l1, acc.nm⟩

end Go.Proofs.Ytkjddlgaldnbnaa
end

/-
  CONTRACTS: the code of nodes; whether code is right (the reference's side); copies.
-/
section
set_option linter.unusedVariables false
set_option linter.unusedSimpArgs false
namespace Go.Proofs.Ytkjddlgaldnbnaa

def rightC (l : List Opn) : Bool := okOps l && (depS l).isSome

theorem rightC_I (l : List Opn) : (depI l).isSome = rightC l := by
  unfold rightC depI depS
  by_cases h : okOps l = true
  · rw [if_pos h, h, Bool.true_and]
    have hok := h
    unfold okOps at hok
    simp only [Bool.and_eq_true, List.all_eq_true] at hok
    rw [work_same hok.2 _ _ _ (KI_init l.length)]
  · rw [if_neg h]
    have h : okOps l = false := by simpa using h
    rw [h]; rfl

theorem k_sCodeRight {u : View} {s : Sl} {l : List Opn} (ha : Arr encO 2 u s l) : Gives F_sCodeRight #[.slice s.p s.n s.c] u (.bool (rightC l)) := by
  have hn := ha.n
  have hbd := ha.bd
  refine CallsV.back (c_sCodeRight s u _ trivial ⟨fun h => ⟨Keep.refl u, ?_⟩, fun h => ?_⟩)
  · have h := of_decide_eq_true h
    unfold rightC okOps
    rw [decide_eq_false (p := l.length ≤ 1500) (by omega), Bool.false_and, Bool.false_and]
  have h := of_decide_eq_false h
  refine ⟨fun (x, v) => v = u ∧ 0 ≤ x ∧ x ≤ s.n ∧ (l.take x.toNat).all (opOk s.n) = true, fun (x, _) => (s.n - x).toNat, ⟨⟨rfl, by omega, by omega, by simp⟩, trivial⟩, ?_⟩
  rintro _ x v ⟨rfl, h0, h1, hall⟩
  refine ⟨fun hlt => ?_, fun hlt => ?_⟩
  · have hlt := of_decide_eq_true hlt
    obtain ⟨ad, o, e, ho, hcells⟩ := ha.op h0 hlt
    refine ⟨ad, e, h0, hlt, o.kind, o.num, hcells, (k_l13Op o s.n v).use ⟨_, rfl, fun hb => ⟨Keep.refl v, ?_⟩, fun hb => ⟨⟨⟨rfl, ?_, ?_, ?_⟩, ?_⟩, trivial⟩⟩⟩
    · have : l.all (opOk l.length) = false := by
        rw [List.all_eq_false]
        exact ⟨o, List.mem_of_getElem? ho, by rw [← hn]; simpa using hb⟩
      unfold rightC okOps
      rw [this, Bool.and_false, Bool.false_and]
    all_goals rw [wrap64 (by omega) (by omega)]
    · omega
    · omega
    · rw [show (x + 1).toNat = x.toNat + 1 from by omega, take_succ ho, List.all_append, hall]
      simpa using hb
    · show (s.n - (x + 1)).toNat < (s.n - x).toNat; omega
  · have hlt := of_decide_eq_false hlt
    rw [List.take_of_length_le (by omega), hn] at hall
    have hok : okOps l = true := by unfold okOps; rw [hall, Bool.and_true, decide_eq_true_eq]; omega
    refine (k_l13Depths ha hok).mono ?_
    rintro _ v1 ⟨x1, rfl, hk⟩
    exact ⟨x1, _, rfl, hk, by unfold rightC; rw [hok, Bool.true_and]⟩

theorem k_lwTree {u : View} {s : Sl} {l : List Nd} (ha : Arr encN 4 u s l) (hl : l.length ≤ 1000000) : CallsV Try.prog F_lwTree #[.slice s.p s.n s.c] u fun v u' => ∃ (x : Sl) (b : Int), v = .slice x.p x.n x.c ∧ Keep u u' ∧ OwnB encN 4 u' b x l ∧ (u.lim : Int) ≤ b := by
  refine c_lwTree s u _ trivial fun b hb => ?_
  have hk : Keep u (u.set b (.cells #[] 81 (0, 0))) := Keep.set hb
  have hnil : OwnB encN 4 (u.set b (.cells #[] 81 (0, 0))) b ⟨some ⟨b, 0, none⟩, 0, 0⟩ ([] : List Nd) := OwnB.nil
  refine hnil.concat encN_sz encN_one (ha.keep hk) rfl (by simp; omega) (by simp; omega) fun b' s' w ho hch hb' => ?_
  have := hk.1
  exact ⟨s', b', rfl, hk.chg1 hch (by simp; exact Out.lim (by omega)), by simpa using ho, by omega⟩

/-- what is said by 'right' of nodes -/
theorem rightL_parts {l : List Nd} (h : rightL l = true) : l.length ≤ 200 ∧ treeL l 20 0 = some l.length ∧ (varsL l).length ≤ 8 ∧ ∃ n, l[0]? = some n ∧ n.kind = 1 := by
  have h' := h
  unfold rightL at h
  simp only [Bool.and_eq_true, decide_eq_true_eq] at h
  obtain ⟨⟨h1, h2⟩, h3⟩ := h
  rw [tree_end] at h2
  cases hn : l[0]? with
  | none => rw [hn] at h2; simp only [optI] at h2; omega
  | some n =>
    rw [hn] at h2
    simp only at h2
    cases hw : wantL 98 n.kind with
    | false => rw [hw] at h2; simp only [optI] at h2; omega
    | true =>
      rw [hw] at h2
      simp only at h2
      refine ⟨h1, ?_, h3, n, rfl, by simpa [wantL] using hw⟩
      cases ht : treeL l 20 0 with
      | none => rw [ht] at h2; simp only [optI] at h2; omega
      | some e => rw [ht] at h2; simp only [optI] at h2; congr 1; omega

/-- a view that bounds more -/
def View.lift (u : View) (n : Nat) (h : u.lim ≤ n) : View := ⟨u.m, n, fun b o hm => Nat.lt_of_lt_of_le (u.lt b o hm) h⟩

theorem OwnB.move {α : Type} {enc : α → List Value} {sz : Nat} {u u' : View} {b : Int} {s : Sl} {l : List α} (h : OwnB enc sz u b s l) (hm : ∀ o, 0 ≤ b → u.m b.toNat = some o → u'.m b.toNat = some o) : OwnB enc sz u' b s l := by
  refine ⟨⟨h.own.n, h.own.le, h.own.blk.imp id fun ⟨c, arr, T, fz, hp, hmm, hr⟩ => ⟨c, arr, T, fz, hp, ?_, hr⟩⟩, h.blk⟩
  rcases h.blk with ⟨_, e⟩ | ⟨b0, e⟩
  · rw [e] at hp; cases hp
  · rw [e] at hp
    cases hp
    exact hm _ b0 hmm

theorem k_codeOf {u : View} {s : Sl} {l : List Nd} (ha : Arr encN 4 u s l) (hs : ∀ ad, s.p = some ad → ad.block < u.lim) (hsmall : ∀ n ∈ l, n.name.size ≤ 4611686018427387904) :
    CallsV Try.prog F_codeOf #[.slice s.p s.n s.c] u fun v u' => ∃ x : Sl, v = .slice x.p x.n x.c ∧ Keep u u' ∧ Arr encO 2 u' x (if rightL l = true then codeL l else []) := by
  refine c_codeOf s u _ trivial ((k_survey ha hs hsmall).mono ?_)
  rintro _ u1 ⟨x, d, rfl, hk, hx⟩
  refine ⟨x, d, _, rfl, fun h => ?_, fun h => ?_⟩
  · have h : rightL l = false := by simpa using h
    rw [if_neg (by rw [h]; decide)]
    exact ⟨⟨none, 0, 0⟩, rfl, hk, rfl, rfl, Nat.le_refl _, by decide⟩
  · have h : rightL l = true := by simpa using h
    obtain ⟨hl, ht, hv, n, hn, hkind⟩ := rightL_parts h
    obtain ⟨hown, hfr⟩ := hx h
    rw [if_pos h]
    intro b hb uc hlim hkeep hnone hblt hcell
    have hxa : Arr encS 1 u1 x (varsL l) := hown.arr (by rw [hown.n]; omega)
    have hkl : Keep u1 (u1.lift uc.lim hlim) := ⟨hlim, fun _ _ h => h⟩
    have hco : Co (u1.lift uc.lim hlim) uc b 56 s x l (varsL l) [] := by
      refine ⟨⟨Nat.le_refl _, hkeep⟩, hnone, ?_, ?_, ⟨none, 0, 0⟩, -1, hcell, OwnB.none (by omega), by omega, .inl (by omega)⟩
      · exact (ha.keep hk).keep hkl
      · exact hxa.keep hkl
    refine (k_node (names := varsL l) (fun n hn hk => (foldl_addV_mem l []).2 n hn hk) hv hl 20 0 l.length 0 uc [] ht (by omega) (by omega) hco (by simp; omega)).mono ?_
    rintro _ u2 ⟨rfl, hk2, _, _, _, so, b', hc2, ho2, hne, hout⟩
    refine ⟨_, rfl, s, x, so, hc2, fun u3 e1 e2 e3 => ⟨so, rfl, ?_, ?_⟩⟩
    · have hk3 : Keep u1 u3 := ⟨by have := hk2.1; rw [e1]; exact Nat.le_trans hlim this, fun c o hm => e2 c o o hm (hk2.2 c o hm)⟩
      exact hk.trans hk3
    · have hcode : ([] : List Opn) ++ (codeD l (varsL l) 20 0 ([] : List Opn).length 0).1.map (·.1) = codeL l := rfl
      rw [hcode] at ho2
      have ho3 : OwnB encO 2 u3 b' so (codeL l) := ho2.move fun o b0 hm => e3 _ o (by
        rcases hout with h | h
        · omega
        · have h : (uc.lim : Int) ≤ b' := h
          omega) hm
      have := (code_right ht hl hv ⟨n, hn, hkind⟩).2.2.2.2.1
      exact ho3.arr (by omega)

end Go.Proofs.Ytkjddlgaldnbnaa
end

/-
  CONTRACTS: the law FnCode.
-/
section
set_option linter.unusedVariables false
set_option linter.unusedSimpArgs false
namespace Go.Proofs.Ytkjddlgaldnbnaa

theorem countP_take {α : Type} {l : List α} {q : α → Bool} {i : Nat} {x : α} (h : l[i]? = some x) : (l.take (i + 1)).countP q = (l.take i).countP q + if q x = true then 1 else 0 := by
  rw [take_succ h, List.countP_append]; simp [List.countP_cons]

theorem k_fnCode {u : View} {s : Sl} {code : List Int} (ha : Arr encB 1 u s code) : CallsV Try.prog F_fnCode #[.slice s.p s.n s.c] u fun v u' => v = .bool true ∧ Keep u u' := by
  refine c_fnCode s u _ trivial ⟨fun _ => ⟨rfl, Keep.refl u⟩, fun _ => (k_drawCodeOf ha).mono ?_⟩
  rintro _ u1 ⟨x, b, l, rfl, hk1, ho1, hb1, hl, hnm⟩
  have hxn := ho1.n
  have hla := ho1.arr (by omega)
  refine ⟨x, rfl, (k_lwTree hla (by omega)).mono ?_⟩
  rintro _ u2 ⟨y, b2, rfl, hk2, ho2, hb2⟩
  have hlt2 := ho2.lt
  have hsm : ∀ n ∈ l, n.name.size ≤ 4611686018427387904 := fun n hn => by have := hnm n hn; omega
  refine ⟨y, rfl, (k_codeOf (ho2.arr (by omega)) (fun ad had => ?_) hsm).mono ?_⟩
  · rcases ho2.blk with ⟨_, e⟩ | ⟨b0, e⟩
    · rw [e] at had; cases had
    · rw [e] at had; cases had; show b2.toNat < _; omega
  rintro _ u3 ⟨z, rfl, hk3, hz⟩
  have hk13 : Keep u1 u3 := hk2.trans hk3
  have hku3 : Keep u u3 := hk1.trans hk13
  have hzn := hz.n
  refine ⟨z, rfl, (k_nodesRight (hla.keep hk13) hsm).use ⟨_, rfl, fun h => ⟨?_, hku3⟩, fun h => ?_⟩⟩
  · have h : rightL l = false := by simpa using h
    rw [if_neg (by rw [h]; decide)] at hzn
    rw [hzn]; rfl
  have h : rightL l = true := by simpa using h
  rw [if_pos h] at hz hzn
  obtain ⟨hl2, ht, hv, n0, hn0, hkind⟩ := rightL_parts h
  obtain ⟨hgood, hall, hops, htick, h600, hdep, h0⟩ := code_right ht hl2 hv ⟨n0, hn0, hkind⟩
  have hokc : okOps (codeL l) = true := by
    unfold okOps
    rw [Bool.and_eq_true, decide_eq_true_eq, List.all_eq_true]
    exact ⟨by omega, hops⟩
  have hdI : depI (codeL l) = some (depL l) := by
    unfold depI
    rw [if_pos hokc]
    exact work_all hgood hall (by omega)
  have hright : rightC (codeL l) = true := by rw [← rightC_I, hdI]; rfl
  have hlen : (depL l).length = (codeL l).length + 1 := hgood.len
  have hdeps : depsL (codeL l) = (depL l).take (codeL l).length := by unfold depsL; rw [hdI]
  have hdl : (depsL (codeL l)).length = (codeL l).length := by rw [hdeps, List.length_take]; omega
  have hcnt : l.length ≤ (codeL l).length := by rw [← htick]; exact List.countP_le_length
  have hd0 : ∀ d ∈ depsL (codeL l), 0 ≤ d ∧ d ≤ 20 := fun d hd => by rw [hdeps] at hd; exact hdep d (List.mem_of_mem_take hd)
  have hpos : 0 < (codeL l).length := by
    rcases Nat.eq_zero_or_pos (codeL l).length with h' | h'
    · rw [List.getElem?_eq_none (by omega)] at h0; cases h0
    · exact h'
  refine ⟨fun v => v = u3, ⟨fun _ => ⟨fun _ => (k_codeRight hz).use ⟨_, rfl, fun _ => (k_sCodeRight hz).use ⟨_, rfl, fun h' => ?_, fun _ => ⟨rfl, trivial⟩⟩, fun h' => ?_⟩, fun h' => ?_⟩, fun h' => ?_⟩, ?_⟩
  · rw [hright] at h'; cases h'
  · rw [rightC_I, hright] at h'; cases h'
  · have := of_decide_eq_true h'; omega
  · have := of_decide_eq_true h'; omega
  rintro _ v rfl
  refine (k_codeDepths hz).mono ?_
  rintro _ u4 ⟨d, rfl, hk4, hd⟩
  have hdn := hd.n
  have hz4 := hz.keep hk4
  have hku4 := hku3.trans hk4
  refine ⟨d, rfl, fun (m, i, w) => w = u4 ∧ 0 ≤ i ∧ i ≤ z.n ∧ m = ((codeL l).take i.toNat).countP (fun o => o.kind == 1), fun (_, i, _) => (z.n - i).toNat, ⟨⟨rfl, by omega, by omega, by simp⟩, trivial⟩, ?_⟩
  rintro _ m i w ⟨rfl, i0, i1, rfl⟩
  have hle := List.countP_le_length (p := fun o : Opn => o.kind == 1) (l := (codeL l).take i.toNat)
  have hle2 : ((codeL l).take i.toNat).length ≤ (codeL l).length := by simp; omega
  refine ⟨fun hlt => ?_, fun hlt => ?_⟩
  · have hlt := of_decide_eq_true hlt
    obtain ⟨ad, o, e, ho, hc⟩ := hz4.op i0 hlt
    have hi1 : (i + 1).toNat = i.toNat + 1 := by omega
    refine ⟨ad, e, i0, hlt, o.kind, hc.1, fun hq => ?_, fun hq => ?_⟩
    · rw [wrap64 (z := i + 1) (by omega) (by omega), wrap64 (by omega) (by omega)]
      refine ⟨⟨⟨rfl, by omega, by omega, ?_⟩, ?_⟩, trivial⟩
      · rw [hi1, countP_take ho, if_pos hq]; omega
      · show (z.n - (i + 1)).toNat < (z.n - i).toNat; omega
    · rw [wrap64 (z := i + 1) (by omega) (by omega)]
      refine ⟨⟨⟨rfl, by omega, by omega, ?_⟩, ?_⟩, trivial⟩
      · rw [hi1, countP_take ho, if_neg (by rw [hq]; decide)]; omega
      · show (z.n - (i + 1)).toNat < (z.n - i).toNat; omega
  have hlt := of_decide_eq_false hlt
  have hm : ((codeL l).take i.toNat).countP (fun o => o.kind == 1) = l.length := by rw [List.take_of_length_le (by omega), htick]
  rw [hm]
  refine ⟨fun h' => ?_, fun _ => ⟨fun (j, w') => w' = w ∧ 0 ≤ j ∧ j ≤ d.n, fun (j, _) => (d.n - j).toNat, ⟨⟨rfl, by omega, by omega⟩, trivial⟩, ?_⟩⟩
  · have : ¬ (d.n : Int) = z.n := by simpa using h'
    omega
  rintro _ j w' ⟨rfl, j0, j1⟩
  refine ⟨fun hlt => ?_, fun hlt => ?_⟩
  · have hlt := of_decide_eq_true hlt
    obtain ⟨ad, q, e, hq, hc⟩ := hd.one (c := fun n => .int .i64 n) (fun _ => rfl) j0 hlt
    obtain ⟨q0, q1⟩ := hd0 q (List.mem_of_getElem? hq)
    refine ⟨ad, e, j0, hlt, q, hc, fun _ => ⟨ad, e, j0, hlt, q, hc, fun h' => ?_, fun _ => ⟨⟨⟨rfl, ?_, ?_⟩, ?_⟩, trivial⟩⟩, fun h' => ?_⟩
    · have := of_decide_eq_true h'; omega
    · rw [wrap64 (by omega) (by omega)]; omega
    · rw [wrap64 (by omega) (by omega)]; omega
    · show (d.n - IntKind.wrap .i64 (j + 1)).toNat < (d.n - j).toNat
      rw [wrap64 (by omega) (by omega)]; omega
    · have := of_decide_eq_true h'; omega
  · obtain ⟨ad, o, e, ho, hc⟩ := hz4.op (i := 0) (by omega) (by omega)
    simp only [Int.toNat_zero] at ho
    rw [h0] at ho
    cases ho
    obtain ⟨ad2, q, e2, hq, hc2⟩ := hd.one (c := fun n => .int .i64 n) (fun _ => rfl) (i := 0) (by omega) (by omega)
    simp only [Int.toNat_zero] at hq
    have hq0 : q = 0 := by
      have := hgood.zero
      rw [hdeps, List.getElem?_take, if_pos hpos, this] at hq
      cases hq; rfl
    subst hq0
    refine ⟨fun _ => ⟨ad, e, by decide, by omega, 1, hc.1, fun _ => ⟨ad2, e2, by decide, by omega, 0, hc2, fun _ => (k_opsUsed hz4).use ⟨_, rfl, ?_, hku4⟩, fun h' => ?_⟩, fun h' => ?_⟩, fun h' => ?_⟩
    · have hc : (depsL (codeL l)).countP (fun d => decide (d ≥ 0)) = (codeL l).length := by
        rw [← hdl, List.countP_eq_length]
        exact fun d hd => decide_eq_true (hd0 d hd).1
      rw [hc, ← hzn]; simp
    · exact absurd h' (by decide)
    · exact absurd h' (by decide)
    · exfalso
      have : ¬ (l.length : Int) = x.n := by simpa using h'
      omega

end Go.Proofs.Ytkjddlgaldnbnaa
end
