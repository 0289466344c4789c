import Derived.Test.YtkjddlgaldnbnaaCB
import Derived.Test.YtkjddlgaldnbnaaQA
import Derived.Test.YtkjddlgaldnbnaaLA
import Derived.Test.YtkjddlgaldnbnaaBB

/-
  CONTRACTS: the coder: its functions that add an op, tell the next place, mend a jump.
-/
section
set_option linter.unusedVariables false
set_option linter.unusedSimpArgs false
namespace Go.Proofs.Ytkjddlgaldnbnaa

def encO (o : Opn) : List Value := [.int .i64 o.kind, .int .i64 o.num]
theorem encO_sz (x : Opn) : (encO x).length = 2 := rfl
def Opn.val (o : Opn) : Value := .agg #[.int .i64 o.kind, .int .i64 o.num]

theorem Keep.setN {u0 v : View} {p : Nat} {o : Obj} (h : Keep u0 v) (hp : u0.m p = none) : Keep u0 (v.set p o) :=
  ⟨Nat.le_trans h.1 (by simp only [View.set]; omega), fun b o' hm => by
    have hne : b ≠ p := fun e => by subst e; rw [hp] at hm; cases hm
    rw [View.set_ne _ _ hne]; exact h.2 b o' hm⟩

/-- the coder at a place of memory -/
def Co (u0 u : View) (p : Nat) (T : TypeId) (sn sm : Sl) (l : List Nd) (names : List ByteArray) (ops : List Opn) : Prop :=
  Keep u0 u ∧ u0.m p = none ∧ Arr encN 4 u0 sn l ∧ Arr encS 1 u0 sm names ∧ ∃ (so : Sl) (b : Int), u.m p = some (.cells #[.slice sn.p sn.n sn.c, .slice sm.p sm.n sm.c, .slice so.p so.n so.c] T (0, 0)) ∧
    OwnB encO 2 u b so ops ∧ b ≠ p ∧ (b < 0 ∨ (u0.lim : Int) ≤ b)

theorem Out.of {u : View} {b : Int} (h : b < 0 ∨ (u.lim : Int) ≤ b) : Out u b := h.elim Out.neg Out.lim

theorem k_sizeOp (s : Sl) (u : View) : Gives F_sizeOp #[.slice s.p s.n s.c] u (.int .i64 s.n) := c_sizeOp s u _ trivial ⟨rfl, rfl⟩

section
variable {u0 u : View} {p : Nat} {T : TypeId} {sn sm : Sl} {l : List Nd} {names : List ByteArray} {ops : List Opn}

theorem k_here (h : Co u0 u p T sn sm l names ops) : Gives F_here #[.pointer (some ⟨p, 0, none⟩)] u (.int .i64 ops.length) := by
  obtain ⟨hk, hp0, hn, hm, so, b, hc, ho, hb, hout⟩ := h
  refine c_here ⟨p, 0, none⟩ u _ trivial ⟨so, cells_get hc rfl, (k_sizeOp so u).use ⟨_, rfl, rfl, ?_⟩⟩
  rw [ho.n]

theorem k_add (h : Co u0 u p T sn sm l names ops) (hlen : ops.length ≤ 100000) (kind num : Int) : CallsV Try.prog F_add #[.pointer (some ⟨p, 0, none⟩), .int .i64 kind, .int .i64 num] u fun v u' =>
    v = .int .i64 ops.length ∧ Co u0 u' p T sn sm l names (ops ++ [⟨kind, num⟩]) := by
  obtain ⟨hk, hp0, hn, hm, so, b, hc, ho, hb, hout⟩ := h
  have hpl := u.lt _ _ hc
  have hbl := ho.lt
  refine c_add ⟨p, 0, none⟩ kind num u _ trivial ⟨so, cells_get hc rfl, ?_⟩
  refine ho.push encO_sz ⟨kind, num⟩ rfl rfl rfl rfl rfl (by omega) (by omega) fun b' s' w ho' hch hb' => ?_
  have hn' := ho'.n
  have hw : w.m p = _ := hch.m hc (by simp; omega)
  have hb2 := ho'.lt
  refine ⟨_, _, _, hw, .inl (Nat.le_refl _), rfl, by simp [Addr.add], s', cells_get (View.set_self _ _ _) rfl, ?_, (hk.chg1 hch (by simp; exact Out.of hout)).setN hp0, hp0, hn, hm, s', b', View.set_self _ _ _, ?_, ?_, ?_⟩
  · rw [hn', wrap64 (by simp <;> omega) (by simp <;> omega)]; congr 1; simp
  · exact ho'.chg (B := [(p : Int)]) ((Chg.refl _ _).set (.inl (by simp [Addr.add]))) (by simp; omega)
  · omega
  · rcases hb' with rfl | hb'
    · exact hout
    · right; have := hk.1; omega

/-- a jump is mended -/
theorem Co.patch (h : Co u0 u p T sn sm l names ops) {jn : Nat} {o : Opn} (hj : ops[jn]? = some o) :
    ∃ (s : Sl) (ad : Addr) (c : Array Value) (T' : TypeId) (fz : Nat × Nat), View.cell u (Addr.add ⟨p, 0, none⟩ 2) = some (Value.slice s.p s.n s.c) ∧ s.p = some ad ∧ 0 ≤ (jn : Int) ∧ (jn : Int) < (s.n : Int) ∧
      View.m u (Addr.block (Addr.add (Addr.add ad (Int.toNat (jn : Int) * 2)) 1)) = some (.cells c T' fz) ∧ fzOK fz c.size ∧
      Addr.spot (Addr.add (Addr.add ad (Int.toNat (jn : Int) * 2)) 1) = none ∧ Addr.off (Addr.add (Addr.add ad (Int.toNat (jn : Int) * 2)) 1) + 1 ≤ c.size ∧
      Co u0 (View.set u (Addr.block (Addr.add (Addr.add ad (Int.toNat (jn : Int) * 2)) 1)) (.cells (List.toArray (List.set (Array.toList c) (Addr.off (Addr.add (Addr.add ad (Int.toNat (jn : Int) * 2)) 1)) (Value.int .i64 ops.length))) T' fz)) p T sn sm l names (ops.set jn ⟨o.kind, ops.length⟩) := by
  obtain ⟨hk, hp0, hn, hm, so, b, hc, ho, hb, hout⟩ := h
  have hlt : jn < ops.length := by
    rcases Nat.lt_or_ge jn ops.length with h' | h'
    · exact h'
    · rw [List.getElem?_eq_none h'] at hj; cases hj
  have hpl := u.lt _ _ hc
  obtain ⟨b0, c, T', fz, hmb, hfz, hcs, ht, hp⟩ := ho.cell encO_sz hj
  obtain ⟨c', T'', fz', g1, g2, g3, g4, g5⟩ := ho.put encO_sz hj (k := 1) (vs := [.int .i64 ops.length]) (y := ⟨o.kind, ops.length⟩) (by simp) (by simp) rfl hp (K := fun w => Co u0 w p T sn sm l names (ops.set jn ⟨o.kind, ops.length⟩)) fun w ho' hch => ⟨hk.chg1 hch (by simp; exact Out.of hout), hp0, hn, hm, so, b, hch.m hc (by simp; omega), ho', hb, hout⟩
  exact ⟨so, _, c', T'', fz', cells_get hc rfl, hp, by omega, by rw [ho.n]; omega, g1, g2, g3, g4, g5⟩

end
end Go.Proofs.Ytkjddlgaldnbnaa
end

/-
  CONTRACTS: the coder: the code of a node.
-/
section
set_option linter.unusedVariables false
set_option linter.unusedSimpArgs false
namespace Go.Proofs.Ytkjddlgaldnbnaa

theorem k_plainOp (k : Int) (u : View) : Gives F_plainOp #[.int .i64 k] u (.int .i64 (plainL k)) := by
  refine c_plainOp k u _ trivial ?_
  unfold W_plainOp plainL
  simp only [beq_iff_eq, beq_eq_false_iff_ne, ne_eq]
  repeat' (first | (refine ⟨fun h => ?_, fun h => ?_⟩; rotate_left) | done)
  all_goals exact ⟨trivial, by simp [*]⟩

theorem k_moveKind (t : ByteArray) (u : View) : CallsV Try.prog F_moveKind #[.string t] u fun v u' => v = .int .i64 (idxI t movesL + 1) ∧ Keep u u' := by
  refine c_moveKind t u _ trivial ((k_moves u).mono ?_)
  rintro _ u1 ⟨s, rfl, hk, ha⟩
  refine ⟨s, rfl, (k_indexS ha t).use ⟨_, rfl, ?_, hk⟩⟩
  have : -1 ≤ idxI t movesL ∧ idxI t movesL ≤ 10 := by
    unfold idxI
    split
    · rename_i h
      have h1 := idxI_lt h
      unfold idxI at h1
      rw [if_pos h] at h1
      have : movesL.length = 10 := rfl
      omega
    · omega
  rw [wrap64 (by omega) (by omega)]

end Go.Proofs.Ytkjddlgaldnbnaa
end

/-
  CONTRACTS: the coder: the code of a node, concluded.
-/
section
set_option linter.unusedVariables false
set_option linter.unusedSimpArgs false
namespace Go.Proofs.Ytkjddlgaldnbnaa

theorem set_at {α : Type} (X Z : List α) (y y' : α) : (X ++ y :: Z).set X.length y' = X ++ y' :: Z := by
  rw [List.set_append_right _ _ (Nat.le_refl _), Nat.sub_self]; rfl

theorem get_at {α : Type} (X Z : List α) (y : α) : (X ++ y :: Z)[X.length]? = some y := by
  rw [List.getElem?_append_right (Nat.le_refl _), Nat.sub_self]; rfl

theorem Co.keep {u0 u u' : View} {p : Nat} {T : TypeId} {sn sm : Sl} {l : List Nd} {names : List ByteArray} {ops : List Opn} (h : Co u0 u p T sn sm l names ops) (g : Keep u u') : Co u0 u' p T sn sm l names ops := by
  obtain ⟨hk, hp0, hn, hm, so, b, hc, ho, hb, hout⟩ := h
  exact ⟨hk.trans g, hp0, hn, hm, so, b, g.2 _ _ hc, ho.keep g, hb, hout⟩

theorem kids_max {n : Nd} (h : okN n = true) : n.kids ≤ 200 := by
  obtain ⟨_, _, k2, k3, _⟩ := okN_parts h
  have : (kidsL n.kind).2 ≤ 200 := by unfold kidsL; repeat' split
                                      all_goals simp
  omega

section
variable {u0 : View} {p : Nat} {T : TypeId} {sn sm : Sl} {l : List Nd} {names : List ByteArray}

theorem k_node (hnm : ∀ n ∈ l, (n.kind = 2 ∨ n.kind = 12) → n.name ∈ names) (h8 : names.length ≤ 8) (hl : l.length ≤ 200) : ∀ (f at_ e : Nat) (d : Int) (u : View) (ops : List Opn), treeL l f at_ = some e → 0 ≤ d → d + f ≤ 20 →
    Co u0 u p T sn sm l names ops → ops.length + 3 * (l.length - at_) ≤ 700 → CallsV Try.prog F_node #[.pointer (some ⟨p, 0, none⟩), .int .i64 at_] u fun v u' =>
      v = .int .i64 e ∧ Co u0 u' p T sn sm l names (ops ++ (codeD l names f at_ ops.length d).1.map (·.1)) := by
  have hs := codeD_stat (l := l) hnm h8 (many := 0)
  intro f
  induction f with
  | zero => intro at_ e d u ops h; cases h
  | succ f ih =>
    intro at_ e d u ops h hd0 hd1 hco hlen
    obtain ⟨n, f', hf, hat, hok, hk⟩ := treeL_pos h
    have : f = f' := by omega
    subst this
    have hatl : at_ < l.length := by
      rcases Nat.lt_or_ge at_ l.length with h' | h'
      · exact h'
      · rw [List.getElem?_eq_none h'] at hat; cases hat
    have hle : ∀ {a e : Nat}, a ≤ l.length → treeL l f a = some e → a < e ∧ e ≤ l.length := fun ha ht => ⟨treeL_lt _ _ _ ht, (treeL_le _ _ _ ha ht).2⟩
    have hco0 := hco
    obtain ⟨hk0, hp0, hn, hm, so, b, hc, ho, hb, hout⟩ := hco
    have hnn := hn.n
    obtain ⟨ad, n', e1, hn', hcells⟩ := (hn.keep hk0).node (i := (at_ : Int)) (by omega) (by omega)
    have hn' : l[at_]? = some n' := by simpa using hn'
    rw [hat] at hn'
    cases hn'
    generalize htg : (codeD l names (f + 1) at_ ops.length d).1.map (·.1) = tgt
    have hkp := kids_pos hok
    have hkm := kids_max hok
    refine c_node ⟨p, 0, none⟩ at_ u _ trivial ⟨sn, cells_get hc rfl, ad, e1, by omega, by omega, n.kind, n.num, n.name, n.kids, hcells, fun b' hb' => ?_⟩
    refine (k_add hco0 (by omega) 1 0).mono ?_
    rintro _ u1 ⟨rfl, hco1⟩
    have w1 : IntKind.wrap .i64 ((at_ : Int) + 1) = ((at_ + 1 : Nat) : Int) := by rw [wrap64 (by omega) (by omega)]; omega
    rw [w1]
    refine ⟨_, rfl, fun h3 => ?_, fun h3 => ⟨fun h4 => ?_, fun h4 => ?_⟩⟩
    · have h3 : n.kind = 3 := by simpa using h3
      have hkids := kids_if hok h3
      obtain ⟨c, hc2⟩ : ∃ c, n.kids.toNat = c + 1 + 1 := ⟨n.kids.toNat - 2, by omega⟩
      rw [hc2] at hk
      obtain ⟨m0, e1, hm0, hk0', ht0, hk⟩ := kidsT_one hk
      obtain ⟨m1, e2, hm1, hk1', ht1, hk⟩ := kidsT_one hk
      have g0 := hle (by omega) ht0
      have g1 := hle (by omega) ht1
      refine (ih (at_ + 1) e1 d u1 _ ht0 hd0 (by omega) hco1 (by simp; omega)).mono ?_
      rintro _ u2 ⟨rfl, hco2⟩
      simp only [List.length_append, List.length_cons, List.length_nil, Nat.zero_add] at hco2
      obtain ⟨sa1, sa2, _⟩ := hs f (at_ + 1) (ops.length + 1) d e1 ht0 hd0 (by omega)
      simp only [codeD, hat, if_pos h3] at htg
      generalize codeD l names f (at_ + 1) (ops.length + 1) d = pa at *
      subst sa1
      refine ⟨_, rfl, (k_add hco2 (by simp; omega) 12 0).mono ?_⟩
      rintro _ u3 ⟨rfl, hco3⟩
      refine ⟨_, rfl, (ih pa.2 e2 d u3 _ ht1 hd0 (by omega) hco3 (by simp; omega)).mono ?_⟩
      rintro _ u4 ⟨rfl, hco4⟩
      simp only [List.length_append, List.length_cons, List.length_nil, Nat.zero_add, List.length_map] at hco4
      have el : ops.length + 1 + pa.1.length + 1 = ops.length + pa.1.length + 2 := by omega
      rw [el] at hco4
      obtain ⟨sb1, sb2, _⟩ := hs f pa.2 (ops.length + pa.1.length + 2) d e2 ht1 hd0 (by omega)
      generalize codeD l names f pa.2 (ops.length + pa.1.length + 2) d = pb at *
      subst sb1
      refine ⟨_, rfl, fun (x, j, v) => x = (e : Int) ∧ ∃ (ops' : List Opn) (jn : Nat) (o : Opn), j = jn ∧ ops'[jn]? = some o ∧ Co u0 v p T sn sm l names ops' ∧ ops'.set jn ⟨o.kind, ops'.length⟩ = ops ++ tgt, ⟨fun hk3 => ?_, fun hk3 => ⟨?_, rfl, trivial⟩⟩, ?_⟩
      · have hk3 : n.kids = 3 := by simpa using hk3
        have : c = 1 := by omega
        subst this
        obtain ⟨m2, e3, hm2, hk2', ht2, hk⟩ := kidsT_one (c := 0) hk
        simp only [kidsT] at hk
        cases hk
        have g2 := hle (by omega) ht2
        refine (k_add hco4 (by simp; omega) 11 0).mono ?_
        rintro _ u5 ⟨rfl, hco5⟩
        refine ⟨_, rfl, ?_⟩
        have hj : (ops ++ [⟨1, 0⟩] ++ pa.1.map (·.1) ++ [⟨12, 0⟩] ++ pb.1.map (·.1) ++ [(⟨11, 0⟩ : Opn)] : List Opn)[(ops ++ [(⟨1, 0⟩ : Opn)] ++ pa.1.map (·.1) : List Opn).length]? = some ⟨12, 0⟩ := by
          have := get_at (ops ++ [(⟨1, 0⟩ : Opn)] ++ pa.1.map (·.1)) (pb.1.map (·.1) ++ [(⟨11, 0⟩ : Opn)]) ⟨12, 0⟩
          simp
        obtain ⟨so', ad', c', T', fz', b1, b2, b3, b4, b5, b6, b7, b8, hcow⟩ := hco5.patch hj
        refine ⟨so', b1, (k_here hco5).use ⟨_, rfl, Nat.le_refl _, fun _ _ h => h, ad', b2, b3, b4, c', T', fz', b5, b6, b7, b8, ?_⟩⟩
        have hset : (ops ++ [⟨1, 0⟩] ++ pa.1.map (·.1) ++ [⟨12, 0⟩] ++ pb.1.map (·.1) ++ [(⟨11, 0⟩ : Opn)] : List Opn).set (ops ++ [(⟨1, 0⟩ : Opn)] ++ pa.1.map (·.1) : List Opn).length ⟨12, ((ops ++ [⟨1, 0⟩] ++ pa.1.map (·.1) ++ [⟨12, 0⟩] ++ pb.1.map (·.1) ++ [(⟨11, 0⟩ : Opn)] : List Opn).length : Nat)⟩ =
            ops ++ [⟨1, 0⟩] ++ pa.1.map (·.1) ++ [⟨12, (ops.length + pa.1.length + pb.1.length + 2 + 1 : Nat)⟩] ++ pb.1.map (·.1) ++ [(⟨11, 0⟩ : Opn)] := by
          have hlen : (ops ++ [⟨1, 0⟩] ++ pa.1.map (·.1) ++ [⟨12, 0⟩] ++ pb.1.map (·.1) ++ [(⟨11, 0⟩ : Opn)] : List Opn).length = ops.length + pa.1.length + pb.1.length + 2 + 1 := by simp; omega
          rw [hlen]
          have := set_at (ops ++ [(⟨1, 0⟩ : Opn)] ++ pa.1.map (·.1)) (pb.1.map (·.1) ++ [(⟨11, 0⟩ : Opn)]) ⟨12, 0⟩ ⟨12, (ops.length + pa.1.length + pb.1.length + 2 + 1 : Nat)⟩
          simp
        rw [hset] at hcow
        refine (ih pb.2 e d _ _ ht2 hd0 (by omega) hcow (by simp; omega)).mono ?_
        rintro _ u6 ⟨rfl, hco6⟩
        simp only [List.length_append, List.length_cons, List.length_nil, Nat.zero_add, List.length_map] at hco6
        have el2 : ops.length + 1 + pa.1.length + 1 + pb.1.length + 1 = ops.length + pa.1.length + pb.1.length + 2 + 1 := by omega
        rw [el2] at hco6
        generalize codeD l names f pb.2 (ops.length + pa.1.length + pb.1.length + 2 + 1) d = pc at *
        refine ⟨_, rfl, ⟨rfl, _, (ops ++ [⟨1, 0⟩] ++ pa.1.map (·.1) ++ [⟨12, 0⟩] ++ pb.1.map (·.1) : List Opn).length, ⟨11, 0⟩, rfl, ?_, hco6, ?_⟩, rfl, trivial⟩
        · have := get_at (ops ++ [(⟨1, 0⟩ : Opn)] ++ pa.1.map (·.1) ++ [⟨12, (ops.length + pa.1.length + pb.1.length + 2 + 1 : Nat)⟩] ++ pb.1.map (·.1)) (pc.1.map (·.1)) ⟨11, 0⟩
          simp
        · rw [← htg, if_pos hk3]
          have hlen : (ops ++ [⟨1, 0⟩] ++ pa.1.map (·.1) ++ [⟨12, (ops.length + pa.1.length + pb.1.length + 2 + 1 : Nat)⟩] ++ pb.1.map (·.1) ++ [(⟨11, 0⟩ : Opn)] ++ pc.1.map (·.1) : List Opn).length = ops.length + pa.1.length + pb.1.length + 2 + 1 + pc.1.length := by simp; omega
          rw [hlen]
          have := set_at (ops ++ [(⟨1, 0⟩ : Opn)] ++ pa.1.map (·.1) ++ [⟨12, (ops.length + pa.1.length + pb.1.length + 2 + 1 : Nat)⟩] ++ pb.1.map (·.1)) (pc.1.map (·.1)) ⟨11, 0⟩ ⟨11, (ops.length + pa.1.length + pb.1.length + 2 + 1 + pc.1.length : Nat)⟩
          simp
      · have hk3 : ¬ n.kids = 3 := by simpa using hk3
        have : c = 0 := by omega
        subst this
        simp only [kidsT] at hk
        cases hk
        refine ⟨rfl, _, (ops ++ [⟨1, 0⟩] ++ pa.1.map (·.1) : List Opn).length, ⟨12, 0⟩, rfl, ?_, hco4, ?_⟩
        · have := get_at (ops ++ [(⟨1, 0⟩ : Opn)] ++ pa.1.map (·.1)) (pb.1.map (·.1)) ⟨12, 0⟩
          simp
        · rw [← htg, if_neg hk3]
          have hlen : (ops ++ [⟨1, 0⟩] ++ pa.1.map (·.1) ++ [⟨12, 0⟩] ++ pb.1.map (·.1) : List Opn).length = ops.length + pa.1.length + pb.1.length + 2 := by simp; omega
          rw [hlen]
          have := set_at (ops ++ [(⟨1, 0⟩ : Opn)] ++ pa.1.map (·.1)) (pb.1.map (·.1)) ⟨12, 0⟩ ⟨12, (ops.length + pa.1.length + pb.1.length + 2 : Nat)⟩
          simp
      · rintro _ x j v ⟨rfl, ops', jn, o, rfl, hjo, hcov, hset⟩
        obtain ⟨so', ad', c', T', fz', b1, b2, b3, b4, b5, b6, b7, b8, hcow⟩ := hcov.patch hjo
        exact ⟨so', b1, (k_here hcov).use ⟨_, rfl, Nat.le_refl _, fun _ _ h => h, ad', b2, b3, b4, c', T', fz', b5, b6, b7, b8, rfl, by rw [← hset]; exact hcow⟩⟩
    · have h3 : ¬ n.kind = 3 := by simpa using h3
      have h4 : n.kind = 4 := by simpa using h4
      rw [kids_while hok h4] at hk
      obtain ⟨m0, e1, hm0, hk0', ht0, hk⟩ := kidsT_one (c := 1) hk
      obtain ⟨m1, e2, hm1, hk1', ht1, hk⟩ := kidsT_one (c := 0) hk
      simp only [kidsT] at hk
      cases hk
      have g0 := hle (by omega) ht0
      have g1 := hle (by omega) ht1
      refine (k_here hco1).use ⟨_, rfl, ?_⟩
      refine (ih (at_ + 1) e1 d u1 _ ht0 hd0 (by omega) hco1 (by simp; omega)).mono ?_
      rintro _ u2 ⟨rfl, hco2⟩
      simp only [List.length_append, List.length_cons, List.length_nil, Nat.zero_add] at hco2
      obtain ⟨sa1, sa2, _⟩ := hs f (at_ + 1) (ops.length + 1) d e1 ht0 hd0 (by omega)
      simp only [codeD, hat, if_neg h3, if_pos h4] at htg
      generalize codeD l names f (at_ + 1) (ops.length + 1) d = pa at *
      subst sa1
      refine ⟨_, rfl, (k_add hco2 (by simp; omega) 12 0).mono ?_⟩
      rintro _ u3 ⟨rfl, hco3⟩
      refine ⟨_, rfl, (ih pa.2 e d u3 _ ht1 hd0 (by omega) hco3 (by simp; omega)).mono ?_⟩
      rintro _ u4 ⟨rfl, hco4⟩
      simp only [List.length_append, List.length_cons, List.length_nil, Nat.zero_add, List.length_map] at hco4
      have el : ops.length + 1 + pa.1.length + 1 = ops.length + pa.1.length + 2 := by omega
      rw [el] at hco4
      obtain ⟨sb1, sb2, _⟩ := hs f pa.2 (ops.length + pa.1.length + 2) d e ht1 hd0 (by omega)
      generalize codeD l names f pa.2 (ops.length + pa.1.length + 2) d = pb at *
      refine ⟨_, rfl, (k_add hco4 (by simp; omega) 11 _).mono ?_⟩
      rintro _ u5 ⟨rfl, hco5⟩
      refine ⟨_, rfl, ?_⟩
      have hj : (ops ++ [⟨1, 0⟩] ++ pa.1.map (·.1) ++ [⟨12, 0⟩] ++ pb.1.map (·.1) ++ [(⟨11, ((ops ++ [(⟨1, 0⟩ : Opn)] : List Opn).length : Nat)⟩ : Opn)])[(ops ++ [(⟨1, 0⟩ : Opn)] ++ pa.1.map (·.1) : List Opn).length]? = some ⟨12, 0⟩ := by
        have := get_at (ops ++ [(⟨1, 0⟩ : Opn)] ++ pa.1.map (·.1)) (pb.1.map (·.1) ++ [(⟨11, ((ops ++ [(⟨1, 0⟩ : Opn)] : List Opn).length : Nat)⟩ : Opn)]) ⟨12, 0⟩
        simp
      obtain ⟨so', ad', c', T', fz', b1, b2, b3, b4, b5, b6, b7, b8, hcow⟩ := hco5.patch hj
      refine ⟨so', b1, (k_here hco5).use ⟨_, rfl, Nat.le_refl _, fun _ _ h => h, ad', b2, b3, b4, c', T', fz', b5, b6, b7, b8, rfl, ?_⟩⟩
      rw [← htg]
      have hlen : (ops ++ [⟨1, 0⟩] ++ pa.1.map (·.1) ++ [⟨12, 0⟩] ++ pb.1.map (·.1) ++ [(⟨11, ((ops ++ [(⟨1, 0⟩ : Opn)] : List Opn).length : Nat)⟩ : Opn)] : List Opn).length = ops.length + pa.1.length + pb.1.length + 3 := by simp; omega
      rw [hlen] at hcow ⊢
      have := set_at (ops ++ [(⟨1, 0⟩ : Opn)] ++ pa.1.map (·.1)) (pb.1.map (·.1) ++ [(⟨11, ((ops ++ [(⟨1, 0⟩ : Opn)] : List Opn).length : Nat)⟩ : Opn)]) ⟨12, 0⟩ ⟨12, (ops.length + pa.1.length + pb.1.length + 3 : Nat)⟩
      have e2 : (ops ++ [⟨1, 0⟩] ++ pa.1.map (·.1) ++ [⟨12, 0⟩] ++ pb.1.map (·.1) ++ [(⟨11, ((ops ++ [(⟨1, 0⟩ : Opn)] : List Opn).length : Nat)⟩ : Opn)] : List Opn).set (ops ++ [(⟨1, 0⟩ : Opn)] ++ pa.1.map (·.1) : List Opn).length ⟨12, (ops.length + pa.1.length + pb.1.length + 3 : Nat)⟩ =
          ops ++ (([((⟨1, 0⟩ : Opn), d)] ++ (pa.1 ++ ([(⟨12, (ops.length + pa.1.length + pb.1.length + 3 : Nat)⟩, d + 1)] ++ (pb.1 ++ [(⟨11, (ops.length + 1 : Nat)⟩, d)])))) : List OD).map (·.1) := by simp
      rw [e2] at hcow
      exact hcow
    · have h3 : ¬ n.kind = 3 := by simpa using h3
      have h4 : ¬ n.kind = 4 := by simpa using h4
      simp only [codeD, hat, if_neg h3, if_neg h4] at htg
      have hbd : ∀ j : Nat, j < n.kids.toNat → d + eachN n * j + f ≤ 20 := fun j hj => by
        rcases kids_each hok h3 h4 with h' | ⟨h', _, _⟩
        · rw [h']; omega
        · rw [h']; omega
      have hep : 0 ≤ eachN n := by unfold eachN; split <;> omega
      have hkl := (kidsT_le (fun e e' he h' => treeL_le f e e' he h') _ _ _ _ (by omega) hk).2
      generalize hK : codeK (codeD l names f) (eachN n) n.kids.toNat (at_ + 1) (ops.length + 1) d = pk at htg
      refine ⟨fun (x5, x6, v) => 0 ≤ x6 ∧ x6 ≤ n.kids ∧ ∃ (a : Nat) (opsx : List Opn) (i : Nat), x5 = a ∧ at_ + 1 ≤ a ∧ a ≤ l.length ∧ Co u0 v p T sn sm l names opsx ∧ opsx.length + 3 * (l.length - a) ≤ 698 ∧ kidsT l (treeL l f) n (n.kids - x6).toNat i a = some e ∧ 0 ≤ d + eachN n * x6 ∧
          opsx ++ (codeK (codeD l names f) (eachN n) (n.kids - x6).toNat a opsx.length (d + eachN n * x6)).1.map (·.1) = ops ++ [⟨1, 0⟩] ++ pk.1.map (·.1), fun (_, x6, _) => (n.kids - x6).toNat, ⟨?_, rfl, trivial⟩, ?_⟩
      · refine ⟨by omega, by omega, at_ + 1, _, 0, rfl, by omega, by omega, hco1, by simp; omega, by rw [Int.sub_zero]; exact hk, by omega, ?_⟩
        rw [Int.sub_zero, Int.mul_zero, Int.add_zero, show (ops ++ [(⟨1, 0⟩ : Opn)] : List Opn).length = ops.length + 1 from by simp, hK]
      rintro _ x5 x6 v ⟨h0, h1, a, opsx, i, rfl, ha, hal, hcov, hlx, hkx, hdx, heq⟩
      refine ⟨fun hcnd => ?_, fun hcnd => ?_⟩
      · have hcnd : x6 < n.kids := of_decide_eq_true hcnd
        obtain ⟨c, hc2⟩ : ∃ c, (n.kids - x6).toNat = c + 1 := ⟨(n.kids - x6).toNat - 1, by omega⟩
        rw [hc2] at hkx heq
        obtain ⟨m0, e1, hm0, hk0', ht0, hkx⟩ := kidsT_one hkx
        have g0 := hle hal ht0
        have hb := hbd x6.toNat (by omega)
        rw [show ((x6.toNat : Nat) : Int) = x6 from by omega] at hb
        refine (ih a e1 (d + eachN n * x6) v _ ht0 hdx hb hcov (by omega)).mono ?_
        rintro _ v1 ⟨rfl, hco2⟩
        obtain ⟨sa1, sa2, _⟩ := hs f a opsx.length (d + eachN n * x6) e1 ht0 hdx hb
        rw [wrap64 (z := x6 + 1) (by omega) (by omega)]
        refine ⟨_, rfl, ⟨⟨by omega, by omega, e1, _, i + 1, rfl, by omega, by omega, hco2, by simp; omega, ?_, ?_, ?_⟩, ?_⟩, rfl, trivial⟩
        · rw [show (n.kids - (x6 + 1)).toNat = c from by omega]; exact hkx
        · rw [Int.mul_add]; omega
        · rw [← heq, show (n.kids - (x6 + 1)).toNat = c from by omega]
          simp only [codeK, sa1, List.map_append, List.length_append, List.length_map, List.append_assoc]
          rw [Int.mul_add, Int.mul_one, ← Int.add_assoc]
        · show (n.kids - (x6 + 1)).toNat < (n.kids - x6).toNat
          omega
      · have hcnd : ¬ x6 < n.kids := of_decide_eq_false hcnd
        rw [show (n.kids - x6).toNat = 0 from by omega] at hkx heq
        simp only [kidsT] at hkx
        cases hkx
        simp only [codeK, List.map_nil, List.append_nil] at heq
        have hown : ∀ w o, ownO names n = [o] → Co u0 w p T sn sm l names (opsx ++ [o]) → Co u0 w p T sn sm l names (ops ++ tgt) := fun w o ho hw => by
          rw [← htg, ho]
          rw [heq] at hw
          simpa using hw
        have hb9 : opsx.length ≤ 100000 := by omega
        have add : ∀ (w : View) (kind num : Int), ownO names n = [⟨kind, num⟩] → Co u0 w p T sn sm l names opsx → CallsV Try.prog F_add #[.pointer (some ⟨p, 0, none⟩), .int .i64 kind, .int .i64 num] w fun v u' => ∃ x : Int, v = .int .i64 x ∧ (Value.int .i64 (e : Int) = .int .i64 (e : Int) ∧ Co u0 u' p T sn sm l names (ops ++ tgt)) := fun w kind num ho hw => by
          refine (k_add hw hb9 kind num).mono ?_
          rintro _ w' ⟨rfl, hw'⟩
          exact ⟨_, rfl, rfl, hown _ _ ho hw'⟩
        have hcov0 := hcov
        obtain ⟨hkv, _, _, hmv, so', b'', hcv, _, _, _⟩ := hcov
        refine ⟨fun k1 => ⟨rfl, ?_⟩, fun k1 => ⟨fun k2 => ?_, fun k2 => ⟨fun k12 => ?_, fun k12 => ⟨fun k11 => ?_, fun k11 => ⟨fun k10 => ?_, fun k10 => ?_⟩⟩⟩⟩⟩
        all_goals simp only [beq_iff_eq, beq_eq_false_iff_ne, ne_eq] at *
        · have : ownO names n = [] := by simp [ownO, k1]
          rw [this] at htg
          rw [← htg]
          rw [heq] at hcov0
          simpa using hcov0
        · exact ⟨sm, cells_get hcv rfl, (k_indexS (hmv.keep hkv) n.name).use ⟨_, rfl, Nat.le_refl _, fun _ _ h => h, add _ _ _ (by simp [ownO, k2]) hcov0⟩⟩
        · exact ⟨sm, cells_get hcv rfl, (k_indexS (hmv.keep hkv) n.name).use ⟨_, rfl, Nat.le_refl _, fun _ _ h => h, add _ _ _ (by simp [ownO, k12]) hcov0⟩⟩
        · exact add _ _ _ (by simp [ownO, k11]) hcov0
        · refine (k_moveKind n.name v).mono ?_
          rintro _ v2 ⟨rfl, hk2⟩
          exact ⟨_, rfl, add _ _ _ (by simp [ownO, k10]) (hcov0.keep hk2)⟩
        · refine (k_plainOp n.kind v).use ⟨_, rfl, fun hp => ?_, fun hp => ?_⟩
          · have hp := of_decide_eq_true hp
            exact add _ _ _ (by simp [ownO, k1, k2, k12, k11, k10, hp]) hcov0
          · have hp := of_decide_eq_false hp
            exact add _ _ _ (by simp [ownO, k1, k2, k12, k11, k10, hp]) hcov0

end
end Go.Proofs.Ytkjddlgaldnbnaa
end

/-
  CONTRACTS: ops that are right by themselves.
-/
section
set_option linter.unusedVariables false
set_option linter.unusedSimpArgs false
namespace Go.Proofs.Ytkjddlgaldnbnaa

theorem k_takes (k : Int) (u : View) : Gives F_takes #[.int .i64 k] u (.tuple #[.int .i64 (takesL k).1, .int .i64 (takesL k).2]) := by
  refine c_takes k u _ trivial ?_
  unfold W_takes takesL
  simp only [beq_iff_eq, beq_eq_false_iff_ne, ne_eq]
  repeat' (first | (refine ⟨fun h => ?_, fun h => ?_⟩; rotate_left) | done)
  all_goals exact ⟨trivial, by simp [*]⟩

theorem k_l13Takes (k : Int) (u : View) : Gives F_l13Takes #[.int .i64 k] u (.tuple #[.int .i64 (takesL k).1, .int .i64 (takesL k).2]) := by
  refine c_l13Takes k u _ trivial ?_
  unfold W_l13Takes takesL
  simp only [beq_iff_eq, beq_eq_false_iff_ne, ne_eq]
  repeat' (first | (refine ⟨fun h => ?_, fun h => ?_⟩; rotate_left) | done)
  all_goals exact ⟨trivial, by simp [*]⟩

theorem k_opRight (o : Opn) (many : Nat) (u : View) : Gives F_opRight #[o.val, .int .i64 many] u (.bool (opOk many o)) := by
  obtain ⟨kind, num⟩ := o
  refine c_opRight kind num many u _ trivial fun b hb => ?_
  simp only [beq_iff_eq, beq_eq_false_iff_ne, ne_eq]
  repeat' (first | (refine ⟨fun h => ?_, fun h => ?_⟩; rotate_left) | done)
  all_goals refine (k_within _ _ _ u).use ⟨_, rfl, ?_⟩
  all_goals first
    | exact ⟨rfl, by simp [withinL, opOk, *]⟩
    | (refine ⟨fun h => ⟨rfl, ?_⟩, fun h => ⟨rfl, ?_⟩⟩ <;> simp only [withinL, decide_eq_true_eq, decide_eq_false_iff_not] at h <;> simp [opOk, *] <;> rfl)

theorem k_depths1 (o : Opn) (many : Nat) {u : View} {c : Nat} {T : TypeId} (hc : u.m c = some (.cells #[.int .i64 many] T (0, 0))) : Gives F_depths1 #[o.val, .pointer (some ⟨c, 0, none⟩)] u (.bool (!opOk many o)) := by
  refine c_depths1 o.kind o.num ⟨c, 0, none⟩ u _ trivial fun b hb => ⟨many, cells_get hc rfl, ?_⟩
  exact (k_opRight o many u).use ⟨_, rfl, rfl, rfl⟩

theorem Arr.op {u : View} {s : Sl} {l : List Opn} (h : Arr encO 2 u s l) {i : Int} (h0 : 0 ≤ i) (h1 : i < (s.n : Int)) :
    ∃ ad o, s.p = some ad ∧ l[i.toNat]? = some o ∧ CellsAt u (ad.add (i.toNat * 2)) 0 (encO o) := by
  have hlt : i.toNat < l.length := by have := h.n; omega
  obtain ⟨ad, e, hc⟩ := h.at encO_sz (by omega) (List.getElem?_eq_getElem hlt)
  exact ⟨ad, l[i.toNat], e, List.getElem?_eq_getElem hlt, hc⟩

theorem take_succ {α : Type} {l : List α} {i : Nat} {x : α} (h : l[i]? = some x) : l.take (i + 1) = l.take i ++ [x] := by rw [List.take_add_one, h]; rfl

theorem k_indexF {u : View} {s : Sl} {l : List Opn} (ha : Arr encO 2 u s l) (many : Nat) {c : Nat} {T : TypeId} (hc : u.m c = some (.cells #[.int .i64 many] T (0, 0))) :
    CallsV Try.prog F_indexF #[.slice s.p s.n s.c, .func (.func F_depths1) #[] #[.pointer (some ⟨c, 0, none⟩)]] u fun v u' => u' = u ∧ ∃ x : Int, v = .int .i64 x ∧ decide (x ≥ 0) = !(l.all (opOk many)) := by
  have hn := ha.n
  have hbd := ha.bd
  refine c_indexF s ⟨c, 0, none⟩ u _ trivial ?_
  refine ⟨fun (x, v) => v = u ∧ 0 ≤ x ∧ x ≤ s.n ∧ (l.take x.toNat).all (opOk many) = true, fun (x, _) => (s.n - x).toNat, ⟨⟨rfl, by omega, by omega, by simp⟩, trivial⟩, ?_⟩
  rintro _ x v ⟨rfl, h0, h1, hall⟩
  refine ⟨fun hlt => ?_, fun hlt => ?_⟩
  · have hlt := of_decide_eq_true hlt
    obtain ⟨ad, o, e, ho, hcells⟩ := ha.op h0 hlt
    refine ⟨ad, e, h0, hlt, o.kind, o.num, hcells, rfl, (k_depths1 o many hc).use ⟨_, rfl, fun hb => ⟨rfl, x, rfl, ?_⟩, fun hb => ⟨⟨⟨rfl, ?_, ?_, ?_⟩, ?_⟩, trivial⟩⟩⟩
    · rw [decide_eq_true h0]
      have : l.all (opOk many) = false := by
        rw [List.all_eq_false]
        exact ⟨o, List.mem_of_getElem? ho, by simpa using hb⟩
      rw [this]; rfl
    all_goals rw [wrap64 (by omega) (by omega)]
    · omega
    · omega
    · rw [show (x + 1).toNat = x.toNat + 1 from by omega, take_succ ho, List.all_append, hall]
      simpa using hb
    · show (s.n - (x + 1)).toNat < (s.n - x).toNat; omega
  · have hlt := of_decide_eq_false hlt
    refine ⟨rfl, -1, rfl, ?_⟩
    rw [List.take_of_length_le (by omega)] at hall
    rw [hall]; rfl

theorem k_containsF {u : View} {s : Sl} {l : List Opn} (ha : Arr encO 2 u s l) (many : Nat) {c : Nat} {T : TypeId} (hc : u.m c = some (.cells #[.int .i64 many] T (0, 0))) :
    Gives F_containsF #[.slice s.p s.n s.c, .func (.func F_depths1) #[] #[.pointer (some ⟨c, 0, none⟩)]] u (.bool (!(l.all (opOk many)))) := by
  refine c_containsF s ⟨c, 0, none⟩ u _ trivial ((k_indexF ha many hc).mono ?_)
  rintro _ _ ⟨rfl, x, rfl, hx⟩
  exact ⟨x, rfl, rfl, by rw [hx]⟩

theorem k_l13Op (o : Opn) (many : Nat) (u : View) : Gives F_l13Op #[o.val, .int .i64 many] u (.bool (opOk many o)) := by
  obtain ⟨kind, num⟩ := o
  refine c_l13Op kind num many u _ trivial fun b hb => ?_
  refine ⟨fun v => v = u ∧ ¬ (kind = 2 ∨ kind = 3 ∨ kind = 4 ∨ kind = 10 ∨ kind = 11 ∨ kind = 12 ∨ kind = 18), ?_, ?_⟩
  · simp only [beq_iff_eq, beq_eq_false_iff_ne, ne_eq, decide_eq_true_eq, decide_eq_false_iff_not]
    repeat' (first | (refine ⟨fun h => ?_, fun h => ?_⟩; rotate_left) | done)
    all_goals first
      | exact ⟨trivial, by simp [opOk, *]⟩
      | exact ⟨⟨trivial, by simp [*]⟩, rfl, trivial⟩
  · rintro _ v ⟨rfl, hk⟩
    simp only [not_or] at hk
    simp only [decide_eq_true_eq, decide_eq_false_iff_not]
    repeat' (first | (refine ⟨fun h => ?_, fun h => ?_⟩; rotate_left) | done)
    all_goals exact ⟨trivial, by simp [opOk, *] <;> (try rfl) <;> omega⟩

end Go.Proofs.Ytkjddlgaldnbnaa
end

/-
  CONTRACTS: products of small numbers; a slice of one number repeated.
-/
section
set_option linter.unusedVariables false
set_option linter.unusedSimpArgs false
namespace Go.Proofs.Ytkjddlgaldnbnaa

theorem wrapU64 {z : Int} (h0 : 0 ≤ z) (h1 : z ≤ 18446744073709551615) : IntKind.wrap .u64 z = z := by
  simp [IntKind.wrap, IntKind.signed, IntKind.bits]; omega

theorem low32 {x : Int} (h0 : 0 ≤ x) (h1 : x ≤ 4294967295) : ((BitVec.toNat (BitVec.ofInt 64 x &&& BitVec.ofInt 64 4294967295) : Nat) : Int) = x := by
  have e1 : (BitVec.ofInt 64 x).toNat = x.toNat := by
    rw [BitVec.toNat_ofInt]
    congr 1
    omega
  have e2 : (BitVec.ofInt 64 4294967295).toNat = 2 ^ 32 - 1 := by decide
  rw [BitVec.toNat_and, e1, e2, Nat.and_two_pow_sub_one_eq_mod]
  omega

theorem fdiv32 {x : Int} (h0 : 0 ≤ x) (h1 : x ≤ 4294967295) : Int.fdiv x 4294967296 = 0 := by
  rw [Int.fdiv_eq_ediv_of_nonneg x (by omega)]; omega

theorem k_mul64 {x y : Int} (hx0 : 0 ≤ x) (hx1 : x ≤ 65535) (hy0 : 0 ≤ y) (hy1 : y ≤ 65535) (u : View) : Gives F_mul64 #[.int .u64 x, .int .u64 y] u (.tuple #[.int .u64 0, .int .u64 (x * y)]) := by
  have hp0 : 0 ≤ x * y := Int.mul_nonneg hx0 hy0
  have hp1 : x * y ≤ 4294836225 := by
    have := Int.mul_le_mul hx1 hy1 hy0 (by omega)
    omega
  refine c_mul64 x y u _ trivial ⟨by decide, by decide, by decide, by decide, by decide, rfl, ?_⟩
  have hb : (2 : Int) ^ min (Int.toNat 32) (IntKind.bits .u64) = 4294967296 := by decide
  simp only [hb, low32 hx0 (by omega), low32 hy0 (by omega), fdiv32 hx0 (by omega), fdiv32 hy0 (by omega), wrapU64 hx0 (by omega), wrapU64 hy0 (by omega), wrapU64 hp0 (by omega), Int.zero_mul, Int.mul_zero, fdiv32 hp0 (by omega)]
  rfl

theorem k_mul {x y : Int} (hx0 : 0 ≤ x) (hx1 : x ≤ 65535) (hy0 : 0 ≤ y) (hy1 : y ≤ 65535) (u : View) : Gives F_mul #[.int .u64 x, .int .u64 y] u (.tuple #[.int .u64 0, .int .u64 (x * y)]) :=
  c_mul x y u _ trivial ((k_mul64 hx0 hx1 hy0 hy1 u).use ⟨_, _, rfl, rfl, rfl⟩)

theorem slP_b (b n o : Nat) : slP (some ⟨b, 0, none⟩) o n 1 = if n = o then some ⟨b, 0, none⟩ else some ⟨b, o, none⟩ := by
  unfold slP
  split
  · rfl
  · simp [addr_add]

theorem zerosL_one (z : Value) (hz : z.cells.toList = [z]) (n : Nat) : zerosL z n = List.replicate n z := by
  induction n with
  | zero => rfl
  | succ n ih => rw [zerosL, hz, ih, List.replicate_succ]; rfl

set_option maxRecDepth 100000 in
theorem bytes_i64 : (TypeInfo.bytes (Tables.types (Program.toTables Try.prog))[2]) = 8 := by kernel_rfl

theorem k_repeat {u : View} {s : Sl} {a : Int} (ha : Arr encI 1 u s [a]) {n : Nat} (h0 : 1 ≤ n) (h1 : n ≤ 65535) :
    CallsV Try.prog F_repeat #[.slice s.p s.n s.c, .int .i64 n] u fun v u' => ∃ (s' : Sl) (b : Int), v = .slice s'.p s'.n s'.c ∧ Keep u u' ∧ OwnB encI 1 u' b s' (List.replicate n a) ∧ (u.lim : Int) ≤ b := by
  have hn : s.n = 1 := ha.n
  refine c_repeat s n u _ trivial ⟨fun v => v = u, ⟨fun h => ?_, fun h => ⟨rfl, trivial⟩⟩, ?_⟩
  · have := of_decide_eq_true h; omega
  rintro _ v rfl
  rw [hn, wrapU64 (by omega) (by omega), wrapU64 (by omega) (by omega)]
  refine (k_mul (by omega) (by omega) (by omega) (by omega) v).use ⟨_, _, rfl, fun w => w = v, ⟨fun h => ⟨fun h2 => ?_, fun h2 => ⟨rfl, trivial⟩⟩, fun h => ?_⟩, ?_⟩
  · have := of_decide_eq_true h2; omega
  · have := of_decide_eq_true h; omega
  rintro _ v rfl
  rw [show ((1 : Nat) : Int) * (n : Int) = n from by omega, wrap64 (z := (n : Int)) (by omega) (by omega), Int.toNat_natCast]
  refine ⟨by omega, by omega, by omega, by rw [bytes_i64]; omega, fun b hb => ?_⟩
  have hz : zerosL (Value.int .i64 0) n = List.replicate n (.int .i64 0) := zerosL_one _ rfl n
  have hk : Keep v (v.set b (.cells (List.toArray (zerosL (Value.int .i64 0) n)) 2 (0, 0))) := Keep.set hb
  have hset : ∀ x : Obj, Keep v ((v.set b (.cells (List.toArray (zerosL (Value.int .i64 0) n)) 2 (0, 0))).set b x) := fun x => (((Chg.refl [] v).set (.inr hb)).set (.inr hb)).keep
  have hf : ∀ k : Nat, (List.replicate k a).flatMap encI = List.replicate k (.int .i64 a) := fun k => by
    induction k with
    | zero => rfl
    | succ k ih => rw [List.replicate_succ, List.flatMap_cons, ih, List.replicate_succ]; rfl
  refine ⟨[.int .i64 a], ?_, fun v hv => by simp at hv; subst hv; rfl, (ha.keep hk).cells, .inr ⟨b, 0, _, 2, (0, 0), rfl, View.set_self _ _ _, .inl (Nat.le_refl _), ?_, ?_⟩⟩
  · show 1 = min 1 n * 1
    omega
  · rw [hz]; simp; omega
  refine ⟨fun (x, w) => 1 ≤ x ∧ x ≤ n ∧ Keep v w ∧ ∃ arr : Array Value, w.m b = some (.cells arr 2 (0, 0)) ∧ arr.size = n ∧ ∀ j : Nat, j < x.toNat → arr[j]? = some (.int .i64 a), fun (x, _) => (n - x).toNat, ⟨⟨by omega, by omega, hset _, _, View.set_self _ _ _, ?_, ?_⟩, trivial⟩, ?_⟩
  · simp [splice_length, hz]
  · intro j hj
    have : j = 0 := by omega
    subst this
    rw [hz]
    obtain ⟨m, rfl⟩ : ∃ m, n = m + 1 := ⟨n - 1, by omega⟩
    simp [splice, List.replicate_succ]
  rintro _ x w ⟨g0, g1, gk, arr, hm, hsz, hall⟩
  refine ⟨fun hlt => ?_, fun hlt => ?_⟩
  · have hlt := of_decide_eq_true hlt
    have hnx : ¬ n = x.toNat := by omega
    have em : ((min (x.toNat - 0) (((n : Nat) : Int).toNat - x.toNat) : Nat) : Int) = min x (n - x) := by omega
    have hnew : ∀ v ∈ List.replicate (min x.toNat (n - x.toNat)) (Value.int .i64 a), v.oneCell' = true := fun v hv => by rw [(List.mem_replicate.1 hv).2]; rfl
    have hw : IntKind.wrap .i64 (x + ((min (x.toNat - 0) (((n : Nat) : Int).toNat - x.toNat) : Nat) : Int)) = x + min x (n - x) := by rw [em, wrap64 (by omega) (by omega)]
    refine ⟨by omega, by omega, by omega, by decide, by show (0 : Int) ≤ x; omega, by omega, List.replicate (min x.toNat (n - x.toNat)) (.int .i64 a), by simp, hnew, ?_, .inr ⟨b, x.toNat, arr, 2, (0, 0), ?_, hm, .inl (Nat.le_refl _), ?_, ⟨⟨?_, ?_, gk.setN (View.fresh hb), _, View.set_self _ _ _, ?_, ?_⟩, ?_⟩, trivial⟩⟩
    · rw [slP_b]
      have : CellsAt w ⟨b, 0, none⟩ 0 (List.replicate (min x.toNat (n - x.toNat)) (.int .i64 a)) := cells_at hm fun j v hj => by
        rw [List.getElem?_replicate] at hj
        split at hj
        · cases hj
          rw [Nat.zero_add]; exact hall j (by omega)
        · cases hj
      split <;> exact this
    · rw [slP_b, if_neg hnx]
    · omega
    · rw [hw]; omega
    · rw [hw]; omega
    · simp [splice_length, hsz]
    · intro j hj
      rw [hw] at hj
      have hl : x.toNat + (List.replicate (min x.toNat (n - x.toNat)) (Value.int .i64 a)).length ≤ arr.toList.length := by simp; omega
      have := splice_get (List.replicate (min x.toNat (n - x.toNat)) (Value.int .i64 a)) arr.toList x.toNat j hl
      simp only [List.getElem?_toArray]
      rw [this]
      split
      · rename_i hh
        simp at hh
        rw [List.getElem?_replicate, if_pos (by omega)]
      · rename_i hh
        simp at hh
        rw [Array.getElem?_toList]
        exact hall j (by omega)
    · show (n - IntKind.wrap .i64 _).toNat < (n - x).toNat
      rw [hw]; omega
  · have hlt := of_decide_eq_false hlt
    refine ⟨⟨some ⟨b, 0, none⟩, n, n⟩, b, rfl, gk, ⟨⟨by simp, Nat.le_refl _, .inr ⟨b, arr, 2, (0, 0), rfl, hm, Nat.le_refl _, by simp [hsz], ?_⟩⟩, .inr ⟨by omega, rfl⟩⟩, by omega⟩
    have hl : arr.toList = List.replicate n (.int .i64 a) := by
      apply List.ext_getElem?
      intro j
      rw [List.getElem?_replicate, Array.getElem?_toList]
      split
      · exact hall j (by omega)
      · rw [Array.getElem?_eq_none (by omega)]
    rw [hf, hl]; simp

end Go.Proofs.Ytkjddlgaldnbnaa
end
