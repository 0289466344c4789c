import Derived.Test.YtkjddlgaldnbnaaCA

/-
  CONTRACTS: whether nodes are right: the reference's side.
-/
section
set_option linter.unusedVariables false
set_option linter.unusedSimpArgs false
namespace Go.Proofs.Ytkjddlgaldnbnaa

def wantL (k : Int) (kind : Int) : Bool := if k = 98 then kind == 1 else if k = 115 then withinL kind 2 10 else if k = 101 then withinL kind 11 26 else true

def manyL (n : Nd) : Bool := (decide (kindsL n = ⟨#[42]⟩) || n.kids == (kindsL n).size) && decide (0 ≤ n.kids ∧ n.kids ≤ 200)

def kindAt (n : Nd) (i : Nat) : Int := if kindsL n = ⟨#[42]⟩ then 115 else match (kindsL n)[i]? with | some b => b.toNat | none => 0

def kidsE (g : Nat → Int → Option Nat) (n : Nd) : Nat → Nat → Nat → Option Nat
  | 0, _, e => some e
  | c + 1, i, e => match g e (kindAt n i) with
    | none => none
    | some e' => kidsE g n c (i + 1) e'

/-- the place behind the tree at a place, of a kind; the depth is told by what is left of it -/
def endL (l : List Nd) : Nat → Nat → Int → Option Nat
  | 0, _, _ => none
  | f + 1, at_, k => match l[at_]? with
    | none => none
    | some n => if ownL n && wantL k n.kind && manyL n then kidsE (endL l f) n n.kids.toNat 0 (at_ + 1) else none

def optI : Option Nat → Int
  | none => -1
  | some e => e

theorem kidsE_le {g : Nat → Int → Option Nat} {N : Nat} (hg : ∀ e k e', e ≤ N → g e k = some e' → e' ≤ N) {n : Nd} : ∀ (c i e e' : Nat), e ≤ N → kidsE g n c i e = some e' → e' ≤ N := by
  intro c
  induction c with
  | zero => intro i e e' he h; simp only [kidsE] at h; cases h; exact he
  | succ c ih =>
    intro i e e' he h
    simp only [kidsE] at h
    split at h
    · cases h
    · rename_i e1 h1
      exact ih _ _ _ (hg _ _ _ he h1) h

theorem endL_le {l : List Nd} : ∀ (f at_ : Nat) (k : Int) (e : Nat), at_ ≤ l.length → endL l f at_ k = some e → e ≤ l.length := by
  intro f
  induction f with
  | zero => intro at_ k e _ h; cases h
  | succ f ih =>
    intro at_ k e hat h
    simp only [endL] at h
    split at h
    · cases h
    · rename_i n hn
      split at h
      · refine kidsE_le (fun e k e' he h' => ih e k e' he h') _ _ _ _ ?_ h
        rcases Nat.lt_or_ge at_ l.length with h' | h'
        · omega
        · rw [List.getElem?_eq_none h'] at hn; cases hn
      · cases h

theorem Arr.node {u : View} {s : Sl} {l : List Nd} (h : Arr encN 4 u s l) {i : Int} (h0 : 0 ≤ i) (h1 : i < (s.n : Int)) :
    ∃ ad n, s.p = some ad ∧ l[i.toNat]? = some n ∧ CellsAt u (ad.add (i.toNat * 4)) 0 (encN n) := by
  have hlt : i.toNat < l.length := by have := h.n; omega
  obtain ⟨ad, e, hc⟩ := h.at encN_sz (by omega) (List.getElem?_eq_getElem hlt)
  exact ⟨ad, l[i.toNat], e, List.getElem?_eq_getElem hlt, hc⟩

theorem k_l11End {s : Sl} {l : List Nd} (hsmall : ∀ n ∈ l, n.name.size ≤ 4611686018427387904) : ∀ (f : Nat) (at_ : Nat) (k : Int) (u : View), Arr encN 4 u s l → f ≤ 20 → at_ ≤ l.length →
    Gives F_l11End #[.slice s.p s.n s.c, .int .i64 at_, .int .u8 k, .int .i64 (21 - f : Int)] u (.int .i64 (optI (endL l f at_ k))) := by
  intro f
  induction f with
  | zero =>
    intro at_ k u ha hf hat
    refine c_l11End s at_ k _ u _ trivial ?_
    refine ⟨fun _ => False, ⟨fun h1 => ⟨fun h2 => ?_, fun h2 => ⟨rfl, rfl⟩⟩, fun h1 => ⟨rfl, rfl⟩⟩, fun _ _ h => h.elim⟩
    simp at h2
  | succ f ih =>
    intro at_ k u ha hf hat
    have hn := ha.n
    have hbd := ha.bd
    refine c_l11End s at_ k _ u _ trivial ?_
    unfold W_l11End
    -- where the answer is no
    have no : (∀ n, l[at_]? = some n → (ownL n && wantL k n.kind && manyL n) = false) → u = u ∧ Value.int .i64 (-1) = .int .i64 (optI (endL l (f + 1) at_ k)) := fun h => ⟨rfl, by
      simp only [endL]
      split
      · rfl
      · rename_i n hn'
        rw [h n hn']
        rfl⟩
    refine ⟨fun u' => u' = u ∧ ∃ n, l[at_]? = some n ∧ ownL n = true, ⟨fun h1 => ⟨fun h2 => ?_, fun h2 => ?_⟩, fun h1 => ?_⟩, ?_⟩
    · have hlt : (at_ : Int) < (s.n : Int) := by simpa using h1
      obtain ⟨ad, n, e, hn', hc⟩ := ha.node (by omega) hlt
      have hn' : l[at_]? = some n := by simpa using hn'
      refine ⟨ad, e, by omega, hlt, n.kind, n.num, n.name, n.kids, hc, ?_⟩
      refine (k_l11Own n (hsmall n (List.mem_of_getElem? hn')) u).use ⟨_, rfl, fun h => no fun n' hn2 => ?_, fun h => ⟨⟨rfl, n, hn', by simpa using h⟩, trivial⟩⟩
      rw [hn'] at hn2
      cases hn2
      have : ownL n = false := by simpa using h
      rw [this]; rfl
    · exfalso
      simp at h2
      omega
    · refine no fun n hn' => ?_
      have : ¬ at_ < s.n := by
        have : (s.n : Int) ≤ at_ := by simpa using h1
        omega
      rw [List.getElem?_eq_none (by omega)] at hn'
      cases hn'
    rintro _ u' ⟨rfl, n, hn', hown⟩
    have hlt : at_ < l.length := by
      rcases Nat.lt_or_ge at_ l.length with h' | h'
      · exact h'
      · rw [List.getElem?_eq_none h'] at hn'; cases hn'
    obtain ⟨ad, n2, e, hn2, hc⟩ := ha.node (i := (at_ : Int)) (by omega) (by omega)
    have hn2 : l[at_]? = some n2 := by simpa using hn2
    rw [hn'] at hn2
    cases hn2
    refine ⟨ad, e, by omega, by omega, n.kind, n.num, n.name, n.kids, hc, fun b hb => ?_⟩
    have noW : wantL k n.kind = false → u' = u' ∧ Value.int .i64 (-1) = .int .i64 (optI (endL l (f + 1) at_ k)) := fun h => no fun n' hn2 => by
      rw [hn'] at hn2; cases hn2; rw [h]; simp
    have noM : manyL n = false → u' = u' ∧ Value.int .i64 (-1) = .int .i64 (optI (endL l (f + 1) at_ k)) := fun h => no fun n' hn2 => by
      rw [hn'] at hn2; cases hn2; rw [h]; simp
    refine ⟨fun w => w = u' ∧ wantL k n.kind = true, ?_, ?_⟩
    · have yes : wantL k n.kind = true → (u' = u' ∧ wantL k n.kind = true) ∧ sameL [Value.int .i64 n.kind, .int .i64 n.num, .string n.name, .int .i64 n.kids] [.int .i64 n.kind, .int .i64 n.num, .string n.name, .int .i64 n.kids] ∧ True :=
        fun h => ⟨⟨rfl, h⟩, rfl, trivial⟩
      have ab : ∀ {p : Prop} {c d : Int}, c ≠ d → k = c → (k == d) = true → p := fun hne hk h => absurd (by simpa using h) (by rw [hk]; exact hne)
      refine ⟨fun h98 => ?_, fun h98 => ?_⟩
      · have hk : k = 98 := by simpa using h98
        refine ⟨fun h1 => ⟨fun h => ab (by decide) hk h, fun _ => ⟨fun h => ab (by decide) hk h, fun _ => yes ?_⟩⟩, fun h1 => noW ?_⟩
        · have : n.kind = 1 := by simpa using h1
          simp [wantL, hk, this]
        · have : ¬ n.kind = 1 := by simpa using h1
          simp [wantL, hk, this]
      · have hk : ¬ k = 98 := by simpa using h98
        refine ⟨fun h115 => ?_, fun h115 => ?_⟩
        · have hk2 : k = 115 := by simpa using h115
          have hw : wantL k n.kind = withinL n.kind 2 10 := by simp only [wantL, if_neg hk, if_pos hk2]
          refine (k_l11Stmt n.kind u').use ⟨_, rfl, fun h => ⟨fun h => ab (by decide) hk2 h, fun _ => yes ?_⟩, fun h => noW ?_⟩
          · rw [hw]; simpa using h
          · rw [hw]; simpa using h
        · have hk2 : ¬ k = 115 := by simpa using h115
          refine ⟨fun h101 => ?_, fun h101 => yes ?_⟩
          · have hk3 : k = 101 := by simpa using h101
            have hw : wantL k n.kind = withinL n.kind 11 26 := by simp only [wantL, if_neg hk, if_neg hk2, if_pos hk3]
            refine (k_l11Expr n.kind u').use ⟨_, rfl, fun h => noW ?_, fun h => yes ?_⟩
            · rw [hw]; simpa using h
            · rw [hw]; simpa using h
          · have hk3 : ¬ k = 101 := by simpa using h101
            simp only [wantL, if_neg hk, if_neg hk2, if_neg hk3]
    rintro _ w ⟨rfl, hwant⟩
    refine (k_l11Kids n w).use ⟨_, rfl, fun w' => w' = w ∧ manyL n = true, ?_, ?_⟩
    · have yes : manyL n = true → (w = w ∧ manyL n = true) ∧ sameL [Value.int .i64 n.kind, .int .i64 n.num, .string n.name, .int .i64 n.kids] [.int .i64 n.kind, .int .i64 n.num, .string n.name, .int .i64 n.kids] ∧ True :=
        fun h => ⟨⟨rfl, h⟩, rfl, trivial⟩
      have key : (decide (kindsL n = ⟨#[42]⟩) || n.kids == (kindsL n).size) = true → (decide (n.kids < 0) = false → (decide (n.kids > 200) = true → w = w ∧ Value.int .i64 (-1) = .int .i64 (optI (endL l (f + 1) at_ k))) ∧
          (decide (n.kids > 200) = false → (w = w ∧ manyL n = true) ∧ sameL [Value.int .i64 n.kind, .int .i64 n.num, .string n.name, .int .i64 n.kids] [.int .i64 n.kind, .int .i64 n.num, .string n.name, .int .i64 n.kids] ∧ True)) ∧
          (decide (n.kids < 0) = true → w = w ∧ Value.int .i64 (-1) = .int .i64 (optI (endL l (f + 1) at_ k))) := fun hc => by
        refine ⟨fun h1 => ⟨fun h2 => noM ?_, fun h2 => yes ?_⟩, fun h1 => noM ?_⟩
        all_goals simp only [decide_eq_true_eq, decide_eq_false_iff_not] at *
        · unfold manyL; rw [decide_eq_false (p := 0 ≤ n.kids ∧ n.kids ≤ 200) (by omega), Bool.and_false]
        · unfold manyL; rw [hc, decide_eq_true (p := 0 ≤ n.kids ∧ n.kids ≤ 200) (by omega)]; rfl
        · unfold manyL; rw [decide_eq_false (p := 0 ≤ n.kids ∧ n.kids ≤ 200) (by omega), Bool.and_false]
      refine ⟨fun hs => ⟨fun hz => key ?_, fun hz => noM ?_⟩, fun hs => key ?_⟩
      · have : n.kids = (kindsL n).size := by simpa using hz
        simp [this]
      · have h1 : ¬ n.kids = (kindsL n).size := by simpa using hz
        rw [eqS_iff] at hs
        have h2 : ¬ kindsL n = ⟨#[42]⟩ := by simpa using hs
        simp [manyL, h1, h2]
      · rw [eqS_iff] at hs
        have h2 : kindsL n = ⟨#[42]⟩ := by simpa using hs
        simp [h2]
    rintro _ w' ⟨rfl, hmany⟩
    have hend : endL l (f + 1) at_ k = kidsE (endL l f) n n.kids.toNat 0 (at_ + 1) := by
      simp only [endL, hn', hown, hwant, hmany, Bool.and_true, if_true]
    rw [hend]
    have hm1 : 0 ≤ n.kids ∧ n.kids ≤ 200 := by
      unfold manyL at hmany
      simp only [Bool.and_eq_true, decide_eq_true_eq] at hmany
      exact hmany.2
    refine ⟨fun (x5, x6, v) => v = w' ∧ 0 ≤ x6 ∧ x6 ≤ n.kids ∧ ∃ e : Nat, x5 = e ∧ e ≤ l.length ∧ kidsE (endL l f) n n.kids.toNat 0 (at_ + 1) = kidsE (endL l f) n (n.kids - x6).toNat x6.toNat e, fun (_, x6, _) => (n.kids - x6).toNat, ⟨?_, rfl, trivial⟩, ?_⟩
    · rw [wrap64 (by omega) (by omega)]
      exact ⟨rfl, by omega, by omega, at_ + 1, by omega, by omega, by rw [Int.sub_zero]; rfl⟩
    rintro _ x5 x6 v ⟨rfl, h0, h1, e5, rfl, he5, hk5⟩
    refine ⟨fun hc => ?_, fun hc => ?_⟩
    · have hc : x6 < n.kids := by simpa using hc
      have hstep : kidsE (endL l f) n (n.kids - x6).toNat x6.toNat e5 = match endL l f e5 (kindAt n x6.toNat) with | none => none | some e' => kidsE (endL l f) n (n.kids - (x6 + 1)).toNat (x6 + 1).toNat e' := by
        have h2 : (n.kids - x6).toNat = (n.kids - (x6 + 1)).toNat + 1 := by omega
        have h3 : (x6 + 1).toNat = x6.toNat + 1 := by omega
        rw [h2, h3]
        rfl
      have again : ∀ kk : Int, kk = kindAt n x6.toNat → CallsV Try.prog F_l11End #[.slice s.p s.n s.c, .int .i64 e5, .int .u8 kk, .int .i64 (IntKind.wrap .i64 ((21 - (f + 1 : Nat) : Int) + 1))] v fun r v' => ∃ x7 : Int, r = .int .i64 x7 ∧
          (decide (x7 < 0) = true → v' = v ∧ Value.int .i64 (-1) = .int .i64 (optI (kidsE (endL l f) n n.kids.toNat 0 (at_ + 1)))) ∧
          (decide (x7 < 0) = false → ((v' = v ∧ 0 ≤ IntKind.wrap .i64 (x6 + 1) ∧ IntKind.wrap .i64 (x6 + 1) ≤ n.kids ∧ ∃ e : Nat, x7 = e ∧ e ≤ l.length ∧
              kidsE (endL l f) n n.kids.toNat 0 (at_ + 1) = kidsE (endL l f) n (n.kids - IntKind.wrap .i64 (x6 + 1)).toNat (IntKind.wrap .i64 (x6 + 1)).toNat e) ∧ (n.kids - IntKind.wrap .i64 (x6 + 1)).toNat < (n.kids - x6).toNat) ∧
            sameL [Value.int .i64 n.kind, .int .i64 n.num, .string n.name, .int .i64 n.kids] [.int .i64 n.kind, .int .i64 n.num, .string n.name, .int .i64 n.kids] ∧ True) := fun kk hkk => by
        rw [wrap64 (z := x6 + 1) (by omega) (by omega), wrap64 (z := (21 - (f + 1 : Nat) : Int) + 1) (by omega) (by omega), show ((21 - (f + 1 : Nat) : Int) + 1) = 21 - f from by omega, hkk]
        refine (ih e5 (kindAt n x6.toNat) v ha (by omega) he5).use ⟨_, rfl, ?_⟩
        rw [hk5, hstep]
        cases hr : endL l f e5 (kindAt n x6.toNat) with
        | none => exact ⟨fun _ => ⟨rfl, rfl⟩, fun h => by simp [optI] at h⟩
        | some e' =>
          have := endL_le f e5 _ e' he5 hr
          exact ⟨fun h => by have h := of_decide_eq_true h; simp only [optI] at h; omega, fun _ => ⟨⟨⟨rfl, by omega, by omega, e', rfl, this, rfl⟩, by omega⟩, rfl, trivial⟩⟩
      refine ⟨fun hs => ?_, fun hs => ?_⟩
      · rw [eqS_iff] at hs
        have h2 : ¬ kindsL n = ⟨#[42]⟩ := by simpa using hs
        have hsz : n.kids = (kindsL n).size := by
          unfold manyL at hmany
          simp only [Bool.and_eq_true, Bool.or_eq_true, decide_eq_true_eq, h2, false_or, beq_iff_eq] at hmany
          exact hmany.1
        have hlt2 : x6.toNat < (kindsL n).size := by omega
        exact ⟨_, bget hlt2, h0, again _ (by simp only [kindAt, if_neg h2, bget hlt2])⟩
      · rw [eqS_iff] at hs
        have h2 : kindsL n = ⟨#[42]⟩ := by simpa using hs
        exact again 115 (by simp only [kindAt, if_pos h2])
    · have hc : ¬ x6 < n.kids := by simpa using hc
      refine ⟨rfl, ?_⟩
      rw [hk5, show (n.kids - x6).toNat = 0 from by omega]
      rfl

end Go.Proofs.Ytkjddlgaldnbnaa
end

/-
  CONTRACTS: the names of nodes (the reference's side).
-/
section
set_option linter.unusedVariables false
set_option linter.unusedSimpArgs false
namespace Go.Proofs.Ytkjddlgaldnbnaa

def addV (out : List ByteArray) (n : Nd) : List ByteArray := if n.kind = 2 ∨ n.kind = 12 then (if hasL n.name out = true then out else out ++ [n.name]) else out
def varsL (l : List Nd) : List ByteArray := l.foldl addV []

theorem varsL_step {l : List Nd} {i : Nat} {n : Nd} (h : l[i]? = some n) : varsL (l.take (i + 1)) = addV (varsL (l.take i)) n := by
  unfold varsL
  rw [List.take_add_one, h, List.foldl_append]
  rfl

theorem addV_len (out : List ByteArray) (n : Nd) : (addV out n).length ≤ out.length + 1 := by
  unfold addV
  split
  · split <;> simp
  · omega

theorem foldl_addV_len : ∀ (l : List Nd) (out : List ByteArray), (l.foldl addV out).length ≤ out.length + l.length := by
  intro l
  induction l with
  | nil => intro out; simp
  | cons a l ih =>
    intro out
    have h1 := ih (addV out a)
    have h2 := addV_len out a
    simp only [List.foldl_cons, List.length_cons]
    omega

theorem varsL_len (l : List Nd) : (varsL l).length ≤ l.length := by
  have := foldl_addV_len l []
  simpa [varsL] using this

theorem Keep.append {u0 u u' : View} {s : Sl} (h : Keep u0 u) (hb : But (fun b => s.has b) u u') (hs : ∀ b, s.has b → u0.lim ≤ b) : Keep u0 u' :=
  ⟨Nat.le_trans h.1 hb.1, fun b o hm => hb.2 b o (fun hh => by have := hs b hh; have := u0.lt _ _ hm; omega) (h.2 b o hm)⟩

theorem Own.nil {α : Type} {enc : α → List Value} {sz : Nat} {u : View} {b : Nat} {T : TypeId} : Own enc sz (u.set b (.cells #[] T (0, 0))) ⟨some ⟨b, 0, none⟩, 0, 0⟩ [] :=
  ⟨rfl, Nat.le_refl _, .inr ⟨b, #[], T, (0, 0), rfl, View.set_self _ _ _, Nat.le_refl _, by simp, by simp⟩⟩

theorem flat_enc (l : List ByteArray) : l.flatMap encS = l.map Value.string := by
  induction l with
  | nil => rfl
  | cons a l ih => simp [encS, ih]

theorem k_l11Vars {s : Sl} {l : List Nd} {u : View} (ha : Arr encN 4 u s l) (hl : l.length ≤ 1000000) :
    CallsV Try.prog F_l11Vars #[.slice s.p s.n s.c] u fun v u' => ∃ x : Sl, v = .slice x.p x.n x.c ∧ Keep u u' ∧ Own encS 1 u' x (varsL l) ∧ ∀ b, x.has b → u.lim ≤ b := by
  have hn := ha.n
  refine c_l11Vars s u _ trivial ?_
  intro b hb
  refine ⟨fun (x, i, u') => 0 ≤ i ∧ i ≤ s.n ∧ Keep u u' ∧ Own encS 1 u' x (varsL (l.take i.toNat)) ∧ ∀ b, x.has b → u.lim ≤ b, fun (_, i, _) => s.n - i.toNat, ⟨⟨by omega, by omega, Keep.set hb, Own.nil, ?_⟩, trivial⟩, ?_⟩
  · rintro b' ⟨o, k, h⟩; cases h; exact hb
  rintro _ x i u1 ⟨h0, h1, hk, hown, hx⟩
  refine ⟨fun hc => ?_, fun hc => ?_⟩
  · have hlt : i < (s.n : Int) := of_decide_eq_true hc
    obtain ⟨ad, n, e, hn', hcells⟩ := (ha.keep hk).node h0 hlt
    have hi1 : (i + 1).toNat = i.toNat + 1 := by omega
    have hxl : x.n ≤ i.toNat := by rw [hown.n]; exact Nat.le_trans (varsL_len _) (by simp; omega)
    have next : ∀ (y : Sl) (w : View), Keep u w → Own encS 1 w y (addV (varsL (l.take i.toNat)) n) → (∀ b, y.has b → u.lim ≤ b) →
        ((0 ≤ IntKind.wrap .i64 (i + 1) ∧ IntKind.wrap .i64 (i + 1) ≤ s.n ∧ Keep u w ∧ Own encS 1 w y (varsL (l.take (IntKind.wrap .i64 (i + 1)).toNat)) ∧ ∀ b, y.has b → u.lim ≤ b) ∧ s.n - (IntKind.wrap .i64 (i + 1)).toNat < s.n - i.toNat) ∧ True := fun y w hkw ho hy => by
      rw [wrap64 (by omega) (by omega), hi1, varsL_step hn']
      exact ⟨⟨⟨by omega, by omega, hkw, ho, hy⟩, by omega⟩, trivial⟩
    have skip : ¬ (n.kind = 2 ∨ n.kind = 12) → addV (varsL (l.take i.toNat)) n = varsL (l.take i.toNat) := fun h => by unfold addV; rw [if_neg h]
    refine ⟨fun w => w = u1 ∧ (n.kind = 2 ∨ n.kind = 12), ⟨ad, e, h0, hlt, n.kind, hcells.1, fun h2 => ⟨ad, e, h0, hlt, n.kind, hcells.1, fun h3 => ?_, fun h3 => ⟨⟨rfl, ?_⟩, trivial⟩⟩, fun h2 => ⟨⟨rfl, ?_⟩, trivial⟩⟩, ?_⟩
    · have h2 : ¬ n.kind = 2 := by simpa using h2
      have h3 : ¬ n.kind = 12 := by simpa using h3
      exact next x u1 hk (by rw [skip (by omega)]; exact hown) hx
    · exact .inr (by simpa using h3)
    · exact .inl (by simpa using h2)
    rintro _ w ⟨rfl, hkind⟩
    have hvar : addV (varsL (l.take i.toNat)) n = if hasL n.name (varsL (l.take i.toNat)) = true then varsL (l.take i.toNat) else varsL (l.take i.toNat) ++ [n.name] := by unfold addV; rw [if_pos hkind]
    have hname := hcells.2.2.1
    refine ⟨fun (has, k, v) => v = w ∧ 0 ≤ k ∧ k ≤ x.n ∧ has = hasL n.name ((varsL (l.take i.toNat)).take k.toNat), fun (_, k, _) => x.n - k.toNat, ⟨⟨rfl, by omega, by omega, rfl⟩, trivial⟩, ?_⟩
    rintro _ has k v ⟨rfl, hk0, hk1, hhas⟩
    have hb62 : x.n ≤ 4611686018427387904 := by omega
    refine ⟨fun hc2 => ?_, fun hc2 => ?_⟩
    · have hlt2 : k < (x.n : Int) := of_decide_eq_true hc2
      obtain ⟨ad2, y, e2, hy, hcell2⟩ := (hown.arr hb62).one (fun _ => rfl) hk0 hlt2
      have hk1' : (k + 1).toNat = k.toNat + 1 := by omega
      have htake : (varsL (l.take i.toNat)).take (k.toNat + 1) = (varsL (l.take i.toNat)).take k.toNat ++ [y] := by rw [List.take_add_one, hy]; rfl
      refine ⟨fun hf => ⟨ad2, e2, hk0, hlt2, y, hcell2, ad, e, h0, hlt, n.name, hname, ?_⟩, fun ht => ?_⟩
      · rw [wrap64 (z := k + 1) (by omega) (by omega)]
        refine ⟨⟨⟨rfl, by omega, by omega, ?_⟩, by show x.n - (k + 1).toNat < x.n - k.toNat; omega⟩, trivial⟩
        rw [hk1', htake]
        rw [hf] at hhas
        have hno := hasL_no.1 hhas.symm
        rw [eqS_iff]
        by_cases hyn : y = n.name
        · rw [decide_eq_true hyn]
          exact (hasL_iff.2 (by simp [hyn])).symm
        · rw [decide_eq_false hyn]
          refine (hasL_no.2 ?_).symm
          simp only [List.mem_append, List.mem_singleton, not_or]
          exact ⟨hno, fun h => hyn h.symm⟩
      · rw [wrap64 (z := k + 1) (by omega) (by omega)]
        refine ⟨⟨⟨rfl, by omega, by omega, ?_⟩, by show x.n - (k + 1).toNat < x.n - k.toNat; omega⟩, trivial⟩
        rw [hk1', htake]
        rw [ht] at hhas
        exact (hasL_iff.2 (List.mem_append_left _ (hasL_iff.1 hhas.symm))).symm
    · have hge : ¬ k < (x.n : Int) := of_decide_eq_false hc2
      have hall : (varsL (l.take i.toNat)).take k.toNat = varsL (l.take i.toNat) := List.take_of_length_le (by rw [← hown.n]; omega)
      rw [hall] at hhas
      refine ⟨fun hh => ⟨ad, e, h0, hlt, n.name, hname, fun b2 hb2 => ?_⟩, fun hh => ?_⟩
      · have hhf : hasL n.name (varsL (l.take i.toNat)) = false := by rw [← hhas]; simpa using hh
        have hkeep : Keep v (v.set b2 (.cells #[.string n.name] 9 (0, 0))) := Keep.set hb2
        have hown2 := hown.keep (hkeep.but (B := fun _ => False)) (fun _ _ h => h)
        obtain ⟨hpre, hpost⟩ := hown2.append (bytes := 16) encS_sz (z := .string ⟨#[]⟩) (e := 9) rfl (xs := [n.name]) (m := 1) rfl (by omega) (by omega)
        refine ⟨[.string n.name], rfl, fun v hv => by simp at hv; subst hv; rfl, cells_at (View.set_self _ _ _) (fun j v hj => by rw [Nat.zero_add]; simpa using hj), hpre, fun s' u' hp => ?_⟩
        obtain ⟨ho', hn2, hbut, hfresh⟩ := hpost s' u' hp
        refine next s' u' ((hk.trans hkeep).append hbut hx) (by rw [hvar, hhf]; exact ho') (fun b' hb' => ?_)
        rcases hfresh b' hb' with h | h
        · exact hx b' h
        · have := (hk.trans hkeep).1; omega
      · have hhf : hasL n.name (varsL (l.take i.toNat)) = true := by rw [← hhas]; simpa using hh
        exact next x v hk (by rw [hvar, if_pos hhf]; exact hown) hx
  · have hge : ¬ i < (s.n : Int) := of_decide_eq_false hc
    rw [List.take_of_length_le (by omega)] at hown
    exact ⟨x, rfl, hk, hown, hx⟩

end Go.Proofs.Ytkjddlgaldnbnaa
end

/-
  CONTRACTS: whether nodes are right (the reference's side), concluded.
-/
section
set_option linter.unusedVariables false
set_option linter.unusedSimpArgs false
namespace Go.Proofs.Ytkjddlgaldnbnaa

def rightL (l : List Nd) : Bool := decide (l.length ≤ 200) && decide (optI (endL l 20 0 98) = l.length) && decide ((varsL l).length ≤ 8)

theorem k_nodesRight {s : Sl} {l : List Nd} {u : View} (ha : Arr encN 4 u s l) (hsmall : ∀ n ∈ l, n.name.size ≤ 4611686018427387904) : Gives F_nodesRight #[.slice s.p s.n s.c] u (.bool (rightL l)) := by
  have hn := ha.n
  refine CallsV.back ?_
  refine c_nodesRight s u _ trivial ?_
  refine ⟨fun h1 => ?_, fun h1 => ⟨Keep.refl u, ?_⟩⟩
  · have h1 := of_decide_eq_true h1
    have h200 : l.length ≤ 200 := by omega
    refine (k_l11End hsmall 20 0 98 u ha (by omega) (by omega)).use ⟨_, rfl, fun h2 => ?_, fun h2 => ⟨Keep.refl u, ?_⟩⟩
    · have h2 : optI (endL l 20 0 98) = l.length := by rw [← hn]; simpa using h2
      refine (k_l11Vars ha (by omega)).mono ?_
      rintro _ u1 ⟨x, rfl, hk, hown, _⟩
      refine ⟨x, rfl, hk, ?_⟩
      have hx := hown.n
      unfold rightL
      rw [decide_eq_true h200, decide_eq_true h2, Bool.true_and, Bool.true_and]
      congr 1
      apply decide_eq_decide.2
      omega
    · have h2 : ¬ optI (endL l 20 0 98) = l.length := by rw [← hn]; simpa using h2
      unfold rightL
      rw [decide_eq_false h2, Bool.and_false, Bool.false_and]
  · have h1 := of_decide_eq_false h1
    unfold rightL
    rw [decide_eq_false (p := l.length ≤ 200) (by omega), Bool.false_and, Bool.false_and]

end Go.Proofs.Ytkjddlgaldnbnaa
end

/-
  CONTRACTS: the survey of nodes (the program's side): what is done at each node.
-/
section
set_option linter.unusedVariables false
set_option linter.unusedSimpArgs false
namespace Go.Proofs.Ytkjddlgaldnbnaa

/-- the survey's state: the cell of the depth, the cell of the names -/
structure Sv (u : View) (c0 c1 : Nat) (T0 T1 : TypeId) (l : List ByteArray) (x : Sl) : Prop where
  d : ∃ d : Int, u.m c0 = some (.cells #[.int .i64 d] T0 (0, 0))
  s : u.m c1 = some (.cells #[.slice x.p x.n x.c] T1 (0, 0))
  own : Own encS 1 u x l
  ne : c0 ≠ c1
  n0 : ¬ x.has c0
  n1 : ¬ x.has c1

theorem k_survey1 {u : View} {c0 c1 : Nat} {T0 T1 : TypeId} {l : List ByteArray} {x : Sl} (h : Sv u c0 c1 T0 T1 l x) (n : Nd) (depth : Int) (hl : l.length ≤ 1000000) :
    CallsV Try.prog F_survey1 #[n.val, .int .i64 depth, .pointer (some ⟨c0, 0, none⟩), .pointer (some ⟨c1, 0, none⟩)] u fun v u' => v = .tuple #[] ∧ ∃ x', Sv u' c0 c1 T0 T1 (addV l n) x' ∧
      But (fun b => b = c0 ∨ b = c1 ∨ x.has b) u u' ∧ ∀ b, x'.has b → x.has b ∨ u.lim ≤ b := by
  obtain ⟨kind, num, name, kids⟩ := n
  obtain ⟨d, hd⟩ := h.d
  have hne := h.ne
  refine c_survey1 kind num name kids depth ⟨c0, 0, none⟩ ⟨c1, 0, none⟩ u _ trivial ?_
  intro b hb
  refine ⟨d, cells_get hd rfl, _, T0, (0, 0), hd, .inl (Nat.le_refl _), rfl, by simp, ?_⟩
  -- the state behind the depth's store
  generalize hu1 : u.set c0 (.cells (List.toArray (List.set (Array.toList #[Value.int .i64 d]) 0 (Value.int .i64 (if depth > d then depth else d)))) T0 (0, 0)) = u1
  have e0 : u1.m c0 = some (.cells #[.int .i64 (if depth > d then depth else d)] T0 (0, 0)) := by rw [← hu1]; exact View.set_self _ _ _
  have e1 : u1.m c1 = some (.cells #[.slice x.p x.n x.c] T1 (0, 0)) := by rw [← hu1, View.set_ne _ _ (fun e => hne e.symm)]; exact h.s
  have hbut : But (fun b => b = c0) u u1 := by rw [← hu1]; exact (But.refl _ _).set (.inl rfl)
  have hown : Own encS 1 u1 x l := h.own.keep hbut fun b hx e => h.n0 (e ▸ hx)
  have hbut' : But (fun b => b = c0 ∨ b = c1 ∨ x.has b) u u1 := hbut.mono fun b e => .inl e
  have skip : addV l ⟨kind, num, name, kids⟩ = l → Value.tuple #[] = Value.tuple #[] ∧ ∃ x', Sv u1 c0 c1 T0 T1 (addV l ⟨kind, num, name, kids⟩) x' ∧ But (fun b => b = c0 ∨ b = c1 ∨ x.has b) u u1 ∧ ∀ b, x'.has b → x.has b ∨ u.lim ≤ b :=
    fun e => ⟨rfl, x, ⟨⟨_, e0⟩, e1, by rw [e]; exact hown, hne, h.n0, h.n1⟩, hbut', fun b hb => .inl hb⟩
  have xn := hown.n
  have ha := hown.arr (by omega)
  have main : (kind = 2 ∨ kind = 12) → ∃ x_1 : Sl, u1.cell ⟨c1, 0, none⟩ = some (.slice x_1.p x_1.n x_1.c) ∧ CallsV Try.prog F_containsS #[.slice x_1.p x_1.n x_1.c, .string name] u1 fun v u' =>
      ∃ y : Bool, v = .bool y ∧ ((!y) = true → ∃ x_2 : Sl, u'.cell ⟨c1, 0, none⟩ = some (.slice x_2.p x_2.n x_2.c) ∧ ∀ b : Nat, u'.lim ≤ b → ∃ new : List Value, new.length = 1 ∧ (∀ v : Value, v ∈ new → v.oneCell' = true) ∧
          CellsO (u'.set b (.cells #[.string name] 9)) (some ⟨b, 0, none⟩) new ∧ appPre (u'.set b (.cells #[.string name] 9)) x_2.p x_2.n x_2.c 1 16 1 new ∧
          ∀ (s' : Sl) (w : View), appPost (u'.set b (.cells #[.string name] 9)) x_2.p x_2.n x_2.c 1 (.string ⟨#[]⟩) 9 1 new s' w → ∃ (c : Array Value) (T' : TypeId) (fz : Nat × Nat), w.m c1 = some (.cells c T' fz) ∧ fzOK fz c.size ∧ Addr.spot ⟨c1, 0, none⟩ = none ∧ Addr.off ⟨c1, 0, none⟩ + 1 ≤ c.size ∧
            (Value.tuple #[] = Value.tuple #[] ∧ ∃ x', Sv (w.set c1 (.cells (List.toArray (List.set c.toList 0 (.slice s'.p s'.n s'.c))) T' fz)) c0 c1 T0 T1 (addV l ⟨kind, num, name, kids⟩) x' ∧
              But (fun b => b = c0 ∨ b = c1 ∨ x.has b) u (w.set c1 (.cells (List.toArray (List.set c.toList 0 (.slice s'.p s'.n s'.c))) T' fz)) ∧ ∀ b, x'.has b → x.has b ∨ u.lim ≤ b)) ∧
        ((!y) = false → Value.tuple #[] = Value.tuple #[] ∧ ∃ x', Sv u' c0 c1 T0 T1 (addV l ⟨kind, num, name, kids⟩) x' ∧ But (fun b => b = c0 ∨ b = c1 ∨ x.has b) u u' ∧ ∀ b, x'.has b → x.has b ∨ u.lim ≤ b) := by
    intro hk
    refine ⟨x, cells_get e1 rfl, (k_containsS ha name).use ⟨_, rfl, fun hy => ⟨x, cells_get e1 rfl, fun b2 hb2 => ?_⟩, fun hy => skip ?_⟩⟩
    · have hno : hasL name l = false := by simpa using hy
      have hkeep : Keep u1 (u1.set b2 (.cells #[.string name] 9 (0, 0))) := Keep.set hb2
      have hown2 := hown.keep (hkeep.but (B := fun _ => False)) (fun _ _ h => h)
      obtain ⟨hpre, hpost⟩ := hown2.append (bytes := 16) encS_sz (z := .string ⟨#[]⟩) (e := 9) rfl (xs := [name]) (m := 1) rfl (by omega) (by omega)
      refine ⟨[.string name], rfl, fun v hv => by simp at hv; subst hv; rfl, cells_at (View.set_self _ _ _) (fun j v hj => by rw [Nat.zero_add]; simpa using hj), hpre, fun s' w hp => ?_⟩
      obtain ⟨ho', hn2, hb3, hfresh⟩ := hpost s' w hp
      have w1 : w.m c1 = some (.cells #[.slice x.p x.n x.c] T1 (0, 0)) := hb3.2 _ _ h.n1 (hkeep.2 _ _ e1)
      have w0 : w.m c0 = some (.cells #[.int .i64 (if depth > d then depth else d)] T0 (0, 0)) := hb3.2 _ _ h.n0 (hkeep.2 _ _ e0)
      have l0 := u.lt _ _ hd
      have l1 := u.lt _ _ h.s
      have hlim := Nat.le_trans hbut.1 hkeep.1
      have out : ∀ b, s'.has b → x.has b ∨ u.lim ≤ b := fun b hb => (hfresh b hb).imp id fun h => Nat.le_trans hlim h.1
      have n0' : ¬ s'.has c0 := fun hh => (out _ hh).elim h.n0 fun h => by omega
      have n1' : ¬ s'.has c1 := fun hh => (out _ hh).elim h.n1 fun h => by omega
      refine ⟨_, _, _, w1, .inl (Nat.le_refl _), rfl, by simp, rfl, s', ⟨⟨_, by rw [View.set_ne _ _ hne]; exact w0⟩, View.set_self _ _ _, ?_, hne, n0', n1'⟩, ?_, out⟩
      · have : addV l ⟨kind, num, name, kids⟩ = l ++ [name] := by unfold addV; rw [if_pos hk, if_neg (by rw [hno]; exact Bool.false_ne_true)]
        rw [this]
        exact ho'.keep (B := fun b => b = c1) ((But.refl _ _).set (.inl rfl)) fun b hb e => n1' (e ▸ hb)
      · refine ((hbut'.trans hkeep.but).trans (hb3.mono fun b hb => .inr (.inr hb))).set (.inl (.inr (.inl rfl)))
    · have hyes : hasL name l = true := by simpa using hy
      unfold addV; rw [if_pos hk, if_pos hyes]
  subst hu1
  refine ⟨fun h2 => ⟨fun h12 => main (.inr (by simpa using h12)), fun h12 => skip ?_⟩, fun h2 => main (.inl (by simpa using h2))⟩
  have a1 : ¬ kind = 2 := by simpa using h2
  have a2 : ¬ kind = 12 := by simpa using h12
  unfold addV
  rw [if_neg (by simp only; omega)]

end Go.Proofs.Ytkjddlgaldnbnaa
end

/-
  CONTRACTS: the survey of nodes (the program's side): the tree.
-/
section
set_option linter.unusedVariables false
set_option linter.unusedSimpArgs false
namespace Go.Proofs.Ytkjddlgaldnbnaa

/-- the blocks that the survey turns -/
def SvB (c0 c1 : Nat) (x : Sl) (b : Nat) : Prop := b = c0 ∨ b = c1 ∨ x.has b

theorem SvB.trans {c0 c1 : Nat} {x x1 : Sl} {u u1 u2 : View} (h : But (SvB c0 c1 x) u u1) (hx : ∀ b, x1.has b → x.has b ∨ u.lim ≤ b) (g : But (SvB c0 c1 x1) u1 u2) : But (SvB c0 c1 x) u u2 :=
  ⟨Nat.le_trans h.1 g.1, fun b o hb hm => g.2 b o (fun hh => by
    rcases hh with rfl | rfl | hh
    · exact hb (.inl rfl)
    · exact hb (.inr (.inl rfl))
    · rcases hx b hh with h1 | h1
      · exact hb (.inr (.inr h1))
      · have := u.lt _ _ hm; omega) (h.2 b o hb hm)⟩

theorem has_trans {x x1 x2 : Sl} {u u1 : View} (hl : u.lim ≤ u1.lim) (hx : ∀ b, x1.has b → x.has b ∨ u.lim ≤ b) (gx : ∀ b, x2.has b → x1.has b ∨ u1.lim ≤ b) : ∀ b, x2.has b → x.has b ∨ u.lim ≤ b := fun b hb => by
  rcases gx b hb with h | h
  · exact hx b h
  · exact .inr (Nat.le_trans hl h)

theorem View.cell_but {B : Nat → Prop} {u u' : View} (h : But B u u') {a : Addr} {v : Value} (hb : ¬ B a.block) (hc : u.cell a = some v) : u'.cell a = some v := by
  unfold View.cell at *
  split at hc
  · rename_i c T fz hm
    simp only [h.2 _ _ hb hm]
    exact hc
  · cases hc

theorem add_block (a : Addr) (k : Nat) : (a.add k).block = a.block := by unfold Addr.add; split <;> rfl

theorem Arr.but {α : Type} {enc : α → List Value} {sz : Nat} {u u' : View} {s : Sl} {l : List α} {B : Nat → Prop} (ha : Arr enc sz u s l) (h : But B u u') (hs : ∀ ad, s.p = some ad → ¬ B ad.block) : Arr enc sz u' s l := by
  refine ⟨ha.n, ?_, ha.le, ha.bd⟩
  have hc := ha.cells
  cases hp : s.p with
  | none => rw [hp] at hc; exact hc
  | some ad =>
    rw [hp] at hc
    exact CellsAt.mk fun j v hj => View.cell_but h (by rw [add_block]; exact hs ad hp) (CellsAt.get hc hj)

def okN (n : Nd) : Bool := withinL n.kind 1 26 && withinL n.kids (kidsL n.kind).1 (kidsL n.kind).2 && fieldsL n

def kidsT (l : List Nd) (g : Nat → Option Nat) (n : Nd) : Nat → Nat → Nat → Option Nat
  | 0, _, e => some e
  | c + 1, i, e => match l[e]? with
    | none => none
    | some m => match kidL n i m with
      | false => none
      | true => match g e with
        | none => none
        | some e' => kidsT l g n c (i + 1) e'

/-- the place behind the tree at a place -/
def treeL (l : List Nd) : Nat → Nat → Option Nat
  | 0, _ => none
  | f + 1, at_ => match l[at_]? with
    | none => none
    | some n => match okN n with
      | true => kidsT l (treeL l f) n n.kids.toNat 0 (at_ + 1)
      | false => none

theorem kidsT_le {l : List Nd} {g : Nat → Option Nat} (hg : ∀ e e', e ≤ l.length → g e = some e' → e ≤ e' ∧ e' ≤ l.length) {n : Nd} : ∀ (c i e e' : Nat), e ≤ l.length → kidsT l g n c i e = some e' → e ≤ e' ∧ e' ≤ l.length := by
  intro c
  induction c with
  | zero => intro i e e' he h; simp only [kidsT] at h; cases h; exact ⟨Nat.le_refl _, he⟩
  | succ c ih =>
    intro i e e' he h
    simp only [kidsT] at h
    split at h
    · cases h
    · split at h
      · cases h
      · split at h
        · cases h
        · rename_i e1 h1
          obtain ⟨a1, a2⟩ := hg _ _ he h1
          obtain ⟨b1, b2⟩ := ih _ _ _ a2 h
          exact ⟨Nat.le_trans a1 b1, b2⟩

theorem treeL_le {l : List Nd} : ∀ (f at_ e : Nat), at_ ≤ l.length → treeL l f at_ = some e → at_ ≤ e ∧ e ≤ l.length := by
  intro f
  induction f with
  | zero => intro at_ e _ h; cases h
  | succ f ih =>
    intro at_ e hat h
    simp only [treeL] at h
    split at h
    · cases h
    · rename_i n hn
      split at h
      · have hlt : at_ < l.length := by
          rcases Nat.lt_or_ge at_ l.length with h' | h'
          · exact h'
          · rw [List.getElem?_eq_none h'] at hn; cases hn
        have := kidsT_le (fun e e' he h' => ih e e' he h') _ _ _ _ (by omega) h
        omega
      · cases h

/-- the names of a part of the nodes, put to others -/
def segV (l : List Nd) (a e : Nat) (out : List ByteArray) : List ByteArray := ((l.take e).drop a).foldl addV out

theorem segV_self (l : List Nd) (a : Nat) (out : List ByteArray) : segV l a a out = out := by
  unfold segV
  rw [List.drop_of_length_le (by simp; omega)]
  rfl

theorem segV_trans {l : List Nd} {a e e' : Nat} (h1 : a ≤ e) (h2 : e ≤ e') (out : List ByteArray) : segV l e e' (segV l a e out) = segV l a e' out := by
  unfold segV
  rw [← List.foldl_append]
  congr 1
  have : l.take e = (l.take e').take e := by rw [List.take_take, Nat.min_eq_left h2]
  rw [this, List.drop_take]
  have h3 : (l.take e').drop e = ((l.take e').drop a).drop (e - a) := by rw [List.drop_drop]; congr 1; omega
  rw [h3]
  exact List.take_append_drop _ _

theorem segV_one {l : List Nd} {a : Nat} {n : Nd} (h : l[a]? = some n) (out : List ByteArray) : segV l a (a + 1) out = addV out n := by
  unfold segV
  have hlt : a < l.length := by
    rcases Nat.lt_or_ge a l.length with h' | h'
    · exact h'
    · rw [List.getElem?_eq_none h'] at h; cases h
  rw [List.take_add_one, h, List.drop_append_of_le_length (by simp; omega), List.drop_of_length_le (by simp; omega)]
  rfl

theorem segV_len (l : List Nd) (a e : Nat) (out : List ByteArray) : (segV l a e out).length ≤ out.length + (e - a) := by
  have := foldl_addV_len ((l.take e).drop a) out
  unfold segV
  simp only [List.length_drop, List.length_take] at this
  omega

end Go.Proofs.Ytkjddlgaldnbnaa
end

/-
  CONTRACTS: the survey of nodes (the program's side): the tree, concluded.
-/
section
set_option linter.unusedVariables false
set_option linter.unusedSimpArgs false
namespace Go.Proofs.Ytkjddlgaldnbnaa

/-- what a tree leaves -/
def TP (l : List Nd) (c0 c1 : Nat) (T0 T1 : TypeId) (at_ : Nat) (x : Sl) (names : List ByteArray) (u : View) (r : Option Nat) (u' : View) : Prop :=
  ∃ x' names', Sv u' c0 c1 T0 T1 names' x' ∧ But (SvB c0 c1 x) u u' ∧ (∀ b, x'.has b → x.has b ∨ u.lim ≤ b) ∧ names'.length ≤ names.length + (l.length - at_) ∧ ∀ e, r = some e → names' = segV l at_ e names

theorem k_tree {s : Sl} {l : List Nd} (hsmall : ∀ n ∈ l, n.name.size ≤ 4611686018427387904) {c0 c1 : Nat} {T0 T1 : TypeId} : ∀ (f at_ : Nat) (u : View) (x : Sl) (names : List ByteArray), f ≤ 20 → at_ ≤ l.length → Arr encN 4 u s l →
    (∀ ad, s.p = some ad → ¬ SvB c0 c1 x ad.block ∧ ad.block < u.lim) → Sv u c0 c1 T0 T1 names x → names.length + (l.length - at_) ≤ 1000000 →
    CallsV Try.prog F_tree #[.slice s.p s.n s.c, .int .i64 at_, .int .i64 (21 - f : Int), .func (.func F_survey1) #[] #[.pointer (some ⟨c0, 0, none⟩), .pointer (some ⟨c1, 0, none⟩)]] u fun v u' =>
      v = .int .i64 (optI (treeL l f at_)) ∧ TP l c0 c1 T0 T1 at_ x names u (treeL l f at_) u' := by
  intro f
  induction f with
  | zero =>
    intro at_ u x names hf hat ha hs hsv hlen
    refine c_tree s at_ _ _ _ u _ trivial ?_
    have no : Value.int .i64 (-1) = .int .i64 (optI (treeL l 0 at_)) ∧ TP l c0 c1 T0 T1 at_ x names u (treeL l 0 at_) u := ⟨rfl, x, names, hsv, But.refl _ _, fun b h => .inl h, by omega, fun e h => by cases h⟩
    refine ⟨fun _ => False, ⟨fun h1 => ⟨fun h2 => no, fun h2 => ?_⟩, fun h1 => no⟩, fun _ _ h => h.elim⟩
    simp at h2
  | succ f ih =>
    intro at_ u x names hf hat ha hs hsv hlen
    have hn := ha.n
    have hbd := ha.bd
    refine c_tree s at_ _ _ _ u _ trivial ?_
    have no : treeL l (f + 1) at_ = none → Value.int .i64 (-1) = .int .i64 (optI (treeL l (f + 1) at_)) ∧ TP l c0 c1 T0 T1 at_ x names u (treeL l (f + 1) at_) u := fun h => by
      rw [h]; exact ⟨rfl, x, names, hsv, But.refl _ _, fun b h => .inl h, by omega, fun e h => by cases h⟩
    refine ⟨fun u' => u' = u ∧ at_ < l.length, ⟨fun h1 => ⟨fun h2 => ?_, fun h2 => ⟨⟨rfl, ?_⟩, trivial⟩⟩, fun h1 => no ?_⟩, ?_⟩
    · exfalso
      have := of_decide_eq_true h2
      omega
    · have := of_decide_eq_false h1; omega
    · have := of_decide_eq_true h1
      simp only [treeL]
      rw [List.getElem?_eq_none (by omega)]
    rintro _ u' ⟨rfl, hlt⟩
    obtain ⟨ad, n, e, hn', hc⟩ := ha.node (i := (at_ : Int)) (by omega) (by omega)
    have hn' : l[at_]? = some n := by simpa using hn'
    refine ⟨ad, e, by omega, by omega, n.kind, n.num, n.name, n.kids, hc, fun b hb => ?_⟩
    refine (k_kidsOf n.kind u').use ⟨_, _, rfl, ?_⟩
    have noN : okN n = false → Value.int .i64 (-1) = .int .i64 (optI (treeL l (f + 1) at_)) ∧ TP l c0 c1 T0 T1 at_ x names u' (treeL l (f + 1) at_) u' := fun h => no (by simp only [treeL, hn', h])
    refine ⟨fun w => w = u' ∧ okN n = true, ?_, ?_⟩
    · refine (k_within _ _ _ u').use ⟨_, rfl, fun h1 => (k_within _ _ _ u').use ⟨_, rfl, fun h2 => (k_fieldsRight n (hsmall n (List.mem_of_getElem? hn')) u').use ⟨_, rfl, fun h3 => noN ?_, fun h3 => ⟨⟨rfl, ?_⟩, rfl, trivial⟩⟩, fun h2 => noN ?_⟩, fun h1 => noN ?_⟩
      all_goals simp only [Bool.not_eq_true', Bool.not_eq_false'] at *
      · unfold okN; rw [h3, Bool.and_false]
      · unfold okN; rw [h1, h2, h3]; rfl
      · unfold okN; rw [h2, Bool.and_false, Bool.false_and]
      · unfold okN; rw [h1, Bool.false_and, Bool.false_and]
    rintro _ w ⟨rfl, hok⟩
    have hkids : 0 ≤ n.kids ∧ n.kids ≤ 200 := by
      have h := hok
      unfold okN withinL at h
      simp only [Bool.and_eq_true, decide_eq_true_eq] at h
      have h := h.1.2
      unfold kidsL at h
      split at h
      · simpa using h
      · split at h
        · simp only at h; omega
        · split at h
          · simp only at h; omega
          · split at h
            · simp only at h; omega
            · split at h <;> (simp only at h; omega)
    have htree : treeL l (f + 1) at_ = kidsT l (treeL l f) n n.kids.toNat 0 (at_ + 1) := by simp only [treeL, hn', hok]
    refine ⟨rfl, (k_survey1 hsv n _ (by omega)).mono ?_⟩
    rintro _ u1 ⟨rfl, x1, hsv1, hb1, hx1⟩
    have hb1 : But (SvB c0 c1 x) w u1 := hb1
    refine ⟨rfl, fun (x5, x6, v) => 0 ≤ x6 ∧ x6 ≤ n.kids ∧ ∃ e5 : Nat, x5 = e5 ∧ e5 ≤ l.length ∧ at_ + 1 ≤ e5 ∧ treeL l (f + 1) at_ = kidsT l (treeL l f) n (n.kids - x6).toNat x6.toNat e5 ∧
        ∃ xi, Sv v c0 c1 T0 T1 (segV l at_ e5 names) xi ∧ But (SvB c0 c1 x) w v ∧ ∀ b, xi.has b → x.has b ∨ w.lim ≤ b, fun (_, x6, _) => (n.kids - x6).toNat, ⟨?_, rfl, trivial⟩, ?_⟩
    · rw [wrap64 (by omega) (by omega)]
      refine ⟨by omega, by omega, at_ + 1, by omega, by omega, by omega, by rw [htree, Int.sub_zero]; rfl, x1, ?_, hb1, hx1⟩
      rw [segV_one hn']; exact hsv1
    rintro _ x5 x6 v ⟨h0, h1, e5, rfl, he5, hat5, hk5, xi, hsvi, hbi, hxi⟩
    have hsi : ∀ ad, s.p = some ad → ¬ SvB c0 c1 xi ad.block ∧ ad.block < v.lim := fun ad had => by
      obtain ⟨a1, a2⟩ := hs ad had
      refine ⟨fun hh => ?_, by have := hbi.1; omega⟩
      rcases hh with h | h | h
      · exact a1 (.inl h)
      · exact a1 (.inr (.inl h))
      · rcases hxi _ h with h | h
        · exact a1 (.inr (.inr h))
        · omega
    have hav : Arr encN 4 v s l := ha.but hbi fun ad had => (hs ad had).1
    have hseg := segV_len l at_ e5 names
    -- where the answer is no
    have noV : ∀ {v' : View} {xj : Sl} {nj : List ByteArray}, Sv v' c0 c1 T0 T1 nj xj → But (SvB c0 c1 x) w v' → (∀ b, xj.has b → x.has b ∨ w.lim ≤ b) → nj.length ≤ names.length + (l.length - at_) → treeL l (f + 1) at_ = none →
        Value.int .i64 (-1) = .int .i64 (optI (treeL l (f + 1) at_)) ∧ TP l c0 c1 T0 T1 at_ x names w (treeL l (f + 1) at_) v' := fun a b c d h => by
      rw [h]; exact ⟨rfl, _, _, a, b, c, d, fun e h => by cases h⟩
    refine ⟨fun hc => ?_, fun hc => ?_⟩
    · have hc : x6 < n.kids := of_decide_eq_true hc
      have hstep : kidsT l (treeL l f) n (n.kids - x6).toNat x6.toNat e5 = match l[e5]? with
          | none => none
          | some m => match kidL n x6.toNat m with
            | false => none
            | true => match treeL l f e5 with
              | none => none
              | some e' => kidsT l (treeL l f) n (n.kids - (x6 + 1)).toNat (x6 + 1).toNat e' := by
        have h2 : (n.kids - x6).toNat = (n.kids - (x6 + 1)).toNat + 1 := by omega
        have h3 : (x6 + 1).toNat = x6.toNat + 1 := by omega
        rw [h2, h3]
        rfl
      refine ⟨fun h2 => ?_, fun h2 => noV hsvi hbi hxi (by omega) ?_⟩
      · have h2 := of_decide_eq_false h2
        obtain ⟨ad5, m, e6, hm, hcm⟩ := hav.node (i := (e5 : Int)) (by omega) (by omega)
        have hm : l[e5]? = some m := by simpa using hm
        refine ⟨ad5, e6, by omega, by omega, m.kind, m.num, m.name, m.kids, hcm, ?_⟩
        refine (k_isKid n x6 m v).use ⟨_, rfl, fun h3 => noV hsvi hbi hxi (by omega) ?_, fun h3 => ?_⟩
        · have h3 : kidL n x6 m = false := by simpa using h3
          rw [hk5, hstep, hm]
          simp only [show ((x6.toNat : Nat) : Int) = x6 from by omega, h3]
        · have h3 : kidL n x6 m = true := by simpa using h3
          rw [wrap64 (z := x6 + 1) (by omega) (by omega), wrap64 (z := (21 - (f + 1 : Nat) : Int) + 1) (by omega) (by omega), show ((21 - (f + 1 : Nat) : Int) + 1) = 21 - f from by omega]
          refine (ih e5 v xi (segV l at_ e5 names) (by omega) he5 hav hsi hsvi (by omega)).mono ?_
          rintro _ v' ⟨rfl, xj, nj, hsvj, hbj, hxj, hlj, hej⟩
          have hbj' := SvB.trans hbi hxi hbj
          have hxj' := has_trans hbi.1 hxi hxj
          have hres : treeL l (f + 1) at_ = match treeL l f e5 with
              | none => none
              | some e' => kidsT l (treeL l f) n (n.kids - (x6 + 1)).toNat (x6 + 1).toNat e' := by
            rw [hk5, hstep, hm]
            simp only [show ((x6.toNat : Nat) : Int) = x6 from by omega, h3]
          refine ⟨_, rfl, fun h4 => ?_, fun h4 => ?_⟩
          · cases hr : treeL l f e5 with
            | none => exact noV hsvj hbj' hxj' (by omega) (by rw [hres, hr])
            | some e' => rw [hr] at h4; have := of_decide_eq_true h4; simp only [optI] at this; omega
          · cases hr : treeL l f e5 with
            | none => rw [hr] at h4; have := of_decide_eq_false h4; simp only [optI] at this; omega
            | some e' =>
              obtain ⟨g1, g2⟩ := treeL_le f e5 e' he5 hr
              have hnj := hej e' hr
              rw [segV_trans (by omega) g1] at hnj
              refine ⟨⟨⟨by omega, by omega, e', rfl, g2, by omega, by rw [hres, hr], xj, by rw [← hnj]; exact hsvj, hbj', hxj'⟩, by show (n.kids - (x6 + 1)).toNat < (n.kids - x6).toNat; omega⟩, rfl, trivial⟩
      · have := of_decide_eq_true h2
        rw [hk5, hstep, List.getElem?_eq_none (by omega)]
    · have hc : ¬ x6 < n.kids := of_decide_eq_false hc
      have hz : (n.kids - x6).toNat = 0 := by omega
      rw [hk5, hz]
      refine ⟨rfl, xi, _, hsvi, hbi, hxi, by omega, fun e he => ?_⟩
      simp only [kidsT] at he
      cases he
      rfl

end Go.Proofs.Ytkjddlgaldnbnaa
end

/-
  PLAIN LAWS: both sides say the same of a tree of nodes.
-/
section
set_option linter.unusedVariables false
set_option linter.unusedSimpArgs false
namespace Go.Proofs.Ytkjddlgaldnbnaa

theorem ok_own (n : Nd) : okN n = (ownL n && manyL n) := by
  obtain ⟨kind, num, name, kids⟩ := n
  unfold okN ownL
  generalize fieldsL ⟨kind, num, name, kids⟩ = fr
  by_cases hr : 1 ≤ kind ∧ kind ≤ 26
  · have hw : withinL kind 1 26 = true := by unfold withinL; exact decide_eq_true hr
    simp only [hw, decide_eq_true hr, Bool.true_and]
    rw [Bool.and_comm]
    congr 1
    have : kind = 1 ∨ kind = 2 ∨ kind = 3 ∨ kind = 4 ∨ kind = 5 ∨ kind = 6 ∨ kind = 7 ∨ kind = 8 ∨ kind = 9 ∨ kind = 10 ∨ kind = 11 ∨ kind = 12 ∨ kind = 13 ∨ kind = 14 ∨ kind = 15 ∨ kind = 16 ∨ kind = 17 ∨ (18 ≤ kind ∧ kind ≤ 26) := by omega
    have size1 : ∀ a : UInt8, (⟨#[a]⟩ : ByteArray).size = 1 := fun _ => rfl
    have size2 : ∀ a b : UInt8, (⟨#[a, b]⟩ : ByteArray).size = 2 := fun _ _ => rfl
    have size3 : ∀ a b c : UInt8, (⟨#[a, b, c]⟩ : ByteArray).size = 3 := fun _ _ _ => rfl
    have size0 : (⟨#[]⟩ : ByteArray).size = 0 := rfl
    rw [Bool.eq_iff_iff]
    rcases this with rfl | rfl | rfl | rfl | rfl | rfl | rfl | rfl | rfl | rfl | rfl | rfl | rfl | rfl | rfl | rfl | rfl | hk
    case inr.inr.inl =>
      by_cases h3 : kids = 3
      · subst h3; simp [withinL, kidsL, manyL, kindsL, size3]
      · simp [withinL, kidsL, manyL, kindsL, size2, h3]; omega
    case inr.inr.inr.inr.inr.inr.inr.inr.inr.inr.inr.inr.inr.inr.inr.inr.inr =>
      have n1 : ¬ kind = 1 := by omega
      have n2 : ¬ kind = 3 := by omega
      have n3 : ¬ (kind = 4 ∨ kind = 6) := by omega
      have n4 : ¬ (kind = 2 ∨ kind = 5 ∨ kind = 7 ∨ kind = 8 ∨ kind = 16 ∨ kind = 17) := by omega
      have n5 : ¬ kind = 4 := by omega
      have n6 : ¬ kind = 6 := by omega
      have n7 : ¬ (kind = 9 ∨ kind = 10 ∨ kind = 11 ∨ kind = 12 ∨ kind = 13 ∨ kind = 14 ∨ kind = 15) := by omega
      have e1 : kidsL kind = (2, 2) := by unfold kidsL; rw [if_neg n1, if_neg n2, if_neg n3, if_neg n4, if_pos hk]
      have e2 : kindsL ⟨kind, num, name, kids⟩ = ⟨#[101, 101]⟩ := by unfold kindsL; simp only; rw [if_neg n1, if_neg n4, if_neg n2, if_neg n5, if_neg n6, if_neg n7]
      simp [withinL, e1, manyL, e2, size2]; omega
    all_goals (simp [withinL, kidsL, manyL, kindsL, size0, size1, size2] <;> omega)
  · have hw : withinL kind 1 26 = false := by unfold withinL; exact decide_eq_false hr
    simp only [hw, decide_eq_false hr, Bool.false_and]

theorem kids_of {l : List Nd} {f : Nat} (ih : ∀ at_ k, endL l f at_ k = match l[at_]? with | some n => (match wantL k n.kind with | true => treeL l f at_ | false => none) | none => none) {n : Nd}
    (hk : ∀ (i : Nat) (m : Nd), (i : Int) < n.kids → kidL n i m = wantL (kindAt n i) m.kind) : ∀ (c i e : Nat), ((i + c : Nat) : Int) ≤ n.kids → kidsE (endL l f) n c i e = kidsT l (treeL l f) n c i e := by
  intro c
  induction c with
  | zero => intro i e _; rfl
  | succ c ihc =>
    intro i e h
    simp only [kidsE, kidsT]
    rw [ih]
    cases hm : l[e]? with
    | none => rfl
    | some m =>
      simp only
      rw [hk i m (by omega)]
      cases hw : wantL (kindAt n i) m.kind with
      | false => rfl
      | true =>
        simp only
        cases treeL l f e with
        | none => rfl
        | some e' => exact ihc (i + 1) e' (by omega)

end Go.Proofs.Ytkjddlgaldnbnaa
end

/-
  PLAIN LAWS: both sides say the same of a tree of nodes, concluded.
-/
section
set_option linter.unusedVariables false
set_option linter.unusedSimpArgs false
namespace Go.Proofs.Ytkjddlgaldnbnaa

theorem tree_end' (hk : ∀ n : Nd, okN n = true → ∀ (i : Nat) (m : Nd), (i : Int) < n.kids → kidL n i m = wantL (kindAt n i) m.kind) (l : List Nd) : ∀ (f at_ : Nat) (k : Int),
    endL l f at_ k = match l[at_]? with | some n => (match wantL k n.kind with | true => treeL l f at_ | false => none) | none => none := by
  intro f
  induction f with
  | zero =>
    intro at_ k
    simp only [endL, treeL]
    cases l[at_]? with
    | none => rfl
    | some n => simp only; cases wantL k n.kind <;> rfl
  | succ f ih =>
    intro at_ k
    simp only [endL, treeL]
    cases hn : l[at_]? with
    | none => rfl
    | some n =>
      simp only
      rw [ok_own]
      cases hw : wantL k n.kind with
      | false => simp
      | true =>
        rw [Bool.and_true]
        cases ho : (ownL n && manyL n) with
        | false => rfl
        | true =>
          have hm : 0 ≤ n.kids := by
            simp only [Bool.and_eq_true] at ho
            have := ho.2
            unfold manyL at this
            simp only [Bool.and_eq_true, decide_eq_true_eq] at this
            exact this.2.1
          simp only [if_true]
          exact kids_of (l := l) (f := f) ih (hk n (by rw [ok_own]; exact ho)) n.kids.toNat 0 (at_ + 1) (by omega)

theorem kid_want (n : Nd) (h : okN n = true) (i : Nat) (m : Nd) (hi : (i : Int) < n.kids) : kidL n i m = wantL (kindAt n i) m.kind := by
  obtain ⟨kind, num, name, kids⟩ := n
  unfold okN at h
  simp only [Bool.and_eq_true] at h
  obtain ⟨⟨hr, hk⟩, _⟩ := h
  unfold withinL at hr hk
  have hr := of_decide_eq_true hr
  have hk := of_decide_eq_true hk
  simp only at hr hk hi
  have g1 : (⟨#[101]⟩ : ByteArray)[0]? = some 101 := rfl
  have g2 : (⟨#[101, 98]⟩ : ByteArray)[0]? = some 101 := rfl
  have g3 : (⟨#[101, 98]⟩ : ByteArray)[1]? = some 98 := rfl
  have g4 : (⟨#[101, 98, 98]⟩ : ByteArray)[0]? = some 101 := rfl
  have g5 : (⟨#[101, 98, 98]⟩ : ByteArray)[1]? = some 98 := rfl
  have g6 : (⟨#[101, 98, 98]⟩ : ByteArray)[2]? = some 98 := rfl
  have g7 : (⟨#[101, 101]⟩ : ByteArray)[0]? = some 101 := rfl
  have g8 : (⟨#[101, 101]⟩ : ByteArray)[1]? = some 101 := rfl
  have : kind = 1 ∨ kind = 2 ∨ kind = 3 ∨ kind = 4 ∨ kind = 5 ∨ kind = 6 ∨ kind = 7 ∨ kind = 8 ∨ kind = 9 ∨ kind = 10 ∨ kind = 11 ∨ kind = 12 ∨ kind = 13 ∨ kind = 14 ∨ kind = 15 ∨ kind = 16 ∨ kind = 17 ∨ kind = 18 ∨ kind = 19 ∨ kind = 20 ∨ kind = 21 ∨ kind = 22 ∨ kind = 23 ∨ kind = 24 ∨ kind = 25 ∨ kind = 26 := by omega
  rcases this with rfl | rfl | rfl | rfl | rfl | rfl | rfl | rfl | rfl | rfl | rfl | rfl | rfl | rfl | rfl | rfl | rfl | rfl | rfl | rfl | rfl | rfl | rfl | rfl | rfl | rfl
  all_goals simp [kidsL] at hk
  case inl => simp [kidL, kindAt, kindsL, wantL]
  case inr.inr.inl =>
    have hk2 : kids = 2 ∨ kids = 3 := by omega
    have hi2 : i = 0 ∨ i = 1 ∨ i = 2 := by omega
    rcases hk2 with rfl | rfl <;> rcases hi2 with rfl | rfl | rfl <;> first | (exfalso; omega) | simp [kidL, kindAt, kindsL, wantL, g2, g3, g4, g5, g6]
  all_goals first
    | (exfalso; omega)
    | (have : i = 0 ∨ i = 1 := by omega
       rcases this with rfl | rfl <;> first | (exfalso; omega) | simp [kidL, kindAt, kindsL, wantL, g1, g2, g3, g7, g8])

/-- what the reference says of a tree is what the program says -/
theorem tree_end (l : List Nd) (f at_ : Nat) (k : Int) : endL l f at_ k = match l[at_]? with | some n => (match wantL k n.kind with | true => treeL l f at_ | false => none) | none => none :=
  tree_end' kid_want l f at_ k

end Go.Proofs.Ytkjddlgaldnbnaa
end

/-
  CONTRACTS: the survey of nodes (the program's side), concluded.
-/
section
set_option linter.unusedVariables false
set_option linter.unusedSimpArgs false
namespace Go.Proofs.Ytkjddlgaldnbnaa

theorem rightL_tree {l : List Nd} {n : Nd} (h0 : l[0]? = some n) (hk : n.kind = 1) : rightL l = (decide (l.length ≤ 200) && decide (optI (treeL l 20 0) = l.length) && decide ((varsL l).length ≤ 8)) := by
  unfold rightL
  rw [tree_end, h0]
  have : wantL 98 n.kind = true := by simp [wantL, hk]
  simp only [this]

theorem rightL_no {l : List Nd} (h : l.length = 0 ∨ 200 < l.length ∨ ∃ n, l[0]? = some n ∧ n.kind ≠ 1) : rightL l = false := by
  unfold rightL
  rw [tree_end]
  rcases h with h | h | ⟨n, h0, hk⟩
  · have : l = [] := List.length_eq_zero_iff.1 h
    subst this
    rfl
  · rw [decide_eq_false (p := l.length ≤ 200) (by omega)]; rfl
  · have : wantL 98 n.kind = false := by simp [wantL, hk]
    simp only [h0, this, optI]
    rw [decide_eq_false (p := (-1 : Int) = l.length) (by omega), Bool.and_false, Bool.false_and]

theorem segV_all (l : List Nd) : segV l 0 l.length [] = varsL l := by
  unfold segV varsL
  rw [List.take_length, List.drop_zero]

theorem k_survey {s : Sl} {l : List Nd} {u : View} (ha : Arr encN 4 u s l) (hs : ∀ ad, s.p = some ad → ad.block < u.lim) (hsmall : ∀ n ∈ l, n.name.size ≤ 4611686018427387904) :
    CallsV Try.prog F_survey #[.slice s.p s.n s.c] u fun v u' => ∃ (x : Sl) (d : Int), v = .tuple #[.slice x.p x.n x.c, .int .i64 d, .bool (rightL l)] ∧ Keep u u' ∧ (rightL l = true → Own encS 1 u' x (varsL l) ∧ ∀ b, x.has b → u.lim ≤ b) := by
  have hn := ha.n
  refine c_survey s u _ trivial ?_
  have no : rightL l = false → ∃ (x : Sl) (d : Int), Value.tuple #[.slice none 0 0, .int .i64 0, .bool false] = .tuple #[.slice x.p x.n x.c, .int .i64 d, .bool (rightL l)] ∧ Keep u u ∧ (rightL l = true → Own encS 1 u x (varsL l) ∧ ∀ b, x.has b → u.lim ≤ b) :=
    fun h => ⟨⟨none, 0, 0⟩, 0, by rw [h], Keep.refl u, fun h' => by rw [h] at h'; cases h'⟩
  refine ⟨fun w => w = u ∧ l.length ≤ 200 ∧ ∃ n, l[0]? = some n ∧ n.kind = 1, ⟨fun h1 => ⟨fun h2 => ?_, fun h2 => no (rightL_no (.inr (.inl ?_)))⟩, fun h1 => no (rightL_no (.inl ?_))⟩, ?_⟩
  · have h1 : ¬ (s.n : Int) = 0 := by simpa using h1
    have h2 := of_decide_eq_false h2
    obtain ⟨ad, n, e, hn', hc⟩ := ha.node (i := 0) (by omega) (by omega)
    have hn' : l[0]? = some n := by simpa using hn'
    refine ⟨ad, e, by decide, by omega, n.kind, hc.1, fun h3 => no (rightL_no (.inr (.inr ⟨n, hn', by simpa using h3⟩))), fun h3 => ⟨⟨rfl, by omega, n, hn', by simpa using h3⟩, trivial⟩⟩
  · have := of_decide_eq_true h2; omega
  · have : (s.n : Int) = 0 := by simpa using h1
    omega
  rintro _ w ⟨rfl, hlen, n, hn0, hk1⟩
  intro b hb b1 hb1 b2 hb2 uc huc hkeep hn2 hl2 hm2 hn1 hl1 hm1
  have hlw : w.lim ≤ (w.set b (.cells #[] 9 (0, 0))).lim := (View.set_lim).1
  have kw : Keep w (w.set b (.cells #[] 9 (0, 0))) := Keep.set hb
  have kuc : Keep w uc := kw.trans ⟨huc, hkeep⟩
  have hblim : b < (w.set b (.cells #[] 9 (0, 0))).lim := (View.set_lim).2
  have hne : b2 ≠ b1 := fun e => by subst e; rw [hm2] at hm1; cases hm1
  have hb2' : b2 ≠ b := fun e => by omega
  have hb1' : b1 ≠ b := fun e => by omega
  have hsv : Sv uc b2 b1 2 51 [] ⟨some ⟨b, 0, none⟩, 0, 0⟩ := ⟨⟨0, hm2⟩, hm1, ⟨rfl, Nat.le_refl _, .inr ⟨b, #[], 9, (0, 0), rfl, hkeep _ _ (View.set_self _ _ _), Nat.le_refl _, by simp, by simp⟩⟩, hne, fun ⟨o, k, h⟩ => by cases h; exact hb2' rfl, fun ⟨o, k, h⟩ => by cases h; exact hb1' rfl⟩
  refine (k_tree (s := s) hsmall 20 0 uc _ [] (by omega) (by omega) (ha.keep kuc) (fun ad had => ?_) hsv (by simp; omega)).mono ?_
  · have := hs ad had
    refine ⟨fun hh => ?_, by have := kuc.1; omega⟩
    rcases hh with h | h | ⟨o, k, h⟩
    · omega
    · omega
    · cases h; omega
  rintro _ u' ⟨rfl, x, names, hsv', hbut, hx, hlx, hex⟩
  obtain ⟨d, hd⟩ := hsv'.d
  refine ⟨_, rfl, d, hd, x, hsv'.s, fun u'' hlim h1 h2 => ?_⟩
  have hkeep2 : Keep w u'' := by
    refine ⟨by have := hbut.1; have := kuc.1; omega, fun c o hm => ?_⟩
    have hlt := w.lt _ _ hm
    refine h1 c o o (kw.2 _ _ hm) (hbut.2 _ _ (fun hh => ?_) (kuc.2 _ _ hm))
    rcases hh with hh | hh | ⟨o', k, hh⟩
    · omega
    · omega
    · cases hh; omega
  have hown2 : Own encS 1 u'' x names := ⟨hsv'.own.n, hsv'.own.le, hsv'.own.blk.imp id fun ⟨c, arr, T, fz, hp, hm, hr⟩ => ⟨c, arr, T, fz, hp, by
    rcases hx c ⟨0, none, hp⟩ with ⟨o', k, e⟩ | e
    · cases e; exact h1 _ _ _ (View.set_self _ _ _) hm
    · exact h2 _ _ e hm, hr⟩⟩
  have hfresh : ∀ c, x.has c → w.lim ≤ c := fun c hc => by
    rcases hx c hc with ⟨o', k, e⟩ | e
    · cases e; exact hb
    · have := kuc.1; omega
  have hr := rightL_tree hn0 hk1
  have hxn := hown2.n
  refine ⟨fun he => ?_, fun he => ?_⟩
  · have he : optI (treeL l 20 0) = (s.n : Int) := by simpa using he
    have hsome : treeL l 20 0 = some l.length := by
      cases ht : treeL l 20 0 with
      | none => rw [ht] at he; simp only [optI] at he; omega
      | some e => rw [ht] at he; simp only [optI] at he; congr 1; omega
    have hnames := hex _ hsome
    rw [segV_all] at hnames
    have hval : decide ((x.n : Int) ≤ 8) = rightL l := by
      rw [hr, hsome, decide_eq_true (p := l.length ≤ 200) hlen]
      simp only [optI, decide_true, Bool.true_and]
      apply decide_eq_decide.2
      rw [← hnames]; omega
    exact ⟨x, d, by rw [hval], hkeep2, fun _ => ⟨by rw [← hnames]; exact hown2, hfresh⟩⟩
  · have he : ¬ optI (treeL l 20 0) = (s.n : Int) := by simpa using he
    have hval : rightL l = false := by
      rw [hr, decide_eq_false (p := optI (treeL l 20 0) = l.length) (by rw [← hn]; exact he), Bool.and_false, Bool.false_and]
    exact ⟨x, d, by rw [hval], hkeep2, fun h => by rw [hval] at h; cases h⟩

end Go.Proofs.Ytkjddlgaldnbnaa
end
