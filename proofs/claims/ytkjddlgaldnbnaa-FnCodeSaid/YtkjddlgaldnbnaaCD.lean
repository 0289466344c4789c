import Derived.Test.YtkjddlgaldnbnaaCC
import Derived.Test.YtkjddlgaldnbnaaLA

/-
  CONTRACTS: the depths of code: the program's way.
-/
section
set_option linter.unusedVariables false
set_option linter.unusedSimpArgs false
namespace Go.Proofs.Ytkjddlgaldnbnaa

def initD (n : Nat) : List Int := (List.replicate (n + 1) (-1)).set 0 0
def okOps (l : List Opn) : Bool := decide (l.length ≤ 1500) && l.all (opOk l.length)
/-- the depths of code, if it is right -/
def depI (l : List Opn) : Option (List Int) := if okOps l = true then workI l (2 * l.length + 2) (initD l.length) [0] else none

/-- the two slices at work -/
structure Dp (u0 w : View) (x1 x2 : Sl) (out todo : List Int) (b1 b2 : Int) : Prop where
  keep : Keep u0 w
  o : OwnB encI 1 w b1 x1 out
  t : OwnB encI 1 w b2 x2 todo
  ne : b1 ≠ b2
  f1 : (u0.lim : Int) ≤ b1
  f2 : (u0.lim : Int) ≤ b2

theorem Dp.chg {u0 w w' : View} {x1 x2 : Sl} {out todo : List Int} {b1 b2 : Int} (h : Dp u0 w x1 x2 out todo b1 b2) (g : Keep w w') : Dp u0 w' x1 x2 out todo b1 b2 :=
  ⟨h.keep.trans g, h.o.keep g, h.t.keep g, h.ne, h.f1, h.f2⟩

theorem mu_init (n : Nat) : muK (initD n) [0] = 2 * n + 1 := by
  unfold muK initD
  have := count_set (l := List.replicate (n + 1) (-1 : Int)) (k := 0) (d := 0) (by simp) (by omega)
  rw [List.count_replicate_self] at this
  simp only [List.length_cons, List.length_nil]
  omega

theorem initD_get {n k : Nat} {v : Int} (h : (initD n)[k]? = some v) : v = -1 ∨ (k = 0 ∧ v = 0) := by
  unfold initD at h
  rw [List.getElem?_set] at h
  split at h
  · split at h
    · cases h; right; omega
    · cases h
  · rw [List.getElem?_replicate] at h
    split at h
    · cases h; left; rfl
    · cases h

theorem KI_init (n : Nat) : KI n (initD n) [0] := by
  refine ⟨by simp [initD], fun t ht => ?_, ?_, fun k v hv => ?_⟩
  · simp at ht; subst ht
    exact ⟨by omega, by omega, 0, by simp [initD, List.replicate_succ], by omega⟩
  · cases n with
    | zero => right; right; simp
    | succ n =>
      left
      unfold initD
      rw [List.getElem?_set_ne (by omega), List.getElem?_replicate, if_pos (by omega)]
  · rcases initD_get hv with h | h <;> omega

theorem pushK_le {d : Int} (hd : d ≤ 24) : ∀ (l out todo out' todo' : List Int), (∀ v ∈ out, v ≤ 24) → pushK d l out todo = some (out', todo') → ∀ v ∈ out', v ≤ 24 := by
  intro l
  induction l with
  | nil => intro out todo out' todo' ho h; simp only [pushK] at h; cases h; exact ho
  | cons k r ih =>
    intro out todo out' todo' ho h
    simp only [pushK] at h
    split at h
    · refine ih _ _ _ _ (fun v hv => ?_) h
      rcases List.mem_or_eq_of_mem_set hv with h' | h'
      · exact ho v h'
      · omega
    · split at h
      · exact ih _ _ _ _ ho h
      · cases h

theorem last_get {l : List Int} {a : Int} (h : l[l.length - 1]? = some a) : l.getLast? = some a := by rw [List.getLast?_eq_getElem?]; exact h

theorem flatI (l : List Int) : l.flatMap encI = l.map (Value.int .i64) := by
  induction l with
  | nil => rfl
  | cons a l ih => simp [encI, ih]

end Go.Proofs.Ytkjddlgaldnbnaa
end

/-
  CONTRACTS: the depths of code: the program's way, concluded.
-/
section
set_option linter.unusedVariables false
set_option linter.unusedSimpArgs false
namespace Go.Proofs.Ytkjddlgaldnbnaa

theorem workI_pop {ops : List Opn} {F : Nat} {out todo : List Int} {at_ : Int} (h : todo.getLast? = some at_) (hmu : muK out todo < F) : ∃ F', F = F' + 1 ∧ muK out todo.dropLast < F' ∧
    workI ops F out todo = if at_ = ops.length then (if out[ops.length]? = some 0 then workI ops F' out todo.dropLast else none) else match stepK ops at_ out todo.dropLast with
      | none => none
      | some (out', todo') => workI ops F' out' todo' := by
  have := mu_drop (out := out) h
  obtain ⟨F', rfl⟩ : ∃ F', F = F' + 1 := ⟨F - 1, by omega⟩
  exact ⟨F', rfl, by omega, by simp only [workI, h]; rfl⟩

theorem k_depths {u : View} {s : Sl} {l : List Opn} (ha : Arr encO 2 u s l) : CallsV Try.prog F_depths #[.slice s.p s.n s.c] u fun v u' =>
    ∃ x : Sl, v = .tuple #[.slice x.p x.n x.c, .bool (depI l).isSome] ∧ Keep u u' ∧ ∀ out, depI l = some out → ∃ b, OwnB encI 1 u' b x out ∧ (u.lim : Int) ≤ b := by
  have hn := ha.n
  have no : ∀ w, Keep u w → depI l = none → ∃ x : Sl, Value.tuple #[.slice none 0 0, .bool false] = .tuple #[.slice x.p x.n x.c, .bool (depI l).isSome] ∧ Keep u w ∧ ∀ out, depI l = some out → ∃ b, OwnB encI 1 w b x out ∧ (u.lim : Int) ≤ b :=
    fun w hk h => ⟨⟨none, 0, 0⟩, by rw [h]; rfl, hk, fun out h' => by rw [h] at h'; cases h'⟩
  refine c_depths s u _ trivial ((k_sizeOp s u).use ⟨_, rfl, fun b hb => ?_⟩)
  refine ⟨fun (x, v) => x = (l.length : Int) ∧ Keep u v ∧ okOps l = true, ⟨fun h1 => ?_, fun h1 => no u (Keep.refl u) ?_⟩, ?_⟩
  · have h1 := of_decide_eq_false h1
    intro uc hlim hkeep hnone hblt hcell
    have kuc : Keep u uc := ⟨hlim, hkeep⟩
    refine (k_containsF (ha.keep kuc) s.n hcell).use ⟨_, rfl, _, hcell, fun u'' e1 e2 e3 => ?_⟩
    have ku : Keep u u'' := ⟨by omega, fun b o hm => e2 b o o hm (hkeep _ _ hm)⟩
    refine ⟨fun hb => no _ ku ?_, fun hb => ⟨⟨by rw [hn], ku, ?_⟩, rfl, trivial⟩⟩
    · unfold depI okOps
      rw [← hn]
      have : l.all (opOk s.n) = false := by simpa using hb
      rw [this, Bool.and_false]; rfl
    · unfold okOps
      rw [← hn]
      have : l.all (opOk s.n) = true := by simpa using hb
      rw [this, Bool.and_true, decide_eq_true_eq]; omega
  · have h1 := of_decide_eq_true h1
    unfold depI okOps
    rw [decide_eq_false (p := l.length ≤ 1500) (by omega), Bool.false_and]; rfl
  rintro _ x v ⟨rfl, kv, hok⟩ b hb
  have hdep : depI l = workI l (2 * l.length + 2) (initD l.length) [0] := by unfold depI; rw [if_pos hok]
  have h15 : l.length ≤ 1500 ∧ ∀ o ∈ l, opOk l.length o = true := by
    unfold okOps at hok
    simp only [Bool.and_eq_true, decide_eq_true_eq, List.all_eq_true] at hok
    exact hok
  obtain ⟨h15, hops⟩ := h15
  have hm1 : OwnB encI 1 (v.set b (.cells #[.int .i64 (-1)] 2 (0, 0))) b ⟨some ⟨b, 0, none⟩, 1, 1⟩ [-1] := OwnB.made rfl encI_sz rfl
  rw [wrap64 (z := (l.length : Int) + 1) (by omega) (by omega)]
  refine (k_repeat (n := l.length + 1) (hm1.arr (by simp)) (by omega) (by omega)).mono ?_
  rintro _ u1 ⟨x1, b1, rfl, k1, ho1, hb1⟩
  have hx1 : x1.n = l.length + 1 := by rw [ho1.n]; simp
  have kb : Keep v u1 := (Keep.set hb).trans k1
  have hvb : v.lim ≤ (v.set b (.cells #[.int .i64 (-1)] 2 (0, 0))).lim := View.set_lim.1
  obtain ⟨ad, arr, T', fz, a1, a2, a3, a4, a5, ho2, hch1⟩ := ho1.store1 (c := fun n => .int .i64 n) (fun _ => rfl) (i := 0) (x := -1) 0 (by simp [List.replicate_succ])
  simp only [Nat.zero_mul] at a2 a3 a4 a5 ho2 hch1
  refine ⟨x1, rfl, ad, a1, by decide, by omega, arr, T', fz, a2, a3, a4, a5, fun b' hb' => ?_⟩
  have k2 : Keep v (u1.set (ad.add 0).block (.cells (List.toArray (List.set (Array.toList arr) (ad.add 0).off (.int .i64 0))) T' fz)) := kb.chg1 hch1 (by simp; exact Out.lim (by omega))
  have hinit : (List.replicate (l.length + 1) (-1 : Int)).set 0 0 = initD l.length := rfl
  rw [hinit] at ho2
  -- what is so at each round
  refine ⟨fun (x2, w) => ∃ out todo b1 b2 F, Dp v w x1 x2 out todo b1 b2 ∧ KI l.length out todo ∧ muK out todo < F ∧ F ≤ 2 * l.length + 2 ∧ workI l F out todo = depI l ∧ ∀ d ∈ out, d ≤ 24, fun (x2, w) => 2 * (listI w x1).count (-1) + x2.n, ⟨?_, rfl, trivial⟩, ?_⟩
  · refine ⟨initD l.length, [0], b1, b', _, ⟨?_, ho2.keep (Keep.set hb'), OwnB.made rfl encI_sz rfl, ?_, ?_, ?_⟩, KI_init _, ?_, Nat.le_refl _, hdep.symm, fun d hd => ?_⟩
    · exact k2.trans (Keep.set hb')
    · have := ho2.lt
      have hb'' := hb'
      intro e
      have h3 : (b' : Int) < _ := e ▸ this
      omega
    · omega
    · have := k2.1
      have hb'' := hb'
      have h3 : v.lim ≤ b' := Nat.le_trans this hb''
      omega
    · rw [mu_init]; omega
    · obtain ⟨i, hi⟩ := List.getElem?_of_mem hd
      rcases initD_get hi with h | h <;> omega
  rintro _ x2 w ⟨out, todo, b1, b2, F, hd, hki, hmu, hF, hwork, hout⟩
  have hx2 := hd.t.n
  have hx1' := hd.o.n
  have hk1 := hki.1
  have htl : todo.length ≤ 2 * l.length + 2 := by unfold muK at hmu; omega
  have hoa : Arr encI 1 w x1 out := hd.o.arr (by omega)
  have hta : Arr encI 1 w x2 todo := hd.t.arr (by omega)
  have hmeas : 2 * (listI w x1).count (-1) + x2.n = muK out todo := by rw [listI_eq hoa, hx2]; rfl
  have kw : Keep u w := kv.trans hd.keep
  refine ⟨fun hpos => ?_, fun hpos => ?_⟩
  · have hpos := of_decide_eq_true hpos
    have w1 : IntKind.wrap .i64 ((x2.n : Int) - 1) = ((todo.length - 1 : Nat) : Int) := by rw [wrap64 (by omega) (by omega)]; omega
    rw [w1]
    obtain ⟨ad, at_, e, hat, hc⟩ := hta.one (c := fun n => .int .i64 n) (fun _ => rfl) (i := ((todo.length - 1 : Nat) : Int)) (by omega) (by omega)
    rw [Int.toNat_natCast] at hat hc ⊢
    have hlast := last_get hat
    have hcap := hd.t.le
    obtain ⟨F', rfl, hmu', hstep⟩ := workI_pop (ops := l) hlast hmu
    rw [hwork] at hstep
    obtain ⟨t0, t1, dv, hdv, hdne⟩ := hki.2.1 at_ (last_mem hlast)
    have hpop : ∀ {out : List Int} {w : View}, Dp v w x1 x2 out todo b1 b2 → Dp v w x1 ⟨slP x2.p 0 x2.c 1, todo.length - 1 - 0, x2.c - 0⟩ out todo.dropLast b1 b2 := fun hd => by
      rw [slP_zero, Nat.sub_zero, Nat.sub_zero, List.dropLast_eq_take]
      have hf2 := hd.f2
      exact ⟨hd.keep, hd.o, hd.t.cut encI_sz (by omega) (by omega), hd.ne, hd.f1, hd.f2⟩
    refine ⟨ad, e, by omega, by omega, at_, hc, by decide, by show (0 : Int) ≤ _; omega, by omega, fun heq => ?_, fun hne => ?_⟩
    · have heq : at_ = l.length := by simpa using heq
      subst heq
      rw [Int.toNat_natCast] at hdv
      obtain ⟨ad', d', e', hd', hc'⟩ := hoa.one (c := fun n => .int .i64 n) (fun _ => rfl) (i := (l.length : Int)) (by omega) (by omega)
      rw [Int.toNat_natCast] at hd' hc' ⊢
      rw [hdv] at hd'
      cases hd'
      rw [if_pos rfl, hdv] at hstep
      refine ⟨ad', e', by omega, by omega, dv, hc', fun h0 => no w kw ?_, fun h0 => ⟨⟨⟨out, todo.dropLast, b1, b2, F', hpop hd, ?_, hmu', by omega, ?_, hout⟩, ?_⟩, rfl, trivial⟩⟩
      · have h0 : dv ≠ 0 := by simpa using h0
        rw [hstep, if_neg (by simpa using h0)]
      · have h0 : dv = 0 := by simpa using h0
        subst h0
        exact ⟨hk1, fun t ht => hki.2.1 t (drop_mem ht), .inr (.inl hdv), hki.2.2.2⟩
      · have h0 : dv = 0 := by simpa using h0
        rw [hstep, if_pos (by rw [h0])]
      · show 2 * (listI w x1).count (-1) + (todo.length - 1 - 0) < 2 * (listI w x1).count (-1) + x2.n
        omega
    · have hne : ¬ at_ = l.length := by simpa using hne
      rw [if_neg hne] at hstep
      obtain ⟨ado, o, eo, ho, hco⟩ := (ha.keep kw).op (i := at_) t0 (by omega)
      refine ⟨ado, eo, t0, by omega, o.kind, o.num, hco, fun b hb => ?_⟩
      refine (k_takes o.kind w).use ⟨_, _, rfl, ?_⟩
      obtain ⟨ad', d', e', hd', hc'⟩ := hoa.one (c := fun n => .int .i64 n) (fun _ => rfl) (i := at_) t0 (by omega)
      rw [hdv] at hd'
      cases hd'
      have hdl : -1 ≤ dv ∧ dv ≤ 24 := ⟨hki.2.2.2 _ _ hdv, hout _ (List.mem_of_getElem? hdv)⟩
      have htk := takes_pos o.kind
      have htk2 : (takesL o.kind).1 ≤ 2 ∧ (takesL o.kind).2 ≤ 1 := by unfold takesL; repeat' split
                                                                      all_goals simp
      have w2 : IntKind.wrap .i64 (dv - (takesL o.kind).1) = dv - (takesL o.kind).1 := wrap64 (by omega) (by omega)
      have w3 : IntKind.wrap .i64 (dv - (takesL o.kind).1 + (takesL o.kind).2) = dv - (takesL o.kind).1 + (takesL o.kind).2 := wrap64 (by omega) (by omega)
      have hst : ∀ x, stepK l at_ out todo.dropLast = x → depI l = match x with | none => none | some (out', todo') => workI l F' out' todo' := fun x hx => by rw [← hx]; exact hstep
      have bad : (dv - (takesL o.kind).1 < 0 ∨ dv - (takesL o.kind).1 + (takesL o.kind).2 > 24) → depI l = none := fun h => by
        rw [hst none (by unfold stepK; rw [ho, hdv]; simp only; rw [if_pos h])]
      have hnx64 : -9223372036854775808 ≤ at_ + 1 ∧ at_ + 1 ≤ 9223372036854775807 := by omega
      refine ⟨ad', e', t0, by omega, dv, hc', ?_⟩
      rw [w2, w3, wrap64 hnx64.1 hnx64.2]
      refine ⟨fun w' => w' = w ∧ 0 ≤ dv - (takesL o.kind).1 ∧ dv - (takesL o.kind).1 + (takesL o.kind).2 ≤ 24, ⟨fun g1 => ⟨fun g2 => no w kw (bad (.inr ?_)), fun g2 => ⟨⟨rfl, ?_, ?_⟩, rfl, rfl, trivial⟩⟩, fun g1 => no w kw (bad (.inl ?_))⟩, ?_⟩
      · exact of_decide_eq_true g2
      · have := of_decide_eq_false g1; omega
      · have := of_decide_eq_false g2; omega
      · exact of_decide_eq_true g1
      rintro _ w ⟨rfl, hd0, hd24⟩ bn hbn
      have hgo : depI l = match pushK (dv - (takesL o.kind).1 + (takesL o.kind).2) (nextL o at_) out todo.dropLast with | none => none | some (out', todo') => workI l F' out' todo' := by
        refine hst _ ?_
        unfold stepK; rw [ho, hdv]; simp only; rw [if_neg (by omega)]
      generalize hdd : dv - (takesL o.kind).1 + (takesL o.kind).2 = dd at *
      have hok0 := hops o (List.mem_of_getElem? ho)
      have hnx := next_in t0 (by omega) ho hops
      have hnil : OwnB encI 1 (w.set bn (.cells #[] 2 (0, 0))) bn ⟨some ⟨bn, 0, none⟩, 0, 0⟩ ([] : List Int) := OwnB.nil
      -- the places that come next
      refine ⟨fun (xn, w') => Keep w w' ∧ ∃ b3, OwnB encI 1 w' b3 xn (if o.kind = 11 then [] else [at_ + 1]) ∧ (w.lim : Int) ≤ b3, ⟨fun g1 => ?_, fun g1 => ⟨⟨Keep.set hbn, bn, ?_, by omega⟩, rfl, rfl, trivial⟩⟩, ?_⟩
      · have g1 : ¬ o.kind = 11 := by simpa using g1
        refine hnil.push encI_sz (at_ + 1) rfl rfl rfl rfl rfl (by simp) (by simp) fun b' s' w' ho' hch hb' => ⟨⟨(Keep.set hbn).chg1 hch (by simp; exact Out.lim (by omega)), b', by rw [if_neg g1]; exact ho', ?_⟩, rfl, rfl, trivial⟩
        have h3 : w.lim ≤ (w.set bn (.cells #[] 2 (0, 0))).lim := View.set_lim.1
        omega
      · have g1 : o.kind = 11 := by simpa using g1
        rw [if_pos g1]; exact hnil
      rintro _ xn w1 ⟨kw1, b3, ho3, hb3⟩
      have hx3 := ho3.n
      have app : ∀ L : List Int, (if o.kind = 11 then [] else [at_ + 1]) ++ [o.num] = L → ∀ b : Nat, w1.lim ≤ b → ∃ new : List Value, new.length = 1 ∧ (∀ v : Value, v ∈ new → v.oneCell' = true) ∧ CellsO (w1.set b (.cells #[.int .i64 o.num] 2 (0, 0))) (some ⟨b, 0, none⟩) new ∧
          appPre (w1.set b (.cells #[.int .i64 o.num] 2 (0, 0))) xn.p xn.n xn.c 1 8 1 new ∧ ∀ (s' : Sl) (w' : View), appPost (w1.set b (.cells #[.int .i64 o.num] 2 (0, 0))) xn.p xn.n xn.c 1 (.int .i64 0) 2 1 new s' w' → (Keep w w' ∧ ∃ b3, OwnB encI 1 w' b3 s' L ∧ (w.lim : Int) ≤ b3) ∧
            sameL [Value.int .i64 l.length] [Value.int .i64 l.length] ∧ sameL [Value.int .i64 o.kind, .int .i64 o.num] [.int .i64 o.kind, .int .i64 o.num] ∧ True := fun L hL => by
        refine ho3.push encI_sz o.num rfl rfl rfl rfl rfl (by split <;> simp) (by split <;> simp) fun b' s' w' ho' hch hb' => ⟨⟨kw1.chg1 hch (by simp; exact Out.lim hb3), b', by rw [← hL]; exact ho', ?_⟩, rfl, rfl, trivial⟩
        have := kw1.1
        omega
      refine ⟨fun (xn, w') => Keep w w' ∧ ∃ b3, OwnB encI 1 w' b3 xn (nextL o at_) ∧ (w.lim : Int) ≤ b3, ⟨fun g1 => ⟨fun g2 => app _ ?_, fun g2 => ⟨⟨kw1, b3, ?_, hb3⟩, rfl, rfl, trivial⟩⟩, fun g1 => app _ ?_⟩, ?_⟩
      · have g1 : ¬ o.kind = 11 := by simpa using g1
        have g2 : o.kind = 12 := by simpa using g2
        rw [if_neg g1]; unfold nextL; rw [if_neg g1, if_pos g2]; rfl
      · have g1 : ¬ o.kind = 11 := by simpa using g1
        have g2 : ¬ o.kind = 12 := by simpa using g2
        rw [if_neg g1] at ho3; unfold nextL; rw [if_neg g1, if_neg g2]; exact ho3
      · have g1 : o.kind = 11 := by simpa using g1
        rw [if_pos g1]; unfold nextL; rw [if_pos g1]; rfl
      rintro _ xn w2 ⟨kw2, b3, ho3, hb3⟩
      have hx3 := ho3.n
      have hnl : (nextL o at_).length ≤ 2 := by unfold nextL; split <;> (try split) <;> simp
      have hlo := hd.o.lt
      have hlt := hd.t.lt
      -- the round over them
      refine ⟨fun (x3, k, w') => 0 ≤ k ∧ k ≤ xn.n ∧ Keep w2 w2 ∧ ∃ out' todo' b2' b3, Dp v w' x1 x3 out' todo' b1 b2' ∧ OwnB encI 1 w' b3 xn (nextL o at_) ∧ b3 ≠ b1 ∧ b3 ≠ b2' ∧ (v.lim : Int) ≤ b3 ∧ out'.length = l.length + 1 ∧ todo'.length ≤ todo.length + k.toNat ∧
          pushK dd ((nextL o at_).drop k.toNat) out' todo' = pushK dd (nextL o at_) out todo.dropLast ∧ ∀ z ∈ out', z ≤ 24, fun (_, k, _) => (xn.n - k).toNat, ⟨⟨by omega, by omega, Keep.refl _, out, todo.dropLast, b2, b3, hpop (hd.chg kw2), ho3, by omega, by omega, by have := hd.keep.1; omega, hk1, by simp <;> omega, by simp, hout⟩, rfl, rfl, trivial⟩, ?_⟩
      rintro _ x3 k w3 ⟨h0, h1, _, out', todo', b2', b3', hd3, hx, hne1, hne2, hvl, hol, htol, hpush, hout'⟩
      have hx3n := hd3.t.n
      have hoa3 : Arr encI 1 w3 x1 out' := hd3.o.arr (by omega)
      have kw3 : Keep u w3 := kv.trans hd3.keep
      refine ⟨fun hlt => ?_, fun hlt => ?_⟩
      · have hlt := of_decide_eq_true hlt
        obtain ⟨adn, kk, en, hkk, hcn⟩ := (hx.arr (by omega)).one (c := fun n => .int .i64 n) (fun _ => rfl) (i := k) h0 (by omega)
        have hkk2 := hnx kk (List.mem_of_getElem? hkk)
        have hx1n := hd3.o.n
        obtain ⟨ado', dk, eo', hdk, hcd⟩ := hoa3.one (c := fun n => .int .i64 n) (fun _ => rfl) (i := kk) hkk2.1 (by omega)
        have hdrop : (nextL o at_).drop k.toNat = kk :: (nextL o at_).drop (k.toNat + 1) := by
          have hh : k.toNat < (nextL o at_).length := by omega
          rw [List.drop_eq_getElem_cons hh]
          rw [List.getElem?_eq_getElem hh] at hkk
          cases hkk; rfl
        rw [hdrop] at hpush
        simp only [pushK] at hpush
        have w4 : IntKind.wrap .i64 (k + 1) = k + 1 := wrap64 (by omega) (by omega)
        have hk1 : (k + 1).toNat = k.toNat + 1 := by omega
        rw [w4]
        refine ⟨adn, en, h0, hlt, kk, hcn, ado', eo', hkk2.1, by omega, dk, hcd, fun c1 => ?_, fun c1 => ⟨fun c2 => ?_, fun c2 => no w3 kw3 ?_⟩⟩
        · have c1 : dk = -1 := by simpa using c1
          rw [c1] at hdk
          rw [if_pos hdk] at hpush
          obtain ⟨ad6, arr6, T6, fz6, g1, g2, g3, g4, g5, g6, g7⟩ := hd3.o.store1 (c := fun n => .int .i64 n) (fun _ => rfl) (i := kk.toNat) dd hdk
          refine ⟨ad6, g1, hkk2.1, by omega, arr6, T6, fz6, g2, g3, g4, g5, ?_⟩
          have hkp := hd3.keep.chg1 g7 (by simp; exact Out.lim hd3.f1)
          refine (hd3.t.chg g7 (by simp; exact fun e => hd3.ne e.symm)).push encI_sz kk rfl rfl rfl rfl rfl (by omega) (by omega) fun b' s' w' ho' hch hb' => ?_
          have hlim7 := g7.1
          refine ⟨⟨⟨by omega, by omega, Keep.refl _, out'.set kk.toNat dd, todo' ++ [kk], b', b3', ⟨hkp.chg1 hch (by simp; exact Out.lim hd3.f2), g6.chg hch (by simp; exact hd3.ne), ho', ?_, hd3.f1, ?_⟩, (hx.chg g7 (by simp; exact hne1)).chg hch (by simp; exact hne2), hne1, ?_, hvl, by simpa using hol, by simp; omega, by rw [hk1]; exact hpush, fun z hz => ?_⟩, ?_⟩, rfl, rfl, trivial⟩
          · rcases hb' with rfl | hb'
            · exact hd3.ne
            · have := hd3.o.lt; omega
          · rcases hb' with rfl | hb'
            · exact hd3.f2
            · have := hd3.keep.1; omega
          · rcases hb' with rfl | hb'
            · exact hne2
            · have := hx.lt; omega
          · rcases List.mem_or_eq_of_mem_set hz with h' | h'
            · exact hout' z h'
            · omega
          · show (xn.n - (k + 1)).toNat < (xn.n - k).toNat; omega
        · have c1 : ¬ dk = -1 := by simpa using c1
          have c2 : dk = dd := by simpa using c2
          subst c2
          rw [if_neg (by rw [hdk]; intro e; exact c1 (Option.some.inj e)), if_pos hdk] at hpush
          refine ⟨⟨⟨by omega, by omega, Keep.refl _, out', todo', b2', b3', hd3, hx, hne1, hne2, hvl, hol, by omega, by rw [hk1]; exact hpush, hout'⟩, ?_⟩, rfl, rfl, trivial⟩
          show (xn.n - (k + 1)).toNat < (xn.n - k).toNat; omega
        · have c1 : ¬ dk = -1 := by simpa using c1
          have c2 : ¬ dk = dd := by simpa using c2
          rw [if_neg (by rw [hdk]; intro e; exact c1 (Option.some.inj e)), if_neg (by rw [hdk]; intro e; exact c2 (Option.some.inj e))] at hpush
          rw [hgo, ← hpush]
      · have hlt := of_decide_eq_false hlt
        rw [List.drop_of_length_le (by omega)] at hpush
        simp only [pushK] at hpush
        have hdd0 : 0 ≤ dd := by omega
        have hki0 : KI l.length out todo.dropLast ∨ True := .inr trivial
        have hki' : KI l.length out' todo' := by
          have hk0 : KI l.length out todo.dropLast := ⟨hki.1, fun t ht => hki.2.1 t (drop_mem ht), by
            rcases hki.2.2.1 with h' | h' | h'
            · exact .inl h'
            · exact .inr (.inl h')
            · rcases mem_dropLast hlast h' with h' | h'
              · exact absurd h'.symm hne
              · exact .inr (.inr h'), hki.2.2.2⟩
          exact pushK_KI hdd0 _ _ _ _ _ hnx hk0 hpush.symm
        have hmu2 := pushK_mu hdd0 _ _ _ _ _ hpush.symm
        have hmd := mu_drop (out := out) hlast
        refine ⟨⟨⟨out', todo', b1, b2', F', hd3, hki', by omega, by omega, by rw [hgo, ← hpush], hout'⟩, ?_⟩, rfl, trivial⟩
        show 2 * (listI w3 x1).count (-1) + x3.n < 2 * (listI w x1).count (-1) + x2.n
        rw [hmeas, listI_eq hoa3, hx3n]
        show muK out' todo' < muK out todo
        omega
  · have hpos := of_decide_eq_false hpos
    have ht0 : todo = [] := List.length_eq_zero_iff.1 (by omega)
    subst ht0
    obtain ⟨F', rfl⟩ : ∃ F', F = F' + 1 := ⟨F - 1, by omega⟩
    simp only [workI, List.getLast?_nil] at hwork
    refine ⟨x1, by rw [← hwork]; rfl, kw, fun out' h => ?_⟩
    rw [← hwork] at h
    cases h
    exact ⟨b1, hd.o, by have := kv.1; have := hd.f1; omega⟩

end Go.Proofs.Ytkjddlgaldnbnaa
end

/-
  CONTRACTS: whether code is right, its depths, how many ops are reached (the program's side).
-/
section
set_option linter.unusedVariables false
set_option linter.unusedSimpArgs false
namespace Go.Proofs.Ytkjddlgaldnbnaa

theorem workI_len {ops : List Opn} : ∀ (F : Nat) (out todo out' : List Int), workI ops F out todo = some out' → out'.length = out.length := by
  intro F
  induction F with
  | zero => intro out todo out' h; cases h
  | succ F ih =>
    intro out todo out' h
    simp only [workI] at h
    split at h
    · cases h; rfl
    · split at h
      · split at h
        · exact ih _ _ _ h
        · cases h
      · split at h
        · cases h
        · rename_i hs
          obtain ⟨o, d, _, _, _, _, hp⟩ := stepK_some hs
          rw [ih _ _ _ h, (pushK_mono _ _ _ _ _ hp).1]

theorem depI_len {l : List Opn} {out : List Int} (h : depI l = some out) : out.length = l.length + 1 := by
  unfold depI at h
  split at h
  · rw [workI_len _ _ _ _ h]; simp [initD]
  · cases h

def depsL (l : List Opn) : List Int := match depI l with | some out => out.take l.length | none => []

theorem k_codeRight {u : View} {s : Sl} {l : List Opn} (ha : Arr encO 2 u s l) : Gives F_codeRight #[.slice s.p s.n s.c] u (.bool (depI l).isSome) := by
  refine CallsV.back (c_codeRight s u _ trivial ((k_depths ha).mono ?_))
  rintro _ u1 ⟨x, rfl, hk, _⟩
  exact ⟨x, _, rfl, hk, rfl⟩

theorem k_codeDepths {u : View} {s : Sl} {l : List Opn} (ha : Arr encO 2 u s l) : CallsV Try.prog F_codeDepths #[.slice s.p s.n s.c] u fun v u' => ∃ x : Sl, v = .slice x.p x.n x.c ∧ Keep u u' ∧ Arr encI 1 u' x (depsL l) := by
  have hn := ha.n
  refine c_codeDepths s u _ trivial ((k_depths ha).mono ?_)
  rintro _ u1 ⟨x, rfl, hk, hx⟩
  refine ⟨x, _, rfl, fun h => ?_, fun h => ?_⟩
  · refine ⟨⟨none, 0, 0⟩, rfl, hk, ?_⟩
    have : depsL l = [] := by
      unfold depsL
      cases hd : depI l with
      | none => rfl
      | some out => rw [hd] at h; simp at h
    rw [this]
    exact ⟨rfl, rfl, Nat.le_refl _, by decide⟩
  · cases hd : depI l with
    | none => rw [hd] at h; simp at h
    | some out =>
      obtain ⟨b, ho, hb⟩ := hx out hd
      have hl := depI_len hd
      have hxn := ho.n
      have hxc := ho.le
      have h15 : l.length ≤ 1500 := by
        unfold depI at hd
        split at hd
        · rename_i h'
          unfold okOps at h'
          simp only [Bool.and_eq_true, decide_eq_true_eq] at h'
          exact h'.1
        · cases hd
      refine ⟨by decide, by show (0 : Int) ≤ _; omega, by omega, ⟨slP x.p 0 x.c 1, Int.toNat (s.n : Int) - 0, x.c - 0⟩, rfl, hk, ?_⟩
      rw [slP_zero, Nat.sub_zero, Nat.sub_zero, Int.toNat_natCast, hn]
      have : depsL l = out.take l.length := by unfold depsL; rw [hd]
      rw [this]
      exact (ho.cut encI_sz (by omega) (by omega)).arr (by simp; omega)

theorem k_opsUsed {u : View} {s : Sl} {l : List Opn} (ha : Arr encO 2 u s l) : Gives F_opsUsed #[.slice s.p s.n s.c] u (.int .i64 ((depsL l).countP fun d => decide (d ≥ 0))) := by
  refine CallsV.back (c_opsUsed s u _ trivial ((k_codeDepths ha).mono ?_))
  rintro _ u1 ⟨x, rfl, hk, hx⟩
  have hn := hx.n
  have hb := hx.bd
  refine ⟨x, rfl, fun (m, i, v) => v = u1 ∧ 0 ≤ i ∧ i ≤ x.n ∧ m = ((depsL l).take i.toNat).countP (fun d => decide (d ≥ 0)), fun (_, i, _) => (x.n - i).toNat, ⟨⟨rfl, by omega, by omega, by simp⟩, trivial⟩, ?_⟩
  rintro _ m i v ⟨rfl, h0, h1, rfl⟩
  refine ⟨fun hlt => ?_, fun hlt => ?_⟩
  · have hlt := of_decide_eq_true hlt
    obtain ⟨ad, d, e, hd, hc⟩ := hx.one (c := fun n => .int .i64 n) (fun _ => rfl) h0 hlt
    have hle := List.countP_le_length (p := fun d => decide (d ≥ 0)) (l := (depsL l).take i.toNat)
    have hle2 : ((depsL l).take i.toNat).length ≤ (depsL l).length := by simp; omega
    have hi1 : (i + 1).toNat = i.toNat + 1 := by omega
    have hstep : ((depsL l).take (i.toNat + 1)).countP (fun d => decide (d ≥ 0)) = ((depsL l).take i.toNat).countP (fun d => decide (d ≥ 0)) + if d ≥ 0 then 1 else 0 := by
      rw [take_succ hd, List.countP_append]; simp
    refine ⟨ad, e, h0, hlt, d, hc, fun hp => ⟨⟨⟨rfl, ?_, ?_, ?_⟩, ?_⟩, trivial⟩, fun hp => ⟨⟨⟨rfl, ?_, ?_, ?_⟩, ?_⟩, trivial⟩⟩
    all_goals (try rw [wrap64 (z := i + 1) (by omega) (by omega)])
    · omega
    · omega
    · rw [wrap64 (by omega) (by omega), hi1, hstep, if_pos (of_decide_eq_true hp)]; omega
    · show (x.n - (i + 1)).toNat < (x.n - i).toNat; omega
    · omega
    · omega
    · rw [hi1, hstep, if_neg (of_decide_eq_false hp)]; omega
    · show (x.n - (i + 1)).toNat < (x.n - i).toNat; omega
  · have hlt := of_decide_eq_false hlt
    rw [List.take_of_length_le (by omega)]
    exact ⟨hk, rfl⟩

end Go.Proofs.Ytkjddlgaldnbnaa
end

/-
  CONTRACTS: the depths of code (the reference's side).
-/
section
set_option linter.unusedVariables false
set_option linter.unusedSimpArgs false
namespace Go.Proofs.Ytkjddlgaldnbnaa

theorem workS_pop {ops : List Opn} {F : Nat} {out todo : List Int} {at_ : Int} (h : todo.getLast? = some at_) (hmu : muK out todo < F) : ∃ F', F = F' + 1 ∧ muK out todo.dropLast < F' ∧
    workS ops F out todo = if at_ = ops.length then workS ops F' out todo.dropLast else match stepK ops at_ out todo.dropLast with
      | none => none
      | some (out', todo') => workS ops F' out' todo' := by
  have := mu_drop (out := out) h
  obtain ⟨F', rfl⟩ : ∃ F', F = F' + 1 := ⟨F - 1, by omega⟩
  exact ⟨F', rfl, by omega, by simp only [workS, h]; rfl⟩

/-- what holds of places in the reference's way -/
def KS (n : Nat) (out todo : List Int) : Prop := out.length = n + 1 ∧ (∀ t ∈ todo, 0 ≤ t ∧ t ≤ n ∧ ∃ v, out[t.toNat]? = some v ∧ v ≠ -1) ∧ ∀ (k : Nat) (v : Int), out[k]? = some v → -1 ≤ v

theorem KS.drop {n : Nat} {out todo : List Int} {a : Int} (h : KS n out todo) (hl : todo.getLast? = some a) : KS n out todo.dropLast := ⟨h.1, fun t ht => h.2.1 t (drop_mem ht), h.2.2⟩

theorem KS_init (n : Nat) : KS n (initD n) [0] := ⟨(KI_init n).1, (KI_init n).2.1, (KI_init n).2.2.2⟩

theorem pushK_KS {n : Nat} {d : Int} (hd : 0 ≤ d) : ∀ (l out todo out' todo' : List Int), (∀ k ∈ l, 0 ≤ k ∧ k ≤ n) → KS n out todo → pushK d l out todo = some (out', todo') → KS n out' todo' := by
  intro l
  induction l with
  | nil => intro out todo out' todo' _ hk h; simp only [pushK] at h; cases h; exact hk
  | cons k r ih =>
    intro out todo out' todo' hl hk h
    have hk0 := hl k (by simp)
    simp only [pushK] at h
    split at h
    · rename_i hm
      refine ih _ _ _ _ (fun j hj => hl j (by simp [hj])) ?_ h
      obtain ⟨h1, h2, h4⟩ := hk
      have hlt : k.toNat < out.length := by omega
      refine ⟨by simpa using h1, fun t ht => ?_, fun j v hj => ?_⟩
      · rcases List.mem_append.1 ht with ht | ht
        · obtain ⟨a, b, v, c, e⟩ := h2 t ht
          refine ⟨a, b, v, ?_, e⟩
          rw [List.getElem?_set]
          split
          · rename_i e'; rw [← e', hm] at c; cases c; exact absurd rfl e
          · exact c
        · simp at ht; subst ht
          exact ⟨hk0.1, hk0.2, d, by simp [hlt], by omega⟩
      · by_cases e : k.toNat = j
        · subst e; rw [List.getElem?_set_self hlt] at hj; cases hj; omega
        · rw [List.getElem?_set_ne e] at hj; exact h4 j v hj
    · split at h
      · exact ih _ _ _ _ (fun j hj => hl j (by simp [hj])) hk h
      · cases h

def depS (l : List Opn) : Option (List Int) := workS l (2 * l.length + 2) (initD l.length) [0]

theorem k_l13Depths {u : View} {s : Sl} {l : List Opn} (ha : Arr encO 2 u s l) (hok : okOps l = true) : CallsV Try.prog F_l13Depths #[.slice s.p s.n s.c] u fun v u' =>
    ∃ x : Sl, v = .tuple #[.slice x.p x.n x.c, .bool (depS l).isSome] ∧ Keep u u' := by
  have hn := ha.n
  have h15 : l.length ≤ 1500 ∧ ∀ o ∈ l, opOk l.length o = true := by
    unfold okOps at hok
    simp only [Bool.and_eq_true, decide_eq_true_eq, List.all_eq_true] at hok
    exact hok
  obtain ⟨h15, hops⟩ := h15
  refine c_l13Depths s u _ trivial fun b hb => ?_
  refine ⟨fun (x, i, v) => 0 ≤ i ∧ i ≤ l.length + 1 ∧ Keep u v ∧ ∃ b : Int, OwnB encI 1 v b x (List.replicate i.toNat (-1)) ∧ (u.lim : Int) ≤ b, fun (_, i, _) => (l.length + 1 - i).toNat, ⟨⟨by omega, by omega, Keep.set hb, b, OwnB.nil, by omega⟩, trivial⟩, ?_⟩
  rintro _ x1 i v ⟨i0, i1, kv, b1, ho1, hb1⟩
  have hx1n := ho1.n
  simp only [List.length_replicate] at hx1n
  refine ⟨fun hlt => ?_, fun hlt => ?_⟩
  · have hlt := of_decide_eq_true hlt
    refine ho1.push encI_sz (-1) rfl rfl rfl rfl rfl (by simp; omega) (by simp; omega) fun b' s' w ho' hch hb' => ?_
    rw [wrap64 (by omega) (by omega)]
    refine ⟨⟨⟨by omega, by omega, kv.chg1 hch (by simp; exact Out.lim hb1), b', ?_, ?_⟩, ?_⟩, trivial⟩
    · rw [show (i + 1).toNat = i.toNat + 1 from by omega, List.replicate_succ']; exact ho'
    · have := kv.1; omega
    · show (l.length + 1 - (i + 1)).toNat < (l.length + 1 - i).toNat; omega
  have hlt := of_decide_eq_false hlt
  have hi : i.toNat = l.length + 1 := by omega
  rw [hi] at ho1 hx1n
  obtain ⟨ad, arr, T', fz, a1, a2, a3, a4, a5, ho2, hch1⟩ := ho1.store1 (c := fun n => .int .i64 n) (fun _ => rfl) (i := 0) (x := -1) 0 (by simp [List.replicate_succ])
  simp only [Nat.zero_mul] at a2 a3 a4 a5 ho2 hch1
  refine ⟨ad, a1, by decide, by omega, arr, T', fz, a2, a3, a4, a5, fun b' hb' => ?_⟩
  have k2 : Keep u (v.set (ad.add 0).block (.cells (List.toArray (List.set (Array.toList arr) (ad.add 0).off (.int .i64 0))) T' fz)) := kv.chg1 hch1 (by simp; exact Out.lim (by omega))
  have hinit : (List.replicate (l.length + 1) (-1 : Int)).set 0 0 = initD l.length := rfl
  rw [hinit] at ho2
  have no : ∀ (w : View), Keep u w → depS l = none → ∃ x : Sl, Value.tuple #[.slice x1.p x1.n x1.c, .bool false] = .tuple #[.slice x.p x.n x.c, .bool (depS l).isSome] ∧ Keep u w := fun w hk h => ⟨x1, by rw [h]; rfl, hk⟩
  refine ⟨fun (x2, w) => ∃ out todo b1 b2 F, Dp u w x1 x2 out todo b1 b2 ∧ KS l.length out todo ∧ muK out todo < F ∧ F ≤ 2 * l.length + 2 ∧ workS l F out todo = depS l ∧ ∀ d ∈ out, d ≤ 24, fun (x2, w) => 2 * (listI w x1).count (-1) + x2.n, ⟨?_, trivial⟩, ?_⟩
  · refine ⟨initD l.length, [0], b1, b', _, ⟨?_, ho2.keep (Keep.set hb'), OwnB.made rfl encI_sz rfl, ?_, ?_, ?_⟩, KS_init l.length, ?_, Nat.le_refl _, rfl, fun d hd => ?_⟩
    · exact k2.trans (Keep.set hb')
    · have := ho2.lt
      have hb'' := hb'
      intro e
      have h3 : (b' : Int) < _ := e ▸ this
      omega
    · omega
    · have := k2.1
      have hb'' := hb'
      have h3 : u.lim ≤ b' := Nat.le_trans this hb''
      omega
    · rw [mu_init]; omega
    · obtain ⟨i, hi⟩ := List.getElem?_of_mem hd
      rcases initD_get hi with h | h <;> omega
  rintro _ x2 w ⟨out, todo, b1, b2, F, hd, hki, hmu, hF, hwork, hout⟩
  have hx2 := hd.t.n
  have hx1' := hd.o.n
  have hk1 := hki.1
  have htl : todo.length ≤ 2 * l.length + 2 := by unfold muK at hmu; omega
  have hoa : Arr encI 1 w x1 out := hd.o.arr (by omega)
  have hta : Arr encI 1 w x2 todo := hd.t.arr (by omega)
  have hmeas : 2 * (listI w x1).count (-1) + x2.n = muK out todo := by rw [listI_eq hoa, hx2]; rfl
  have kw : Keep u w := hd.keep
  refine ⟨fun hpos => ?_, fun hpos => ?_⟩
  · have hpos := of_decide_eq_true hpos
    have w1 : IntKind.wrap .i64 ((x2.n : Int) - 1) = ((todo.length - 1 : Nat) : Int) := by rw [wrap64 (by omega) (by omega)]; omega
    rw [w1]
    obtain ⟨ad, at_, e, hat, hc⟩ := hta.one (c := fun n => .int .i64 n) (fun _ => rfl) (i := ((todo.length - 1 : Nat) : Int)) (by omega) (by omega)
    rw [Int.toNat_natCast] at hat hc ⊢
    have hlast := last_get hat
    have hcap := hd.t.le
    obtain ⟨F', rfl, hmu', hstep⟩ := workS_pop (ops := l) hlast hmu
    rw [hwork] at hstep
    obtain ⟨t0, t1, dv, hdv, hdne⟩ := hki.2.1 at_ (last_mem hlast)
    have hpop : ∀ {out : List Int} {w : View}, Dp u w x1 x2 out todo b1 b2 → Dp u w x1 ⟨slP x2.p 0 x2.c 1, todo.length - 1 - 0, x2.c - 0⟩ out todo.dropLast b1 b2 := fun hd => by
      rw [slP_zero, Nat.sub_zero, Nat.sub_zero, List.dropLast_eq_take]
      have hf2 := hd.f2
      exact ⟨hd.keep, hd.o, hd.t.cut encI_sz (by omega) (by omega), hd.ne, hd.f1, hd.f2⟩
    refine ⟨ad, e, by omega, by omega, at_, hc, by decide, by show (0 : Int) ≤ _; omega, by omega, fun heq => ?_, fun hne => ?_⟩
    · have heq : at_ = l.length := by rw [← hn]; simpa using heq
      subst heq
      rw [if_pos rfl] at hstep
      refine ⟨⟨⟨out, todo.dropLast, b1, b2, F', hpop hd, ?_, hmu', by omega, hstep.symm, hout⟩, ?_⟩, trivial⟩
      · exact hki.drop hlast
      · show 2 * (listI w x1).count (-1) + (todo.length - 1 - 0) < 2 * (listI w x1).count (-1) + x2.n
        omega
    · have hne : ¬ at_ = l.length := by rw [← hn]; simpa using hne
      rw [if_neg hne] at hstep
      obtain ⟨ado, o, eo, ho, hco⟩ := (ha.keep kw).op (i := at_) t0 (by omega)
      refine ⟨ado, eo, t0, by omega, o.kind, hco.1, ?_⟩
      refine (k_l13Takes o.kind w).use ⟨_, _, rfl, ?_⟩
      obtain ⟨ad', d', e', hd', hc'⟩ := hoa.one (c := fun n => .int .i64 n) (fun _ => rfl) (i := at_) t0 (by omega)
      rw [hdv] at hd'
      cases hd'
      have hdl : -1 ≤ dv ∧ dv ≤ 24 := ⟨hki.2.2 _ _ hdv, hout _ (List.mem_of_getElem? hdv)⟩
      have htk := takes_pos o.kind
      have htk2 : (takesL o.kind).1 ≤ 2 ∧ (takesL o.kind).2 ≤ 1 := by unfold takesL; repeat' split
                                                                      all_goals simp
      have w2 : IntKind.wrap .i64 (dv - (takesL o.kind).1) = dv - (takesL o.kind).1 := wrap64 (by omega) (by omega)
      have w3 : IntKind.wrap .i64 (dv - (takesL o.kind).1 + (takesL o.kind).2) = dv - (takesL o.kind).1 + (takesL o.kind).2 := wrap64 (by omega) (by omega)
      have hst : ∀ x, stepK l at_ out todo.dropLast = x → depS l = match x with | none => none | some (out', todo') => workS l F' out' todo' := fun x hx => by rw [← hx]; exact hstep
      have bad : (dv - (takesL o.kind).1 < 0 ∨ dv - (takesL o.kind).1 + (takesL o.kind).2 > 24) → depS l = none := fun h => by
        rw [hst none (by unfold stepK; rw [ho, hdv]; simp only; rw [if_pos h])]
      have hnx64 : -9223372036854775808 ≤ at_ + 1 ∧ at_ + 1 ≤ 9223372036854775807 := by omega
      refine ⟨ad', e', t0, by omega, dv, hc', ?_⟩
      rw [w2, w3, wrap64 hnx64.1 hnx64.2]
      refine ⟨fun w' => w' = w ∧ 0 ≤ dv - (takesL o.kind).1 ∧ dv - (takesL o.kind).1 + (takesL o.kind).2 ≤ 24, ⟨fun g1 => ⟨fun g2 => no w kw (bad (.inr ?_)), fun g2 => ⟨⟨rfl, ?_, ?_⟩, trivial⟩⟩, fun g1 => no w kw (bad (.inl ?_))⟩, ?_⟩
      · exact of_decide_eq_true g2
      · have := of_decide_eq_false g1; omega
      · have := of_decide_eq_false g2; omega
      · exact of_decide_eq_true g1
      rintro _ w ⟨rfl, hd0, hd24⟩ bn hbn
      have hgo : depS l = match pushK (dv - (takesL o.kind).1 + (takesL o.kind).2) (nextL o at_) out todo.dropLast with | none => none | some (out', todo') => workS l F' out' todo' := by
        refine hst _ ?_
        unfold stepK; rw [ho, hdv]; simp only; rw [if_neg (by omega)]
      generalize hdd : dv - (takesL o.kind).1 + (takesL o.kind).2 = dd at *
      have hok0 := hops o (List.mem_of_getElem? ho)
      have hnx := next_in t0 (by omega) ho hops
      have hone : OwnB encI 1 (w.set bn (.cells #[.int .i64 (at_ + 1)] 2 (0, 0))) bn ⟨some ⟨bn, 0, none⟩, 1, 1⟩ [at_ + 1] := OwnB.made rfl encI_sz rfl
      have kn : Keep w (w.set bn (.cells #[.int .i64 (at_ + 1)] 2 (0, 0))) := Keep.set hbn
      obtain ⟨ado2, o2, eo2, ho2', hco2⟩ := ((ha.keep kw).keep kn).op (i := at_) t0 (by omega)
      rw [ho] at ho2'
      cases ho2'
      have hlimn : w.lim ≤ (w.set bn (.cells #[.int .i64 (at_ + 1)] 2 (0, 0))).lim := View.set_lim.1
      -- the places that come next
      refine ⟨fun (xn, w') => Keep w w' ∧ ∃ b3, OwnB encI 1 w' b3 xn (nextL o at_) ∧ (w.lim : Int) ≤ b3, ⟨ado2, eo2, t0, by omega, o.kind, hco2.1, fun g1 => ⟨ado2, eo2, t0, by omega, o.num, hco2.2.1, fun b4 hb4 => ⟨⟨kn.trans (Keep.set hb4), b4, ?_, by omega⟩, trivial⟩⟩, fun g1 => ⟨ado2, eo2, t0, by omega, o.kind, hco2.1, fun g2 => ⟨ado2, eo2, t0, by omega, o.num, hco2.2.1, ?_⟩, fun g2 => ⟨⟨kn, bn, ?_, by omega⟩, trivial⟩⟩⟩, ?_⟩
      · have g1 : o.kind = 11 := by simpa using g1
        unfold nextL; rw [if_pos g1]; exact OwnB.made rfl encI_sz rfl
      · have g1 : ¬ o.kind = 11 := by simpa using g1
        have g2 : o.kind = 12 := by simpa using g2
        refine hone.push encI_sz o.num rfl rfl rfl rfl rfl (by simp) (by simp) fun b' s' w' ho' hch hb' => ⟨⟨kn.chg1 hch (by simp; exact Out.lim (by omega)), b', ?_, by omega⟩, trivial⟩
        unfold nextL; rw [if_neg g1, if_pos g2]; exact ho'
      · have g1 : ¬ o.kind = 11 := by simpa using g1
        have g2 : ¬ o.kind = 12 := by simpa using g2
        unfold nextL; rw [if_neg g1, if_neg g2]; exact hone
      rintro _ xn w2 ⟨kw2, b3, ho3, hb3⟩
      have hx3 := ho3.n
      have hnl : (nextL o at_).length ≤ 2 := by unfold nextL; split <;> (try split) <;> simp
      have hlo := hd.o.lt
      have hlt := hd.t.lt
      -- the round over them
      refine ⟨fun (x3, k, w') => 0 ≤ k ∧ k ≤ xn.n ∧ ∃ out' todo' b2' b3, Dp u w' x1 x3 out' todo' b1 b2' ∧ OwnB encI 1 w' b3 xn (nextL o at_) ∧ b3 ≠ b1 ∧ b3 ≠ b2' ∧ (u.lim : Int) ≤ b3 ∧ out'.length = l.length + 1 ∧ todo'.length ≤ todo.length + k.toNat ∧
          pushK dd ((nextL o at_).drop k.toNat) out' todo' = pushK dd (nextL o at_) out todo.dropLast ∧ ∀ z ∈ out', z ≤ 24, fun (_, k, _) => (xn.n - k).toNat, ⟨⟨by omega, by omega, out, todo.dropLast, b2, b3, hpop (hd.chg kw2), ho3, by omega, by omega, by have := hd.keep.1; omega, hk1, by simp <;> omega, by simp, hout⟩, trivial⟩, ?_⟩
      rintro _ x3 k w3 ⟨h0, h1, out', todo', b2', b3', hd3, hx, hne1, hne2, hvl, hol, htol, hpush, hout'⟩
      have hx3n := hd3.t.n
      have hoa3 : Arr encI 1 w3 x1 out' := hd3.o.arr (by omega)
      have kw3 : Keep u w3 := hd3.keep
      refine ⟨fun hlt => ?_, fun hlt => ?_⟩
      · have hlt := of_decide_eq_true hlt
        obtain ⟨adn, kk, en, hkk, hcn⟩ := (hx.arr (by omega)).one (c := fun n => .int .i64 n) (fun _ => rfl) (i := k) h0 (by omega)
        have hkk2 := hnx kk (List.mem_of_getElem? hkk)
        have hx1n := hd3.o.n
        obtain ⟨ado', dk, eo', hdk, hcd⟩ := hoa3.one (c := fun n => .int .i64 n) (fun _ => rfl) (i := kk) hkk2.1 (by omega)
        have hdrop : (nextL o at_).drop k.toNat = kk :: (nextL o at_).drop (k.toNat + 1) := by
          have hh : k.toNat < (nextL o at_).length := by omega
          rw [List.drop_eq_getElem_cons hh]
          rw [List.getElem?_eq_getElem hh] at hkk
          cases hkk; rfl
        rw [hdrop] at hpush
        simp only [pushK] at hpush
        have w4 : IntKind.wrap .i64 (k + 1) = k + 1 := wrap64 (by omega) (by omega)
        have hk1 : (k + 1).toNat = k.toNat + 1 := by omega
        rw [w4]
        refine ⟨adn, en, h0, hlt, kk, hcn, ado', eo', hkk2.1, by omega, dk, hcd, fun c1 => ⟨adn, en, h0, hlt, kk, hcn, ?_⟩, fun c1 => ⟨adn, en, h0, hlt, kk, hcn, ado', eo', hkk2.1, by omega, dk, hcd, fun c2 => no w3 kw3 ?_, fun c2 => ?_⟩⟩
        · have c1 : dk = -1 := by simpa using c1
          rw [c1] at hdk
          rw [if_pos hdk] at hpush
          obtain ⟨ad6, arr6, T6, fz6, g1, g2, g3, g4, g5, g6, g7⟩ := hd3.o.store1 (c := fun n => .int .i64 n) (fun _ => rfl) (i := kk.toNat) dd hdk
          have hx7 := hx.chg g7 (by simp; exact hne1)
          obtain ⟨adn2, kk2, en2, hkk2', hcn2⟩ := (hx7.arr (by omega)).one (c := fun n => .int .i64 n) (fun _ => rfl) (i := k) h0 (by omega)
          rw [hkk] at hkk2'
          cases hkk2'
          refine ⟨ad6, g1, hkk2.1, by omega, arr6, T6, fz6, g2, g3, g4, g5, adn2, en2, h0, hlt, kk, hcn2, ?_⟩
          have hkp := hd3.keep.chg1 g7 (by simp; exact Out.lim hd3.f1)
          refine (hd3.t.chg g7 (by simp; exact fun e => hd3.ne e.symm)).push encI_sz kk rfl rfl rfl rfl rfl (by omega) (by omega) fun b' s' w' ho' hch hb' => ?_
          have hlim7 := g7.1
          refine ⟨⟨⟨by omega, by omega, out'.set kk.toNat dd, todo' ++ [kk], b', b3', ⟨hkp.chg1 hch (by simp; exact Out.lim hd3.f2), g6.chg hch (by simp; exact hd3.ne), ho', ?_, hd3.f1, ?_⟩, hx7.chg hch (by simp; exact hne2), hne1, ?_, hvl, by simpa using hol, by simp; omega, by rw [hk1]; exact hpush, fun z hz => ?_⟩, ?_⟩, trivial⟩
          · rcases hb' with rfl | hb'
            · exact hd3.ne
            · have := hd3.o.lt; omega
          · rcases hb' with rfl | hb'
            · exact hd3.f2
            · have := hd3.keep.1; omega
          · rcases hb' with rfl | hb'
            · exact hne2
            · have := hx.lt; omega
          · rcases List.mem_or_eq_of_mem_set hz with h' | h'
            · exact hout' z h'
            · omega
          · show (xn.n - (k + 1)).toNat < (xn.n - k).toNat; omega
        · have c1 : ¬ dk = -1 := by simpa using c1
          have c2 : ¬ dk = dd := by simpa using c2
          rw [if_neg (by rw [hdk]; intro e; exact c1 (Option.some.inj e)), if_neg (by rw [hdk]; intro e; exact c2 (Option.some.inj e))] at hpush
          rw [hgo, ← hpush]
        · have c1 : ¬ dk = -1 := by simpa using c1
          have c2 : dk = dd := by simpa using c2
          subst c2
          rw [if_neg (by rw [hdk]; intro e; exact c1 (Option.some.inj e)), if_pos hdk] at hpush
          refine ⟨⟨⟨by omega, by omega, out', todo', b2', b3', hd3, hx, hne1, hne2, hvl, hol, by omega, by rw [hk1]; exact hpush, hout'⟩, ?_⟩, trivial⟩
          show (xn.n - (k + 1)).toNat < (xn.n - k).toNat; omega
      · have hlt := of_decide_eq_false hlt
        rw [List.drop_of_length_le (by omega)] at hpush
        simp only [pushK] at hpush
        have hdd0 : 0 ≤ dd := by omega
        have hki' : KS l.length out' todo' := pushK_KS hdd0 _ _ _ _ _ hnx (hki.drop hlast) hpush.symm
        have hmu2 := pushK_mu hdd0 _ _ _ _ _ hpush.symm
        have hmd := mu_drop (out := out) hlast
        refine ⟨⟨⟨out', todo', b1, b2', F', hd3, hki', by omega, by omega, by rw [hgo, ← hpush], hout'⟩, ?_⟩, trivial⟩
        show 2 * (listI w3 x1).count (-1) + x3.n < 2 * (listI w x1).count (-1) + x2.n
        rw [hmeas, listI_eq hoa3, hx3n]
        show muK out' todo' < muK out todo
        omega
  · have hpos := of_decide_eq_false hpos
    have ht0 : todo = [] := List.length_eq_zero_iff.1 (by omega)
    subst ht0
    obtain ⟨F', rfl⟩ : ∃ F', F = F' + 1 := ⟨F - 1, by omega⟩
    simp only [workS, List.getLast?_nil] at hwork
    obtain ⟨ad', d', e', hd', hc'⟩ := hoa.one (c := fun n => .int .i64 n) (fun _ => rfl) (i := (s.n : Int)) (by omega) (by omega)
    rw [Int.toNat_natCast, hn] at hd'
    refine ⟨ad', e', by omega, by omega, d', hc', x1, ?_, kw⟩
    rw [← hwork, hd']
    by_cases h : d' ≤ 0
    · simp [h]
    · simp [h]

end Go.Proofs.Ytkjddlgaldnbnaa
end
