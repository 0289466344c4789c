import Derived.Test.YtkjddlgaldnbnaaRows
import Derived.Test.YtkjddlgaldnbnaaCE
import Derived.WalkKit
import Derived.ProofKit
import Derived.OpenShut
import Derived.ShutString
import Derived.ChangeOld
import Derived.Below
import Derived.SizedLaws

/- The law FnCode answers true for every input, and leaves its argument as it was. No condition. -/
set_option linter.unusedVariables false
namespace Go.Proofs.Ytkjddlgaldnbnaa.FnCodeRow
open Go.ChangeShapes Go.WideShapes Go.ChangeAt Go.RowKit

theorem own : ownKnob Try.prog.godebug = none := by kernel_rfl
theorem laidOut : laidOutB Try.prog = true := by kernel_rfl

/-- a slice of numbers in memory -/
def IsRow (k : IntKind) (w : World) (a : Option Addr) (len cap : Nat) (zs : List Int) : Prop :=
  (a = none ∧ len = 0 ∧ cap = 0 ∧ zs = []) ∨
  ∃ x, a = some x ∧ len ≤ cap ∧ cap ≤ maxLen ∧ zs.length = cap ∧ (∀ i, i < zs.length → w.cell? (x.add i) = some (.int k (zs.getD i 0))) ∧ ∀ n ∈ zs, (Lit.int k n).wf = true

/-- its length is bounded by what a row weighs -/
theorem sizedInts {H : Type} {enc : TypeId × Value → H} {P : Program} {W : World} {base : Nat} {spare : Nat → Bool} {held : Bool} {t e : TypeId} {k : IntKind} {a : Option Addr} {len cap : Nat} {d : DataW H} {ps : List MemPlace} {ts : List TypeId} {ds : List (DataW H)} {j : Nat}
    (hsz : (DataW.weightsEach P ts ds).all (· ≤ reachBytes) = true) (ht : ts[j]? = some t) (hd : ds[j]? = some d) (hu : P.underlying t = some (.slice e)) (he : P.underlying e = some (.int k)) (hc : P.cellsOf e = 1) {B : Nat} (hB : P.bytesOf e = B)
    (h : DataW.Trod enc P W base spare held t (.slice a len cap) d ps) : len * B ≤ 140737488351232 := by
  obtain ⟨fuel, hf⟩ := h
  rcases open_ints hu he hc hf with ⟨hcs, _⟩ | ⟨x, l, c, zs, hcs, _, hl, _, hz, hx, _, _⟩ <;> simp [Value.cells] at hcs
  · obtain ⟨rfl, rfl, rfl⟩ := hcs
    simp
  · obtain ⟨rfl, rfl, rfl⟩ := hcs
    cases hx
    have z := sized_slice hsz ht hd hu
    rw [hB] at z
    have hl2 : len ≤ zs.length := by rw [hz]; split <;> omega
    have h1 : (lits (H := H) k (zs.take len)).length + (lits (H := H) k (zs.drop len)).length = zs.length := by simp [lits]; omega
    rw [h1] at z
    exact Nat.le_trans (Nat.mul_le_mul_right _ hl2) z

/-- what memory holds of a slice of numbers -/
theorem IsRow.arr {w : World} {a : Option Addr} {len cap : Nat} {zs : List Int} (h : IsRow .u8 w a len cap zs) (hl : len ≤ 4611686018427387904) (hfull : ∀ ad v, w.cell? ad = some v → (View.full w).cell ad = some v) : ∃ code, Arr encB 1 (View.full w) ⟨a, len, cap⟩ code := by
  rcases h with ⟨rfl, rfl, rfl, rfl⟩ | ⟨x, rfl, h1, h2, h3, h4, h5⟩
  · exact ⟨[], rfl, rfl, Nat.le_refl _, hl⟩
  · refine ⟨zs.take len, by simp; omega, ?_, h1, hl⟩
    refine CellsAt.mk fun j v hj => ?_
    have hf : (zs.take len).flatMap encB = (zs.take len).map (Value.int .u8) := by
      generalize zs.take len = l
      induction l with
      | nil => rfl
      | cons a l ih => simp [encB, ih]
    rw [hf, List.getElem?_map, List.getElem?_take] at hj
    split at hj
    · rename_i hlt
      rw [Nat.zero_add]
      refine hfull _ _ ?_
      rw [h4 j (by omega)]
      rw [List.getElem?_eq_getElem (by omega)] at hj
      simp at hj
      rw [← hj]
      simp [List.getD, List.getElem?_eq_getElem (show j < zs.length by omega)]
    · simp at hj

set_option maxRecDepth 100000 in
theorem lifted (os : Os) (started : os.Started) (H : Type) (enc : TypeId × Value → H) :
    ReturnsInHanded {} Try.checked os 3 .any (Rows.fnCodeSpec.pre6 enc Try.prog Try.f3 Rows.fnCodeRow.domain false) (Rows.fnCodeSpec.post enc Try.prog Try.f3 false true false false) := by
  refine returnsInHanded_of_change_sized (C := Try.checked) own started (by kernel_rfl) Try.func3
    (ChangeSpec.witness6 (enc := enc) (C := Try.checked) false ⟨#[], #[.slice none 0 0], []⟩ 8 (by kernel_rfl) (by kernel_rfl) (by kernel_rfl) (by kernel_rfl)) ?_
  intro W base args ds gs before hval0 hW hcnd hsz0 _
  have hsz : (DataW.weightsEach Try.prog (Try.f3.params.toList ++ Rows.fnCodeSpec.plain.varTypes Try.prog) (ds ++ gs)).all (· ≤ reachBytes) = true := hsz0
  have hval : ∀ (j : Nat) t v, Try.f3.params[j]? = some t → args[j]? = some v → Value.okWide Try.prog W .any base t v := hval0
  have hW' := hW
  obtain ⟨p, q, hA0, hV, rfl, hfz, hnd⟩ := hW
  have hA : DataW.TrodAll enc Try.prog W 0 (fun _ => true) true Try.f3.params.toList args.toList ds p := hA0
  rw [Try.params3] at hA hval hsz
  obtain ⟨v0, vs0, d0, ds0, p0, q0, hargs, rfl, rfl, h0, r0⟩ := trodAll_cons hA
  obtain ⟨rfl, rfl, rfl⟩ := trodAll_nil r0
  obtain rfl : args = #[v0] := by cases args; simp_all
  obtain ⟨rfl, rfl⟩ := trodVars_none hV
  obtain ⟨a0, len0, cap0, rfl⟩ := okWide_slice Try.underlying22 (hval 0 22 v0 rfl rfl)
  have k0 := h0
  have lt0 : ∀ x ∈ p0, x.block < W.heap.size := by obtain ⟨m, hm⟩ := k0; exact DataW.trod_lt m _ _ _ hm
  obtain ⟨z0, w0⟩ : ∃ zs, IsRow .u8 W a0 len0 cap0 zs := by
    obtain ⟨fuel, hf⟩ := h0
    rcases open_ints Try.underlying22 Try.underlying5 (by kernel_rfl) hf with ⟨hcs, _⟩ | ⟨x, l, c, zs, hcs, _, hl, hm, hz, _, hcell, hwz⟩
    · simp [Value.cells] at hcs
      obtain ⟨rfl, rfl, rfl⟩ := hcs
      exact ⟨[], .inl ⟨rfl, rfl, rfl, rfl⟩⟩
    · simp [Value.cells] at hcs
      obtain ⟨rfl, rfl, rfl⟩ := hcs
      exact ⟨zs, .inr ⟨_, rfl, hl, hm, by simpa using hz, hcell, hwz⟩⟩
  have y0 : len0 * 1 ≤ 140737488351232 := sizedInts hsz (j := 0) (t := 22) rfl rfl Try.underlying22 Try.underlying5 (by kernel_rfl) (by kernel_rfl) h0
  clear hA0 hval0 hsz0 hsz
  have hfull : ∀ ad v, W.cell? ad = some v → (View.full W).cell ad = some v := fun ad v hc => by
    unfold World.cell? at hc
    split at hc
    · rename_i c T fz heq
      have hm : (View.full W).m ad.block = some (.cells c T fz) := heq
      unfold View.cell
      rw [hm]
      exact hc
    · cases hc
  obtain ⟨code, harr⟩ := w0.arr (by omega) hfull
  refine (k_fnCode harr W (Sub.full W)).mono fun e W' ⟨v, u', he, hs, hge, _, _, hv, hk⟩ => ?_
  subst he
  subst hv
  have hblock : ∀ i, i < W.heap.size → W'.heap[i]? = W.heap[i]? := fun i hi => by
    have hm : (View.full W).m i = some W.heap[i] := by show W.heap[i]? = _; exact Array.getElem?_eq_getElem hi
    rw [hs.2 _ _ (hk.2 _ _ hm)]; exact hm.symm
  have hsame : ∀ x ∈ p0, W.sameAt W' x := fun x hx => by
    have hlt := lt0 x hx
    cases x with
    | cell b o => exact World.cell?_of_block (w := W) (hblock b hlt)
    | map b => exact hblock b hlt
  have hframe : W.keptBut W' (fun _ => False) := ⟨hge.2.1, hge.2.2, fun i hi => by
    rw [hblock i hi]
    split <;> simp_all⟩
  have hback : DataW.Trod enc Try.prog W' 0 (fun b => decide (b < W.heap.size)) true 22 (.slice a0 len0 cap0) d0 p0 :=
    WideElems.Trod_stays laidOut (by kernel_rfl) (of_decide_eq_true (by kernel_rfl)) k0 hsame (fun x hx => by simpa using lt0 x hx)
  exact ⟨_, rfl, _, _, _, [], _, [], hW', trodAll_mk1 (shut_bool Try.underlying4 _), (trodAll_cons_mk hback trodAll_mk0), rfl, ⟨hframe.1, hframe.2.1, fun i hi => by
    rw [hblock i hi]
    split <;> simp_all⟩, fun h => by cases h⟩

theorem over : Rows.fnCodeRow.holds Try.pinned (OpenSpec.ofChange Rows.fnCodeSpec) :=
  OpenClaim.holds_of_wide 3 Try.f3 rfl rfl rfl rfl rfl rfl rfl ⟨rfl, rfl, rfl, rfl, rfl⟩ rfl rfl rfl rfl rfl (by kernel_rfl) Try.func3 (by kernel_rfl)
    (of_decide_eq_true (by kernel_rfl)) (by unfold Func.isWrapper; first | (rw [if_pos (by decide +kernel)]; kernel_rfl) | (rw [if_neg (by decide +kernel)]; exact ⟨rfl, rfl⟩))
    (fun os started H enc _ => lifted os started H enc)

end Go.Proofs.Ytkjddlgaldnbnaa.FnCodeRow

namespace Go.Proofs.Ytkjddlgaldnbnaa

/-- The law FnCode holds for every input. -/
theorem fnCode_holds : Rows.FnCodeSaid := FnCodeRow.over

#print axioms fnCode_holds

end Go.Proofs.Ytkjddlgaldnbnaa
