import Derived.Test.YtkjddlgaldnbnaaKA
import Derived.Laws.BytesString
import Derived.Lib.ConvBytes

/-
  THE CALCULUS, PART 7: slices that are made, conversions, append, copy.
-/
section
set_option linter.unusedSimpArgs false
set_option linter.unusedVariables false
namespace Go.Proofs.Ytkjddlgaldnbnaa

section
variable {P : Program} {M : Nat} {pf : FuncId → Option (List Value → Option Value)} {u0 : View} {w0 w : World} {st : St} {kL kU : Bool} {a : Act}
  {K : SV → List LB → View → Prop} {Q : Exit → Act → World → Prop} {dst : Option Tmp} {type : TypeId} {pos : String} {after : Array Edge} {guard : Option (Nat × Bool)}

theorem l_buildSlice {T : TypeId} {len : Nat} {parts : Array (Nat × Operand)} (hw : WOK u0 w0 st.L st.u w) (hρ : ∀ z ∈ (Op.buildSlice T len parts).operands, a.eval z = tv st.L (st.ev z))
    (h : lV P M pf kL kU ⟨dst, .buildSlice T len parts, type, pos, after, guard⟩ st K) :
    Oper.wp P ⟨dst, .buildSlice T len parts, type, pos, after, guard⟩ a w (LPost u0 w0 st kL kU K ⟨dst, .buildSlice T len parts, type, pos, after, guard⟩ a) Q := by
  simp only [lV] at h
  split at h
  · rename_i e sz he
    obtain ⟨i, h1, h2, rfl⟩ := elemV_eq he
    split at h
    · rename_i vs hvs
      split at h
      · rename_i z hz
        split at h
        · rename_i hlen
          split at h
          · rename_i cells hf
            obtain ⟨hlen, hzsz⟩ := hlen
            have hf := fillL_eq _ _ _ hf
            rw [zerosL_arr, hzsz] at hf
            have hp : (parts.map fun (i, x) => (i, a.eval x)).toList = (parts.toList.map (·.1)).zip vs := by
              rw [valsV_tv hvs, Array.toList_map]
              have : ∀ l : List (Nat × Operand), (∀ p ∈ l, a.eval p.2 = tv st.L (st.ev p.2)) →
                  l.map (fun p => (p.1, a.eval p.2)) = (l.map (·.1)).zip ((l.map (·.2)).map fun x => tv st.L (st.ev x)) := by
                intro l
                induction l with
                | nil => intro _; rfl
                | cons p r ih => intro hl; simp [ih (fun q hq => hl q (List.mem_cons_of_mem _ hq)), hl p (List.mem_cons_self ..)]
              exact this parts.toList fun p hp => hρ p.2 (by simp only [Op.operands]; exact List.mem_toArray.2 (List.mem_map_of_mem hp))
            have hr : (execOp a.eval ⟨dst, .buildSlice T len parts, type, pos, after, guard⟩).run P w = .ok (.value (.slice (some ⟨w.heap.size, 0, none⟩) len len)) { w with heap := w.heap.push (.cells cells.toArray e) } := by
              have hsz : (sizeOf e).run P w = .ok i.size w := by simp [sizeOf, typeInfo, h2]
              have hlt : ¬ (len * i.size > 2 ^ 24) := by omega
              by_cases h0 : len * i.size = 0
              · simp only [execOp, Instr.buildSlice, Sem.run_bind, underlying, run_program, h1, Sem.run_pure, Result.andThen, hsz, if_neg hlt, Sem.run_ite, if_pos h0, hp]
                have r0 : Array.range 0 = #[] := rfl
                rw [h0, r0] at hf
                have r1 : Array.map (fun x => z.cells[x % i.size]!) #[] = #[] := by simp
                rw [r1] at hf
                simp [h0, hf, r0, newRow, Result.andThen]
              · simp only [execOp, Instr.buildSlice, Sem.run_bind, underlying, run_program, h1, Sem.run_pure, Result.andThen, hsz, if_neg hlt, Sem.run_ite, if_neg h0, hp, zeroOf_run hz]
                simp [hzsz, hf, newRow, Result.andThen]
            unfold Oper.wp
            rw [hr]
            exact new_known hw rfl ⟨rfl, rfl⟩ (h _ hw.sub.1)
          · exact h.elim
        · exact h.elim
      · exact h.elim
    · exact h.elim
  · exact h.elim

theorem l_makeSlice {T : TypeId} {x y : Operand} (hw : WOK u0 w0 st.L st.u w) (hρ : ∀ z ∈ (Op.makeSlice T x y).operands, a.eval z = tv st.L (st.ev z))
    (h : lV P M pf kL kU ⟨dst, .makeSlice T x y, type, pos, after, guard⟩ st K) :
    Oper.wp P ⟨dst, .makeSlice T x y, type, pos, after, guard⟩ a w (LPost u0 w0 st kL kU K ⟨dst, .makeSlice T x y, type, pos, after, guard⟩ a) Q := by
  simp only [lV] at h
  split at h
  · rename_i e sz n m he hx hy
    obtain ⟨i, h1, h2, rfl⟩ := elemV_eq he
    split at h
    · rename_i i' z hi' hz
      rw [h2] at hi'
      cases hi'
      split at h
      · rename_i hzs
        obtain ⟨g0, g1, g2, g3, h⟩ := h
        have ex := hρ x (by simp [Op.operands])
        have ey := hρ y (by simp [Op.operands])
        rw [hx] at ex
        rw [hy] at ey
        have w1 : IntKind.i64.wrap n = n := by
          simp [IntKind.wrap, IntKind.signed, IntKind.bits]; omega
        have w2 : IntKind.i64.wrap m = m := by
          simp [IntKind.wrap, IntKind.signed, IntKind.bits]; omega
        have hmk : (Instr.makeSlice T (.int .i64 n) (.int .i64 m)).run P w = .ok (.slice (some ⟨w.heap.size, 0, none⟩) n.toNat m.toNat) { w with heap := w.heap.push (.cells (zerosL z m.toNat).toArray e) } := by
          have hti : (typeInfo e).run P w = .ok i w := by simp [typeInfo, h2]
          have hsz : (sizeOf e).run P w = .ok i.size w := by simp [sizeOf, typeInfo, h2]
          have c1 : ((m < 0 || (i.bytes : Int) * m > 2 ^ 48) || n < 0 || n > m) = false := by
            simp; omega
          have hcells : (zerosL z m.toNat).toArray = (Array.range (m.toNat * i.size)).map (z.cells[· % z.cells.size]!) := by
            rw [zerosL_arr, hzs.1]
          simp only [Instr.makeSlice, Sem.run_bind, underlying, run_program, h1, Sem.run_pure, Result.andThen, asInt, asIntOf, hti, w1, w2, c1, Bool.false_eq_true, if_false, Sem.run_ite, run_askRoom, hsz]
          by_cases hm0 : m.toNat * i.size = 0
          · have hm1 : m.toNat = 0 := by
              rcases Nat.mul_eq_zero.1 hm0 with h | h
              · exact h
              · omega
            have r0 : Array.range 0 = #[] := rfl
            simp [hm0, newRow, hm1, r0, zerosL, Result.andThen]
          · simp only [if_neg hm0]
            simp [zeroOf_run hz, newRow, hcells, Result.andThen]
        have hr : (execOp a.eval ⟨dst, .makeSlice T x y, type, pos, after, guard⟩).run P w = .ok (.value (.slice (some ⟨w.heap.size, 0, none⟩) n.toNat m.toNat)) { w with heap := w.heap.push (.cells (zerosL z m.toNat).toArray e) } := by
          simp only [tv] at ex ey
          simp [execOp, ex, ey, hmk, Result.andThen]
        unfold Oper.wp
        rw [hr]
        exact new_known hw rfl ⟨rfl, rfl⟩ (h _ hw.sub.1)
      · exact h.elim
    · exact h.elim
  · exact h.elim

theorem bytesToString_run {u : View} (hs : Sub u w) {p : Option Addr} {n c : Nat} {t : ByteArray} (hn : t.size = n) (h : CellsO u p (byteCells t)) :
    (Conv.bytesToString (.slice p n c)).run P w = .ok (.string t) w := by
  cases p with
  | none =>
    simp only [CellsO, byteCells] at h
    have : t = ByteArray.empty := by
      have h' : t.data.toList = [] := by simpa using h
      apply ByteArray.ext
      apply Array.ext'
      simpa using h'
    simp [Conv.bytesToString, this]
  | some ad =>
    have h2 := CellsAt.load (P := P) hs (byteCells t) 0 #[] h
    rw [byteCells_length, hn] at h2
    have h3 : (loadCells ad n).run P w = .ok ((t.data.toList.map fun b => (b.toNat : Int)).map (Value.int .u8)).toArray w := by
      unfold loadCells
      rw [h2]
      simp [byteCells, Function.comp_def]
    rw [run_bytesToString w ad n c _ h3]
    have : ∀ (l : List UInt8) (r : ByteArray), (l.map fun b => (b.toNat : Int)).foldl (fun r n => r.push (UInt8.ofNat n.toNat)) r = ⟨r.data ++ l.toArray⟩ := by
      intro l
      induction l with
      | nil => intro r; simp
      | cons b l ih =>
        intro r
        simp only [List.map_cons, List.foldl_cons]
        rw [ih]
        apply ByteArray.ext
        simp [ByteArray.push]
    rw [this]
    have he : (ByteArray.empty).data = #[] := rfl
    congr 2
    apply ByteArray.ext
    simp [he]

theorem new_known2 (hw : WOK u0 w0 st.L st.u w) {o : Oper} {ob : Obj} {v : Value} {w' : World} (h1 : Ge w w') (h2 : w'.heap[w.heap.size]? = some ob)
    (h3 : ∀ b, b < w.heap.size → w'.heap[b]? = w.heap[b]?) (hk : K (.v v) st.L (st.u.set w.heap.size ob)) : LPost u0 w0 st kL kU K o a (a.put o.dst v) w' := by
  have hnew : st.u.m w.heap.size = none := by
    cases hm : st.u.m w.heap.size with
    | none => rfl
    | some o => have := heap_lt (hw.sub.2 _ _ hm); omega
  refine ⟨.v v, st.L, st.u.set w.heap.size ob, rfl, LExt.refl _, trivial, hw.setU w' h1 h2 (fun b' _ hlt => h3 b' hlt) (.inr (Nat.le_refl _)), fun _ _ _ h => h, fun _ => ⟨by simp only [View.set]; omega, fun b o hm => ?_⟩, hk⟩
  rw [View.set_ne _ _ (fun e => by rw [e, hnew] at hm; cases hm)]; exact hm

theorem le_grownCap (w : World) (need old : Nat) (e : TypeId) : need ≤ grownCap w need old e := by
  simp [grownCap, Question.cut]

theorem l_convert {s d : TypeId} {x : Operand} (hw : WOK u0 w0 st.L st.u w) (hρ : ∀ z ∈ (Op.convert s d x).operands, a.eval z = tv st.L (st.ev z))
    (h : lV P M pf kL kU ⟨dst, .convert s d x, type, pos, after, guard⟩ st K) :
    Oper.wp P ⟨dst, .convert s d x, type, pos, after, guard⟩ a w (LPost u0 w0 st kL kU K ⟨dst, .convert s d x, type, pos, after, guard⟩ a) Q := by
  simp only [lV] at h
  split at h
  · rename_i e t h1 h2 hx
    split at h
    · rename_i he
      have ex := hρ x (by simp [Op.operands])
      rw [hx] at ex
      have hr : (execOp a.eval ⟨dst, .convert s d x, type, pos, after, guard⟩).run P w = .ok (.value (.slice (some ⟨w.heap.size, 0, none⟩) t.size (grownCap w t.size 0 e))) (Lib.bytesWorld w e t) := by
        simp only [tv] at ex
        simp [execOp, ex, Lib.run_convert_string_bytes w s d e t h1 h2 he, Result.andThen]
      unfold Oper.wp
      rw [hr]
      have hle := le_grownCap w t.size 0 e
      have hc : Lib.bytesCells w e t = (byteCells t ++ List.replicate (grownCap w t.size 0 e - t.size) (Value.int .u8 0)).toArray := by
        apply Array.ext'
        simp [Lib.bytesCells, byteCells]
      have hsz : (Lib.bytesCells w e t).size = grownCap w t.size 0 e := by
        have := byteCells_length t
        rw [hc]
        simp [this]
        omega
      refine new_known2 hw ⟨by rw [Lib.bytesWorld_size]; omega, rfl, rfl⟩ (Lib.bytesWorld_at_new w e t) (fun b hb => Lib.bytesWorld_at_old w e t b hb) ?_
      rw [hsz, hc]
      exact h _ _ hw.sub.1 hle
    · exact h.elim
  · rename_i e p n c h1 h2 hx
    split at h
    · rename_i he
      obtain ⟨t, hn, hc, h⟩ := h
      have ex := hρ x (by simp [Op.operands])
      rw [hx] at ex
      have hr : (execOp a.eval ⟨dst, .convert s d x, type, pos, after, guard⟩).run P w = .ok (.value (.string t)) w := by
        simp only [tv] at ex
        simp [execOp, ex, run_convert_bytes_string w s d e p n c h1 he h2, bytesToString_run (P := P) (c := c) hw.sub hn hc, Result.andThen]
      unfold Oper.wp
      rw [hr]
      exact ⟨.v (.string t), st.L, st.u, rfl, LExt.refl _, trivial, hw, fun _ _ _ h => h, fun _ => ⟨Nat.le_refl _, fun _ _ h => h⟩, h⟩
    · exact h.elim
  · exact h.elim

theorem l_append {s x : Operand} (hw : WOK u0 w0 st.L st.u w) (hρ : ∀ z ∈ [s, x], a.eval z = tv st.L (st.ev z))
    {sv xv : Value} {sT xT : TypeId} (hs : (st.ev s).val? = some sv) (hx : (st.ev x).val? = some xv)
    (h : appV P sT xT sv xv st.u fun v u' => K (.v v) st.L u') :
    Oper.wp P ⟨dst, .call ⟨.builtin .append, #[s, x], #[sT, xT]⟩, type, pos, after, guard⟩ a w (LPost u0 w0 st kL false K ⟨dst, .call ⟨.builtin .append, #[s, x], #[sT, xT]⟩, type, pos, after, guard⟩ a) Q := by
  have es := hρ s (by simp)
  have ex := hρ x (by simp)
  rw [SV.val?_tv st.L hs] at es
  rw [SV.val?_tv st.L hx] at ex
  unfold appV at h
  split at h
  · rename_i e p n c hu
    split at h
    · rename_i i hi
      split at h
      · rename_i z hz
        have key : ∀ (m : Nat) (new : List Value), Src P i.size xT xv m new w → appK st.u p n c i.size i.bytes z e m new (fun v u' => K (.v v) st.L u') →
            Oper.wp P ⟨dst, .call ⟨.builtin .append, #[s, x], #[sT, xT]⟩, type, pos, after, guard⟩ a w (LPost u0 w0 st kL false K ⟨dst, .call ⟨.builtin .append, #[s, x], #[sT, xT]⟩, type, pos, after, guard⟩ a) Q := by
          intro m new src hk
          have hk := appK_out hk
          have hexec : ∀ v w', (Builtin.append_ #[sT, xT] type #[.slice p n c, xv]).run P w = .ok v w' →
              (execOp a.eval ⟨dst, .call ⟨.builtin .append, #[s, x], #[sT, xT]⟩, type, pos, after, guard⟩).run P w = .ok (.value v) w' := fun v w' hr => by
            simp [execOp, resolve, invoke, builtin, es, ex, hr, Result.andThen]
          by_cases hroom : n + m ≤ c
          · rcases hk.1 hroom with ⟨rfl, hk2⟩ | ⟨b, o, arr, T, fz, rfl, hm, hf, hlen, hk2⟩
            · have hr : (Builtin.append_ #[sT, xT] type #[.slice p n c, xv]).run P w = .ok (.slice p (n + m) c) w := by
                cases p with
                | none => rcases src.kind with ⟨e', hk'⟩ | hk' <;> simp [Builtin.append_, run_underlying hu, run_underlying hk', sizeOf, typeInfo, hi, src.len, hroom, src.cells]
                | some ad => rcases src.kind with ⟨e', hk'⟩ | hk' <;> simp [Builtin.append_, run_underlying hu, run_underlying hk', sizeOf, typeInfo, hi, src.len, hroom, src.cells, storeCells]
              unfold Oper.wp
              rw [hexec _ _ hr]
              exact ⟨.v _, st.L, st.u, rfl, LExt.refl _, trivial, hw, (fun _ _ _ h => h), (fun h => by cases h), hk2⟩
            · have hb := hw.sub.2 _ _ hm
              have hnl := src.newsLen
              have hmul : (n + m) * i.size = n * i.size + m * i.size := Nat.add_mul ..
              have hr := run_append_room_src w sT xT type e i hu hi b o n c xv m new src hroom (fun j hj => cells_some hb (by omega)) (fun j hj => cells_free hb hf (by omega))
              unfold Oper.wp
              rw [hexec _ _ hr]
              exact known_written hw hm hk2
          · obtain ⟨h62, h47, old, hol, hoc, hk⟩ := hk.2 (by omega)
            have hold : (Builtin.firstCells i.size n (.slice p n c)).run P w.drew = .ok old.toArray w.drew :=
              CellsO.first (w := w.drew) (u := st.u) ⟨hw.sub.1, hw.sub.2⟩ hoc i.size n c n hol
            have hr := run_append_grow_src w sT xT type e i z hu hi hz p n c old hold xv m new src (by omega) (by omega) (growslice_fits (by omega) h47)
            unfold Oper.wp
            rw [hexec _ _ hr]
            exact new_known2 hw ⟨by simp [World.alloc, World.drew, -World.alloc_eq, -World.drew_eq], rfl, rfl⟩ (by simp [World.alloc, World.drew, -World.alloc_eq, -World.drew_eq]) (fun b hb => by
              simp [World.alloc, World.drew, -World.alloc_eq, -World.drew_eq, Array.getElem?_push_lt hb, Array.getElem?_eq_getElem hb]) (hk _ _ hw.sub.1 (le_grownCap w _ _ _))
        split at h
        · rename_i q m d hux
          obtain ⟨new, hl, h1', hc, hk⟩ := h
          cases q with
          | none =>
            simp only [CellsO] at hc
            subst hc
            exact key m [] ⟨.inl ⟨_, hux⟩, fun _ => rfl, run_firstCells_none w i.size m m d, run_firstCells_none w.drew i.size m m d, hl, fun _ h => by cases h⟩ hk
          | some ad => exact key m new (Src.ofSlice w hux ad m d new hl (fun j u hj => by
              have := hw.sub.cells hc j u hj; rwa [Nat.zero_add] at this) h1') hk
        · rename_i t hux
          split at h
          · rename_i h1s
            have := Src.ofString w hux t
            rw [← h1s] at this
            exact key t.size (byteCells t) this h
          · exact h.elim
        · exact h.elim
      · exact h.elim
    · exact h.elim
  · exact h.elim

end
end Go.Proofs.Ytkjddlgaldnbnaa
end

/-
  THE CALCULUS, PART 8: copy, calls; all loud operations together.
-/
section
set_option linter.unusedSimpArgs false
set_option linter.unusedVariables false
namespace Go.Proofs.Ytkjddlgaldnbnaa

section
variable {P : Program} {M : Nat} {pf : FuncId → Option (List Value → Option Value)} {u0 : View} {w0 w : World} {st : St} {kL kU : Bool} {a : Act}
  {K : SV → List LB → View → Prop} {Q : Exit → Act → World → Prop} {dst : Option Tmp} {type : TypeId} {pos : String} {after : Array Edge} {guard : Option (Nat × Bool)}

theorem l_copy {cs : Array TypeId} {d x : Operand} (hw : WOK u0 w0 st.L st.u w) (hρ : ∀ z ∈ [d, x], a.eval z = tv st.L (st.ev z))
    (h : match st.ev d, st.ev x, cs[0]? with
        | .v (.slice p n _), .v (.slice q m _), some dT =>
          match elemV P dT with
          | some (_, sz) => ∃ new : List Value, new.length = min m n * sz ∧ (∀ v ∈ new, v.oneCell' = true) ∧ CellsO st.u q new ∧
              ((new = [] ∧ K (.v (.int .i64 (min m n : Nat))) st.L st.u) ∨
                ∃ b o arr T fz, p = some ⟨b, o, none⟩ ∧ st.u.m b = some (.cells arr T fz) ∧ fzOK fz arr.size ∧ o + min m n * sz ≤ arr.size ∧
                  K (.v (.int .i64 (min m n : Nat))) st.L (st.u.set b (.cells (splice arr.toList o new).toArray T fz)))
          | none => False
        | _, _, _ => False) :
    Oper.wp P ⟨dst, .call ⟨.builtin .copy, #[d, x], cs⟩, type, pos, after, guard⟩ a w (LPost u0 w0 st kL false K ⟨dst, .call ⟨.builtin .copy, #[d, x], cs⟩, type, pos, after, guard⟩ a) Q := by
  split at h
  · rename_i p n c q m c' dT hd hx h0
    split at h
    · rename_i e sz he
      obtain ⟨i, h1, h2, rfl⟩ := elemV_eq he
      obtain ⟨new, hl, h1', hc, h⟩ := h
      have ed := hρ d (by simp)
      have ex := hρ x (by simp)
      rw [hd] at ed
      rw [hx] at ex
      simp only [tv] at ed ex
      have hf := CellsO.first (P := P) (w := w) hw.sub hc i.size (min m n) c' m hl
      have hexec : ∀ w', (match p with | some a => (storeCells a new) | none => pure ()).run P w = .ok () w' →
          (execOp a.eval ⟨dst, .call ⟨.builtin .copy, #[d, x], cs⟩, type, pos, after, guard⟩).run P w = .ok (.value (.int .i64 (min m n : Nat))) w' := fun w' hr => by
        have hmin : Nat.min m n = min m n := rfl
        cases p with
        | none =>
          simp at hr
          subst hr
          simp [execOp, resolve, invoke, builtin, Builtin.copy_, ed, ex, h0, underlying, h1, sizeOf, typeInfo, h2, Builtin.lenOf, hmin, hf, Result.andThen, goInt]
        | some ad =>
          simp at hr
          simp [execOp, resolve, invoke, builtin, Builtin.copy_, ed, ex, h0, underlying, h1, sizeOf, typeInfo, h2, Builtin.lenOf, hmin, hf, hr, Result.andThen, goInt]
      rcases h with ⟨rfl, hk⟩ | ⟨b, o, arr, T, fz, rfl, hm, hfz, hlen, hk⟩
      · unfold Oper.wp
        rw [hexec w (by cases p <;> simp [storeCells])]
        exact ⟨.v _, st.L, st.u, rfl, LExt.refl _, trivial, hw, (fun _ _ _ h => h), (fun h => by cases h), hk⟩
      · have hb := hw.sub.2 _ _ hm
        have hst := run_storeCells_cells (P := P) b o new 0 w (fun j hj => cells_some hb (by omega)) (fun j hj => cells_free hb hfz (by omega)) h1'
        simp only [Nat.add_zero] at hst
        unfold Oper.wp
        rw [hexec _ hst]
        exact known_written hw hm hk
    · exact h.elim
  · exact h.elim

/-! ### calls -/

theorem asLocals_of {L : List LB} {u uc : View} {G : Prop} : ∀ {ks : List Nat}, asLocals L u uc ks G → (∀ k ∈ ks, ∀ lb, L[k]? = some lb → u.m lb.b = none ∧ lb.b < uc.lim ∧ uc.m lb.b = some (.cells lb.cs.toArray lb.T (0, 0))) → G := by
  intro ks
  induction ks with
  | nil => exact fun h _ => h
  | cons k r ih =>
    intro h hk
    simp only [asLocals] at h
    split at h
    · rename_i lb hl
      obtain ⟨h1, h2, h3⟩ := hk k (List.mem_cons_self ..) lb hl
      exact ih (h h1 h2 h3) fun j hj => hk j (List.mem_cons_of_mem _ hj)
    · exact h.elim

theorem newLocals_of {u' : View} {w' : World} (hs : Sub u' w') {G : List LB → Prop} : ∀ {ks : List Nat} {L : List LB}, newLocals u' ks L G →
    (∀ (k : Nat) (lb : LB), L[k]? = some lb → k ∉ ks → w'.heap[lb.b]? = some (.cells lb.cs.toArray lb.T (0, 0))) →
    ∃ L', G L' ∧ LocOK L' w' ∧ LExt L L' ∧ ∀ (k : Nat) (lb : LB), L'[k]? = some lb → ∃ lb', L[k]? = some lb' ∧ lb'.b = lb.b := by
  intro ks
  induction ks with
  | nil => exact fun h hl => ⟨_, h, fun k lb hk => hl k lb hk (by simp), LExt.refl _, fun k lb hk => ⟨lb, hk, rfl⟩⟩
  | cons k r ih =>
    intro L h hl
    simp only [newLocals] at h
    split at h
    · rename_i lb hlb
      obtain ⟨vs, _, hm, h⟩ := ExL.ex h
      have hlt := getElem?_lt hlb
      obtain ⟨L', hG, hloc, hext, hback⟩ := ih h (fun j x hj hjr => by
        by_cases e : k = j
        · subst e
          simp [hlt] at hj
          subst hj
          exact hs.2 _ _ hm
        · rw [List.getElem?_set_ne e] at hj
          exact hl j x hj (by simp only [List.mem_cons, not_or]; exact ⟨fun h => e h.symm, hjr⟩))
      refine ⟨L', hG, hloc, (LExt.set L k lb ⟨lb.b, lb.T, lb.ls, vs ++ lb.cs.drop lb.ls.length⟩ hlb rfl rfl rfl).trans hext, fun j x hj => ?_⟩
      obtain ⟨y, hy, ey⟩ := hback j x hj
      by_cases e : k = j
      · subst e
        simp [hlt] at hy
        subst hy
        exact ⟨lb, hlb, ey⟩
      · rw [List.getElem?_set_ne e] at hy
        exact ⟨y, hy, ey⟩
    · exact h.elim

/-- the view of what is known and of some own blocks -/
def withL (u : View) (w : World) (hs : Sub u w) (L : List LB) (hl : LocOK L w) (ks : List Nat) : View :=
  { m := fun b => if ks.any (fun k => (L[k]?).any fun lb => lb.b == b) then w.heap[b]? else u.m b, lim := w.heap.size,
    lt := fun b o h => by
      split at h
      · exact heap_lt h
      · have := u.lt _ _ h; have := hs.1; omega }

/-- some own blocks are known no more -/
def hideL (u : View) (L : List LB) (ks : List Nat) : View :=
  { m := fun b => if ks.any (fun k => (L[k]?).any fun lb => lb.b == b) then none else u.m b, lim := u.lim,
    lt := fun b o h => by
      split at h
      · cases h
      · exact u.lt _ _ h }

theorem call_run {P : Program} {ok : Bool} {g : FuncId} {xs : List SV} {t : TypeId} (hM : ok = true → callOK P g = true) (hw : WOK u0 w0 st.L st.u w) (hok : ∀ x ∈ xs, okSV st.L.length x)
    (h : callK P ok g xs t kL kU st K) (o : Oper) (hr : callOK P g = true → (execOp a.eval o).run P w = .ok (.enter g (xs.map (tv st.L)).toArray) w) :
    o.wp P a w (LPost u0 w0 st kL kU K o a) Q := by
  unfold callK at h
  split at h
  case h_2 => exact h.elim
  unfold Oper.wp
  rw [hr (hM rfl)]
  simp only [Oper.upon]
  split at h
  · -- no own block is handed on
    refine (h w hw.sub).mono ?_
    rintro e w' ⟨v, u', rfl, hs', hgrow, hframe, hdom, hres⟩
    obtain ⟨v', rfl, hk⟩ := ExR.ex hres
    have hw' : WOK u0 w0 st.L u' w' := by
      refine ⟨hs', fun k lb hl => ?_, fun k lb hl => ?_, hw.dist, hw.grow.trans hgrow, fun b hb hn => ?_, fun b o hm => ?_, hw.domL⟩
      · rw [hframe lb.b (heap_lt (hw.loc k lb hl)) (hw.unk k lb hl)]; exact hw.loc k lb hl
      · cases hm : u'.m lb.b with
        | none => rfl
        | some o =>
          rcases hdom _ _ hm with h1 | h1
          · exact absurd (hw.unk k lb hl) h1
          · have := heap_lt (hw.loc k lb hl); omega
      · rw [hframe b (Nat.lt_of_lt_of_le hb hw.grow.1) ?_]
        · exact hw.frame b hb hn
        · cases hm : st.u.m b with
          | none => rfl
          | some o =>
            rcases hw.dom _ _ hm with h1 | h1
            · exact absurd hn h1
            · omega
      · rcases hdom _ _ hm with h1 | h1
        · cases hm' : st.u.m b with
          | none => exact absurd hm' h1
          | some o' => exact hw.dom _ _ hm'
        · exact .inr (Nat.le_trans hw.grow.1 h1)
    cases kU with
    | true => exact ⟨.v v, st.L, u', rfl, LExt.refl _, trivial, hw', fun _ _ _ h => h, fun _ => ⟨hk.1, hk.2.1⟩, hk.2.2⟩
    | false => exact ⟨.v v, st.L, u', rfl, LExt.refl _, trivial, hw', (fun _ _ _ h => h), (fun h => by cases h), hk⟩
  · -- own blocks are handed on
    rename_i ks hks
    split at h
    case h_1 => exact h.elim
    case h_2 => exact h.elim
    case h_3 =>
      generalize ksOf xs = ks at h
      have hin : ∀ b, ks.any (fun k => (st.L[k]?).any fun lb => lb.b == b) = true → ∃ k ∈ ks, ∃ lb, st.L[k]? = some lb ∧ lb.b = b := fun b hb => by
        obtain ⟨k, hk, h2⟩ := List.any_eq_true.1 hb
        cases hl : st.L[k]? with
        | none => simp [hl] at h2
        | some lb => exact ⟨k, hk, lb, hl, by simpa [hl] using h2⟩
      have hin' : ∀ k ∈ ks, ∀ lb, st.L[k]? = some lb → ks.any (fun k => (st.L[k]?).any fun x => x.b == lb.b) = true := fun k hk lb hl =>
        List.any_eq_true.2 ⟨k, hk, by simp [hl]⟩
      have hnot : ∀ b o, st.u.m b = some o → ks.any (fun k => (st.L[k]?).any fun lb => lb.b == b) = false := fun b o hm => by
        cases hb : ks.any (fun k => (st.L[k]?).any fun lb => lb.b == b) with
        | false => rfl
        | true =>
          obtain ⟨k, _, lb, hl, rfl⟩ := hin b hb
          rw [hw.unk k lb hl] at hm; cases hm
      let uc := withL st.u w hw.sub st.L hw.loc ks
      have huc : ∀ b, uc.m b = if ks.any (fun k => (st.L[k]?).any fun lb => lb.b == b) then w.heap[b]? else st.u.m b := fun b => rfl
      have hkeep : ∀ b o, st.u.m b = some o → uc.m b = some o := fun b o hm => by rw [huc, hnot b o hm]; exact hm
      have hsub : Sub uc w := ⟨Nat.le_refl _, fun b o hm => by
        rw [huc] at hm
        split at hm
        · exact hm
        · exact hw.sub.2 _ _ hm⟩
      have hcall := asLocals_of (h uc hw.sub.1 hkeep) (fun k hk lb hl => ⟨hw.unk k lb hl, heap_lt (hw.loc k lb hl), by
        rw [huc, hin' k hk lb hl]; exact hw.loc k lb hl⟩)
      refine (hcall w hsub).mono ?_
      rintro e w' ⟨v, u', rfl, hs', hgrow, hframe, hdom, hres⟩
      obtain ⟨v', rfl, hk⟩ := ExR.ex hres
      obtain ⟨L', hG, hloc, hext, hback⟩ := newLocals_of hs' hk (fun k lb hl hnk => by
        rw [hframe lb.b (heap_lt (hw.loc k lb hl)) ?_]
        · exact hw.loc k lb hl
        · rw [huc]
          cases hb : ks.any (fun k => (st.L[k]?).any fun x => x.b == lb.b) with
          | false => exact hw.unk k lb hl
          | true =>
            obtain ⟨j, hj, x, hx, e⟩ := hin lb.b hb
            exact absurd (hw.dist j k x lb hx hl e ▸ hj) hnk)
      let u'' : View := hideL u' st.L ks
      have hu'' : ∀ b, u''.m b = if ks.any (fun k => (st.L[k]?).any fun lb => lb.b == b) then none else u'.m b := fun b => rfl
      have hsub'' : ∀ b o, u''.m b = some o → u'.m b = some o := fun b o hm => by
        rw [hu''] at hm
        split at hm
        · cases hm
        · exact hm
      have hK := hG u'' rfl (fun b o o' hm hm' => by rw [hu'', hnot b o hm]; exact hm') (fun b o hle hm' => by
        rw [hu'']
        cases hb : ks.any (fun k => (st.L[k]?).any fun lb => lb.b == b) with
        | false => exact hm'
        | true =>
          obtain ⟨k, _, lb, hl, rfl⟩ := hin b hb
          have h1 := heap_lt (hw.loc k lb hl)
          have h2 : w.heap.size ≤ lb.b := hle
          omega)
      refine ⟨.v v, L', u'', rfl, hext, trivial, ?_, (fun h => by cases h), (fun h => by cases h), hK⟩
      refine ⟨⟨hs'.1, fun b o hm => hs'.2 _ _ (hsub'' b o hm)⟩, hloc, fun k lb hl => ?_, fun j k x y hj hk' e => ?_, hw.grow.trans hgrow, fun b hb hn => ?_, fun b o hm => ?_, fun k lb hl => ?_⟩
      · obtain ⟨lb', hl', e⟩ := hback k lb hl
        rw [hu'', ← e]
        cases hb : ks.any (fun k => (st.L[k]?).any fun x => x.b == lb'.b) with
        | true => rfl
        | false =>
          cases hm : u'.m lb'.b with
          | none => simp [hm]
          | some o =>
            rcases hdom _ _ hm with h1 | h1
            · rw [huc, hb] at h1
              exact absurd (hw.unk k lb' hl') h1
            · have := heap_lt (hw.loc k lb' hl'); omega
      · obtain ⟨x', hx', ex⟩ := hback j x hj
        obtain ⟨y', hy', ey⟩ := hback k y hk'
        exact hw.dist j k x' y' hx' hy' (by rw [ex, ey, e])
      · rw [hframe b (Nat.lt_of_lt_of_le hb hw.grow.1) ?_]
        · exact hw.frame b hb hn
        · rw [huc]
          cases hb' : ks.any (fun k => (st.L[k]?).any fun lb => lb.b == b) with
          | true =>
            obtain ⟨k, _, lb, hl, rfl⟩ := hin b hb'
            rcases hw.domL k lb hl with h1 | h1
            · exact absurd hn h1
            · omega
          | false =>
            cases hm : st.u.m b with
            | none => simp [hm]
            | some o =>
              rcases hw.dom _ _ hm with h1 | h1
              · exact absurd hn h1
              · omega
      · rcases hdom _ _ (hsub'' b o hm) with h1 | h1
        · rw [huc] at h1
          cases hb' : ks.any (fun k => (st.L[k]?).any fun lb => lb.b == b) with
          | true =>
            obtain ⟨k, _, lb, hl, rfl⟩ := hin b hb'
            exact hw.domL k lb hl
          | false =>
            rw [hb'] at h1
            cases hm' : st.u.m b with
            | none => simp [hm'] at h1
            | some o' => exact hw.dom _ _ hm'
        · exact .inr (Nat.le_trans hw.grow.1 h1)
      · obtain ⟨lb', hl', e⟩ := hback k lb hl
        rw [← e]
        exact hw.domL k lb' hl'


theorem pure_run {P : Program} {g : FuncId} {fg : List Value → Option Value} {vs : List Value} {v : Value} (hpf : PureOK P pf) (hg : pf g = some fg) (hv : fg vs = some v)
    (hw : WOK u0 w0 st.L st.u w) (hk : K (.v v) st.L st.u) (o : Oper) (hr : (execOp a.eval o).run P w = .ok (.enter g vs.toArray) w) :
    o.wp P a w (LPost u0 w0 st kL kU K o a) Q := by
  unfold Oper.wp
  rw [hr]
  simp only [Oper.upon]
  refine (hpf g fg vs v hg hv st.u w hw.sub).mono ?_
  rintro e w' ⟨v', u', rfl, hs', hgrow, hframe, hdom, rfl, rfl⟩
  refine ⟨.v v', st.L, st.u, rfl, LExt.refl _, trivial, hw.evo ⟨hgrow, fun b hb => ?_⟩, fun _ _ _ h => h, fun _ => ⟨Nat.le_refl _, fun _ _ h => h⟩, hk⟩
  cases hm : st.u.m b with
  | none => exact hframe b hb hm
  | some o => rw [hs'.2 _ _ hm, hw.sub.2 _ _ hm]

theorem pvSV_tv (L : List LB) (caps : List PV) : (caps.map pvSV).map (tv L) = caps.map (pv L) := by
  rw [List.map_map]
  exact List.map_congr_left fun p _ => by cases p <;> rfl

theorem mapV_eq {P : Program} {T e : TypeId} {d : TypeDesc} {z : Value} (h : mapV P T = some (d, e, z)) : ∃ kt, P.underlying T = some (.map kt e) ∧ P.underlying kt = some d ∧ zeroOf P e = some z := by
  unfold mapV at h
  split at h
  · rename_i kt e' hu
    split at h
    · rename_i h1 h2; cases h; exact ⟨kt, hu, h1, h2⟩
    · rename_i h1 h2; cases h; exact ⟨kt, hu, h1, h2⟩
    · cases h
  · cases h

theorem keyOK_key {d : TypeDesc} {v : Value} (h : keyOK d v = true) : MapKept.IsKey d v := by
  unfold keyOK at h
  split at h
  · trivial
  · simpa [MapKept.IsKey] using h
  · cases h

theorem same_bits {d : TypeDesc} {v : Value} (h : keyOK d v = true) : Instr.sameBits 10000 v v = true := MapKept.sameBits_self (keyOK_key h) _

theorem l_makeMap {T : TypeId} (hw : WOK u0 w0 st.L st.u w) (h : lV P M pf kL kU ⟨dst, .makeMap T none, type, pos, after, guard⟩ st K) :
    Oper.wp P ⟨dst, .makeMap T none, type, pos, after, guard⟩ a w (LPost u0 w0 st kL kU K ⟨dst, .makeMap T none, type, pos, after, guard⟩ a) Q := by
  simp only [lV] at h
  have hr : (execOp a.eval ⟨dst, .makeMap T none, type, pos, after, guard⟩).run P w = .ok (.value (.map (some w.heap.size))) { w with heap := w.heap.push (.map #[] 0) } := by
    have h0 : (Instr.makeMap T none).run P w = .ok (.map (some w.heap.size)) { w with heap := w.heap.push (.map #[] 0) } := rfl
    simp only [execOp, Option.map_none, Sem.run_bind, h0, Result.andThen, Sem.run_pure]
  unfold Oper.wp
  rw [hr]
  exact new_known hw rfl ⟨rfl, rfl⟩ (h _ hw.sub.1)

theorem l_lookup {T : TypeId} {m k : Operand} {ok : Bool} (hw : WOK u0 w0 st.L st.u w) (hρ : ∀ z ∈ (Op.lookup T m k ok).operands, a.eval z = tv st.L (st.ev z)) (h : lV P M pf kL kU ⟨dst, .lookup T m k ok, type, pos, after, guard⟩ st K) :
    Oper.wp P ⟨dst, .lookup T m k ok, type, pos, after, guard⟩ a w (LPost u0 w0 st kL kU K ⟨dst, .lookup T m k ok, type, pos, after, guard⟩ a) Q := by
  simp only [lV] at h
  split at h
  · rename_i d e z mr key hm h1 h2
    split at h
    · rename_i hk
      obtain ⟨kt, hT, hd, hz⟩ := mapV_eq hm
      obtain ⟨es, clock, hes, x, hx, h⟩ := h
      obtain ⟨v, hv, h⟩ := ExS.ex h
      have em := hρ m (by simp [Op.operands])
      have ek := hρ k (by simp [Op.operands])
      rw [SV.val?_tv st.L h1] at em
      rw [SV.val?_tv st.L h2] at ek
      have hck : ∀ b, (Instr.checkKey b 10000 kt key).run P w = .ok () w := fun b => MapKept.run_checkKey hd (keyOK_key hk) b 9999
      have hfk := MapKept.run_findKey (P := P) (w := w) hd hx
      have hr : (execOp a.eval ⟨dst, .lookup T m k ok, type, pos, after, guard⟩).run P w = .ok (.value (okV ok v x.isSome)) w := by
        cases mr with
        | none =>
          simp only at hes
          subst hes
          have hx0 : x = none := by simpa [Instr.findNow] using hx.symm
          subst hx0
          have hfk : (Instr.findKey kt key []).run P w = .ok none w := hfk
          simp only at hv
          subst hv
          cases ok <;> simp [execOp, Instr.lookup, em, ek, underlying, hT, hck, hfk, Result.andThen, zeroOf_run hz, okV]
        | some r =>
          simp only at hes
          have hb := hw.sub.2 _ _ hes
          have hg : (getObj r).run P w = .ok (.map es clock) w := by simp [getObj, Sem.run, hb]
          cases x with
          | none =>
            simp only at hv
            subst hv
            cases ok <;> simp [execOp, Instr.lookup, em, ek, underlying, hT, hg, hck, hfk, Result.andThen, zeroOf_run hz, okV]
          | some q =>
            obtain ⟨i, y⟩ := q
            simp only at hv
            subst hv
            cases ok <;> simp [execOp, Instr.lookup, em, ek, underlying, hT, hg, hck, hfk, Result.andThen, okV]
      unfold Oper.wp
      rw [hr]
      exact ⟨.v _, st.L, st.u, rfl, LExt.refl _, trivial, hw, fun _ _ _ h => h, fun _ => ⟨Nat.le_refl _, fun _ _ h => h⟩, h⟩
    · exact h.elim
  · exact h.elim

theorem mapUpdate_run {T : TypeId} {d : TypeDesc} {e : TypeId} {z : Value} (hm : mapV P T = some (d, e, z)) {key v : Value} (hk : keyOK d key = true) {r : Nat} {es : Array MapEntry} {clock : Nat} (hb : w.heap[r]? = some (.map es clock))
    {x : Option (Nat × Value)} (hx : Instr.findNow d key es.toList 0 = some x) (hs : ∀ i v, x = some (i, v) → (es[i]?).map (·.key) = some key) :
    (Instr.mapUpdate T (.map (some r)) key v).run P w = .ok () { w with heap := w.heap.setIfInBounds r (mapPut es clock key v x) } := by
  obtain ⟨kt, hT, hd, hz⟩ := mapV_eq hm
  have hck : ∀ b, (Instr.checkKey b 10000 kt key).run P w = .ok () w := fun b => MapKept.run_checkKey hd (keyOK_key hk) b 9999
  have hfk := MapKept.run_findKey (P := P) (w := w) hd hx
  have hg : (getObj r).run P w = .ok (.map es clock) w := by simp [getObj, Sem.run, hb]
  cases x with
  | none => simp [Instr.mapUpdate, underlying, hT, hg, hck, hfk, Result.andThen, MapKept.run_setObj_map _ hb, mapPut]
  | some q =>
    obtain ⟨i, y⟩ := q
    have hs := hs i y rfl
    simp [Instr.mapUpdate, underlying, hT, hg, hck, hfk, Result.andThen, MapKept.run_setObj_map _ hb, mapPut, hs, Instr.keyThatStays, same_bits hk]

theorem l_put {T : TypeId} {m k x : Operand} {op : Op} (hop : op = .insert T m k x ∨ op = .mapUpdate T m k x) (hw : WOK u0 w0 st.L st.u w) (hρ : ∀ z ∈ op.operands, a.eval z = tv st.L (st.ev z)) (h : lV P M pf kL kU ⟨dst, op, type, pos, after, guard⟩ st K) :
    Oper.wp P ⟨dst, op, type, pos, after, guard⟩ a w (LPost u0 w0 st kL kU K ⟨dst, op, type, pos, after, guard⟩ a) Q := by
  have ho : ∀ z ∈ [m, k, x], a.eval z = tv st.L (st.ev z) := by
    rcases hop with rfl | rfl <;> exact fun z hz => hρ z (by simpa [Op.operands] using hz)
  have hl : putV P T m k x kU st K := by rcases hop with rfl | rfl <;> exact h
  unfold putV at hl
  clear h
  split at hl
  case h_1 => exact hl.elim
  split at hl
  · rename_i d e z r key v hm h1 h2 h3
    split at hl
    · rename_i hk
      obtain ⟨es, clock, hes, y, hy, hs, hl⟩ := hl
      have em := ho m (by simp)
      have ek := ho k (by simp)
      have ex := ho x (by simp)
      rw [SV.val?_tv st.L h1] at em
      rw [SV.val?_tv st.L h2] at ek
      rw [SV.val?_tv st.L h3] at ex
      have hb := hw.sub.2 _ _ hes
      have hrun := mapUpdate_run (P := P) (v := v) hm hk hb hy hs
      have hr : (execOp a.eval ⟨dst, op, type, pos, after, guard⟩).run P w = .ok .skip { w with heap := w.heap.setIfInBounds r (mapPut es clock key v y) } := by
        rcases hop with rfl | rfl <;> simp [execOp, em, ek, ex, hrun, Result.andThen]
      unfold Oper.wp
      rw [hr]
      have hset := MapKept.heap_set (o' := mapPut es clock key v y) hb
      exact ⟨.v undef, st.L, _, rfl, LExt.refl _, trivial, hw.setU _ ⟨by simp, rfl, rfl⟩ hset.1 (fun b' hne _ => hset.2 b' hne) (.inl (by rw [hes]; simp)), (fun _ _ _ h => h), (fun h => by cases h), hl⟩
    · exact hl.elim
  · exact hl.elim

theorem lV_wp {P : Program} {o : Oper} (hM : CK P M) (hpf : PureOK P pf) (hw : WOK u0 w0 st.L st.u w) (hρ : ∀ x ∈ o.op.operands, a.eval x = tv st.L (st.ev x))
    (hok : ∀ x ∈ o.op.operands, okSV st.L.length (st.ev x)) (h : lV P M pf kL kU o st K) : o.wp P a w (LPost u0 w0 st kL kU K o a) Q := by
  obtain ⟨dst, op, type, pos, after, guard⟩ := o
  cases op with
  | alloc T => exact l_alloc hw h
  | box T x => exact l_box hw hρ h
  | store T x y => exact l_store hw hρ h
  | buildSlice T n ps => exact l_buildSlice hw hρ h
  | makeSlice T x y => exact l_makeSlice hw hρ h
  | convert s d x => exact l_convert hw hρ h
  | makeMap T r =>
    cases r with
    | none => exact l_makeMap hw h
    | some r => exact h.elim
  | lookup T m k ok => exact l_lookup hw hρ h
  | insert T m k x => exact l_put (.inl rfl) hw hρ h
  | mapUpdate T m k x => exact l_put (.inr rfl) hw hρ h
  | call c =>
    obtain ⟨callee, cargs, cts⟩ := c
    simp only [lV] at h
    have harg : ∀ (l : List Operand), cargs.toList = l → cargs = l.toArray := fun l hl => by rw [← hl]
    split at h
    · rename_i s x hx
      have hx := harg _ hx
      subst hx
      split at h
      case h_1 => exact h.elim
      split at h
      · rename_i sv xv sT xT hs hx h0
        obtain rfl : cts = #[sT, xT] := by
          have : cts = cts.toList.toArray := rfl
          rw [this, h0]
        exact l_append hw (fun z hz => hρ z (by simpa [Op.operands, Call.operands] using hz)) hs hx h
      · exact h.elim
    · rename_i d x hx
      have hx := harg _ hx
      subst hx
      split at h
      case h_1 => exact h.elim
      exact l_copy hw (fun z hz => hρ z (by simpa [Op.operands, Call.operands] using hz)) h
    · rename_i f
      have hf := hρ f (by simp [Op.operands, Call.operands])
      have hargs : (cargs.map a.eval).toList = cargs.toList.map fun x => tv st.L (st.ev x) := by
        rw [Array.toList_map]
        exact List.map_congr_left fun x hx => hρ x (by simp only [Op.operands, Call.operands, Array.mem_append]; exact .inr (Array.mem_toList_iff.1 hx))
      have hokargs : ∀ x ∈ cargs.toList, okSV st.L.length (st.ev x) := fun x hx => hok x (by simp only [Op.operands, Call.operands, Array.mem_append]; exact .inr (Array.mem_toList_iff.1 hx))
      have hokf := hok f (by simp [Op.operands, Call.operands])
      have hexec : ∀ g caps vs, a.eval f = .func (.func g) #[] caps → (cargs.map a.eval ++ caps) = vs → callOK P g = true →
          (execOp a.eval ⟨dst, .call ⟨.value f, cargs, cts⟩, type, pos, after, guard⟩).run P w = .ok (.enter g vs) w := fun g caps vs he hv hc => by
        simp [execOp, resolve, he, Deferred.ofValue, invoke, hv, callFunc_run hc]
      split at h
      · rename_i g caps hg
        rw [hg] at hf hokf
        split at h
        · rename_i fg hfg
          split at h
          · rename_i vs hlt hvs
            split at h
            · rename_i v hv
              refine pure_run hpf hfg hv hw h _ (hexec g _ _ hf ?_ (hM g hlt))
              apply Array.ext'
              rw [Array.toList_append, hargs, valsV_tv hvs]
              simp
            · exact h.elim
          · exact h.elim
        · refine call_run (fun hlt => hM g hlt) hw (fun x hx => ?_) h _ (fun hc => hexec g _ _ hf ?_ hc)
          · rcases List.mem_append.1 hx with hx | hx
            · obtain ⟨y, hy, rfl⟩ := List.mem_map.1 hx
              exact hokargs y hy
            · obtain ⟨p, hp, rfl⟩ := List.mem_map.1 hx
              have := hokf p hp
              cases p with
              | v x => trivial
              | loc k off => exact this
          · apply Array.ext'
            rw [Array.toList_append, hargs, List.map_append, pvSV_tv]
            simp [Function.comp_def]
      · rename_i g first caps hg
        rw [hg] at hf
        split at h
        · rename_i h0
          obtain ⟨hc, h⟩ := h
          have hf0 : first = #[] := Array.eq_empty_of_size_eq_zero h0
          subst hf0
          refine call_run (fun _ => hc) hw (fun x hx => ?_) h _ (fun hc => hexec g caps _ hf ?_ hc)
          · rcases List.mem_append.1 hx with hx | hx
            · obtain ⟨y, hy, rfl⟩ := List.mem_map.1 hx
              exact hokargs y hy
            · obtain ⟨p, hp, rfl⟩ := List.mem_map.1 hx
              trivial
          · apply Array.ext'
            have hc' : (caps.toList.map SV.v).map (tv st.L) = caps.toList := by
              rw [List.map_map]
              exact (List.map_congr_left fun _ _ => rfl).trans (List.map_id _)
            rw [Array.toList_append, hargs, List.map_append, hc']
            simp [Function.comp_def]
        · exact h.elim
      · exact h.elim
    · exact h.elim
  | _ => exact h.elim

end
end Go.Proofs.Ytkjddlgaldnbnaa
end

/-
  THE CALCULUS, PART 9: a quiet operation's result speaks of no own block that is not there; one operation, whichever it is.
-/
section
set_option linter.unusedSimpArgs false
set_option linter.unusedVariables false
namespace Go.Proofs.Ytkjddlgaldnbnaa

theorem binV_mono {P : Program} {xT : TypeId} {op : BinOp} {x y : Value} {K K' : Value → Prop} (hk : ∀ v, K v → K' v) (h : binV P xT op x y K) : binV P xT op x y K' := by
  cases x <;> cases y <;> simp only [binV] at h ⊢ <;> try exact h.elim
  case bool.bool a b =>
    cases op <;> simp only at h ⊢ <;> try exact h.elim
    all_goals
      split at h
      · rename_i e; first | exact hk _ h | (rw [if_pos e]; exact hk _ h)
      · exact h.elim
  case int.int k a k' b =>
    cases op <;> simp only at h ⊢
    all_goals first
      | exact ⟨h.1, hk _ h.2⟩
      | (split at h
         case isFalse => exact h.elim
         rename_i e
         rw [if_pos e]
         first
           | exact ⟨h.1, hk _ h.2⟩
           | exact hk _ h
           | (split at h
              · rename_i t ht; first | exact hk _ h | (rw [ht]; exact hk _ h)
              · exact h.elim))
  case string.string a b =>
    cases op <;> simp only at h ⊢ <;> try exact h.elim
    · exact ⟨h.1, hk _ h.2⟩
    all_goals exact hk _ h
  case slice.slice p n c q m d =>
    cases q with
    | some q => simp only at h
    | none =>
      cases op <;> simp only at h ⊢ <;> try exact h.elim
      all_goals
        split at h
        · rename_i e; first | exact hk _ h | (rw [if_pos e]; exact hk _ h)
        · exact h.elim

theorem partV_mono {P : Program} {t : TypeId} {cs : List Value} {off : Nat} {K K' : Value → Prop} (hk : ∀ v, K v → K' v) (h : partV P t cs off K) : partV P t cs off K' := by
  unfold partV at *
  split at h
  · rename_i e; (try simp only [e]); exact hk _ h
  · rename_i e
    (try simp only [e])
    split at h
    · rename_i v hv; (try simp only [hv]); exact hk _ h
    · exact h.elim
  · exact h.elim

theorem loadL_mono {P : Program} {t : TypeId} {cs : List Value} {off : Nat} {K K' : Value → Prop} (hk : ∀ v, K v → K' v) (h : loadL P t cs off K) : loadL P t cs off K' := by
  unfold loadL at *
  split at h
  · rename_i e
    (try simp only [e])
    split at h
    · rename_i hl; rw [if_pos hl]; exact hk _ h
    · exact h.elim
  · rename_i e
    (try simp only [e])
    split at h
    · rename_i v hv; (try simp only [hv]); exact hk _ h
    · exact h.elim
  · exact h.elim

theorem loadU_mono {P : Program} {t : TypeId} {u : View} {ad : Addr} {K K' : Value → Prop} (hk : ∀ v, K v → K' v) (h : loadU P t u ad K) : loadU P t u ad K' := by
  unfold loadU at *
  split at h
  · rename_i e
    (try simp only [e])
    split at h
    · rename_i hl; rw [if_pos hl]; exact ExL.mono (fun vs ⟨a, b⟩ => ⟨a, hk _ b⟩) h
    · exact h.elim
  · rename_i e
    (try simp only [e])
    split at h
    · rename_i l hl; (try simp only [hl]); obtain ⟨x, a, b⟩ := h; exact ⟨x, a, hk _ b⟩
    · exact h.elim
  · exact h.elim

theorem capsV_ok {st : St} {n : Nat} : ∀ {l : List Operand} {ps : List PV}, capsV st l = some ps → (∀ x ∈ l, okSV n (st.ev x)) → ∀ p ∈ ps, okPV n p := by
  intro l
  induction l with
  | nil => intro ps h _ p hp; simp [capsV] at h; subst h; cases hp
  | cons x r ih =>
    intro ps h hx p hp
    simp only [capsV] at h
    split at h <;> cases h
    rename_i q ps' h1 h2
    rcases List.mem_cons.1 hp with rfl | hp
    · have := hx x (List.mem_cons_self ..)
      cases hv : st.ev x <;> rw [hv] at h1 this <;> simp [SV.pv?] at h1 <;> subst h1 <;> first | trivial | exact this
    · exact ih h2 (fun y hy => hx y (List.mem_cons_of_mem _ hy)) p hp

theorem qV_ok {P : Program} {o : Oper} {st : St} {K : SV → Prop} (hok : ∀ x ∈ o.op.operands, okSV st.L.length (st.ev x)) (h : qV P o st K) :
    qV P o st fun y => okSV st.L.length y ∧ K y := by
  obtain ⟨dst, op, type, pos, after, guard⟩ := o
  cases op <;> simp only [qV] at h ⊢ <;> try exact h.elim
  case move x => exact ⟨hok x (by simp [Op.operands]), h⟩
  case assign x => exact ⟨hok x (by simp [Op.operands]), h⟩
  case pick c a b =>
    split at h
    · rename_i e; (try simp only [e]); exact ⟨hok a (by simp [Op.operands]), h⟩
    · rename_i e; (try simp only [e]); exact ⟨hok b (by simp [Op.operands]), h⟩
    · rename_i e
      (try simp only [e])
      split at h
      · rename_i e1 e2; (try simp only [e1, e2]); exact ⟨trivial, h⟩
      · exact h.elim
    · exact h.elim
  case nilCheck x =>
    have hx := hok x (by simp [Op.operands])
    split at h <;> try exact h.elim
    · rename_i e
      (try simp only [e])
      rw [e] at hx
      split at h
      · rename_i e1; (try simp only [e1]); exact ⟨hx, h⟩
      · exact h.elim
    all_goals (rename_i e; (try simp only [e]); rw [e] at hx; exact ⟨hx, h⟩)
  case binOp op xT x y yT =>
    split at h
    · rename_i e1 e2; (try simp only [e1, e2]); exact binV_mono (fun v k => ⟨trivial, k⟩) h
    · exact h.elim
  case unOp op xT x =>
    split at h <;> try exact h.elim
    all_goals (rename_i e; (try simp only [e]); exact ⟨trivial, h⟩)
  case convert s d x =>
    split at h <;> try exact h.elim
    all_goals (rename_i e1 e2 e3; (try simp only [e1, e2, e3]); exact ⟨trivial, h⟩)
  case fieldAddr sT x f =>
    have hx := hok x (by simp [Op.operands])
    split at h
    · rename_i e
      (try simp only [e])
      split at h
      · exact h.elim
      · rename_i hz
        rw [if_neg hz]
        split at h
        · rename_i e1
          (try simp only [e1])
          rw [e1] at hx
          split at h
          · rename_i e2; (try simp only [e2]); exact ⟨hx, h⟩
          · exact h.elim
        · rename_i e1; (try simp only [e1]); exact ⟨trivial, h⟩
        · exact h.elim
    · exact h.elim
  case field T x f =>
    split at h
    · rename_i e
      (try simp only [e])
      split at h
      · rename_i e1; (try simp only [e1]); exact partV_mono (fun v k => ⟨trivial, k⟩) h
      · exact h.elim
    · exact h.elim
  case indexAddr T x i =>
    have hx := hok x (by simp [Op.operands])
    split at h
    · rename_i e
      (try simp only [e])
      split at h
      · rename_i e1
        (try simp only [e1])
        split at h
        · rename_i e2; (try simp only [e2]); obtain ⟨ad, a, b, c, d⟩ := h; exact ⟨ad, a, b, c, trivial, d⟩
        · exact h.elim
      · rename_i e1
        (try simp only [e1])
        rw [e1] at hx
        split at h
        · rename_i e2
          (try simp only [e2])
          split at h
          · rename_i e3; (try simp only [e3]); exact ⟨h.1, h.2.1, hx, h.2.2⟩
          · exact h.elim
        · exact h.elim
      · rename_i e1
        (try simp only [e1])
        split at h
        · rename_i e2; (try simp only [e2]); exact ⟨h.1, h.2.1, trivial, h.2.2⟩
        · exact h.elim
      · exact h.elim
    · exact h.elim
  case index T x i =>
    split at h
    · rename_i e
      (try simp only [e])
      split at h
      · rename_i e1
        (try simp only [e1])
        split at h
        · rename_i e2; (try simp only [e2]); obtain ⟨b, h1, h2, h3⟩ := h; exact ⟨b, h1, h2, trivial, h3⟩
        · exact h.elim
      · rename_i e1
        (try simp only [e1])
        split at h
        · rename_i e2; (try simp only [e2]); exact ⟨h.1, h.2.1, partV_mono (fun v k => ⟨trivial, k⟩) h.2.2⟩
        · exact h.elim
      · exact h.elim
    · exact h.elim
  case extract t i =>
    split at h
    · rename_i e
      (try simp only [e])
      split at h
      · rename_i e1; (try simp only [e1]); exact ⟨trivial, h⟩
      · exact h.elim
    · exact h.elim
  case slice T x lo hi mx =>
    split at h
    · rename_i e
      (try simp only [e])
      split at h
      · rename_i e1
        (try simp only [e1])
        split at h
        · rename_i e2 e3; (try simp only [e2, e3]); exact ⟨h.1, h.2.1, h.2.2.1, trivial, h.2.2.2⟩
        · exact h.elim
      · exact h.elim
    · rename_i e
      (try simp only [e])
      split at h
      · rename_i e1
        (try simp only [e1])
        split at h
        · rename_i e2 e3; (try simp only [e2, e3]); exact ⟨h.1, h.2.1, h.2.2.1, trivial, h.2.2.2⟩
        · exact h.elim
      · exact h.elim
    · exact h.elim
  case build T parts =>
    split at h
    · rename_i e1 e2
      (try simp only [e1, e2])
      split at h
      · rename_i e3
        (try simp only [e3])
        split at h
        · rename_i e4
          (try simp only [e4])
          split at h
          · rename_i e5; (try simp only [e5]); exact ⟨trivial, h⟩
          · exact h.elim
        · exact h.elim
      · exact h.elim
    · exact h.elim
  case makeFunc fn first caps =>
    split at h
    · rename_i e
      (try simp only [e])
      split at h
      · rename_i ps e1
        (try simp only [e1])
        exact ⟨capsV_ok e1 fun x hx => hok x (by simp only [Op.operands, Array.mem_append]; exact .inr (Array.mem_toList_iff.1 hx)), h⟩
      · exact h.elim
    · exact h.elim
  case load T x =>
    split at h
    · rename_i e
      (try simp only [e])
      split at h
      · rename_i e1; (try simp only [e1]); exact loadL_mono (fun v k => ⟨trivial, k⟩) h
      · exact h.elim
    · rename_i e
      (try simp only [e])
      split at h
      · rename_i e1 e2 e3; (try simp only [e1, e2, e3]); obtain ⟨y, a, b⟩ := h; exact ⟨y, a, trivial, b⟩
      · exact h.elim
    · rename_i e; (try simp only [e]); exact loadU_mono (fun v k => ⟨trivial, k⟩) h
    · exact h.elim
  case call c =>
    split at h
    · rename_i e1 e2
      (try simp only [e1, e2])
      split at h
      · rename_i e3
        (try simp only [e3])
        split at h
        · rename_i e4 e5; (try simp only [e4, e5]); exact ⟨trivial, h⟩
        · rename_i e4 e5; (try simp only [e4, e5]); exact ⟨trivial, h⟩
        · exact h.elim
      · exact h.elim
    · rename_i e1 e2
      (try simp only [e1, e2])
      split at h
      · rename_i e3
        (try simp only [e3])
        split at h
        · rename_i e4 e5; (try simp only [e4, e5]); exact ⟨trivial, h⟩
        · exact h.elim
      · exact h.elim
    · rename_i e1 e2
      (try simp only [e1, e2])
      split at h
      · rename_i e3 e4; (try simp only [e3, e4]); exact ⟨trivial, h⟩
      · exact h.elim
    · rename_i e1 e2
      (try simp only [e1, e2])
      split at h
      · rename_i e3 e4; (try simp only [e3, e4]); exact ⟨trivial, h⟩
      · exact h.elim
    · exact h.elim

/-- one operation -/
def stepV (P : Program) (M : Nat) (pf : FuncId → Option (List Value → Option Value)) (kL kU : Bool) (o : Oper) (st : St) (K : SV → List LB → View → Prop) : Prop :=
  match isQ P o.op with
  | true => qV P o st fun y => K y st.L st.u
  | false => lV P M pf kL kU o st K

theorem stepV_wp {P : Program} {M : Nat} {pf : FuncId → Option (List Value → Option Value)} {u0 : View} {w0 w : World} {st : St} {kL kU : Bool} {a : Act}
    {K : SV → List LB → View → Prop} {Q : Exit → Act → World → Prop} {o : Oper} (hM : CK P M) (hpf : PureOK P pf) (hw : WOK u0 w0 st.L st.u w)
    (hρ : ∀ x ∈ o.op.operands, a.eval x = tv st.L (st.ev x)) (hok : ∀ x ∈ o.op.operands, okSV st.L.length (st.ev x)) (h : stepV P M pf kL kU o st K) :
    o.wp P a w (LPost u0 w0 st kL kU K o a) Q := by
  unfold stepV at h
  split at h
  · obtain ⟨y, ⟨hy, hk⟩, hr⟩ := qV_run (qV_ok hok h)
    unfold Oper.wp
    rw [hr a.eval w hρ (fun _ => hw.sub) (fun _ => hw.loc)]
    exact ⟨y, st.L, st.u, rfl, LExt.refl _, hy, hw, fun _ _ _ h => h, fun _ => ⟨Nat.le_refl _, fun _ _ h => h⟩, hk⟩
  · exact lV_wp hM hpf hw hρ hok h

end Go.Proofs.Ytkjddlgaldnbnaa
end

/-
  THE CALCULUS, PART 10: whole code. 'VC' turns a function's code (with marks for its loops and cuts) into what is to be shown.
-/
section
set_option linter.unusedSimpArgs false
set_option linter.unusedVariables false
namespace Go.Proofs.Ytkjddlgaldnbnaa

/-- marks for loops and cuts: the slots that vary (with their kinds), the ranges of slots that are assigned, the own blocks that vary -/
inductive Ann where
  | no
  | seq (l r : Ann)
  | cond (l r : Ann)
  | block (x : Ann)
  | loop (vs : List (Nat × Sh)) (as : List (Nat × Nat)) (ls : List Nat) (x : Ann)
  | cut (vs : List (Nat × Sh)) (as : List (Nat × Nat)) (ls : List Nat) (l r : Ann)

/-- a guard -/
def guardV (ops : Array Oper) (o : Oper) (st : St) (run skip : St → Prop) : Prop :=
  match o.guard with
  | none => run st
  | some (j, want) =>
    match (ops[j]?).bind (·.dst) with
    | some d =>
      match st.ρ d with
      | .bl b => match b == want with
        | true => run st
        | false => skip st
      | .v (.bool t) => (t = want → run { st with ρ := upd st.ρ d (.bl want) }) ∧ (t = !want → skip { st with ρ := upd st.ρ d (.bl (!want)) })
      | .v (.tuple _) => skip st
      | _ => False
    | none => False

section
variable (P : Program) (M : Nat) (pf : FuncId → Option (List Value → Option Value))

def opsV (ops : Array Oper) : List Oper → (St → Prop) → St → Prop
  | [], K, st => K st
  | o :: r, K, st => guardV ops o st
      (fun st => stepV P M pf false false o st fun y L u => opsV ops r K ((⟨st.ρ, L, u⟩ : St).put o.dst y))
      (fun st => opsV ops r K (st.put o.dst (.v undef)))

/-- a call of a function that is known by what it returns -/
def isPure (o : Oper) : Bool :=
  match o.op with
  | .call { callee := .value (.func g), .. } => (pf g).isSome
  | _ => false

def isQuiet (o : Oper) : Bool := isQ P o.op || isPure pf o

def depOf (o : Oper) (k : Nat) : Bool := o.after.any fun e => Region.binds .any e && e.on == k

/-- what an operation waits for -/
def directs (o : Oper) : List Nat := (o.after.toList.filter fun e => Region.binds .any e).map (·.on)

/-- .. through others too -/
def closeS (ops : Array Oper) : Nat → List Nat → List Nat
  | 0, S => S
  | i + 1, S => closeS ops i (match S.contains i with
    | true => (match ops[i]? with | some o => directs o ++ S | none => S)
    | false => S)

def depsOf (ops : Array Oper) (o : Oper) (k : Nat) : Bool := (closeS ops ops.size (directs o)).contains k

/-- may an operation go ahead of the done ones that it does not wait for? -/
def okQ (ops : Array Oper) (o : Oper) (done : List Nat) : Bool :=
  (match o.dst with | some d => !(o.looksAt ops).contains d | none => false) && done.all fun k => match ops[k]? with
    | some ok =>
      (match o.dst with | some d => !(ok.looksAt ops).contains d && ok.dst != some d | none => true) &&
      (depsOf ops o k || (match ok.dst with | some d => !(o.looksAt ops).contains d | none => true))
    | none => false

def okL (ops : Array Oper) (o : Oper) (done : List Nat) : Bool :=
  done.all fun k => match ops[k]? with
    | some ok => depsOf ops o k || !isQuiet P pf ok || ok.apart ops o
    | none => false

def allDep (ops : Array Oper) (o : Oper) (done : List Nat) : Bool :=
  done.all fun k => match ops[k]? with
    | some ok => depsOf ops o k || !isQuiet P pf ok
    | none => false

/-- a region whose order is drawn: quiet operations first; of the others only one may come up at a time -/
def drawV (ops : Array Oper) : Nat → Array Bool → List Nat → Bool → Bool → (St → Prop) → St → Prop
  | 0, I, done, pl, pu, K, st => match Region.ready .any ops I with
    | [] => K st
    | _ => False
  | n + 1, I, done, pl, pu, K, st =>
    match Region.ready .any ops I with
    | [] => K st
    | i0 :: rs =>
      match (i0 :: rs).find? fun i => match ops[i]? with | some o => isQuiet P pf o && okQ ops o done | none => false with
      | some i =>
        match ops[i]? with
        | some o => guardV ops o st
            (fun st => stepV P M pf false false o st fun y L u => drawV ops n (I.setIfInBounds i true) (i :: done) (pl || usesL o st) (pu || usesU o st) K ((⟨st.ρ, L, u⟩ : St).put o.dst y))
            (fun st => drawV ops n (I.setIfInBounds i true) (i :: done) pl pu K (st.put o.dst (.v undef)))
        | none => False
      | none =>
        match rs, ops[i0]? with
        | [], some o =>
          match okL P pf ops o done, allDep P pf ops o done with
          | true, ad => guardV ops o st
              (fun st => stepV P M pf (pl && !ad) (pu && !ad) o st fun y L u => drawV ops n (I.setIfInBounds i0 true) (i0 :: done) pl pu K ((⟨st.ρ, L, u⟩ : St).put o.dst y))
              (fun st => drawV ops n (I.setIfInBounds i0 true) (i0 :: done) pl pu K (st.put o.dst (.v undef)))
          | false, _ => False
        | _, _ => False

end

/-! ### what varies in a loop -/

def TupT : List Leaf → Type
  | [] => View
  | l :: r => l.T × TupT r

def valsT : (fl : List Leaf) → TupT fl → List Value × View
  | [], u => ([], u)
  | l :: r, (x, t) => (l.val x :: (valsT r t).1, (valsT r t).2)

def AllT : (fl : List Leaf) → (TupT fl → Prop) → Prop
  | [], K => ∀ u : View, K u
  | l :: r, K => ∀ x : l.T, AllT r fun t => K (x, t)

theorem AllT.get : ∀ {fl : List Leaf} {K : TupT fl → Prop}, AllT fl K → ∀ t, K t := by
  intro fl
  induction fl with
  | nil => exact fun h t => h t
  | cons l r ih => exact fun h t => ih (h t.1) t.2

def getT : (fl : List Leaf) → List Value → View → Option (TupT fl)
  | [], [], u => some u
  | [], _ :: _, _ => none
  | _ :: _, [], _ => none
  | l :: r, v :: vs, u =>
    match l.get v, getT r vs u with
    | some x, some t => some (x, t)
    | _, _ => none

theorem getT_vals : ∀ {fl : List Leaf} {vs : List Value} {u : View} {t : TupT fl}, getT fl vs u = some t → valsT fl t = (vs, u) := by
  intro fl
  induction fl with
  | nil =>
    intro vs u t h
    cases vs with
    | nil => simp only [getT] at h; cases h; rfl
    | cons v vs => simp only [getT] at h; cases h
  | cons l r ih =>
    intro vs u t h
    cases vs with
    | nil => simp only [getT] at h; cases h
    | cons v vs =>
      simp only [getT] at h
      split at h
      · rename_i x t' h1 h2
        cases h
        simp only [valsT, ih h2, ← Leaf.get_val h1]
      · cases h

def Sh.leafs : Sh → List Leaf
  | .one l => [l]
  | .agg ls => ls

def leafsL (L : List LB) : List Nat → List Leaf
  | [] => []
  | k :: r => match L[k]? with
    | some lb => lb.ls ++ leafsL L r
    | none => leafsL L r

def flOf (vs : List (Nat × Sh)) (L : List LB) (ls : List Nat) : List Leaf := (vs.flatMap fun p => p.2.leafs) ++ leafsL L ls

/-- the values of slots, as cells -/
def slotVals (ρ : Nat → SV) : List (Nat × Sh) → Option (List Value)
  | [] => some []
  | (s, .one l) :: r =>
    match (ρ s).val?, slotVals ρ r with
    | some v, some vs => some (v :: vs)
    | _, _ => none
  | (s, .agg ls) :: r =>
    match ρ s, slotVals ρ r with
    | .v (.agg cs), some vs => match Nat.beq cs.size ls.length with
      | true => some (cs.toList ++ vs)
      | false => none
    | _, _ => none

def locVals (L : List LB) : List Nat → Option (List Value)
  | [] => some []
  | k :: r => match L[k]?, locVals L r with
    | some lb, some vs => match Nat.beq (lb.cs.take lb.ls.length).length lb.ls.length with
      | true => some (lb.cs.take lb.ls.length ++ vs)
      | false => none
    | _, _ => none

def inRanges (as : List (Nat × Nat)) (s : Nat) : Bool := as.any fun r => Nat.ble r.1 s && Nat.blt s r.2

/-- slots with values; the values that are left -/
def headρ : List (Nat × Sh) → List Value → (Nat → SV) → (Nat → SV) × List Value
  | [], vals, ρ => (ρ, vals)
  | (s, .one _) :: r, vals, ρ =>
    match vals with
    | v :: vals => headρ r vals (upd ρ s (.v v))
    | [] => headρ r [] ρ
  | (s, .agg ls) :: r, vals, ρ => headρ r (vals.drop ls.length) (upd ρ s (.v (.agg (vals.take ls.length).toArray)))

def headL : List Nat → List Value → List LB → List LB
  | [], _, L => L
  | k :: r, vals, L =>
    match L[k]? with
    | some lb => headL r (vals.drop lb.ls.length) (L.set k ⟨lb.b, lb.T, lb.ls, vals.take lb.ls.length ++ lb.cs.drop lb.ls.length⟩)
    | none => headL r vals L

def headSt (vs : List (Nat × Sh)) (as : List (Nat × Nat)) (ls : List Nat) (st : St) (t : TupT (flOf vs st.L ls)) (junk : Nat → Value) : St :=
  match valsT _ t with
  | (vals, u) =>
    match headρ vs vals (fun s => match inRanges as s with | true => .v (junk s) | false => st.ρ s) with
    | (ρ, vals') => ⟨ρ, headL ls vals' st.L, u⟩

/-- two lists of cells are the same -/
def sameL (a b : List Value) : Prop := a = b

/-- what does not vary is as it was -/
def fixL (ls : List Nat) : Nat → List LB → List LB → Prop
  | _, [], _ => True
  | _, _ :: _, [] => False
  | i, lb :: r, lb' :: r' =>
    match ls.contains i with
    | true => sameL (lb'.cs.drop lb.ls.length) (lb.cs.drop lb.ls.length) ∧ fixL ls (i + 1) r r'
    | false => sameL lb'.cs lb.cs ∧ fixL ls (i + 1) r r'

/-- a state, as what varies -/
def asT (vs : List (Nat × Sh)) (ls : List Nat) (st st' : St) (K : TupT (flOf vs st.L ls) → Prop) : Prop :=
  match slotVals st'.ρ vs, locVals st'.L ls with
  | some vals, some lvals =>
    match getT (flOf vs st.L ls) (vals ++ lvals) st'.u with
    | some t => K t ∧ fixL ls 0 st.L st'.L
    | none => False
  | _, _ => False

/-- does code assign only slots in ranges? -/
def asgIn (as : List (Nat × Nat)) : Code → Bool
  | .region _ ops _ => ops.all fun o => match o.dst with | some d => inRanges as d | none => true
  | .seq a b => asgIn as a && asgIn as b
  | .cond c a b => (match c with | .tmp s => inRanges as s | _ => true) && asgIn as a && asgIn as b
  | .block _ a => asgIn as a
  | .loop a => asgIn as a
  | .skip => true
  | .exit _ => true
  | .ret => true
  | _ => false

/-- the marks name slots in ranges only -/
def annIn (as : List (Nat × Nat)) : Ann → Bool
  | .no => true
  | .seq l r => annIn as l && annIn as r
  | .cond l r => annIn as l && annIn as r
  | .block x => annIn as x
  | .loop vs as' _ x => (vs.all fun p => inRanges as p.1) && (as'.all fun r => as.any fun q => Nat.ble q.1 r.1 && Nat.ble r.2 q.2) && annIn as x
  | .cut vs as' _ l r => (vs.all fun p => inRanges as p.1) && (as'.all fun r => as.any fun q => Nat.ble q.1 r.1 && Nat.ble r.2 q.2) && annIn as l && annIn as r

/-- a slot's truth is known -/
def St.know (st : St) (c : Operand) (b : Bool) : St :=
  match c with
  | .tmp s => { st with ρ := upd st.ρ s (.bl b) }
  | _ => st

section
variable (P : Program) (M : Nat) (pf : FuncId → Option (List Value → Option Value))

/-- what is to be shown of code -/
def VC : Code → Ann → (Exit → St → Prop) → St → Prop
  | .skip, _, K, st => K .normal st
  | .exit id, _, K, st => K (.exit id) st
  | .ret, _, K, st => K .ret st
  | .region _ ops false, _, K, st => opsV P M pf ops ops.toList (K .normal) st
  | .region _ ops true, _, K, st => drawV P M pf ops ops.size (Array.replicate ops.size false) [] false false (K .normal) st
  | .seq a b, .cut vs as ls l r, K, st =>
    if asgIn as a = true ∧ annIn as l = true ∧ (vs.all fun p => inRanges as p.1) = true ∧ (ls.all fun k => Nat.blt k st.L.length) = true then
      ∃ J : TupT (flOf vs st.L ls) → Prop,
        VC a l (fun e st' => match e with | .normal => asT vs ls st st' J | e => K e st') st ∧
        ∀ junk : Nat → Value, AllT (flOf vs st.L ls) fun t => J t → VC b r K (headSt vs as ls st t junk)
    else False
  | .seq a b, .seq l r, K, st => VC a l (fun e st' => match e with | .normal => VC b r K st' | e => K e st') st
  | .seq a b, _, K, st => VC a .no (fun e st' => match e with | .normal => VC b .no K st' | e => K e st') st
  | .cond c x y, ann, K, st =>
    match ann with
    | .cond l r =>
      match st.ev c with
      | .bl true => VC x l K st
      | .bl false => VC y r K st
      | .v (.bool t) => (t = true → VC x l K (st.know c true)) ∧ (t = false → VC y r K (st.know c false))
      | _ => False
    | _ =>
      match st.ev c with
      | .bl true => VC x .no K st
      | .bl false => VC y .no K st
      | .v (.bool t) => (t = true → VC x .no K (st.know c true)) ∧ (t = false → VC y .no K (st.know c false))
      | _ => False
  | .block id c, .block x, K, st => VC c x (fun e st' => match e with | .exit j => (match Nat.beq j id with | true => K .normal st' | false => K (.exit j) st') | e => K e st') st
  | .block id c, _, K, st => VC c .no (fun e st' => match e with | .exit j => (match Nat.beq j id with | true => K .normal st' | false => K (.exit j) st') | e => K e st') st
  | .loop c, .loop vs as ls x, K, st =>
    if asgIn as c = true ∧ annIn as x = true ∧ (vs.all fun p => inRanges as p.1) = true ∧ (ls.all fun k => Nat.blt k st.L.length) = true then
      ∃ (I : TupT (flOf vs st.L ls) → Prop) (μ : TupT (flOf vs st.L ls) → Nat), asT vs ls st st I ∧
        ∀ junk : Nat → Value, AllT (flOf vs st.L ls) fun t => I t →
          VC c x (fun e st' => match e with | .normal => asT vs ls st st' fun t' => I t' ∧ μ t' < μ t | e => K e st') (headSt vs as ls st t junk)
    else False
  | _, _, _, _ => False

end
end Go.Proofs.Ytkjddlgaldnbnaa
end

/-
  THE CALCULUS, PART 11: what 'opsV' says of a region is what it does.
-/
section
set_option linter.unusedSimpArgs false
set_option linter.unusedVariables false
namespace Go.Proofs.Ytkjddlgaldnbnaa

/-- what holds between a symbolic state and a call's frame and memory -/
structure Inv (N : Nat) (u0 : View) (w0 : World) (st : St) (a : Act) (w : World) : Prop where
  fr : FR N st.L st.ρ a
  wok : WOK u0 w0 st.L st.u w

theorem fr_u {N : Nat} {L : List LB} {ρ : Nat → SV} {a : Act} (h : FR N L ρ a) (u : View) : FR N (⟨ρ, L, u⟩ : St).L (⟨ρ, L, u⟩ : St).ρ a := h

theorem put_L (st : St) (d : Option Tmp) (y : SV) : (st.put d y).L = st.L := by cases d <;> rfl
theorem put_u (st : St) (d : Option Tmp) (y : SV) : (st.put d y).u = st.u := by cases d <;> rfl
theorem put_ρ (st : St) (d : Option Tmp) (y : SV) {s : Nat} (h : d ≠ some s) : (st.put d y).ρ s = st.ρ s := by
  cases d with
  | none => rfl
  | some t => exact upd_ne _ _ fun e => h (by rw [e])

theorem LExt.fr {N : Nat} {L L' : List LB} {ρ : Nat → SV} {a : Act} (hL : LExt L L') (h : FR N L ρ a) : FR N L' ρ a :=
  ⟨h.size, h.nodef, fun t => (h.val t).trans (tv_ext hL (h.ok t)).symm, fun t => (h.ok t).ext hL.length⟩

/-- a known bool in the place of one that it is -/
theorem FR.refine {N : Nat} {L : List LB} {ρ : Nat → SV} {a : Act} (h : FR N L ρ a) {d : Nat} {x : SV} (hx : tv L x = tv L (ρ d)) (hok : okSV L.length x) : FR N L (upd ρ d x) a :=
  ⟨h.size, h.nodef, fun t => by
    by_cases e : t = d
    · subst e; rw [upd_self, hx]; exact h.val t
    · rw [upd_ne _ _ e]; exact h.val t, fun t => by
    by_cases e : t = d
    · subst e; rw [upd_self]; exact hok
    · rw [upd_ne _ _ e]; exact h.ok t⟩

theorem yielded_of {ops : Array Oper} {tmps : Array Value} {j d : Nat} {b : Bool} (hj : (ops[j]?).bind (·.dst) = some d) (hd : tmps.getD d undef = .bool b) : yielded ops tmps j = some b := by
  have : tmps[d]? = some (.bool b) := by
    rcases Nat.lt_or_ge d tmps.size with h | h
    · simp [h] at hd ⊢; exact hd
    · simp [h, undef] at hd
  simp [yielded, hj, this]

theorem guardV_of {N : Nat} {ops : Array Oper} {o : Oper} {st : St} {a : Act} {run skip : St → Prop} (hf : FR N st.L st.ρ a) (h : guardV ops o st run skip) :
    ∃ ρ', FR N st.L ρ' a ∧ (∀ s, (∀ (j : Nat) (o' : Oper), ops[j]? = some o' → o'.dst ≠ some s) → ρ' s = st.ρ s) ∧
      ((Region.wanted o (yielded ops a.tmps) = true ∧ run { st with ρ := ρ' }) ∨ (Region.wanted o (yielded ops a.tmps) = false ∧ skip { st with ρ := ρ' })) := by
  unfold guardV at h
  split at h
  · rename_i hg
    exact ⟨st.ρ, hf, fun _ _ => rfl, .inl ⟨by simp [Region.wanted, hg], h⟩⟩
  · rename_i j want hg
    split at h
    · rename_i d hd
      have hne : ∀ s x, (∀ (j : Nat) (o' : Oper), ops[j]? = some o' → o'.dst ≠ some s) → upd st.ρ d x s = st.ρ s := fun s x hs => by
        refine upd_ne _ _ fun e => ?_
        cases ho : ops[j]? with
        | none => simp [ho] at hd
        | some o' => exact hs j o' ho (by simp [ho] at hd; rw [hd, e])
      split at h
      · rename_i b hb
        have hv := hf.val d
        rw [hb] at hv
        have hy := yielded_of hd hv
        split at h
        · rename_i e
          exact ⟨st.ρ, hf, fun _ _ => rfl, .inl ⟨by simp [Region.wanted, hg, hy]; simpa using e, h⟩⟩
        · rename_i e
          exact ⟨st.ρ, hf, fun _ _ => rfl, .inr ⟨by simp [Region.wanted, hg, hy]; simpa using e, h⟩⟩
      · rename_i t ht
        have hv := hf.val d
        rw [ht] at hv
        have hy := yielded_of hd hv
        by_cases e : t = want
        · refine ⟨upd st.ρ d (.bl want), hf.refine (by rw [ht, ← e]; rfl) trivial, fun s hs => hne s _ hs, .inl ⟨by simp [Region.wanted, hg, hy, e], h.1 e⟩⟩
        · have e' : t = !want := by cases t <;> cases want <;> simp_all
          refine ⟨upd st.ρ d (.bl (!want)), hf.refine (by rw [ht, ← e']; rfl) trivial, fun s hs => hne s _ hs, .inr ⟨by simp [Region.wanted, hg, hy]; exact e, h.2 e'⟩⟩
      · rename_i t ht
        have hv := hf.val d
        rw [ht] at hv
        have hy : yielded ops a.tmps j = none := by
          simp only [tv] at hv
          unfold yielded
          rw [hd]
          simp only [Option.bind_some]
          cases hg : a.tmps[d]? with
          | none => rfl
          | some v =>
            have : a.tmps.getD d undef = v := by simp [Array.getD_eq_getD_getElem?, hg]
            rw [this] at hv
            subst hv
            rfl
        exact ⟨st.ρ, hf, fun _ _ => rfl, .inr ⟨by simp [Region.wanted, hg, hy], h⟩⟩
      · exact h.elim
    · exact h.elim

/-- what a region, or code, leaves -/
def QPost (N : Nat) (u0 : View) (w0 : World) (st : St) (ch : Nat → Prop) (K : Exit → St → Prop) (e : Exit) (a' : Act) (w' : World) : Prop :=
  ∃ st', Inv N u0 w0 st' a' w' ∧ LExt st.L st'.L ∧ (∀ s, ¬ ch s → st'.ρ s = st.ρ s) ∧ K e st'

section
variable {P : Program} {M : Nat} {pf : FuncId → Option (List Value → Option Value)} {N : Nat} {u0 : View} {w0 : World}

theorem opsV_wp (hM : CK P M) (hpf : PureOK P pf) {ops : Array Oper} {K : Exit → St → Prop} (st0 : St) {ch : Nat → Prop} (hch : ∀ (j : Nat) (o : Oper) (d : Nat), ops[j]? = some o → o.dst = some d → ch d ∧ d < N) :
    ∀ (l : List Oper), (∀ o ∈ l, ∃ j : Nat, ops[j]? = some o) → ∀ (st : St) (a : Act) (w : World), opsV P M pf ops l (K .normal) st → Inv N u0 w0 st a w → LExt st0.L st.L →
      (∀ s, ¬ ch s → st.ρ s = st0.ρ s) → wpList P ops (QPost N u0 w0 st0 ch K) l a w := by
  intro l
  induction l with
  | nil => exact fun _ st a w h hi hL hρ => ⟨st, hi, hL, hρ, h⟩
  | cons o l ih =>
    intro hl st a w h hi hL hρ
    obtain ⟨j, hj⟩ := hl o (List.mem_cons_self ..)
    have hl' : ∀ o ∈ l, ∃ j : Nat, ops[j]? = some o := fun o ho => hl o (List.mem_cons_of_mem _ ho)
    have hd : ∀ t, o.dst = some t → t < N := fun t ht => (hch j o t hj ht).2
    obtain ⟨ρ', hf, hsame, hcase⟩ := guardV_of hi.fr h
    have hsame' : ∀ s, ¬ ch s → ρ' s = st0.ρ s := fun s hs => by
      rw [hsame s (fun j o' hj hd => hs (hch j o' s hj hd).1)]; exact hρ s hs
    unfold wpList
    rcases hcase with ⟨hw, hrun⟩ | ⟨hw, hskip⟩
    · rw [if_pos hw]
      refine .inl (Oper.wp_mono (Q := QPost N u0 w0 st0 ch K) ?_ (stepV_wp (st := { st with ρ := ρ' }) hM hpf hi.wok (fun x _ => hf.eval (st := { st with ρ := ρ' }) x) (fun x _ => hf.okev (st := { st with ρ := ρ' }) x) hrun))
      rintro a' w' ⟨y, L', u', rfl, hL', hy, hw', _, _, hk⟩
      refine ih hl' _ _ _ hk ⟨?_, ?_⟩ ?_ ?_
      · rw [put_L]
        exact hf.put hL' hd hy u'
      · rw [put_L, put_u]; exact hw'
      · rw [put_L]; exact hL.trans hL'
      · intro s hs
        rw [put_ρ _ _ _ (fun e => hs (hch j o s hj e).1)]
        exact hsame' s hs
    · rw [if_neg (by simp [hw])]
      refine ih hl' _ _ _ hskip ⟨?_, ?_⟩ ?_ ?_
      · rw [put_L]
        exact hf.put (LExt.refl _) hd (y := .v undef) trivial st.u
      · rw [put_L, put_u]; exact hi.wok
      · rw [put_L]; exact hL
      · intro s hs
        rw [put_ρ _ _ _ (fun e => hs (hch j o s hj e).1)]
        exact hsame' s hs

end
end Go.Proofs.Ytkjddlgaldnbnaa
end

/-
  THE CALCULUS, PART 12: what 'drawV' says of a region whose order is drawn is what it does, in whatever order.
-/
section
set_option linter.unusedSimpArgs false
set_option linter.unusedVariables false
namespace Go.Proofs.Ytkjddlgaldnbnaa

def emptyV : View := { m := fun _ => none, lim := 0, lt := fun _ _ h => by cases h }

section
variable {P : Program} {M : Nat} {pf : FuncId → Option (List Value → Option Value)}

/-- what a quiet operation, or a call of a pure function, does at whatever time -/
def YRun (P : Program) (o : Oper) (st : St) (y : SV) (uL uU : Bool) : Prop :=
  ∀ (a : Act) (w : World) (Q : Exit → Act → World → Prop) (next : Act → World → Prop), (∀ x ∈ o.op.operands, a.eval x = tv st.L (st.ev x)) → (uU = true → Sub st.u w) → (uL = true → LocOK st.L w) →
    (∀ w', WEvo w w' → next (a.put o.dst (tv st.L y)) w') → o.wp P a w next Q

theorem quiet_step (hM : CK P M) (hpf : PureOK P pf) {kL kU : Bool} {o : Oper} {st : St} {K : SV → List LB → View → Prop} (hq : isQuiet P pf o = true)
    (hok : ∀ x ∈ o.op.operands, okSV st.L.length (st.ev x)) (h : stepV P M pf kL kU o st K) : ∃ y, okSV st.L.length y ∧ K y st.L st.u ∧ YRun P o st y (usesL o st) (usesU o st) := by
  unfold stepV at h
  split at h
  · obtain ⟨y, ⟨hy, hk⟩, hr⟩ := qV_run (qV_ok hok h)
    refine ⟨y, hy, hk, fun a w Q next hρ hU hL hn => ?_⟩
    unfold Oper.wp
    rw [hr a.eval w hρ hU hL]
    exact hn w (WEvo.refl w)
  · rename_i hnq
    have hp : isPure pf o = true := by simpa [isQuiet, hnq] using hq
    obtain ⟨dst, op, type, pos, after, guard⟩ := o
    unfold isPure at hp
    split at hp
    · rename_i g cargs cts hop
      simp only at hop
      subst hop
      simp only [lV, St.ev] at h
      obtain ⟨fg, hfg⟩ := Option.isSome_iff_exists.1 hp
      rw [hfg] at h
      simp only at h
      split at h
      · rename_i vs hlt hvs _
        split at h
        · rename_i v hv
          refine ⟨.v v, trivial, h, fun a w Q next hρ hU hL hn => ?_⟩
          have hargs : cargs.map a.eval = vs.toArray := by
            apply Array.ext'
            rw [Array.toList_map, valsV_tv hvs]
            exact List.map_congr_left fun x hx => hρ x (by simp only [Op.operands, Call.operands, Array.mem_append]; exact .inr (Array.mem_toList_iff.1 hx))
          have hc := hM g hlt
          have hr : (execOp a.eval ⟨dst, .call ⟨.value (.func g), cargs, cts⟩, type, pos, after, guard⟩).run P w = .ok (.enter g vs.toArray) w := by
            simp [execOp, resolve, Act.eval, Deferred.ofValue, invoke, callFunc_run hc, hargs]
          unfold Oper.wp
          rw [hr]
          simp only [Oper.upon]
          refine (hpf g fg vs v hfg hv emptyV w ⟨Nat.zero_le _, fun _ _ h => by cases h⟩).mono ?_
          rintro e w' ⟨v', u', rfl, hs', hgrow, hframe, hdom, rfl, rfl⟩
          exact hn w' ⟨hgrow, fun b hb => hframe b hb rfl⟩
        · exact h.elim
      · exact h.elim
    · cases hp


end

/-- the guard's slot, read off values that agree with a symbolic state's -/
theorem wanted_eq {ops : Array Oper} {o : Oper} {t1 t2 : Array Value} (h : ∀ j want, o.guard = some (j, want) → ∀ d, (ops[j]?).bind (·.dst) = some d → t1.getD d undef = t2.getD d undef) :
    Region.wanted o (yielded ops t1) = Region.wanted o (yielded ops t2) := by
  unfold Region.wanted
  split
  · rfl
  · rename_i j want hg
    have := h j want hg
    cases hd : (ops[j]?).bind (·.dst) with
    | none => simp [yielded, hd]
    | some d =>
      have e := this d hd
      have key : ∀ (t : Array Value), yielded ops t j = match t.getD d undef with | .bool b => some b | _ => none := fun t => by
        simp only [yielded, hd, Option.bind_some]
        rcases Nat.lt_or_ge d t.size with hl | hl
        · simp [hl]
          cases t[d] <;> rfl
        · simp [hl, undef]
      rw [key t1, key t2, e]

/-- an operation that is done in the symbolic run and not yet in the other one -/
def PY (P : Program) (ops : Array Oper) (N : Nat) (pf : FuncId → Option (List Value → Option Value)) (pl pu : Bool) (st : St) (k : Nat) : Prop :=
  ∃ o d uL uU, ops[k]? = some o ∧ o.dst = some d ∧ d < N ∧ isQuiet P pf o = true ∧ (uL = true → pl = true) ∧ (uU = true → pu = true) ∧
    ∀ (a : Act) (w : World) (Q : Exit → Act → World → Prop) (next : Act → World → Prop), (∀ t ∈ o.looksAt ops, a.tmps.getD t undef = tv st.L (st.ρ t)) → (uU = true → Sub st.u w) → (uL = true → LocOK st.L w) →
      (∀ w', WEvo w w' → next (a.put o.dst (tv st.L (st.ρ d))) w') → wpOp P ops Q k next a w

structure DR (P : Program) (ops : Array Oper) (N : Nat) (pf : FuncId → Option (List Value → Option Value)) (u0 : View) (w0 : World) (I listed : Array Bool) (done : List Nat) (pl pu : Bool) (st : St) (a : Act) (w : World) : Prop where
  isz : I.size = ops.size
  lsz : listed.size = ops.size
  sub : ∀ k, listed.getD k false = true → I.getD k false = true
  dn : ∀ k, k ∈ done ↔ I.getD k false = true
  cl : ∀ l1 i l2, done = l1 ++ i :: l2 → ∀ o, ops[i]? = some o → ∀ e ∈ o.after, Region.binds .any e = true → e.on ∈ l2
  pend : ∀ k, I.getD k false = true → listed.getD k true = false → PY P ops N pf pl pu st k
  pd : ∀ (k k' : Nat) (ok o : Oper) (d : Nat), I.getD k false = true → listed.getD k true = false → I.getD k' false = true → listed.getD k' true = false → ops[k']? = some ok → ops[k]? = some o →
    ok.dst = some d → d ∈ o.looksAt ops → depsOf ops o k' = true
  lc : ∀ i, listed.getD i false = true → ∀ o, ops[i]? = some o → ∀ e ∈ o.after, Region.binds .any e = true → listed.getD e.on false = true
  size : a.tmps.size = N
  nodef : a.defers = []
  val : ∀ t, (∀ (k : Nat) (o : Oper), I.getD k false = true → listed.getD k true = false → ops[k]? = some o → o.dst ≠ some t) → a.tmps.getD t undef = tv st.L (st.ρ t)
  ok : ∀ t, okSV st.L.length (st.ρ t)
  wok : WOK u0 w0 st.L st.u w

theorem getD_set {A : Array Bool} {i k : Nat} {d : Bool} : (A.setIfInBounds i true).getD k d = if i = k ∧ i < A.size then true else A.getD k d := by
  by_cases h : i = k
  · subst h
    by_cases hl : i < A.size
    · simp [hl]
    · simp [hl]
  · simp [h, Array.getElem?_setIfInBounds_ne h]

theorem getD_false_true {A : Array Bool} {k : Nat} (h : k < A.size) : A.getD k false = A.getD k true := by
  simp [h]

theorem eval_of_looks {ops : Array Oper} {o : Oper} {st : St} {a : Act} (h : ∀ t ∈ o.looksAt ops, a.tmps.getD t undef = tv st.L (st.ρ t)) : ∀ x ∈ o.op.operands, a.eval x = tv st.L (st.ev x) := by
  intro x hx
  cases x with
  | tmp t => exact h t (by unfold Oper.looksAt; exact List.mem_append_left _ (List.mem_filterMap.2 ⟨.tmp t, Array.mem_toList_iff.2 hx, rfl⟩))
  | const v => exact (tv_cst st.L v).symm
  | global g => rfl
  | func f => simp [Act.eval, St.ev, tv]

theorem guard_of_looks {ops : Array Oper} {o : Oper} {j : Nat} {want : Bool} (hg : o.guard = some (j, want)) {d : Nat} (hd : (ops[j]?).bind (·.dst) = some d) : d ∈ o.looksAt ops := by
  unfold Oper.looksAt
  rw [hg]
  exact List.mem_append_right _ (by simp [hd])

section
variable {P : Program} {M : Nat} {pf : FuncId → Option (List Value → Option Value)} {ops : Array Oper} {N : Nat} {u0 : View} {w0 : World}

theorem directs_listed {listed : Array Bool} {o : Oper} (ho : ∀ e ∈ o.after, Region.binds .any e = true → listed.getD e.on false = true) : ∀ j ∈ directs o, listed.getD j false = true := by
  intro j hj
  unfold directs at hj
  obtain ⟨e, he, rfl⟩ := List.mem_map.1 hj
  obtain ⟨h1, h2⟩ := List.mem_filter.1 he
  exact ho e (Array.mem_toList_iff.1 h1) h2

/-- what an operation waits for has come up ahead of it -/
theorem close_listed {listed : Array Bool} (lc : ∀ i, listed.getD i false = true → ∀ o, ops[i]? = some o → ∀ e ∈ o.after, Region.binds .any e = true → listed.getD e.on false = true) :
    ∀ (n : Nat) (S : List Nat), (∀ j ∈ S, listed.getD j false = true) → ∀ j ∈ closeS ops n S, listed.getD j false = true := by
  intro n
  induction n with
  | zero => exact fun S h => h
  | succ n ih =>
    intro S h
    refine ih _ ?_
    cases hc : S.contains n with
    | false => exact h
    | true =>
      cases ho : ops[n]? with
      | none => exact h
      | some o =>
        intro j hj
        rcases List.mem_append.1 hj with hj | hj
        · exact directs_listed (lc n (h n (by simpa using hc)) o ho) j hj
        · exact h j hj

/-- so a pending one is nothing that waits are for -/
theorem DR.no_dep {I listed : Array Bool} {done : List Nat} {pl pu : Bool} {st : St} {a : Act} {w : World} (h : DR P ops N pf u0 w0 I listed done pl pu st a w) {o : Oper}
    (hall : ∀ e ∈ o.after, Region.binds .any e = true → listed.getD e.on false = true) {k : Nat} (hl : listed.getD k true = false) : depsOf ops o k = false := by
  cases hd : depsOf ops o k with
  | false => rfl
  | true =>
    have := close_listed h.lc _ _ (directs_listed hall) k (by unfold depsOf at hd; simpa using hd)
    rw [getD_false_true (by
      rcases Nat.lt_or_ge k listed.size with h' | h'
      · exact h'
      · simp [Array.getElem?_eq_none h'] at hl)] at this
    rw [this] at hl
    cases hl

theorem lc_set {listed : Array Bool} (lc : ∀ i, listed.getD i false = true → ∀ o, ops[i]? = some o → ∀ e ∈ o.after, Region.binds .any e = true → listed.getD e.on false = true)
    {k : Nat} {o : Oper} (ho : ops[k]? = some o) (hall : ∀ e ∈ o.after, Region.binds .any e = true → listed.getD e.on false = true) :
    ∀ i, (listed.setIfInBounds k true).getD i false = true → ∀ o, ops[i]? = some o → ∀ e ∈ o.after, Region.binds .any e = true → (listed.setIfInBounds k true).getD e.on false = true := by
  intro i hi oi hoi e he hb
  have : listed.getD e.on false = true := by
    rw [getD_set] at hi
    split at hi
    · rename_i e'
      obtain ⟨rfl, _⟩ := e'
      rw [ho] at hoi
      cases hoi
      exact hall e he hb
    · exact lc i hi oi hoi e he hb
  rw [getD_set]
  split
  · rfl
  · exact this

/-- the symbolic state's own frame -/
theorem DR.ghost {I listed : Array Bool} {done : List Nat} {pl pu : Bool} {st : St} {a : Act} {w : World} (h : DR P ops N pf u0 w0 I listed done pl pu st a w) :
    ∃ g : Act, FR N st.L st.ρ g := by
  refine ⟨⟨(Array.range N).map fun t => tv st.L (st.ρ t), []⟩, by simp, rfl, fun t => ?_, h.ok⟩
  by_cases ht : t < N
  · simp [ht]
  · have := h.val t (fun k o hk hl ho hd => by
      obtain ⟨o', d, _, _, ho', hd', hlt, _⟩ := h.pend k hk hl
      rw [ho] at ho'
      cases ho'
      rw [hd] at hd'
      cases hd'
      exact ht hlt)
    rw [← this]
    simp [ht, h.size]

/-- a pending operation comes up -/
theorem DR.run {I listed : Array Bool} {done : List Nat} {pl pu : Bool} {st : St} {a : Act} {w : World} (h : DR P ops N pf u0 w0 I listed done pl pu st a w)
    {k : Nat} (hk : I.getD k false = true) (hl : listed.getD k true = false) (hr : k ∈ Region.ready .any ops listed)
    {Q : Exit → Act → World → Prop} {next : Act → World → Prop}
    (hn : ∀ a' w', DR P ops N pf u0 w0 I (listed.setIfInBounds k true) done pl pu st a' w' → next a' w') : wpOp P ops Q k next a w := by
  obtain ⟨o, d, uL, uU, ho, hd, hlt, hq, hpl, hpu, hy⟩ := h.pend k hk hl
  obtain ⟨_, o', ho', hall⟩ := mem_ready.1 hr
  rw [ho] at ho'
  cases ho'
  have hks : k < listed.size := by
    rcases Nat.lt_or_ge k listed.size with h' | h'
    · exact h'
    · simp [Array.getElem?_eq_none h'] at hl
  refine hy a w Q next (fun t ht => h.val t fun k' ok hk' hl' hok hdk => ?_) (fun _ => h.wok.sub) (fun _ => h.wok.loc) fun w' hw' => hn _ _ ?_
  · -- what it looks at is no pending one's
    have hd' := h.pd k k' ok o t hk hl hk' hl' hok ho hdk ht
    rw [h.no_dep hall hl'] at hd'
    cases hd'
  · refine ⟨h.isz, by simp [h.lsz], fun j hj => ?_, h.dn, h.cl, fun j hj hlj => h.pend j hj ?_, fun j j' oj oj' dj hj hlj hj' hlj' => h.pd j j' oj oj' dj hj ?_ hj' ?_, lc_set h.lc ho hall, by cases hod : o.dst <;> simp [Act.put, h.size], by cases hod : o.dst <;> simp [Act.put, h.nodef], fun t ht => ?_, h.ok, h.wok.evo hw'⟩
    · rw [getD_set] at hj
      split at hj
      · rename_i e; rw [← e.1]; exact hk
      · exact h.sub j hj
    · rw [getD_set] at hlj
      split at hlj
      · cases hlj
      · exact hlj
    · rw [getD_set] at hlj
      split at hlj
      · cases hlj
      · exact hlj
    · rw [getD_set] at hlj'
      split at hlj'
      · cases hlj'
      · exact hlj'
    · rw [hd]
      simp only [Act.put]
      by_cases e : t = d
      · subst e
        have : t < a.tmps.size := by rw [h.size]; exact hlt
        simp [this]
      · rw [← h.val t fun j oj hj hlj hoj hdj => ?_]
        · simp [Array.getElem?_setIfInBounds_ne (Ne.symm e)]
        · by_cases ej : j = k
          · subst ej
            rw [ho] at hoj
            cases hoj
            rw [hd] at hdj
            cases hdj
            exact e rfl
          · exact ht j oj hj (by rw [getD_set, if_neg (fun h => ej h.1.symm)]; exact hlj) hoj hdj

/-- while one is pending, one may come up -/
theorem DR.some_ready {I listed : Array Bool} {done : List Nat} {pl pu : Bool} {st : St} {a : Act} {w : World} (h : DR P ops N pf u0 w0 I listed done pl pu st a w)
    {k : Nat} (hk : I.getD k false = true) (hl : listed.getD k true = false) : Region.ready .any ops listed ≠ [] := by
  have key : ∀ (l1 l2 : List Nat), done = l1 ++ l2 → (∃ k ∈ l2, listed.getD k true = false) → ∃ i, i ∈ Region.ready .any ops listed := by
    intro l1 l2
    induction l2 generalizing l1 with
    | nil => rintro _ ⟨k, hk, _⟩; cases hk
    | cons i l2 ih =>
      intro hd hex
      by_cases hex' : ∃ k ∈ l2, listed.getD k true = false
      · exact ih (l1 ++ [i]) (by simp [hd]) hex'
      · obtain ⟨k, hk, hlk⟩ := hex
        rcases List.mem_cons.1 hk with rfl | hk
        · have hI : I.getD k false = true := (h.dn k).1 (by rw [hd]; simp)
          obtain ⟨o, d, uL, uU, ho, _⟩ := h.pend k hI hlk
          refine ⟨k, mem_ready.2 ⟨hlk, o, ho, fun e he hb => ?_⟩⟩
          have hin := h.cl l1 k l2 hd o ho e he hb
          have hIe : I.getD e.on false = true := (h.dn _).1 (by rw [hd]; simp [hin])
          have hsz : e.on < listed.size := by
            rw [h.lsz, ← h.isz]
            rcases Nat.lt_or_ge e.on I.size with h' | h'
            · exact h'
            · simp [Array.getElem?_eq_none h'] at hIe
          rw [getD_false_true hsz]
          cases hlis : listed.getD e.on true with
          | true => rfl
          | false => exact absurd ⟨e.on, hin, hlis⟩ hex'
        · exact absurd ⟨k, hk, hlk⟩ hex'
  obtain ⟨i, hi⟩ := key [] done rfl ⟨k, (h.dn k).2 hk, hl⟩
  intro e
  rw [e] at hi
  cases hi

end
end Go.Proofs.Ytkjddlgaldnbnaa
end
