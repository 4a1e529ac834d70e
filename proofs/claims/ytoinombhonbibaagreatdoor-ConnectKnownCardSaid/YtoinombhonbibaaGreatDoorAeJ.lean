/-
  What is written; what is made.
-/
import Derived.Test.YtoinombhonbibaaGreatDoorAeI
import Derived.Room.AppendAny
import Derived.Room.AppendZeros
set_option linter.unusedSimpArgs false
set_option linter.unusedVariables false
set_option linter.unusedSectionVars false
namespace Go.AE

section
variable {P : Program} {β : Inj} {w w0 : World} {prv : List (Nat × Obj)} {H : Heap}

/-- cells laid over others. -/
def splice (cs : Array Value) (o : Nat) (vs : List Value) : Array Value := (cs.toList.take o ++ vs ++ cs.toList.drop (o + vs.length)).toArray

theorem splice_size {cs : Array Value} {o : Nat} {vs : List Value} (h : o + vs.length ≤ cs.size) : (splice cs o vs).size = cs.size := by
  simp [splice]; omega

theorem setCell_row {b : Nat} {cs : Array Value} {ty : TypeId} {fz : Nat × Nat} (h : w.heap[b]? = some (.cells cs ty fz)) (o : Nat) (v : Value) :
    w.setCell ⟨b, o, none⟩ v = { w with heap := w.heap.setIfInBounds b (.cells (cs.setIfInBounds o v) ty fz) } := by
  unfold World.setCell
  congr 1
  apply Array.ext_getElem?
  intro i
  rw [Array.getElem?_modify]
  by_cases e : b = i
  · subst e
    have hlt : b < w.heap.size := by
      rcases Nat.lt_or_ge b w.heap.size with h' | h'
      · exact h'
      · simp [Array.getElem?_eq_none h'] at h
    have hb : w.heap[b] = .cells cs ty fz := by rw [Array.getElem?_eq_getElem hlt] at h; injection h
    simp [hlt, hb]
  · simp only [e, if_false]
    rw [Array.getElem?_setIfInBounds_ne e]

theorem store_row : ∀ (vs : List Value) (i o b : Nat) (cs : Array Value) (ty : TypeId) (fz : Nat × Nat) (w : World), w.heap[b]? = some (.cells cs ty fz) → o + i + vs.length ≤ cs.size → (fz.1 = fz.2 ∨ cs.size ≤ fz.1) → (∀ v ∈ vs, v.oneCell' = true) →
    (storeCells ⟨b, o, none⟩ vs i).run P w = .ok () { w with heap := w.heap.setIfInBounds b (.cells (splice cs (o + i) vs) ty fz) }
  | [], i, o, b, cs, ty, fz, w, h, _, _, _ => by
    have hlt : b < w.heap.size := by
      rcases Nat.lt_or_ge b w.heap.size with h' | h'
      · exact h'
      · simp [Array.getElem?_eq_none h'] at h
    have e : splice cs (o + i) [] = cs := by simp [splice]
    simp only [storeCells, Sem.run_pure, e]
    congr 1
    have : w.heap.setIfInBounds b (.cells cs ty fz) = w.heap := by
      apply Array.ext_getElem?
      intro j
      by_cases ej : b = j
      · subst ej
        have hb : w.heap[b] = .cells cs ty fz := by rw [Array.getElem?_eq_getElem hlt] at h; injection h
        simp [hlt, hb]
      · rw [Array.getElem?_setIfInBounds_ne ej]
    rw [this]
  | v :: r, i, o, b, cs, ty, fz, w, h, hl, hf, h1 => by
    simp only [List.length_cons] at hl
    have hlt : b < w.heap.size := by
      rcases Nat.lt_or_ge b w.heap.size with h' | h'
      · exact h'
      · simp [Array.getElem?_eq_none h'] at h
    have hc : w.cell? ⟨b, o + i, none⟩ = some (cs[o + i]'(by omega)) := by
      rw [cell_at h]; simp [Array.getElem?_eq_getElem (show o + i < cs.size by omega)]
    have hfz : w.frozen? ⟨b, o + i, none⟩ = false := by
      unfold World.frozen?
      simp only [h]
      rcases hf with hf | hf
      · simp; omega
      · simp; omega
    have hst : (store ((⟨b, o, none⟩ : Addr).add i) v).run P w = .ok () { w with heap := w.heap.setIfInBounds b (.cells (cs.setIfInBounds (o + i) v) ty fz) } := by
      rw [add_none, run_store P w _ v _ (h1 v (by simp))]
      simp only [hc, hfz]
      simp [setCell_row h]
    have ih := store_row r (i + 1) o b (cs.setIfInBounds (o + i) v) ty fz { w with heap := w.heap.setIfInBounds b (.cells (cs.setIfInBounds (o + i) v) ty fz) } (by simp [hlt]) (by simp; omega) (by simpa using hf)
      (fun x hx => h1 x (by simp [hx]))
    simp only [storeCells, Sem.run_bind, hst, Result.andThen_ok, ih]
    congr 2
    rw [Array.setIfInBounds_setIfInBounds]
    congr 1
    congr 1
    unfold splice
    congr 1
    apply List.ext_getElem?
    intro j
    simp only [List.getElem?_append, List.getElem?_take, List.getElem?_drop, List.length_append, List.length_take, List.length_cons, Array.toList_setIfInBounds, List.length_set]
    have hcl : cs.toList.length = cs.size := by simp
    rcases Nat.lt_trichotomy j (o + i) with g | g | g
    · rw [if_pos (by omega), if_pos (by omega), if_pos (by omega), if_pos (by omega), if_pos (by omega), if_pos (by omega), List.getElem?_set_ne (by omega)]
    · subst g
      rw [if_pos (by omega), if_pos (by omega), if_pos (by omega), if_pos (by omega), if_neg (by omega)]
      rw [List.getElem?_set_self (by omega), show o + i - min (o + i) cs.toList.length = 0 by omega]
      simp
    · by_cases g2 : j < o + i + 1 + r.length
      · rw [if_pos (by omega), if_neg (by omega), if_pos (by omega), if_neg (by omega)]
        rw [show j - min (o + i) cs.toList.length = (j - min (o + (i + 1)) cs.toList.length) + 1 by omega, List.getElem?_cons_succ]
      · rw [if_neg (by omega), if_neg (by omega), List.getElem?_set_ne (by omega)]
        congr 1
        omega

theorem ones {l : List AV} {vs : List Value} (h : VRels P β l vs) (h1 : l.all AV.one = true) : ∀ v ∈ vs, v.oneCell' = true := by
  intro v hv
  obtain ⟨i, hi⟩ := List.getElem?_of_mem hv
  have hlt : i < l.length := by
    rw [← h.length]
    rcases Nat.lt_or_ge i vs.length with h' | h'
    · exact h'
    · simp [List.getElem?_eq_none h'] at hi
  obtain ⟨v', hv', hr⟩ := h.get (List.getElem?_eq_getElem hlt)
  rw [hi] at hv'; injection hv' with hv'; subst hv'
  have := hr.one_oneCell (List.all_eq_true.1 h1 _ (List.getElem_mem hlt))
  cases v <;> first | rfl | exact absurd rfl (this _).1 | exact absurd rfl (this _).2

theorem write_some {b o : Nat} {l : List AV} {H' : Heap} (h : H.write b o l = some H') : ∃ c, H.get b = some (.cells true c) ∧ o + l.length ≤ c.length ∧ H' = H.set b (.cells true (c.take o ++ l ++ c.drop (o + l.length))) := by
  unfold Heap.write at h
  split at h
  · rename_i c hg
    split at h
    · rename_i c' hc
      obtain ⟨hl, rfl⟩ := writeL_some hc
      simp only [forceL_eq] at h
      injection h with h
      exact ⟨c, hg, hl, h.symm⟩
    · cases h
  · cases h

theorem write_run (hR : Rel P w0 prv β H w) {b o : Nat} {l : List AV} {H' : Heap} (h : H.write b o l = some H') {vs : List Value} (hv : VRels P β l vs) (h1 : l.all AV.one = true) :
    ∃ L w', β b = some L ∧ (storeCells ⟨L.blk, L.off + o, none⟩ vs 0).run P w = .ok () w' ∧ Rel P w0 prv β H' w' ∧ Evo H H' ∧ w'.tape = w.tape ∧ w'.drawn = w.drawn := by
  obtain ⟨c, hg, hl, rfl⟩ := write_some h
  obtain ⟨L, hL, hO⟩ := hR.obj b _ hg
  simp only [ORel] at hO
  obtain ⟨cs, ty, fz, g1, g2, g3, g4, g5, g6⟩ := hO
  have g6 := g6 trivial
  have hvl := hv.length
  have hrun := store_row (P := P) vs 0 (L.off + o) L.blk cs ty fz w g1 (by omega) g6 (ones hv h1)
  refine ⟨L, _, hL, hrun, ?_, ⟨Nat.le_refl _, fun k _ hk => ?_⟩, rfl, rfl⟩
  · simp only [Nat.add_zero]
    refine hR.setObj hg rfl hL _ (fun w' hw' => ?_)
    simp only [ORel]
    have hsz := splice_size (cs := cs) (o := L.off + o) (vs := vs) (by omega)
    have hnl : (c.take o ++ l ++ c.drop (o + l.length)).length = c.length := by simp; omega
    refine ⟨_, ty, fz, hw', by rw [hsz]; exact g2, by rw [hsz, hnl]; exact g3, ?_, ?_, fun _ => by rw [hsz]; exact g6⟩
    · have e : List.take (c.take o ++ l ++ c.drop (o + l.length)).length (List.drop L.off (splice cs (L.off + o) vs).toList) =
          (((cs.toList.drop L.off).take c.length).take o ++ vs ++ ((cs.toList.drop L.off).take c.length).drop (o + l.length)) := by
        rw [hnl]
        apply List.ext_getElem?
        intro j
        have hcl : cs.toList.length = cs.size := by simp
        simp only [splice, List.getElem?_append, List.getElem?_take, List.getElem?_drop, List.length_append, List.length_take, List.length_drop]
        rcases Nat.lt_or_ge j c.length with q | q
        · rw [if_pos q]
          rcases Nat.lt_or_ge j o with q1 | q1
          · rw [if_pos (by omega), if_pos (by omega), if_pos (by omega), if_pos (by omega), if_pos (by omega), if_pos (by omega), if_pos (by omega)]
          · rcases Nat.lt_or_ge j (o + vs.length) with q2 | q2
            · rw [if_pos (by omega), if_neg (by omega), if_pos (by omega), if_neg (by omega)]
              congr 1; omega
            · rw [if_neg (by omega), if_neg (by omega), if_pos (by omega)]
              congr 1; omega
        · rw [if_neg (by omega), if_neg (by omega), if_neg (by omega)]
      rw [e]
      exact ((g4.take o).append hv).append (g4.drop _)
    · simp only [List.all_append, Bool.and_eq_true]
      refine ⟨⟨?_, h1⟩, ?_⟩
      · exact List.all_eq_true.2 fun x hx => List.all_eq_true.1 g5 x (List.mem_of_mem_take hx)
      · exact List.all_eq_true.2 fun x hx => List.all_eq_true.1 g5 x (List.mem_of_mem_drop hx)
  · rw [Heap.get_set]
    rw [if_neg (by rintro rfl; rw [hg] at hk; cases hk)]
    exact hk

theorem zeros_length (z : List AV) : ∀ n, (zeros z n).length = n * z.length
  | 0 => by simp [zeros]
  | n + 1 => by simp only [zeros, List.length_append, zeros_length z n, Nat.add_mul, Nat.one_mul]; omega

theorem zeros_one {z : List AV} (h : z.all AV.one = true) : ∀ n, (zeros z n).all AV.one = true
  | 0 => rfl
  | n + 1 => by simp only [zeros, List.all_append, Bool.and_eq_true]; exact ⟨h, zeros_one h n⟩

theorem zero_rep (zs : Array Value) (s : Nat) (hs : zs.size = s) (h0 : 0 < s) : ∀ n, ((Array.range (n * s)).map fun k => zs[k % zs.size]!).toList = (List.replicate n zs.toList).flatten
  | 0 => by simp
  | n + 1 => by
    have ih := zero_rep zs s hs h0 n
    simp only [Array.toList_map, Array.toList_range] at ih ⊢
    have hsplit : (List.replicate (n + 1) zs.toList).flatten = (List.replicate n zs.toList).flatten ++ zs.toList := by
      rw [List.replicate_succ']; simp
    rw [hsplit, Nat.add_mul, Nat.one_mul, List.range_add, List.map_append, ih]
    congr 1
    apply List.ext_getElem?
    intro i
    simp only [List.getElem?_map]
    by_cases hi : i < s
    · rw [List.getElem?_range hi]
      simp only [Option.map_some]
      have : (n * s + i) % zs.size = i := by rw [hs, Nat.mul_comm, Nat.mul_add_mod, Nat.mod_eq_of_lt hi]
      rw [this]
      rw [Array.getElem?_toList, getElem!_pos zs i (by omega), Array.getElem?_eq_getElem (by omega)]
    · rw [List.getElem?_eq_none (by simp; omega), List.getElem?_eq_none (by simp; omega)]
      rfl

theorem zeros_rel {z : List AV} {zs : Array Value} (h : VRels P β z zs.toList) {s : Nat} (hs : zs.size = s) (h0 : 0 < s) (n : Nat) : VRels P β (zeros z n) ((Array.range (n * s)).map fun k => zs[k % zs.size]!).toList := by
  rw [zero_rep zs s hs h0 n]
  induction n with
  | zero => simp [zeros, VRels]
  | succ n ih => simp only [zeros, List.replicate_succ, List.flatten_cons]; exact h.append ih

/-! ### Operations that make one block -/
variable {a : Act}

theorem alloc_sound {o : Oper} {iop : IOp} {ys : List Operand} (hc : cOp P o.op = some (iop, ys)) (hk : kd iop = .alloc) {xs : List AV} (hx : VRels P β xs (ys.map a.eval)) {f : Nat → AV} {ob : AObj}
    (hv : allocOp iop xs = some (f, ob)) (w : World) :
    ∃ x u tot, (execOp a.eval o).run P w = .ok (.value u) { w with heap := w.heap.push x } ∧ ob.writable = true ∧
      ∀ b β', (∀ b L, β b = some L → β' b = some L) → β' b = some ⟨w.heap.size, 0, tot⟩ → VRel P β' (f b) u ∧ ∀ w', w'.heap[w.heap.size]? = some x → ORel P β' w' ⟨w.heap.size, 0, tot⟩ ob := by
  obtain ⟨dst, op, type, pos, after, guard⟩ := o
  simp only at hc
  have cellsO : ∀ (β' : Inj) (z : List AV) (vs : Array Value) (ty : TypeId) (w' : World), VRels P β' z vs.toList → z.all AV.one = true → w'.heap[w.heap.size]? = some (.cells vs ty) →
      ORel P β' w' ⟨w.heap.size, 0, vs.size⟩ (.cells true z) := by
    intro β' z vs ty w' hz h1 hw
    simp only [ORel]
    have hzl := hz.length
    refine ⟨vs, ty, (0, 0), hw, rfl, by simp at hzl; omega, ?_, h1, fun _ => .inl rfl⟩
    simp only [List.drop_zero]
    rw [List.take_of_length_le (by omega)]
    exact hz
  cases op with
  | alloc e =>
    simp only [cOp] at hc
    split at hc
    · rename_i z hz
      injection hc with hc; injection hc with h1 h2; subst h1; subst h2
      simp only [allocOp] at hv
      split at hv <;> first | (cases hv; done) | (rename_i h; cases h; done) | skip
      rename_i z' heq
      injection heq with heq; subst heq
      injection hv with hv; injection hv with hf ho; subst hf; subst ho
      obtain ⟨zv, hzr, hzv, hz1⟩ := zeroCs_run (β := β) hz w
      refine ⟨.cells zv.cells e, .pointer (some ⟨w.heap.size, 0, none⟩), zv.cells.size, ?_, rfl, fun b β' hext hb => ⟨?_, fun w' hw' => ?_⟩⟩
      · simp [execOp, Instr.alloc, hzr, newVar, newRow]
      · simp only [VRel]; exact ⟨_, hb, rfl⟩
      · exact cellsO β' _ zv.cells e w' (VRels.mono hext _ _ hzv) hz1 hw'
    · cases hc
  | box e x =>
    simp only [cOp] at hc
    injection hc with hc; injection hc with h1 h2; subst h1; subst h2
    simp only [allocOp] at hv
    split at hv <;> first | (cases hv; done) | (rename_i h; cases h; done) | skip
    rename_i x' _
    split at hv
    · rename_i h1
      simp only [forceL_eq] at hv
      injection hv with hv; injection hv with hf ho; subst hf; subst ho
      obtain ⟨_, he, r1⟩ := hx.one
      simp only [List.map_cons, List.map_nil, List.cons.injEq, and_true] at he; rw [← he] at r1
      have hcl := r1.cells
      refine ⟨.cells (a.eval x).cells e, .pointer (some ⟨w.heap.size, 0, none⟩), (a.eval x).cells.size, ?_, rfl, fun b β' hext hb => ⟨?_, fun w' hw' => ?_⟩⟩
      · simp [execOp, Instr.box, newVar, newRow]
      · simp only [VRel]; exact ⟨_, hb, rfl⟩
      · exact cellsO β' _ (a.eval x).cells e w' (VRels.mono hext _ _ hcl) h1 hw'
    · cases hv
  | buildSlice t n parts =>
    simp only [cOp] at hc
    split at hc
    · rename_i e hu
      split at hc
      · rename_i i z hi hz
        split at hc
        · cases hc
        · rename_i hbd
          simp only [not_or, Nat.not_lt] at hbd
          obtain ⟨hi0, hzl, hbd, hby⟩ := hbd
          injection hc with hc; injection hc with h1 h2; subst h1; subst h2
          simp only [allocOp] at hv
          split at hv
          · rename_i c hfill
            simp only [forceL_eq] at hv
            injection hv with hv; injection hv with hf ho; subst hf; subst ho
            obtain ⟨zv, hzr, hzv, hz1⟩ := zeroCs_run (β := β) hz w
            have hzvl : zv.cells.size = z.length := by have := hzv.length; simpa using this
            have hzeros : VRels P β (zeros z n) ((Array.range (n * i.size)).map (fun k => zv.cells[k % zv.cells.size]!)).toList := zeros_rel hzv (by omega) (by omega) n
            have e0 : ((parts.toList.map fun p => (p.1, a.eval p.2)).map (·.2)) = (parts.toList.map (·.2)).map a.eval := by simp
            have hmap : (parts.toList.map fun p => (p.1, a.eval p.2)).map (fun p => (some (p.1 * i.size, i.size) : Option (Nat × Nat))) = (parts.toList.map fun p => (p.1 * i.size, i.size)).map some := by simp
            obtain ⟨cells', k1, k2⟩ := fill_sound (place := fun j => some (j * i.size, i.size)) hmap (by rw [e0]; exact hx) hzeros hfill
            have hlen := (fillA_length hfill)
            have hzn : (zeros z n).length = n * i.size := by rw [zeros_length]; congr 1; omega
            refine ⟨.cells cells' e, .slice (some ⟨w.heap.size, 0, none⟩) n n, cells'.size, ?_, rfl, fun b β' hext hb => ⟨?_, fun w' hw' => ?_⟩⟩
            · have e1 : (parts.map fun (x : Nat × Operand) => (x.1, a.eval x.2)).toList = parts.toList.map fun p => (p.1, a.eval p.2) := by simp
              by_cases h0 : n = 0
              · subst h0
                simp only [Nat.zero_mul] at k1
                have hr0 : ∀ f : Nat → Value, (Array.range 0).map f = #[] := fun f => by simp
                rw [hr0] at k1
                simp [execOp, Instr.buildSlice, run_underlying hu, run_szOf (szOf_info hi), newRow, hr0] at k1 ⊢
                rw [k1]
                simp
              · have hne : ¬ (n * i.size = 0) := by
                  intro h; rcases Nat.mul_eq_zero.1 h with h | h <;> omega
                have hne1 : n ≠ 0 ∧ i.size ≠ 0 := ⟨h0, hi0⟩
                simp [execOp, Instr.buildSlice, run_underlying hu, run_szOf (szOf_info hi), newRow, hzr, show ¬ (16777216 < n * i.size) by omega] at k1 ⊢
                rw [k1]
                simp
                intro h; exact absurd h hne
            · simp only [VRel]
              refine ⟨_, ⟨w.heap.size, 0, none⟩, n, i, hb, hi, rfl, Nat.le_refl _, fun _ => rfl, (fun h => by cases h), (fun c hc => by injection hc)⟩
            · exact cellsO β' _ cells' e w' (VRels.mono hext _ _ k2) (hlen.2 (zeros_one hz1 n)) hw'
          · cases hv
      · cases hc
    · cases hc
  | makeMap t r =>
    cases r with
    | some r => simp [cOp] at hc
    | none =>
      simp only [cOp] at hc; injection hc with hc; injection hc with h1 h2; subst h1; subst h2
      simp only [allocOp] at hv
      injection hv with hv; injection hv with hf ho; subst hf; subst ho
      refine ⟨.map #[] 0, .map (some w.heap.size), 0, ?_, rfl, fun b β' hext hb => ⟨?_, fun w' hw' => ?_⟩⟩
      · simp [execOp, Instr.makeMap]
      · simp only [VRel]; exact ⟨_, hb, rfl⟩
      · simp only [ORel]; exact ⟨#[], hw', by simp [ERels], by simp, by simp⟩
  | makeSlice t l c =>
    simp only [cOp] at hc
    split at hc
    · rename_i e hu
      split at hc
      · rename_i i z hi hz
        split at hc
        · cases hc
        · rename_i hbd
          simp only [not_or, Nat.not_lt] at hbd
          obtain ⟨hzl, hi0, hb0, hby⟩ := hbd
          injection hc with hc; injection hc with h1 h2; subst h1; subst h2
          simp only [allocOp] at hv
          split at hv <;> first | (cases hv; done) | (rename_i h; cases h; done) | skip
          rename_i e' y z' ln cp heq
          injection heq with g1 g2 g3; subst g1; subst g2; subst g3
          split at hv
          · rename_i hcond
            obtain ⟨c1, c2, c3, c4⟩ := hcond
            simp only [forceL_eq] at hv
            injection hv with hv; injection hv with hf ho; subst hf; subst ho
            obtain ⟨_, _, he, r1, r2⟩ := hx.two
            simp only [List.map_cons, List.map_nil, List.cons.injEq, and_true] at he; obtain ⟨e1, e2⟩ := he
            rw [← e1] at r1; rw [← e2] at r2
            simp only [VRel] at r1 r2
            obtain ⟨zv, hzr, hzv, hz1⟩ := zeroCs_run (β := β) hz w
            have hzvl : zv.cells.size = z.length := by have := hzv.length; simpa using this
            have hzeros : VRels P β (zeros z cp.toNat) ((Array.range (cp.toNat * i.size)).map (fun k => zv.cells[k % zv.cells.size]!)).toList := zeros_rel hzv (by omega) (by omega) _
            have w1 : IntKind.i64.wrap ln = ln := by unfold IntKind.wrap; simp [IntKind.bits, IntKind.signed]; omega
            have w2 : IntKind.i64.wrap cp = cp := by unfold IntKind.wrap; simp [IntKind.bits, IntKind.signed]; omega
            have hnn : (cp.toNat : Int) = cp := by omega
            refine ⟨.cells ((Array.range (cp.toNat * i.size)).map (fun k => zv.cells[k % zv.cells.size]!)) e, .slice (some ⟨w.heap.size, 0, none⟩) ln.toNat cp.toNat, ((Array.range (cp.toNat * i.size)).map (fun k => zv.cells[k % zv.cells.size]!)).size, ?_, rfl, fun b β' hext hb => ⟨?_, fun w' hw' => ?_⟩⟩
            · have t1 : ¬ (cp < 0 ∨ 281474976710656 < (i.bytes : Int) * cp) := by
                rw [Int.mul_comm]; omega
              have t2 : ¬ (ln < 0) := by omega
              have t3 : ¬ (ln > cp) := by omega
              by_cases h0 : cp.toNat = 0
              · have h00 : cp = 0 := by omega
                subst h00
                simp [execOp, Instr.makeSlice, run_underlying hu, asInt, asIntOf, r1, r2, run_typeInfo' hi, w1, run_szOf (szOf_info hi), newRow, t2, show IntKind.i64.wrap 0 = 0 by decide, show ¬ (0 < ln) by omega]
                congr 2; simp
              · have hne : cp.toNat * i.size ≠ 0 := by
                  intro h; rcases Nat.mul_eq_zero.1 h with h | h <;> omega
                have hle0 : ¬ (cp ≤ 0) := by omega
                simp only [not_or] at t1
                simp [execOp, Instr.makeSlice, run_underlying hu, asInt, asIntOf, r1, r2, run_typeInfo' hi, w1, w2, run_szOf (szOf_info hi), newRow, t1.1, t1.2, t2, t3, hzr]
                intro h; exact absurd h hne
            · simp only [VRel]
              refine ⟨_, ⟨w.heap.size, 0, none⟩, cp.toNat, i, hb, hi, rfl, by omega, fun _ => rfl, (fun h => by cases h), (fun c hc => by injection hc)⟩
            · exact cellsO β' _ _ e w' (VRels.mono hext _ _ hzeros) (zeros_one hz1 _) hw'
          · cases hv
      · cases hc
    · cases hc
  | call c =>
    simp only [cOp] at hc
    split at hc
    · injection hc with hc; injection hc with h1 _; subst h1; simp [kd] at hk
    · unfold cBuiltin at hc
      (repeat' split at hc) <;> first | (cases hc; done) | (injection hc with hc; injection hc with h1 _; subst h1; simp [kd] at hk)
    · cases hc
  | next it b =>
    cases b with
    | false => simp only [cOp] at hc; injection hc with hc; injection hc with h1 _; subst h1; simp [kd] at hk
    | true => simp [cOp] at hc
  | makeFunc fn first captured =>
    cases fn with
    | func f => simp only [cOp] at hc; injection hc with hc; injection hc with h1 _; subst h1; simp [kd] at hk
    | _ => simp [cOp] at hc
  | binOp op t x y yt =>
    have hno : ∀ neg i, cEq P neg t = some i → kd i ≠ .alloc := by
      intro neg i hi
      unfold cEq at hi
      (repeat' split at hi) <;> first | (cases hi; done) | (injection hi with hi; subst hi; intro h; cases h)
    cases op with
    | eql =>
      simp only [cOp, two] at hc
      split at hc
      · rename_i i hi; injection hc with hc; injection hc with h1 _; subst h1; exact absurd hk (hno _ _ hi)
      · cases hc
    | neq =>
      simp only [cOp, two] at hc
      split at hc
      · rename_i i hi; injection hc with hc; injection hc with h1 _; subst h1; exact absurd hk (hno _ _ hi)
      · cases hc
    | _ => simp only [cOp] at hc; injection hc with hc; injection hc with h1 _; subst h1; simp [kd] at hk
  | _ =>
    simp only [cOp] at hc
    (repeat' split at hc) <;> first | (cases hc; done) | (injection hc with hc; injection hc with h1 _; subst h1; simp [kd] at hk)

end
end Go.AE
