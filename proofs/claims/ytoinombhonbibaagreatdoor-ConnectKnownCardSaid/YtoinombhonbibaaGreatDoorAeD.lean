/-
  The evaluator's operations that look at no memory are the model's.
-/
import Derived.Test.YtoinombhonbibaaGreatDoorAeC
import Derived.Laws.Entries
import GoSem.Dispatch
set_option linter.unusedSimpArgs false
set_option linter.unusedVariables false
set_option linter.unusedSectionVars false
namespace Go.AE

section
variable {P : Program} {β : Inj} {w : World}

theorem run_szOf {t : TypeId} {n : Nat} (h : szOf P t = some n) (w : World) : (sizeOf t).run P w = .ok n w := by
  unfold szOf at h
  split at h
  · rename_i i hi
    injection h with h
    simp [sizeOf, typeInfo, hi, h]
  · cases h

theorem run_typeInfo' {t : TypeId} {i : TypeInfo} (h : P.info? t = some i) (w : World) : (typeInfo t).run P w = .ok i w := by
  simp [typeInfo, h]

theorem szOf_info {t : TypeId} {i : TypeInfo} (h : P.info? t = some i) : szOf P t = some i.size := by simp [szOf, h]

theorem zeroV_run {t : TypeId} {z : AV} (h : zeroV P t = some z) (w : World) : ∃ v, (zeroValue t).run P w = .ok v w ∧ VRel P β z v := by
  unfold zeroV at h
  split at h
  · rename_i i hi
    split at h
    · rename_i v hv
      exact ⟨v, by simp [zeroValue, run_typeInfo' hi, hv], cVal_sound h⟩
    · cases h
  · cases h

theorem zeroCs_run {t : TypeId} {z : List AV} (h : zeroCs P t = some z) (w : World) : ∃ v, (zeroValue t).run P w = .ok v w ∧ VRels P β z v.cells.toList ∧ z.all AV.one = true := by
  unfold zeroCs at h
  split at h
  · rename_i i hi
    split at h
    · rename_i v hv
      exact ⟨v, by simp [zeroValue, run_typeInfo' hi, hv], cCells_sound h, cCells_one h⟩
    · cases h
  · cases h

/-- A load's kind. -/
theorem ldK_some {t : TypeId} {n : Nat} (h : ldK P t = some (some n)) (w : World) : (isAgg t).run P w = .ok true w ∧ (sizeOf t).run P w = .ok n w := by
  unfold ldK at h
  split at h
  · rename_i fs hd
    split at h
    · rename_i m hm; injection h with h; injection h with h; subst h
      exact ⟨by simp [isAgg, run_underlying hd], run_szOf hm w⟩
    · cases h
  · rename_i n' e hd
    split at h
    · rename_i m hm; injection h with h; injection h with h; subst h
      exact ⟨by simp [isAgg, run_underlying hd], run_szOf hm w⟩
    · cases h
  · cases h
  · cases h

theorem ldK_none {t : TypeId} (h : ldK P t = some none) (w : World) : (isAgg t).run P w = .ok false w := by
  unfold ldK at h
  split at h
  · split at h <;> cases h
  · split at h <;> cases h
  · rename_i d h1 h2 hd
    cases d <;> first
      | exact (h1 _ rfl).elim
      | exact (h2 _ _ rfl).elim
      | simp [isAgg, run_underlying hd]
  · cases h

theorem span_some {c : List AV} {o n : Nat} {l : List AV} (h : span c o n = some l) : l = (c.drop o).take n ∧ o + n ≤ c.length ∨ l = [] ∧ n = 0 := by
  unfold span at h
  simp only at h
  split at h
  · rename_i hl
    injection h with h; subst h
    simp only [List.length_take, List.length_drop] at hl
    by_cases hn : n = 0
    · right; subst hn; simp
    · left; exact ⟨rfl, by omega⟩
  · cases h

theorem span_eq {c : List AV} {o n : Nat} {l : List AV} (h : span c o n = some l) : l = (c.drop o).take n ∧ l.length = n := by
  unfold span at h
  simp only at h
  split at h
  · rename_i hl
    injection h with h; subst h
    exact ⟨rfl, hl⟩
  · cases h

theorem part_some {t : TypeId} {n : Nat} (h : ldK P t = some (some n)) {c : List AV} {cs : Array Value} (hc : VRels P β c cs.toList) {o : Nat} {l : List AV} (hs : span c o n = some l) (w : World) :
    ∃ v, (part t cs o).run P w = .ok v w ∧ VRel P β (.agg l) v := by
  obtain ⟨h1, h2⟩ := ldK_some h w
  obtain ⟨rfl, hl⟩ := span_eq hs
  refine ⟨.agg (cs.extract o (o + n)), by simp [part, h1, h2], ?_⟩
  simp only [VRel]
  refine ⟨_, rfl, ?_⟩
  have := (hc.drop o).take n
  have e : (cs.extract o (o + n)).toList = (cs.toList.drop o).take n := by simp
  rw [e]; exact this

theorem part_none {t : TypeId} (h : ldK P t = some none) {c : List AV} {cs : Array Value} (hc : VRels P β c cs.toList) {o : Nat} {a : AV} (hs : span c o 1 = some [a]) (w : World) :
    ∃ v, (part t cs o).run P w = .ok v w ∧ VRel P β a v := by
  have h1 := ldK_none h w
  obtain ⟨e, _⟩ := span_eq hs
  have hget : c[o]? = some a := by
    have : (List.take 1 (c.drop o))[0]? = some a := by rw [← e]; rfl
    simpa [List.getElem?_take, List.getElem?_drop] using this
  obtain ⟨v, hv, hr⟩ := hc.get hget
  refine ⟨v, ?_, hr⟩
  have hv' : cs[o]? = some v := by simpa using hv
  simp [part, h1, hv']

/-! ### Filling -/
theorem foldl_set_list (vs : List Value) : ∀ (off : Nat) (cells : List Value), off + vs.length ≤ cells.length →
    (vs.zipIdx.foldl (fun (cs : List Value) (p : Value × Nat) => cs.set (off + p.2) p.1) cells) = cells.take off ++ vs ++ cells.drop (off + vs.length) := by
  suffices H : ∀ (vs : List Value) (k off : Nat) (cells : List Value), off + k + vs.length ≤ cells.length →
      ((vs.zipIdx k).foldl (fun (cs : List Value) (p : Value × Nat) => cs.set (off + p.2) p.1) cells) = cells.take (off + k) ++ vs ++ cells.drop (off + k + vs.length) by
    intro off cells h
    simpa using H vs 0 off cells (by simpa using h)
  intro vs
  induction vs with
  | nil => intro k off cells h; simp
  | cons v r ih =>
    intro k off cells h
    simp only [List.length_cons] at h
    simp only [List.zipIdx_cons, List.foldl_cons]
    rw [ih (k + 1) off _ (by simp; omega)]
    apply List.ext_getElem?
    intro i
    simp only [List.getElem?_append, List.getElem?_take, List.getElem?_drop, List.length_append, List.length_take, List.length_set, List.length_cons]
    rcases Nat.lt_trichotomy i (off + k) with h1 | h1 | h1
    · rw [if_pos (by omega), if_pos (by omega), if_pos (by omega), if_pos (by omega), if_pos (by omega), if_pos (by omega), List.getElem?_set_ne (by omega)]
    · subst h1
      rw [if_pos (by omega), if_pos (by omega), if_pos (by omega), if_pos (by omega), if_neg (by omega)]
      rw [List.getElem?_set_self (by omega), show off + k - min (off + k) cells.length = 0 by omega]
      simp
    · by_cases h2 : i < off + k + 1 + r.length
      · rw [if_pos (by omega), if_neg (by omega), if_pos (by omega), if_neg (by omega)]
        rw [show i - min (off + k) cells.length = (i - min (off + (k + 1)) cells.length) + 1 by omega, List.getElem?_cons_succ]
      · rw [if_neg (by omega), if_neg (by omega), List.getElem?_set_ne (by omega)]
        congr 1
        omega

theorem foldl_set_array (vs : Array Value) (off : Nat) (cells : Array Value) (h : off + vs.size ≤ cells.size) :
    (vs.zipIdx.foldl (fun (cs : Array Value) (p : Value × Nat) => cs.setIfInBounds (off + p.2) p.1) cells).toList = cells.toList.take off ++ vs.toList ++ cells.toList.drop (off + vs.size) := by
  have key : ∀ (l : List (Value × Nat)) (cs : Array Value), (l.foldl (fun (cs : Array Value) (p : Value × Nat) => cs.setIfInBounds (off + p.2) p.1) cs).toList = l.foldl (fun (cs : List Value) (p : Value × Nat) => cs.set (off + p.2) p.1) cs.toList := by
    intro l
    induction l with
    | nil => intro cs; rfl
    | cons p r ih => intro cs; simp [ih]
  rw [← Array.foldl_toList, Array.toList_zipIdx, key, foldl_set_list _ _ _ (by simpa using h)]
  simp

theorem writeL_some {c l c' : List AV} {o : Nat} (h : writeL c o l = some c') : o + l.length ≤ c.length ∧ c' = c.take o ++ l ++ c.drop (o + l.length) := by
  unfold writeL at h
  split at h
  · rename_i hl; injection h with h; exact ⟨hl, h.symm⟩
  · cases h

theorem size_some {v : AV} {n : Nat} (h : v.size n = true) : v.cells.length = n ∧ v.cells.all AV.one = true := by
  unfold AV.size at h
  simp only [Bool.and_eq_true, Nat.beq_eq] at h
  exact h

theorem fill_sound {place : Nat → Option (Nat × Nat)} : ∀ {ps : List (Nat × Value)} {pl : List (Nat × Nat)} {vs c c' : List AV} {cells : Array Value},
    (ps.map fun p => place p.1) = pl.map some → VRels P β vs (ps.map (·.2)) → VRels P β c cells.toList → fillA c pl vs = some c' →
    ∃ cells', Instr.fill place cells ps = some cells' ∧ VRels P β c' cells'.toList
  | [], pl, vs, c, c', cells, hp, hv, hc, hf => by
    cases pl with
    | cons _ _ => simp at hp
    | nil =>
      simp only [List.map_nil] at hv
      cases vs with
      | cons a r => simp [VRels] at hv
      | nil => simp [fillA] at hf; subst hf; exact ⟨cells, rfl, hc⟩
  | (i, v) :: r, pl, vs, c, c', cells, hp, hv, hc, hf => by
    cases pl with
    | nil => simp at hp
    | cons q pl =>
      obtain ⟨off, sz⟩ := q
      simp only [List.map_cons, List.cons.injEq] at hp
      cases vs with
      | nil => simp [fillA] at hf
      | cons a vs =>
        simp only [List.map_cons] at hv
        obtain ⟨v', us, he, hr1, hr2⟩ := hv.cons
        injection he with he1 he2
        subst he1; subst he2
        simp only [fillA] at hf
        split at hf
        · rename_i hsz
          obtain ⟨hsz, _⟩ := size_some hsz
          split at hf
          · rename_i d hd
            obtain ⟨hle, rfl⟩ := writeL_some hd
            have hcl := hc.length
            have hvc := hr1.cells
            have hvl := hvc.length
            have e1 : v.cells.size = sz := by rw [← hsz, ← hvl]; simp
            have e2 : cells.size = c.length := by rw [← hcl]; simp
            have hrel : VRels P β (c.take off ++ a.cells ++ c.drop (off + a.cells.length)) (v.cells.zipIdx.foldl (fun cs (c, j) => cs.setIfInBounds (off + j) c) cells).toList := by
              have := foldl_set_array v.cells off cells (by omega)
              rw [show (fun (cs : Array Value) (x : Value × Nat) => match x with | (c, j) => cs.setIfInBounds (off + j) c) = (fun (cs : Array Value) (p : Value × Nat) => cs.setIfInBounds (off + p.2) p.1) from rfl, this]
              refine (VRels.append (hc.take off) hvc).append ?_
              rw [show off + v.cells.size = off + a.cells.length by omega]
              exact hc.drop _
            obtain ⟨cells', h1, h2⟩ := fill_sound hp.2 hr2 hrel hf
            refine ⟨cells', ?_, h2⟩
            simp only [Instr.fill, hp.1]
            rw [if_neg (by simp; omega)]
            exact h1
          · cases hf
        · cases hf

theorem fillA_length : ∀ {pl : List (Nat × Nat)} {vs c c' : List AV}, fillA c pl vs = some c' → c'.length = c.length ∧ (c.all AV.one = true → c'.all AV.one = true)
  | [], [], c, c', h => by simp [fillA] at h; subst h; simp
  | [], _ :: _, c, c', h => by simp [fillA] at h
  | _ :: _, [], c, c', h => by simp [fillA] at h
  | (off, sz) :: pl, a :: vs, c, c', h => by
    simp only [fillA] at h
    split at h
    · rename_i hsz
      obtain ⟨_, h1⟩ := size_some hsz
      split at h
      · rename_i d hd
        obtain ⟨hle, rfl⟩ := writeL_some hd
        obtain ⟨h2, h3⟩ := fillA_length h
        refine ⟨by rw [h2]; simp; omega, fun hc => h3 ?_⟩
        simp only [List.all_append, Bool.and_eq_true]
        refine ⟨⟨?_, h1⟩, ?_⟩
        · exact List.all_eq_true.2 fun x hx => List.all_eq_true.1 hc x (List.mem_of_mem_take hx)
        · exact List.all_eq_true.2 fun x hx => List.all_eq_true.1 hc x (List.mem_of_mem_drop hx)
      · cases h
    · cases h

theorem places_run : ∀ {fs : List Field} {pl : List (Nat × Nat)}, places P fs = some pl → ∀ (w : World), (fs.mapM (fun f => do pure (f.offset, ← sizeOf f.type)) : Sem (List (Nat × Nat))).run P w = .ok pl w
  | [], pl, h, w => by simp [places] at h; subst h; simp
  | f :: r, pl, h, w => by
    simp only [places] at h
    split at h
    · rename_i s hs
      split at h
      · rename_i l hl
        injection h with h; subst h
        have ih := places_run hl w
        simp only [bind_pure_comp] at ih
        simp [List.mapM_cons, run_szOf hs, ih]
      · cases h
    · cases h

end
end Go.AE
