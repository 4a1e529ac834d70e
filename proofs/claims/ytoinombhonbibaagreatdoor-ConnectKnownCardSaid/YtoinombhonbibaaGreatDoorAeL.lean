/-
  Operations that change memory: all of them.
-/
import Derived.Test.YtoinombhonbibaaGreatDoorAeK
set_option linter.unusedSimpArgs false
set_option linter.unusedVariables false
set_option linter.unusedSectionVars false
namespace Go.AE

section
variable {P : Program} {β : Inj} {w w0 : World} {prv : List (Nat × Obj)} {H H' : Heap} {a : Act}

theorem sameBits_key {kk : KK} {k k' : AV} (h : keyEq kk k k' = some true) {v u : Value} (hv : VRel P β k v) (hu : VRel P β k' u) : Instr.sameBits 10000 u v = true := by
  cases kk with
  | one c =>
    simp only [keyEq] at h
    have gen : ∀ n, Instr.sameBits n u v = true := by
      intro n
      rcases ckEq_cells h hv hu with ⟨_, x, y, rfl, rfl, e⟩ | ⟨j, _, x, y, rfl, rfl, e⟩ | ⟨_, x, y, rfl, rfl, e⟩
      · cases n <;> simp [Instr.sameBits] <;> exact (eq_of_beq e.symm).symm
      · cases n <;> simp [Instr.sameBits] <;> exact (eq_of_beq e.symm).symm
      · have : x.toList = y.toList := eq_of_beq e.symm
        cases n <;> simp only [Instr.sameBits] <;> rw [beq_toListBytes, this] <;> simp
    exact gen _
  | agg ks =>
    unfold keyEq at h
    split at h <;> first | (cases h; done) | skip
    · rename_i heq; cases heq
    · rename_i ks' as bs heq
      injection heq with heq; subst heq
      simp only [VRel] at hv hu
      obtain ⟨vs, rfl, hvs⟩ := hv
      obtain ⟨us, rfl, hus⟩ := hu
      have gen : ∀ n, Instr.sameBits (n + 1) (.agg us) (.agg vs) = true := by
        intro n
        obtain ⟨l1, l2⟩ := cksEq_length h
        have h1 := hvs.length
        have h2 := hus.length
        simp only [Array.length_toList] at h1 h2
        simp only [Instr.sameBits, Bool.and_eq_true, beq_iff_eq]
        exact ⟨by omega, sameBits_cells n h hvs hus⟩
      exact gen 9999

theorem keyStays_run {old new : Value} (h : Instr.sameBits 10000 old new = true) (w : World) : (Instr.keyThatStays old new).run P w = .ok new w := by
  simp [Instr.keyThatStays, h]

theorem ERels.append : ∀ {es fs : List (AV × AV × Nat)} {en fn : List MapEntry}, ERels P β es en → ERels P β fs fn → ERels P β (es ++ fs) (en ++ fn)
  | [], fs, en, fn, h, h' => by simp [ERels] at h; subst h; simpa using h'
  | e :: r, fs, en, fn, h, h' => by
    simp only [ERels] at h
    obtain ⟨x, en', rfl, h1, h2, h3, h4⟩ := h
    simp only [List.cons_append, ERels]
    exact ⟨x, _, rfl, h1, h2, h3, ERels.append h4 h'⟩

theorem ERels.set : ∀ {es : List (AV × AV × Nat)} {en : List MapEntry} {i : Nat} {e : AV × AV × Nat} {x : MapEntry}, ERels P β es en → VRel P β e.1 x.key → VRel P β e.2.1 x.val → x.born = e.2.2 → ERels P β (es.set i e) (en.set i x)
  | [], en, i, e, x, h, _, _, _ => by simp [ERels] at h; subst h; simp [ERels]
  | f :: r, en, i, e, x, h, h1, h2, h3 => by
    simp only [ERels] at h
    obtain ⟨y, en', rfl, g1, g2, g3, g4⟩ := h
    cases i with
    | zero => simp only [List.set_cons_zero, ERels]; exact ⟨x, en', rfl, h1, h2, h3, g4⟩
    | succ i => simp only [List.set_cons_succ, ERels]; exact ⟨y, _, rfl, g1, g2, g3, ERels.set g4 h1 h2 h3⟩

theorem ERels.erase : ∀ {es : List (AV × AV × Nat)} {en : List MapEntry} (i : Nat), ERels P β es en → ERels P β (es.eraseIdx i) (en.eraseIdx i)
  | [], en, i, h => by simp [ERels] at h; subst h; simp [ERels]
  | f :: r, en, i, h => by
    simp only [ERels] at h
    obtain ⟨y, en', rfl, g1, g2, g3, g4⟩ := h
    cases i with
    | zero => simpa using g4
    | succ i => simp only [List.eraseIdx_cons_succ, ERels]; exact ⟨y, _, rfl, g1, g2, g3, ERels.erase i g4⟩

/-- A map turned. -/
theorem set_map (hR : Rel P w0 prv β H w) {b : Nat} {es : List (AV × AV × Nat)} {clock : Nat} (hg : H.get b = some (.map es clock)) {L : Loc} (hL : β b = some L) {es' : List (AV × AV × Nat)} {clock' : Nat} (en' : Array MapEntry)
    (he : ERels P β es' en'.toList) (hp : (es'.map (·.2.2)).Pairwise (· < ·)) (hlt : ∀ e ∈ es', e.2.2 < clock') :
    Rel P w0 prv β (H.set b (.map es' clock')) { w with heap := w.heap.setIfInBounds L.blk (.map en' clock') } ∧ Evo H (H.set b (.map es' clock')) :=
  ⟨hR.setObj hg rfl hL _ (fun w' hw' => by simp only [ORel]; exact ⟨en', hw', he, hp, hlt⟩), ⟨Nat.le_refl _, fun k _ hk => by
    rw [Heap.get_set, if_neg (by rintro rfl; rw [hg] at hk; cases hk)]; exact hk⟩⟩

theorem modify_toList (en : Array MapEntry) (i : Nat) (x : MapEntry) (h : en[i]? = some x) (f : MapEntry → MapEntry) : (en.modify i f).toList = en.toList.set i (f x) := by
  apply List.ext_getElem?
  intro j
  rw [List.getElem?_set]
  have : (en.modify i f).toList[j]? = (en.modify i f)[j]? := by rw [Array.getElem?_toList]
  rw [this, Array.getElem?_modify]
  have hlt : i < en.size := by
    rcases Nat.lt_or_ge i en.size with h' | h'
    · exact h'
    · simp [Array.getElem?_eq_none h'] at h
  by_cases e : i = j
  · subst e
    have hx : en[i] = x := by rw [Array.getElem?_eq_getElem hlt] at h; injection h
    simp [hlt, hx]
  · simp [e]

theorem pairwise_set_born {es : List (AV × AV × Nat)} {i : Nat} {e e' : AV × AV × Nat} (h : es[i]? = some e) (hb : e'.2.2 = e.2.2) : (es.set i e').map (·.2.2) = es.map (·.2.2) := by
  apply List.ext_getElem?
  intro j
  simp only [List.getElem?_map, List.getElem?_set]
  by_cases ej : i = j
  · subst ej
    have hlt : i < es.length := by
      rcases Nat.lt_or_ge i es.length with h' | h'
      · exact h'
      · simp [List.getElem?_eq_none h'] at h
    have hx : es[i] = e := by rw [List.getElem?_eq_getElem hlt] at h; injection h
    simp [hlt, hx, hb]
  · simp [ej]

theorem lt_of_borns {es es' : List (AV × AV × Nat)} {c : Nat} (h : ∀ e ∈ es, e.2.2 < c) (hm : es'.map (·.2.2) = es.map (·.2.2)) : ∀ e ∈ es', e.2.2 < c := by
  intro e he
  have : e.2.2 ∈ es.map (·.2.2) := by rw [← hm]; exact List.mem_map.2 ⟨e, he, rfl⟩
  obtain ⟨e', he', h2⟩ := List.mem_map.1 this
  rw [← h2]; exact h e' he'

theorem find_idx : ∀ {es : List (AV × AV × Nat)} {en : List MapEntry} {s : Int} {i : Nat}, ERels P β es en → es.findIdx? (fun e => (e.2.2 : Int) == s) = some i → en.findIdx? (fun x => (x.born : Int) == s) = some i
  | [], en, s, i, h, hf => by simp at hf
  | e :: r, en, s, i, h, hf => by
    simp only [ERels] at h
    obtain ⟨x, en', rfl, h1, h2, h3, h4⟩ := h
    simp only [List.findIdx?_cons] at hf ⊢
    rw [h3]
    split at hf
    · rename_i hs; rw [hs]; exact hf
    · rename_i hs
      rw [if_neg hs]
      simp only [Option.map_eq_some_iff] at hf ⊢
      obtain ⟨j, hj, rfl⟩ := hf
      exact ⟨j, find_idx h4 hj, rfl⟩

theorem erase_map : ∀ (es : List (AV × AV × Nat)) (i : Nat), (es.eraseIdx i).map (·.2.2) = (es.map (·.2.2)).eraseIdx i
  | [], i => by simp
  | e :: r, 0 => by simp
  | e :: r, i + 1 => by simp [erase_map r i]

theorem asInts_rel : ∀ (l : List UInt8), VRels P β (asInts l) (l.map fun (b : UInt8) => Value.int .u8 b.toNat)
  | [] => by simp [asInts, VRels]
  | b :: r => by
    have ih := asInts_rel r
    unfold asInts at ih ⊢
    simp only [List.map_cons, VRels]
    exact ⟨_, _, rfl, by simp only [VRel], ih⟩

/-- An operation that changes memory is the model's. -/
theorem eff_sound (hR : Rel P w0 prv β H w) {o : Oper} {iop : IOp} {ys : List Operand} (hc : cOp P o.op = some (iop, ys)) (hk : kd iop = .eff) {xs : List AV} (hx : VRels P β xs (ys.map a.eval)) {v : AV}
    (hv : effOp iop xs H = some (v, H')) : EffRes P w0 prv β H H' v ((execOp a.eval o).run P w) := by
  have ho := hc
  obtain ⟨dst, op, type, pos, after, guard⟩ := o
  simp only at hc
  cases op with
  | store t ad val =>
    simp only [cOp] at hc
    split at hc
    · rename_i n hn
      injection hc with hc; injection hc with h1 h2; subst h1; subst h2
      simp only [effOp] at hv
      split at hv <;> first | (cases hv; done) | (rename_i h; cases h; done) | skip
      rename_i n' b o' v' heq
      injection heq with heq; subst heq
      split at hv
      · rename_i hsz
        obtain ⟨hsz, hone⟩ := size_some hsz
        split at hv
        · rename_i H1 hw
          injection hv with hv; injection hv with g1 g2; subst g1; subst g2
          obtain ⟨_, _, he, r1, r2⟩ := hx.two
          simp only [List.map_cons, List.map_nil, List.cons.injEq, and_true] at he; obtain ⟨e1, e2⟩ := he
          rw [← e1] at r1; rw [← e2] at r2
          simp only [VRel] at r1
          obtain ⟨L, hL, hxv⟩ := r1
          have hcl := r2.cells
          obtain ⟨L', w', hL', hst, hR', hev, _⟩ := write_run hR hw hcl hone
          rw [hL] at hL'; injection hL' with hL'; subst hL'
          refine EffRes.of_u ⟨w', β, ?_, Ext.refl _ _, hR', hev⟩
          have hsize : (a.eval val).cells.size = n := by have := hcl.length; simp only [Array.length_toList] at this; omega
          simp [Instr.storeAt, Instr.sureAddr, hxv, storeVar, run_szOf hn, hsize, hst]
        · cases hv
      · cases hv
    · cases hc
  | convert s d x =>
    simp only [cOp] at hc
    have str : ∀ {e : TypeId} {i : TypeInfo} {st : List UInt8}, P.underlying d = some (.slice e) → P.underlying e = some (.int .u8) → P.info? e = some i → i.size = 1 → i.bytes = 1 → VRel P β (.str st) (a.eval x) →
        (∃ ds, P.underlying s = some ds) → st.length ≤ 2 ^ 40 → grown H e st.length (asInts st) = some (v, H') → EffRes P w0 prv β H H' v ((execOp a.eval ⟨dst, .convert s d x, type, pos, after, guard⟩).run P w) := by
      intro e i st hd he hi hsz hby r1 hs hlen hg
      simp only [VRel] at r1
      obtain ⟨str, hxv, hst⟩ := r1
      obtain ⟨ds, hds⟩ := hs
      simp only [grown, forceL_eq] at hg
      injection hg with hg; injection hg with g1 g2; subst g1; subst g2
      have hlen' : str.size = st.length := by rw [← hst]; simp
      generalize hcap : (Question.appendCap str.size 0 e).cut (w.tape w.drawn (.appendCap str.size 0 e)) = cap
      have hge : str.size ≤ cap := by rw [← hcap]; simp only [Question.cut]; omega
      obtain ⟨A, hA⟩ : ∃ A : Array Value, A = (str.data.map fun (b : UInt8) => Value.int .u8 b.toNat) ++ Array.replicate (cap - str.size) (Value.int .u8 0) := ⟨_, rfl⟩
      have hrun : (Conv.stringToBytes e str).run P w = .ok (.slice (some ⟨w.heap.size, 0, none⟩) str.size cap)
          { w with drawn := w.drawn + 1, heap := w.heap.push (.cells A e (A.size, A.size + 1)) } := by
        have hq : (Question.appendCap str.size 0 e).forced = false := rfl
        simp only [Conv.stringToBytes, Sem.run_bind, run_choose, hq, Bool.false_eq_true, if_false, hcap, Result.andThen_ok, newRow, run_newObj, Sem.run_pure, markStringish, run_shape, ← hA]
        simp only [World.shape?, Array.getElem?_push_size, run_freeze, Result.andThen_ok, Sem.run_pure]
        congr 1
        unfold World.freeze
        rw [if_neg (by omega)]
        simp only
        congr 1
        apply Array.ext_getElem?
        intro j
        rw [Array.getElem?_modify]
        by_cases ej : w.heap.size = j
        · subst ej; simp
        · simp only [ej, if_false]
          rw [Array.getElem?_push, Array.getElem?_push]
          rw [if_neg (fun h => ej h.symm), if_neg (fun h => ej h.symm)]
      have hints : VRels P β (asInts st) (str.data.map fun (b : UInt8) => Value.int .u8 b.toNat).toList := by
        rw [Array.toList_map, hst]
        exact asInts_rel st
      have hil := hints.length
      have hk := Inj.put_keep (L := ⟨w.heap.size, 0, cap⟩) hR.fresh
      have hAl : A.toList = (str.data.map fun (b : UInt8) => Value.int .u8 b.toNat).toList ++ List.replicate (cap - str.size) (Value.int .u8 0) := by rw [hA]; simp
      have hAs : A.size = cap := by rw [hA]; simp; omega
      refine EffRes.of_v ⟨.slice (some ⟨w.heap.size, 0, none⟩) str.size cap, { w with drawn := w.drawn + 1, heap := w.heap.push (.cells A e (A.size, A.size + 1)) }, β.put H.next ⟨w.heap.size, 0, cap⟩, ?_, push_ext hR.fresh, ?_, ?_, ?_⟩
      · rw [hxv]
        simp only [convert, Sem.run_bind, run_underlying hds, run_underlying hd, Result.andThen_ok]
        cases ds <;> simp only [Sem.run_bind, run_underlying he, Result.andThen_ok, hrun]
      · refine (hR.drew (w.drawn + 1)).alloc (.cells true (asInts st)) _ ⟨w.heap.size, 0, cap⟩ hR.fresh (hR.none_of_ge (Nat.le_refl _)) rfl (fun k => Heap.get_push H k _) (by simp) (by simp) (fun w' hw' => ?_)
        simp only [ORel]
        have hal : (asInts st).length = st.length := by simp [asInts]
        refine ⟨A, e, _, hw', hAs, by simp; omega, ?_, by unfold asInts; simp [AV.one], fun _ => .inr (Nat.le_refl _)⟩
        simp only [List.drop_zero, hAl]
        rw [List.take_append_of_le_length (by omega), List.take_of_length_le (by omega)]
        exact VRels.mono hk _ _ hints
      · simp only [VRel]
        refine ⟨_, ⟨w.heap.size, 0, none⟩, cap, i, Inj.put_same, hi, by rw [hlen'], by omega, fun _ => rfl, fun _ => ⟨by simp [hsz], by omega⟩, (fun c hc => by cases hc)⟩
      · exact ⟨by simp, fun k hk' hn => by rw [Heap.get_push, if_neg (by omega)]; exact hn⟩
    split at hc
    · injection hc with hc; injection hc with h1 h2; subst h1; simp [kd] at hk
    · injection hc with hc; injection hc with h1 h2; subst h1; simp [kd] at hk
    · split at hc
      · split at hc
        · injection hc with hc; injection hc with h1 _; subst h1; simp [kd] at hk
        · cases hc
      · cases hc
    · rename_i e hs hd
      split at hc
      · rename_i i he hi
        split at hc
        · rename_i hsz
          injection hc with hc; injection hc with h1 h2; subst h1; subst h2
          simp only [effOp] at hv
          split at hv <;> first | (cases hv; done) | (rename_i h; cases h; done) | skip
          rename_i e' st heq
          injection heq with heq; subst heq
          split at hv
          · rename_i hlen
            obtain ⟨_, hee, r1⟩ := hx.one
            simp only [List.map_cons, List.map_nil, List.cons.injEq, and_true] at hee; rw [← hee] at r1
            exact str hd he hi hsz.1 hsz.2 r1 ⟨_, hs⟩ hlen hv
          · cases hv
        · cases hc
      · cases hc
    · rename_i e0 e hs hd
      split at hc
      · rename_i i he hi
        split at hc
        · rename_i hsz
          injection hc with hc; injection hc with h1 h2; subst h1; subst h2
          simp only [effOp] at hv
          split at hv <;> first | (cases hv; done) | (rename_i h; cases h; done) | skip
          · rename_i e' st heq
            injection heq with heq; subst heq
            split at hv
            · rename_i hlen
              obtain ⟨_, hee, r1⟩ := hx.one
              simp only [List.map_cons, List.map_nil, List.cons.injEq, and_true] at hee; rw [← hee] at r1
              exact str hd he hi hsz.1 hsz.2.1 r1 ⟨_, hs⟩ hlen hv
            · cases hv
          · rename_i e' b o' n c e'' heq
            split at hv
            · rename_i hn0
              split at hv
              · rename_i cs hget
                injection hv with hv; injection hv with g1 g2; subst g1; subst g2
                obtain ⟨_, hee, r1⟩ := hx.one
                simp only [List.map_cons, List.map_nil, List.cons.injEq, and_true] at hee; rw [← hee] at r1
                have r1' := r1
                simp only [VRel] at r1
                obtain ⟨L, ad, cap, j, hL, hj, hxv, hncap, hadr, _, _⟩ := r1
                have had := hadr (by omega)
                obtain ⟨L', hL', hO⟩ := hR.obj b _ hget
                rw [hL] at hL'; injection hL' with hL'; subst hL'
                simp only [ORel] at hO
                obtain ⟨ccs, ty', fz, g1, g2, g3, g4, g5, g6⟩ := hO
                have hlt := hR.blk b L hL
                obtain ⟨_, _, hsd⟩ := hsz
                subst hsd
                generalize hfz : (if fz.1 == fz.2 then (ccs.size, ccs.size + 1) else (min fz.1 ccs.size, max fz.2 (ccs.size + 1))) = fz'
                have hfz1 : fz'.1 = ccs.size := by
                  rw [← hfz]
                  by_cases e : fz.1 = fz.2
                  · simp [e]
                  · rcases g6 trivial with h | h
                    · exact absurd h e
                    · simp [e]; omega
                refine EffRes.of_v ⟨a.eval x, { w with heap := w.heap.setIfInBounds L.blk (.cells ccs ty' fz') }, β, ?_, Ext.refl _ _, ?_, r1', Evo.refl _⟩
                · rw [hxv]
                  simp only [convert, Sem.run_bind, run_underlying hd, Result.andThen_ok, run_underlying he, beq_self_eq_true, markStringish, run_shape, had, Sem.run_pure]
                  simp only [World.shape?, g1, run_freeze, Result.andThen_ok, Sem.run_pure]
                  congr 1
                  unfold World.freeze
                  rw [if_neg (by omega)]
                  simp only
                  congr 1
                  apply Array.ext_getElem?
                  intro k
                  rw [Array.getElem?_modify]
                  by_cases ek : L.blk = k
                  · subst ek
                    rw [if_pos rfl, g1, Array.getElem?_setIfInBounds_self_of_lt hlt]
                    simp only [Option.map_some]
                    rw [← hfz]
                  · simp only [ek, if_false]
                    rw [Array.getElem?_setIfInBounds_ne ek]
                · have := hR.setObj hget rfl hL (.cells ccs ty' fz') (o' := .cells true cs) (fun w' hw' => by
                    simp only [ORel]
                    exact ⟨ccs, ty', fz', hw', g2, g3, g4, g5, fun _ => .inr (by omega)⟩)
                  exact this.sub (fun k ob hk' => by
                    rw [Heap.get_set]
                    by_cases e : k = b
                    · subst e; rw [if_pos rfl]; rw [hget] at hk'; exact hk'
                    · rw [if_neg e]; exact hk') (Nat.le_refl _)
              · cases hv
            · cases hv
        · cases hc
      · cases hc
    · cases hc
  | mapUpdate t m k val =>
    simp only [cOp] at hc
    split at hc
    · rename_i kt et hu
      split at hc
      · rename_i kk hkk
        injection hc with hc; injection hc with h1 h2; subst h1; subst h2
        simp only [effOp] at hv
        split at hv <;> first | (cases hv; done) | (rename_i h; cases h; done) | skip
        rename_i kk' b k' v' heq
        injection heq with heq; subst heq
        split at hv
        · rename_i hko
          split at hv
          · rename_i es clock hma
            obtain ⟨L, en, hL, hheap, hER, hpw, hltc, hget⟩ := mapAt_run hR hma
            obtain ⟨_, _, _, he, r1, r2, r3⟩ := hx.three
            simp only [List.map_cons, List.map_nil, List.cons.injEq, and_true] at he; obtain ⟨e1, e2, e3⟩ := he
            rw [← e1] at r1; rw [← e2] at r2; rw [← e3] at r3
            simp only [VRel] at r1
            obtain ⟨L', hL', hxv⟩ := r1
            rw [hL] at hL'; injection hL' with hL'; subst hL'
            have hck := keyCheck_run hkk hko r2 false w
            have hnc : ∀ c t f, Obj.map en clock ≠ .cells c t f := by rintro _ _ _ h; cases h
            split at hv
            · rename_i i v0 born hlook
              injection hv with hv; injection hv with g1 g2; subst g1; subst g2
              obtain ⟨s, hf, hrun⟩ := findKey_run hkk r2 hER hlook w
              simp only [Found] at hf
              obtain ⟨x, k0, f1, f2, f3, f4, f5, f6, rfl⟩ := hf
              have f1' : en[i]? = some x := by simpa using f1
              have hst := keyStays_run (P := P) (sameBits_key f3 r2 f4) w
              have hborn := pairwise_set_born (e' := (k', v', born)) f2 rfl
              obtain ⟨q1, q2⟩ := set_map hR hget hL (es' := es.set i (k', v', born)) (clock' := clock) (en.modify i fun e => { e with key := a.eval k, val := a.eval val })
                (by rw [modify_toList en i x f1']; exact hER.set r2 r3 f6) (by rw [hborn]; exact hpw) (lt_of_borns hltc hborn)
              refine EffRes.of_u ⟨_, β, ?_, Ext.refl _ _, q1, q2⟩
              simp [Instr.mapUpdate, run_underlying hu, hxv, run_getObj' hheap hnc, hck, hrun, f1', hst, run_setObj' hheap hnc]
            · rename_i hlook
              injection hv with hv; injection hv with g1 g2; subst g1; subst g2
              obtain ⟨s, hf, hrun⟩ := findKey_run hkk r2 hER hlook w
              simp only [Found] at hf; subst hf
              obtain ⟨q1, q2⟩ := set_map hR hget hL (es' := es ++ [(k', v', clock)]) (clock' := clock + 1) (en.push { key := a.eval k, val := a.eval val, born := clock })
                (by rw [Array.toList_push]; exact hER.append (by simp only [ERels]; exact ⟨_, [], rfl, r2, r3, rfl, rfl⟩))
                (by
                  rw [List.map_append, List.pairwise_append]
                  refine ⟨hpw, by simp, fun x hx y hy => ?_⟩
                  obtain ⟨e, he, rfl⟩ := List.mem_map.1 hx
                  simp at hy; subst hy
                  exact hltc e he)
                (fun e he => by
                  rcases List.mem_append.1 he with h | h
                  · exact Nat.lt_succ_of_lt (hltc e h)
                  · simp at h; subst h; exact Nat.lt_succ_self _)
              refine EffRes.of_u ⟨_, β, ?_, Ext.refl _ _, q1, q2⟩
              simp [Instr.mapUpdate, run_underlying hu, hxv, run_getObj' hheap hnc, hck, hrun, run_setObj' hheap hnc]
            · cases hv
          · cases hv
        · cases hv
      · cases hc
    · cases hc
  | mapEntry t m k =>
    simp only [cOp] at hc
    split at hc
    · rename_i kt et hu
      split at hc
      · rename_i kk z hkk hz
        injection hc with hc; injection hc with h1 h2; subst h1; subst h2
        simp only [effOp] at hv
        split at hv <;> first | (cases hv; done) | (rename_i h; cases h; done) | skip
        rename_i kk' z' b k' heq
        injection heq with heq heq2; subst heq; subst heq2
        split at hv
        · rename_i hko
          split at hv
          · rename_i es clock hma
            obtain ⟨L, en, hL, hheap, hER, hpw, hltc, hget⟩ := mapAt_run hR hma
            obtain ⟨_, _, he, r1, r2⟩ := hx.two
            simp only [List.map_cons, List.map_nil, List.cons.injEq, and_true] at he; obtain ⟨e1, e2⟩ := he
            rw [← e1] at r1; rw [← e2] at r2
            simp only [VRel] at r1
            obtain ⟨L', hL', hxv⟩ := r1
            rw [hL] at hL'; injection hL' with hL'; subst hL'
            have hck := keyCheck_run hkk hko r2 false w
            have hnc : ∀ c t f, Obj.map en clock ≠ .cells c t f := by rintro _ _ _ h; cases h
            obtain ⟨zv, hzr, hzrel⟩ := zeroV_run (β := β) hz w
            split at hv
            · rename_i i v0 born hlook
              injection hv with hv; injection hv with g1 g2; subst g1; subst g2
              obtain ⟨s, hf, hrun⟩ := findKey_run hkk r2 hER hlook w
              simp only [Found] at hf
              obtain ⟨x, k0, f1, f2, f3, f4, f5, f6, rfl⟩ := hf
              have f1' : en[i]? = some x := by simpa using f1
              have hst := keyStays_run (P := P) (sameBits_key f3 r2 f4) w
              have hborn := pairwise_set_born (e' := (k', v0, born)) f2 rfl
              obtain ⟨q1, q2⟩ := set_map hR hget hL (es' := es.set i (k', v0, born)) (clock' := clock) (en.modify i fun e => { e with key := a.eval k })
                (by rw [modify_toList en i x f1']; exact hER.set r2 f5 f6) (by rw [hborn]; exact hpw) (lt_of_borns hltc hborn)
              refine EffRes.of_v ⟨.tuple #[x.val, goInt x.born], _, β, ?_, Ext.refl _ _, q1, ?_, q2⟩
              · simp [Instr.mapEntry, run_underlying hu, hxv, run_getObj' hheap hnc, hck, hrun, f1', hst, run_setObj' hheap hnc]
              · simp only [VRel]
                refine ⟨_, rfl, ?_⟩
                simp only [VRels]
                exact ⟨_, _, rfl, f5, _, _, rfl, by simp only [VRel, goInt, f6], rfl⟩
            · rename_i hlook
              injection hv with hv; injection hv with g1 g2; subst g1; subst g2
              obtain ⟨s, hf, hrun⟩ := findKey_run hkk r2 hER hlook w
              simp only [Found] at hf; subst hf
              obtain ⟨q1, q2⟩ := set_map hR hget hL (es' := es ++ [(k', z, clock)]) (clock' := clock + 1) (en.push { key := a.eval k, val := zv, born := clock })
                (by rw [Array.toList_push]; exact hER.append (by simp only [ERels]; exact ⟨_, [], rfl, r2, hzrel, rfl, rfl⟩))
                (by
                  rw [List.map_append, List.pairwise_append]
                  refine ⟨hpw, by simp, fun x hx y hy => ?_⟩
                  obtain ⟨e, he, rfl⟩ := List.mem_map.1 hx
                  simp at hy; subst hy
                  exact hltc e he)
                (fun e he => by
                  rcases List.mem_append.1 he with h | h
                  · exact Nat.lt_succ_of_lt (hltc e h)
                  · simp at h; subst h; exact Nat.lt_succ_self _)
              refine EffRes.of_v ⟨.tuple #[zv, goInt clock], _, β, ?_, Ext.refl _ _, q1, ?_, q2⟩
              · simp [Instr.mapEntry, run_underlying hu, hxv, run_getObj' hheap hnc, hck, hrun, hzr, run_setObj' hheap hnc]
              · simp only [VRel]
                refine ⟨_, rfl, ?_⟩
                simp only [VRels]
                exact ⟨_, _, rfl, hzrel, _, _, rfl, by simp only [VRel, goInt], rfl⟩
            · cases hv
          · cases hv
        · cases hv
      · cases hc
    · cases hc
  | entryStore t m s val =>
    simp only [cOp] at hc; injection hc with hc; injection hc with h1 h2; subst h1; subst h2
    simp only [effOp] at hv
    split at hv <;> first | (cases hv; done) | (rename_i h; cases h; done) | skip
    rename_i b j s' v' _
    split at hv
    · rename_i es clock hma
      obtain ⟨L, en, hL, hheap, hER, hpw, hltc, hget⟩ := mapAt_run hR hma
      split at hv
      · rename_i i hfi
        split at hv
        · rename_i k0 v0 born hgi
          injection hv with hv; injection hv with g1 g2; subst g1; subst g2
          obtain ⟨_, _, _, he, r1, r2, r3⟩ := hx.three
          simp only [List.map_cons, List.map_nil, List.cons.injEq, and_true] at he; obtain ⟨e1, e2, e3⟩ := he
          rw [← e1] at r1; rw [← e2] at r2; rw [← e3] at r3
          simp only [VRel] at r1 r2
          obtain ⟨L', hL', hxv⟩ := r1
          rw [hL] at hL'; injection hL' with hL'; subst hL'
          have hnc : ∀ c t f, Obj.map en clock ≠ .cells c t f := by rintro _ _ _ h; cases h
          obtain ⟨x, f1, f2, f3, f4⟩ := hER.get hgi
          have f1' : en[i]? = some x := by simpa using f1
          have hfi' := find_idx hER hfi
          have hfi2 : en.findIdx? (fun e => (e.born : Int) == s') = some i := by obtain ⟨l⟩ := en; simpa using hfi'
          have hborn := pairwise_set_born (e' := (k0, v', born)) hgi rfl
          obtain ⟨q1, q2⟩ := set_map hR hget hL (es' := es.set i (k0, v', born)) (clock' := clock) (en.modify i fun e => { e with val := a.eval val })
            (by rw [modify_toList en i x f1']; exact hER.set f2 r3 f4) (by rw [hborn]; exact hpw) (lt_of_borns hltc hborn)
          refine EffRes.of_u ⟨_, β, ?_, Ext.refl _ _, q1, q2⟩
          simp [Instr.entryStore, hxv, run_getObj' hheap hnc, asInt, asIntOf, r2, hfi2, run_setObj' hheap hnc]
        · cases hv
      · cases hv
    · cases hv
  | range t x =>
    simp only [cOp] at hc
    split at hc
    · rename_i kt et hu
      injection hc with hc; injection hc with h1 h2; subst h1; subst h2
      simp only [effOp] at hv
      split at hv <;> first | (cases hv; done) | (rename_i h; cases h; done) | skip
      rename_i b _
      split at hv
      · rename_i es clock hma
        injection hv with hv; injection hv with g1 g2; subst g1; subst g2
        obtain ⟨L, en, hL, hheap, hER, hpw, hltc, hget⟩ := mapAt_run hR hma
        obtain ⟨_, he, r1⟩ := hx.one
        simp only [List.map_cons, List.map_nil, List.cons.injEq, and_true] at he; rw [← he] at r1
        simp only [VRel] at r1
        obtain ⟨L', hL', hxv⟩ := r1
        rw [hL] at hL'; injection hL' with hL'; subst hL'
        have hnc : ∀ c t f, Obj.map en clock ≠ .cells c t f := by rintro _ _ _ h; cases h
        have hk := Inj.put_keep (L := ⟨w.heap.size, 0, 0⟩) hR.fresh
        refine EffRes.of_v ⟨.pointer (some ⟨w.heap.size, 0, none⟩), { w with heap := w.heap.push (.mapIter (some L.blk) clock #[] clock) }, β.put H.next ⟨w.heap.size, 0, 0⟩, ?_, push_ext hR.fresh, ?_, ?_, ?_⟩
        · simp [Instr.range, run_underlying hu, hxv, run_getObj' hheap hnc]
        · exact hR.alloc (.iter b clock []) _ ⟨w.heap.size, 0, 0⟩ hR.fresh (hR.none_of_ge (Nat.le_refl _)) rfl (fun k => Heap.get_push H k _) (by simp) (by simp) (fun w' hw' => by
            simp only [ORel]; exact ⟨L, hk _ _ hL, by simpa using hw', trivial⟩)
        · simp only [VRel]; exact ⟨_, Inj.put_same, rfl⟩
        · exact ⟨by simp, fun k hk' hn => by rw [Heap.get_push, if_neg (by omega)]; exact hn⟩
      · cases hv
    · cases hc
  | call c =>
    simp only [cOp] at hc
    split at hc
    · injection hc with hc; injection hc with h1 _; subst h1; simp [kd] at hk
    · rename_i b hcal
      obtain ⟨callee, args, argTypes⟩ := c
      simp only at hcal hc; subst hcal
      have hexec : ∀ (s : Sem Value), (∀ cs, builtin b argTypes type cs (args.map a.eval) = (do pure (Next.value (← s)))) →
          (∃ u w' β', s.run P w = .ok u w' ∧ Ext H.next β β' ∧ Rel P w0 prv β' H' w' ∧ VRel P β' v u ∧ Evo H H') →
          EffRes P w0 prv β H H' v ((execOp a.eval ⟨dst, .call ⟨.builtin b, args, argTypes⟩, type, pos, after, guard⟩).run P w) := by
        intro s hb hs
        obtain ⟨u, w', β', h1, h2⟩ := hs
        refine ⟨.value u, u, w', β', ?_, .inl rfl, h2⟩
        simp only [execOp, resolve, invoke, Sem.run_bind, Sem.run_pure, Result.andThen_ok, hb, h1]
      have argOne : ∀ {x0 : AV}, xs = [x0] → ys = args.toList → ∃ x, args = #[x] ∧ VRel P β x0 (a.eval x) := by
        rintro x0 rfl rfl
        obtain ⟨u, he, r1⟩ := hx.one
        cases hal : args.toList with
        | nil => rw [hal] at he; simp at he
        | cons x r =>
          rw [hal] at he
          cases r with
          | cons y r => simp at he
          | nil =>
            simp only [List.map_cons, List.map_nil, List.cons.injEq, and_true] at he
            exact ⟨x, by apply Array.ext'; rw [hal], he ▸ r1⟩
      have argTwo : ∀ {x0 x1 : AV}, xs = [x0, x1] → ys = args.toList → ∃ x y, args = #[x, y] ∧ VRel P β x0 (a.eval x) ∧ VRel P β x1 (a.eval y) := by
        rintro x0 x1 rfl rfl
        obtain ⟨u, u', he, r1, r2⟩ := hx.two
        cases hal : args.toList with
        | nil => rw [hal] at he; simp at he
        | cons x r =>
          rw [hal] at he
          cases r with
          | nil => simp at he
          | cons y r =>
            cases r with
            | cons z r => simp at he
            | nil =>
              simp only [List.map_cons, List.map_nil, List.cons.injEq, and_true] at he
              exact ⟨x, y, by apply Array.ext'; rw [hal], he.1 ▸ r1, he.2 ▸ r2⟩
      have ty0 : ∀ {t : TypeId} {r : List TypeId}, argTypes.toList = t :: r → argTypes[0]? = some t := by
        intro t r h
        have : argTypes.toList[0]? = some t := by rw [h]; rfl
        simpa using this
      unfold cBuiltin at hc
      split at hc
      · (repeat' split at hc) <;> first | (cases hc; done) | (injection hc with hc; injection hc with h1 _; subst h1; simp [kd] at hk)
      · (repeat' split at hc) <;> first | (cases hc; done) | (injection hc with hc; injection hc with h1 _; subst h1; simp [kd] at hk)
      · (repeat' split at hc) <;> first | (cases hc; done) | (injection hc with hc; injection hc with h1 _; subst h1; simp [kd] at hk)
      · (repeat' split at hc) <;> first | (cases hc; done) | (injection hc with hc; injection hc with h1 _; subst h1; simp [kd] at hk)
      · -- append
        rename_i t u htys
        have hat : argTypes = #[t, u] := by apply Array.ext'; rw [htys]
        subst hat
        split at hc
        · rename_i e du ht hu
          split at hc
          · rename_i i z hi hz
            split at hc
            · cases hc
            · rename_i hcond
              simp only [not_or, Decidable.not_not] at hcond
              obtain ⟨hs0, hzl, hb0, _⟩ := hcond
              have plain : ((∃ e', du = .slice e') ∨ du = .string) → iop = .append e i.size i.bytes z false → ys = args.toList → EffRes P w0 prv β H H' v ((execOp a.eval ⟨dst, .call ⟨.builtin .append, args, #[t, u]⟩, type, pos, after, guard⟩).run P w) := by
                rintro hdu rfl hys
                simp only [effOp] at hv
                split at hv <;> first | (cases hv; done) | (rename_i h; cases h; done) | skip
                · rename_i e' sz y z' s x heq
                  injection heq with q1 q2 q3 q4 q5; subst q1; subst q2; subst q3
                  split at hv
                  · rename_i n l hsrc
                    obtain ⟨ox, oy, rfl, r1, r2⟩ := argTwo rfl hys
                    exact hexec _ (fun _ => rfl) (by rw [show #[ox, oy].map a.eval = #[a.eval ox, a.eval oy] by simp]; exact append_sound hR ht hi hz hzl hs0 hb0 hu hdu r1 r2 hsrc hv)
                  · cases hv
              split at hc
              · rename_i k
                injection hc with hc; injection hc with h1 h2; subst h1; subst h2
                simp only [effOp] at hv
                split at hv <;> first | (cases hv; done) | (rename_i h; cases h; done) | skip
                · rename_i e' sz y z' k' n heq
                  injection heq with q1 q2 q3 q4 q5; subst q1; subst q2; subst q3; subst q4
                  split at hv
                  · rename_i hn
                    obtain ⟨ox, oy, rfl, r1, r2⟩ := argTwo rfl rfl
                    simp only [VRel] at r1 r2
                    refine hexec (Builtin.append_ #[t, u] type (#[ox, oy].map a.eval)) (fun _ => rfl) ?_
                    rw [show #[ox, oy].map a.eval = #[a.eval ox, a.eval oy] by simp]
                    obtain ⟨zi, hzi, hzrel⟩ : ∃ zv, i.zero = some zv ∧ VRels P β z zv.cells.toList := by
                      unfold zeroCs at hz
                      rw [hi] at hz
                      simp only at hz
                      split at hz
                      · rename_i zv hzv; exact ⟨zv, hzv, cCells_sound hz⟩
                      · cases hz
                    have hone : z.all AV.one = true := (zeroCs_run (β := β) hz w).choose_spec.2.2
                    have hzis : zi.cells.size = i.size := by have := hzrel.length; simp only [Array.length_toList] at this; omega
                    unfold appendA at hv
                    split at hv
                    · rename_i hn0
                      injection hv with hv; injection hv with g1 g2; subst g1; subst g2
                      have hn0' : n = 0 := by omega
                      subst hn0'
                      refine ⟨.slice none 0 0, w, β, ?_, Ext.refl _ _, hR, by simp [VRel], Evo.refl _⟩
                      rw [r1, r2]
                      simp [Builtin.append_, run_underlying ht, run_underlying hu, run_szOf (szOf_info hi), asInt, asIntOf, show IntKind.i64.wrap 0 = 0 by decide, run_typeInfo' hi]
                    · rename_i hn0
                      simp only at hv
                      split at hv
                      · rename_i hbd
                        have hnn : ((n.toNat : Nat) : Int) = n := by omega
                        have hpos : 0 < i.size := by omega
                        have hrun := Lib.run_append_nil_zeros w t u type e i zi k' k ht hu hi hzi n.toNat (by omega) hpos (by omega) (by omega)
                        rw [hnn] at hrun
                        have hgew : n.toNat ≤ grownCap w n.toNat 0 e := grownCap_ge w n.toNat 0 e
                        have hzc : ∀ q, (Builtin.zeroCells zi.cells q).toList = ((Array.range (q * i.size)).map fun k => zi.cells[k % zi.cells.size]!).toList := by
                          intro q; simp [Builtin.zeroCells, hzis]
                        have hzr : VRels P β (zeros z n.toNat) (Builtin.zeroCells zi.cells n.toNat).toList := by rw [hzc]; exact zeros_rel hzrel hzis hpos _
                        obtain ⟨β', p1, p2, p3, p4⟩ := grow_row hR hi hpos (w.drawn + 1) (m := n.toNat) (cap := grownCap w n.toNat 0 e) (l := zeros z n.toNat) (olds := []) (news := (Builtin.zeroCells zi.cells n.toNat).toList)
                          (rest := (Builtin.zeroCells zi.cells (grownCap w n.toNat 0 e - n.toNat)).toList) (by simpa using hzr) (by rw [zeros_length, hzl]) (zeros_one hone _) hgew
                          (by rw [Array.length_toList, zeroCells_length, hzis]) hv (Builtin.zeroCells zi.cells n.toNat ++ Builtin.zeroCells zi.cells (grownCap w n.toNat 0 e - n.toNat)) (by simp)
                        refine ⟨_, _, β', ?_, p1, p2, p3, p4⟩
                        rw [r1, r2]
                        exact hrun
                      · cases hv
                  · cases hv
                · rename_i e' sz y z' b o m c e2 k' n heq
                  injection heq with q1 q2 q3 q4 q5; subst q1; subst q2; subst q3; subst q4
                  split at hv
                  · rename_i hn
                    obtain ⟨ox, oy, rfl, r1, r2⟩ := argTwo rfl rfl
                    have r2' := r2
                    simp only [VRel] at r2
                    refine hexec (Builtin.append_ #[t, u] type (#[ox, oy].map a.eval)) (fun _ => rfl) ?_
                    rw [show #[ox, oy].map a.eval = #[a.eval ox, a.eval oy] by simp, r2]
                    have hnn : ((n.toNat : Nat) : Int) = n := by omega
                    have hz2 := append_zeros (k := k') (ty := type) hR ht hi hz hzl hs0 hb0 hu r1 (n := n.toNat) (by omega) hn.2.2 hv
                    rw [hnn] at hz2
                    exact hz2
                  · cases hv
              · injection hc with hc; injection hc with h1 h2
                exact plain (.inl ⟨_, rfl⟩) h1.symm h2.symm
              · injection hc with hc; injection hc with h1 h2
                exact plain (.inr rfl) h1.symm h2.symm
              · cases hc
          · cases hc
        · cases hc
      · -- copy
        rename_i t r htys
        have ht0 := ty0 htys
        split at hc
        · rename_i e hu
          split at hc
          · rename_i sz hsz
            injection hc with hc; injection hc with h1 h2; subst h1
            simp only [effOp] at hv
            split at hv <;> first | (cases hv; done) | (rename_i h; cases h; done) | skip
            rename_i sz' d x heq
            injection heq with heq; subst heq
            split at hv
            · rename_i n l hsrc
              obtain ⟨ox, oy, rfl, r1, r2⟩ := argTwo rfl h2.symm
              obtain ⟨news, hnv, hnl, hone, hlen, hfc⟩ := src_run hR r2 hsrc
              have hlen' : (Builtin.lenOf (a.eval oy)).run P w = .ok n w := by rw [hlen]; rfl
              refine hexec (Builtin.copy_ argTypes type (#[ox, oy].map a.eval)) (fun _ => rfl) ?_
              rw [show #[ox, oy].map a.eval = #[a.eval ox, a.eval oy] by simp]
              split at hv
              · injection hv with hv; injection hv with g1 g2; subst g1; subst g2
                simp only [VRel] at r1
                have h0 := hfc w (fun _ => rfl) 0 (Nat.zero_le _)
                refine ⟨goInt 0, w, β, ?_, Ext.refl _ _, hR, by simp only [VRel, goInt], Evo.refl _⟩
                simp at h0
                simp [Builtin.copy_, ht0, run_underlying hu, r1, hlen', run_szOf hsz, h0, Nat.min_zero]
              · rename_i b o m c' e'
                simp only [VRel] at r1
                obtain ⟨L, ad, cap, j, hL, hj, hxv, hncap, hadr, _⟩ := r1
                split at hv
                · rename_i hmin
                  injection hv with hv; injection hv with g1 g2; subst g1; subst g2
                  have h0 := hfc w (fun _ => rfl) 0 (Nat.zero_le _)
                  refine ⟨goInt 0, w, β, ?_, Ext.refl _ _, hR, by simp only [VRel, goInt], Evo.refl _⟩
                  simp at h0
                  simp [Builtin.copy_, ht0, run_underlying hu, hxv, hlen', run_szOf hsz, hmin, h0, storeCells]
                · rename_i hmin
                  split at hv
                  · rename_i H1 hw
                    injection hv with hv; injection hv with g1 g2; subst g1; subst g2
                    have hle : Nat.min n m ≤ n := Nat.min_le_left _ _
                    have hle2 : Nat.min n m ≤ m := Nat.min_le_right _ _
                    obtain ⟨L', w', hL', hst, hR', hev, _⟩ := write_run hR hw (hnv.take (Nat.min n m * sz)) (List.all_eq_true.2 fun y hy => List.all_eq_true.1 hone y (List.mem_of_mem_take hy))
                    rw [hL] at hL'; injection hL' with hL'; subst hL'
                    have hf := hfc w (fun _ => rfl) (Nat.min n m) hle
                    refine ⟨goInt (Nat.min n m : Nat), w', β, ?_, Ext.refl _ _, hR', by simp only [VRel, goInt], hev⟩
                    rw [← hadr (by omega)] at hst
                    simp [Builtin.copy_, ht0, run_underlying hu, hxv, hlen', run_szOf hsz, hf, hst]
                  · cases hv
              · cases hv
            · cases hv
          · cases hc
        · cases hc
      · -- delete
        rename_i t r htys
        have ht0 := ty0 htys
        split at hc
        · rename_i kt et hu
          split at hc
          · rename_i kk hkk
            injection hc with hc; injection hc with h1 h2; subst h1
            simp only [effOp] at hv
            split at hv <;> first | (cases hv; done) | (rename_i h; cases h; done) | skip
            rename_i kk' b k' heq
            injection heq with heq; subst heq
            split at hv
            · rename_i hko
              split at hv
              · rename_i es clock hma
                obtain ⟨L, en, hL, hheap, hER, hpw, hltc, hget⟩ := mapAt_run hR hma
                obtain ⟨ox, oy, rfl, r1, r2⟩ := argTwo rfl h2.symm
                simp only [VRel] at r1
                obtain ⟨L', hL', hxv⟩ := r1
                rw [hL] at hL'; injection hL' with hL'; subst hL'
                have hck := keyCheck_run hkk hko r2 en.isEmpty w
                have hnc : ∀ c t f, Obj.map en clock ≠ .cells c t f := by rintro _ _ _ h; cases h
                refine hexec (Builtin.delete_ argTypes type (#[ox, oy].map a.eval)) (fun _ => rfl) ?_
                rw [show #[ox, oy].map a.eval = #[a.eval ox, a.eval oy] by simp]
                split at hv
                · rename_i i v0 born hlook
                  injection hv with hv; injection hv with g1 g2; subst g1; subst g2
                  obtain ⟨s, hf, hrun⟩ := findKey_run hkk r2 hER hlook w
                  simp only [Found] at hf
                  obtain ⟨x, k0, f1, f2, f3, f4, f5, f6, rfl⟩ := hf
                  have hel : (en.eraseIdxIfInBounds i).toList = en.toList.eraseIdx i := by
                    obtain ⟨l⟩ := en
                    have hlt : i < l.length := by
                      rcases Nat.lt_or_ge i l.length with h' | h'
                      · exact h'
                      · simp [List.getElem?_eq_none h'] at f1
                    simp [Array.eraseIdxIfInBounds, hlt]
                  have hsub : (es.eraseIdx i).map (·.2.2) = (es.map (·.2.2)).eraseIdx i := erase_map es i
                  obtain ⟨q1, q2⟩ := set_map hR hget hL (es' := es.eraseIdx i) (clock' := clock) (en.eraseIdxIfInBounds i) (by rw [hel]; exact hER.erase i)
                    (by rw [hsub]; exact hpw.sublist (List.eraseIdx_sublist _ _)) (fun e he => hltc e (List.mem_of_mem_eraseIdx he))
                  refine ⟨.tuple #[], _, β, ?_, Ext.refl _ _, q1, vrel_undef, q2⟩
                  simp [Builtin.delete_, ht0, run_underlying hu, hxv, run_getObj' hheap hnc, hck, hrun, run_setObj' hheap hnc]
                · rename_i hlook
                  injection hv with hv; injection hv with g1 g2; subst g1; subst g2
                  obtain ⟨s, hf, hrun⟩ := findKey_run hkk r2 hER hlook w
                  simp only [Found] at hf; subst hf
                  obtain ⟨q1, q2⟩ := set_map hR hget hL (es' := es) (clock' := clock) en hER hpw hltc
                  refine ⟨.tuple #[], _, β, ?_, Ext.refl _ _, q1, vrel_undef, q2⟩
                  simp [Builtin.delete_, ht0, run_underlying hu, hxv, run_getObj' hheap hnc, hck, hrun, run_setObj' hheap hnc]
                · cases hv
              · cases hv
            · cases hv
          · cases hc
        · cases hc
      · -- clear
        rename_i t r htys
        have ht0 := ty0 htys
        split at hc
        · rename_i e hu
          split at hc
          · rename_i i z hi hz
            split at hc
            · cases hc
            · rename_i hzl
              simp only [not_or, Decidable.not_not] at hzl
              obtain ⟨hzl, hzi0⟩ := hzl
              injection hc with hc; injection hc with h1 h2; subst h1
              simp only [effOp] at hv
              split at hv <;> first | (cases hv; done) | (rename_i h; cases h; done) | skip
              · rename_i z' b o n c' e' heq
                injection heq with heq; subst heq
                obtain ⟨ox, rfl, r1⟩ := argOne rfl h2.symm
                simp only [VRel] at r1
                obtain ⟨L, ad, cap, j, hL, hj, hxv, hncap, hadr, _⟩ := r1
                refine hexec (Builtin.clear_ argTypes type (#[ox].map a.eval)) (fun _ => rfl) ?_
                rw [show #[ox].map a.eval = #[a.eval ox] by simp]
                split at hv
                · rename_i hn0
                  subst hn0
                  injection hv with hv; injection hv with g1 g2; subst g1; subst g2
                  refine ⟨.tuple #[], w, β, ?_, Ext.refl _ _, hR, vrel_undef, Evo.refl _⟩
                  simp [Builtin.clear_, ht0, run_underlying hu, hxv]
                · rename_i hn0
                  split at hv
                  · rename_i H1 hw
                    injection hv with hv; injection hv with g1 g2; subst g1; subst g2
                    obtain ⟨zv, hzr, hzv, hz1⟩ := zeroCs_run (β := β) hz w
                    have hzs : zv.cells.size = z.length := by have := hzv.length; simpa using this
                    have hlz : z.length = i.size := by omega
                    by_cases hi0 : z.length = 0
                    · omega
                    · have hzr2 : VRels P β (zeros z n) (Builtin.zeroCells zv.cells n).toList := by
                        have hzc : (Builtin.zeroCells zv.cells n).toList = ((Array.range (n * z.length)).map fun k => zv.cells[k % zv.cells.size]!).toList := by
                          simp [Builtin.zeroCells, hzs]
                        rw [hzc]; exact zeros_rel hzv hzs (by omega) n
                      obtain ⟨L', w', hL', hst, hR', hev, _⟩ := write_run hR hw hzr2 (zeros_one hz1 n)
                      rw [hL] at hL'; injection hL' with hL'; subst hL'
                      rw [← hadr (by omega)] at hst
                      refine ⟨.tuple #[], w', β, ?_, Ext.refl _ _, hR', vrel_undef, hev⟩
                      obtain ⟨n, rfl⟩ : ∃ m, n = m + 1 := ⟨n - 1, by omega⟩
                      simp [Builtin.clear_, ht0, run_underlying hu, hxv, hzr, hst]
                  · cases hv
              · obtain ⟨ox, rfl, r1⟩ := argOne rfl h2.symm
                injection hv with hv; injection hv with g1 g2; subst g1; subst g2
                simp only [VRel] at r1
                refine hexec (Builtin.clear_ argTypes type (#[ox].map a.eval)) (fun _ => rfl) ⟨.tuple #[], w, β, ?_, Ext.refl _ _, hR, vrel_undef, Evo.refl _⟩
                simp [Builtin.clear_, ht0, run_underlying hu, r1]
          · cases hc
        · cases hc
      · cases hc
    · cases hc
  | makeMap t r =>
    cases r with
    | none => simp only [cOp] at hc; injection hc with hc; injection hc with h1 _; subst h1; simp [kd] at hk
    | some r => simp [cOp] at hc
  | next it b =>
    cases b with
    | false => simp only [cOp] at hc; injection hc with hc; injection hc with h1 _; subst h1; simp [kd] at hk
    | true => simp [cOp] at hc
  | makeFunc fn first captured =>
    cases fn with
    | func f => simp only [cOp] at hc; injection hc with hc; injection hc with h1 _; subst h1; simp [kd] at hk
    | _ => simp [cOp] at hc
  | binOp op t x y yt =>
    have hno : ∀ neg i, cEq P neg t = some i → kd i ≠ .eff := by
      intro neg i hi
      unfold cEq at hi
      (repeat' split at hi) <;> first | (cases hi; done) | (injection hi with hi; subst hi; intro h; cases h)
    cases op with
    | eql =>
      simp only [cOp, two] at hc
      split at hc
      · rename_i i hi; injection hc with hc; injection hc with h1 _; subst h1; exact absurd hk (hno _ _ hi)
      · cases hc
    | neq =>
      simp only [cOp, two] at hc
      split at hc
      · rename_i i hi; injection hc with hc; injection hc with h1 _; subst h1; exact absurd hk (hno _ _ hi)
      · cases hc
    | _ => simp only [cOp] at hc; injection hc with hc; injection hc with h1 _; subst h1; simp [kd] at hk
  | _ =>
    simp only [cOp] at hc
    (repeat' split at hc) <;> first | (cases hc; done) | (injection hc with hc; injection hc with h1 _; subst h1; simp [kd] at hk)

end
end Go.AE
