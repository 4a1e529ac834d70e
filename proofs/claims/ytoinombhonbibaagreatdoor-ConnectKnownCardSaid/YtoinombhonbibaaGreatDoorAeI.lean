/-
  Cells and maps: what is read.
-/
import Derived.Test.YtoinombhonbibaaGreatDoorAeH
import Derived.Laws.BytesString
set_option linter.unusedSimpArgs false
set_option linter.unusedVariables false
set_option linter.unusedSectionVars false
namespace Go.AE

section
variable {P : Program} {β : Inj} {ρ : Operand → Value} {w w0 : World} {prv : List (Nat × Obj)} {H : Heap}

theorem add_none (b o n : Nat) : (⟨b, o, none⟩ : Addr).add n = ⟨b, o + n, none⟩ := by
  unfold Addr.add; split <;> simp_all

theorem cell_at {b : Nat} {cs : Array Value} {ty : TypeId} {fz : Nat × Nat} (h : w.heap[b]? = some (.cells cs ty fz)) (o : Nat) : w.cell? ⟨b, o, none⟩ = cs[o]? := by
  simp [World.cell?, h]

/-- Cells that are read. -/
theorem read_cells (hR : Rel P w0 prv β H w) {b o n : Nat} {l : List AV} (h : H.read b o n = some l) : ∃ L vs, β b = some L ∧ (loadCells ⟨L.blk, L.off + o, none⟩ n).run P w = .ok vs.toArray w ∧ VRels P β l vs ∧ vs.length = n := by
  unfold Heap.read at h
  split at h
  · rename_i wr c hg
    obtain ⟨L, hL, hO⟩ := hR.obj b _ hg
    simp only [ORel] at hO
    obtain ⟨cs, ty, fz, h1, h2, h3, h4, h5⟩ := hO
    obtain ⟨rfl, hl⟩ := span_eq h
    have hv := (h4.drop o).take n
    refine ⟨L, _, hL, ?_, hv, by rw [hv.length, hl]⟩
    have hlen := hv.length
    rw [hl] at hlen
    have := run_loadCells_list (P := P) w ⟨L.blk, L.off + o, none⟩ (((((cs.toList.drop L.off).take c.length).drop o)).take n) (fun j v hj => by
      rw [add_none, cell_at h1]
      simp only [List.getElem?_take, List.getElem?_drop] at hj
      split at hj
      · split at hj
        · rw [show L.off + o + j = L.off + (o + j) by omega]; simpa using hj
        · cases hj
      · cases hj)
    rw [hlen] at this
    exact this
  · cases h

/-- One cell. -/
theorem read_cell (hR : Rel P w0 prv β H w) {b o : Nat} {a : AV} (h : H.read b o 1 = some [a]) : ∃ L v, β b = some L ∧ w.cell? ⟨L.blk, L.off + o, none⟩ = some v ∧ VRel P β a v := by
  obtain ⟨L, vs, hL, hrun, hv, hlen⟩ := read_cells hR h
  obtain ⟨v, rfl, hr⟩ := hv.one
  refine ⟨L, v, hL, ?_, hr⟩
  unfold Heap.read at h
  split at h
  · rename_i wr c hg
    obtain ⟨L', hL', hO⟩ := hR.obj b _ hg
    rw [hL] at hL'; injection hL' with hL'; subst hL'
    simp only [ORel] at hO
    obtain ⟨cs, ty, fz, h1, h2, h3, h4, h5⟩ := hO
    obtain ⟨e, hl⟩ := span_eq h
    have hlt : o < c.length := by
      have := congrArg List.length e
      simp only [List.length_cons, List.length_nil, List.length_take, List.length_drop] at this
      omega
    rw [cell_at h1]
    obtain ⟨u, hu⟩ : ∃ u, cs[L.off + o]? = some u := ⟨cs[L.off + o]'(by omega), by rw [Array.getElem?_eq_getElem]⟩
    have hrun' : (loadCells ⟨L.blk, L.off + o, none⟩ 1).run P w = .ok #[u] w := by
      simp [loadCells, loadCellsFrom, add_none, cell_at h1, hu]
    rw [hrun'] at hrun
    injection hrun with hrun
    have : [u] = [v] := by simpa using congrArg Array.toList hrun
    injection this with this; rw [hu, this]
  · cases h

theorem load_run (hR : Rel P w0 prv β H w) {t : TypeId} {k : Option Nat} (hk : ldK P t = some k) {b o : Nat} {v : AV} (h : H.load k b o = some v) :
    ∃ L u, β b = some L ∧ (loadVar t ⟨L.blk, L.off + o, none⟩).run P w = .ok u w ∧ VRel P β v u := by
  unfold Heap.load at h
  split at h
  · rename_i n
    split at h
    · rename_i l hl
      injection h with h; subst h
      obtain ⟨L, vs, hL, hrun, hv, _⟩ := read_cells hR hl
      obtain ⟨h1, h2⟩ := ldK_some hk w
      refine ⟨L, .agg vs.toArray, hL, by simp [loadVar, h1, h2, hrun], ?_⟩
      simp only [VRel]; exact ⟨_, rfl, by simpa using hv⟩
    · cases h
  · split at h
    · rename_i a hl
      injection h with h; subst h
      obtain ⟨L, u, hL, hc, hr⟩ := read_cell hR hl
      exact ⟨L, u, hL, by simp [loadVar, ldK_none hk w, hc], hr⟩
    · cases h

/-! ### Maps -/
theorem toBytes_ints : ∀ {l : List AV} {s : List UInt8} {vs : List Value}, toBytes l = some s → VRels P β l vs → ∃ ns : List Int, vs = ns.map (Value.int .u8) ∧ s = ns.map fun n => UInt8.ofNat n.toNat
  | [], s, vs, h, hv => by
    simp [toBytes] at h; subst h; simp [VRels] at hv; subst hv; exact ⟨[], rfl, rfl⟩
  | a :: r, s, vs, h, hv => by
    obtain ⟨v, us, rfl, h1, h2⟩ := hv.cons
    unfold toBytes at h
    split at h <;> first | (cases h; done) | skip
    · rename_i heq; cases heq
    · rename_i n r' heq
      injection heq with e1 e2; subst e1; subst e2
      split at h
      · rename_i l hl
        injection h with h; subst h
        obtain ⟨ns, rfl, rfl⟩ := toBytes_ints hl h2
        simp only [VRel] at h1; subst h1
        exact ⟨n :: ns, rfl, rfl⟩
      · cases h

theorem foldl_push : ∀ (ns : List Int) (s : ByteArray), (ns.foldl (fun r n => r.push (UInt8.ofNat n.toNat)) s).data.toList = s.data.toList ++ ns.map fun n => UInt8.ofNat n.toNat
  | [], s => by simp
  | n :: ns, s => by simp [foldl_push ns]

/-- what a key's kind says of its type. -/
theorem cKey_und {t : TypeId} {kk : KK} (h : cKey P t = some kk) : (kk = .one .bool ∧ P.underlying t = some .bool) ∨ (∃ j, kk = .one (.int j) ∧ P.underlying t = some (.int j)) ∨ (kk = .one .str ∧ P.underlying t = some .string) ∨
    (∃ ks, kk = .agg ks ∧ flatK P 8 t = some ks ∧ ((∃ fs, P.underlying t = some (.struct fs)) ∨ ∃ n e, P.underlying t = some (.array n e))) := by
  unfold cKey at h
  split at h
  · rename_i hu; injection h with h; exact .inl ⟨h.symm, hu⟩
  · rename_i j hu; injection h with h; exact .inr (.inl ⟨j, h.symm, hu⟩)
  · rename_i hu; injection h with h; exact .inr (.inr (.inl ⟨h.symm, hu⟩))
  · rename_i fs hu
    split at h
    · rename_i ks hks; injection h with h; exact .inr (.inr (.inr ⟨ks, h.symm, hks, .inl ⟨fs, hu⟩⟩))
    · cases h
  · rename_i n e hu
    split at h
    · rename_i ks hks; injection h with h; exact .inr (.inr (.inr ⟨ks, h.symm, hks, .inr ⟨n, e, hu⟩⟩))
    · cases h
  · cases h

theorem keyCheck_run {t : TypeId} {kk : KK} (hc : cKey P t = some kk) {k : AV} (hk : keyOk kk k = true) {v : Value} (hv : VRel P β k v) (em : Bool) (w : World) : (Instr.checkKey em 10000 t v).run P w = .ok () w := by
  have gen : ∀ n, P.underlying t = some .bool ∨ (∃ j, P.underlying t = some (.int j)) ∨ P.underlying t = some .string → (Instr.checkKey em (n + 1) t v).run P w = .ok () w := by
    rintro n (hu | ⟨j, hu⟩ | hu) <;> simp [Instr.checkKey, run_underlying hu]
  rcases cKey_und hc with ⟨_, hu⟩ | ⟨j, _, hu⟩ | ⟨_, hu⟩ | ⟨ks, rfl, hks, hu⟩
  · exact gen 9999 (.inl hu)
  · exact gen 9999 (.inr (.inl ⟨j, hu⟩))
  · exact gen 9999 (.inr (.inr hu))
  · unfold keyOk keyEq at hk
    cases k <;> first | (simp at hk; done) | skip
    rename_i l
    obtain ⟨r, hr⟩ := Option.isSome_iff_exists.1 hk
    simp only [VRel] at hv
    obtain ⟨vs, rfl, hvs⟩ := hv
    refine flat_check em 8 t ks hks 10000 (by omega) l _ r hvs hr (.agg vs) ?_ w
    unfold MkV
    rcases hu with ⟨fs, hu⟩ | ⟨n, e, hu⟩ <;> simp only [hu]

theorem ckEq_same {k : CK} {a b : AV} {r : Bool} (h : ckEq k a b = some r) {v u : Value} (hv : VRel P β a v) (hu : VRel P β b u) {d : TypeDesc}
    (hd : (k = .bool ∧ d = .bool) ∨ (∃ j, k = .int j ∧ d = .int j) ∨ (k = .str ∧ d = .string)) : Instr.sameNow d v u = some r := by
  rcases ckEq_cells h hv hu with ⟨rfl, x, y, rfl, rfl, rfl⟩ | ⟨j, rfl, x, y, rfl, rfl, rfl⟩ | ⟨rfl, x, y, rfl, rfl, rfl⟩
  · rcases hd with ⟨_, rfl⟩ | ⟨j, e, _⟩ | ⟨e, _⟩
    · rfl
    · cases e
    · cases e
  · rcases hd with ⟨e, _⟩ | ⟨j', e, rfl⟩ | ⟨e, _⟩
    · cases e
    · simp [Instr.sameNow]
    · cases e
  · rcases hd with ⟨e, _⟩ | ⟨j', e, _⟩ | ⟨_, rfl⟩
    · cases e
    · cases e
    · simp only [Instr.sameNow]; rw [beq_toListBytes]

/-- what a look-up gives, at both. -/
def Found (P : Program) (β : Inj) (kk : KK) (k : AV) (es : List (AV × AV × Nat)) (en : List MapEntry) : Option (Nat × AV × Nat) → Option (Nat × Value) → Prop
  | none, r => r = none
  | some (i, v, b), r => ∃ x k', en[i]? = some x ∧ es[i]? = some (k', v, b) ∧ keyEq kk k k' = some true ∧ VRel P β k' x.key ∧ VRel P β v x.val ∧ x.born = b ∧ r = some (i, x.val)

theorem findNow_run {kk : CK} {d : TypeDesc} (hd : (kk = .bool ∧ d = .bool) ∨ (∃ j, kk = .int j ∧ d = .int j) ∨ (kk = .str ∧ d = .string)) {k : AV} {vk : Value} (hk : VRel P β k vk) :
    ∀ {es : List (AV × AV × Nat)} {en : List MapEntry} {r : Option (Nat × AV × Nat)}, ERels P β es en → mlook (.one kk) k es = some r →
      ∃ s, Found P β (.one kk) k es en r s ∧ ∀ i0, Instr.findNow d vk en i0 = some (s.map fun p => (p.1 + i0, p.2))
  | [], en, r, he, hm => by
    simp [ERels] at he; subst he; simp [mlook] at hm; subst hm
    exact ⟨none, rfl, fun i0 => rfl⟩
  | (k', v, b) :: es, en, r, he, hm => by
    simp only [ERels] at he
    obtain ⟨x, en', rfl, h1, h2, h3, h4⟩ := he
    simp only [mlook, keyEq] at hm
    split at hm
    · rename_i hq
      injection hm with hm; subst hm
      refine ⟨some (0, x.val), ⟨x, k', rfl, rfl, by simp [keyEq, hq], h1, h2, h3, rfl⟩, fun i0 => ?_⟩
      simp [Instr.findNow, ckEq_same hq hk h1 hd]
    · rename_i hq
      have hs := ckEq_same hq hk h1 hd
      split at hm
      · rename_i i v' b' hrec
        injection hm with hm; subst hm
        obtain ⟨s, hf, hn⟩ := findNow_run hd hk h4 hrec
        simp only [Found] at hf
        obtain ⟨x', k'', f1, f2, f3, f4, f5, f6, rfl⟩ := hf
        refine ⟨some (i + 1, x'.val), ⟨x', k'', by simpa using f1, by simpa using f2, f3, f4, f5, f6, rfl⟩, fun i0 => ?_⟩
        simp only [Instr.findNow, hs, hn, Option.map_some]
        congr 3; omega
      · rename_i hrec
        injection hm with hm; subst hm
        obtain ⟨s, hf, hn⟩ := findNow_run hd hk h4 hrec
        simp only [Found] at hf; subst hf
        exact ⟨none, rfl, fun i0 => by simp only [Instr.findNow, hs, hn, Option.map_none]⟩
      · cases hm
    · cases hm

theorem findAsking_run {ks : List CK} {t : TypeId} (hks : flatK P 8 t = some ks) (hu : (∃ fs, P.underlying t = some (.struct fs)) ∨ ∃ n e, P.underlying t = some (.array n e)) {k : AV} {vk : Value} (hk : VRel P β k vk) (w : World) :
    ∀ {es : List (AV × AV × Nat)} {en : List MapEntry} {r : Option (Nat × AV × Nat)}, ERels P β es en → mlook (.agg ks) k es = some r →
      ∃ s, Found P β (.agg ks) k es en r s ∧ ∀ i0, (Instr.findAsking t vk en i0).run P w = .ok (s.map fun p => (p.1 + i0, p.2)) w
  | [], en, r, he, hm => by
    simp [ERels] at he; subst he; simp [mlook] at hm; subst hm
    exact ⟨none, rfl, fun i0 => rfl⟩
  | (k', v, b) :: es, en, r, he, hm => by
    simp only [ERels] at he
    obtain ⟨x, en', rfl, h1, h2, h3, h4⟩ := he
    simp only [mlook] at hm
    have eqr : ∀ r, keyEq (.agg ks) k k' = some r → (Op.equal t vk x.key).run P w = .ok r w := by
      intro r hq
      unfold keyEq at hq
      split at hq <;> first | (cases hq; done) | (rename_i h _ _ _; cases h; done) | skip
      · rename_i h; cases h
      · rename_i ks' as bs heq
        injection heq with heq; subst heq
        simp only [VRel] at hk h1
        obtain ⟨vs, rfl, hvs⟩ := hk
        obtain ⟨us, hxk, hus⟩ := h1
        rw [hxk]
        refine flat_eq 8 t ks hks 10000 (by omega) as bs _ _ r hvs hus hq _ _ ?_ ?_ w
        · unfold MkV; rcases hu with ⟨fs, hu⟩ | ⟨n, e, hu⟩ <;> simp only [hu]
        · unfold MkV; rcases hu with ⟨fs, hu⟩ | ⟨n, e, hu⟩ <;> simp only [hu]
    split at hm
    · rename_i hq
      injection hm with hm; subst hm
      refine ⟨some (0, x.val), ⟨x, k', rfl, rfl, hq, h1, h2, h3, rfl⟩, fun i0 => ?_⟩
      simp [Instr.findAsking, eqr _ hq]
    · rename_i hq
      have hs := eqr _ hq
      split at hm
      · rename_i i v' b' hrec
        injection hm with hm; subst hm
        obtain ⟨s, hf, hn⟩ := findAsking_run hks hu hk w h4 hrec
        simp only [Found] at hf
        obtain ⟨x', k'', f1, f2, f3, f4, f5, f6, rfl⟩ := hf
        refine ⟨some (i + 1, x'.val), ⟨x', k'', by simpa using f1, by simpa using f2, f3, f4, f5, f6, rfl⟩, fun i0 => ?_⟩
        simp only [Instr.findAsking, Sem.run_bind, hs, Result.andThen_ok, Bool.false_eq_true, if_false, hn, Option.map_some]
        congr 3; omega
      · rename_i hrec
        injection hm with hm; subst hm
        obtain ⟨s, hf, hn⟩ := findAsking_run hks hu hk w h4 hrec
        simp only [Found] at hf; subst hf
        exact ⟨none, rfl, fun i0 => by simp only [Instr.findAsking, Sem.run_bind, hs, Result.andThen_ok, Bool.false_eq_true, if_false, hn, Option.map_none]⟩
      · cases hm
    · cases hm

theorem findKey_run {t : TypeId} {kk : KK} (hc : cKey P t = some kk) {k : AV} {vk : Value} (hk : VRel P β k vk) {es : List (AV × AV × Nat)} {en : List MapEntry} {r : Option (Nat × AV × Nat)} (he : ERels P β es en)
    (hm : mlook kk k es = some r) (w : World) : ∃ s, Found P β kk k es en r s ∧ (Instr.findKey t vk en).run P w = .ok s w := by
  have one : ∀ c d, kk = .one c → P.underlying t = some d → ((c = .bool ∧ d = .bool) ∨ (∃ j, c = .int j ∧ d = .int j) ∨ (c = .str ∧ d = .string)) → ∃ s, Found P β kk k es en r s ∧ (Instr.findKey t vk en).run P w = .ok s w := by
    rintro c d rfl hu hd
    obtain ⟨s, hf, hn⟩ := findNow_run hd hk he hm
    refine ⟨s, hf, ?_⟩
    have := hn 0
    simp only [Nat.add_zero] at this
    have e : (s.map fun p => (p.1, p.2)) = s := by cases s <;> rfl
    rw [e] at this
    simp [Instr.findKey, run_underlying hu, this]
  rcases cKey_und hc with ⟨rfl, hu⟩ | ⟨j, rfl, hu⟩ | ⟨rfl, hu⟩ | ⟨ks, rfl, hks, hu⟩
  · exact one _ _ rfl hu (.inl ⟨rfl, rfl⟩)
  · exact one _ _ rfl hu (.inr (.inl ⟨j, rfl, rfl⟩))
  · exact one _ _ rfl hu (.inr (.inr ⟨rfl, rfl⟩))
  · obtain ⟨s, hf, hn⟩ := findAsking_run hks hu hk w he hm
    refine ⟨s, hf, ?_⟩
    have hn0 := hn 0
    simp only [Nat.add_zero] at hn0
    have e : (s.map fun p => (p.1, p.2)) = s := by cases s <;> rfl
    rw [e] at hn0
    have hnow : ∀ d, (d = .bool ∨ (∃ j, d = .int j) ∨ d = .string) ∨ Instr.findNow d vk en 0 = none ∨ en = [] := by
      intro d
      cases en with
      | nil => exact .inr (.inr rfl)
      | cons x en =>
        by_cases hb : d = .bool ∨ (∃ j, d = .int j) ∨ d = .string
        · exact .inl hb
        · refine .inr (.inl ?_)
          have : Instr.sameNow d vk x.key = none := by
            unfold Instr.sameNow
            split
            · exact absurd (.inr (.inl ⟨_, rfl⟩)) hb
            · exact absurd (.inr (.inr rfl)) hb
            · exact absurd (.inl rfl) hb
            · rfl
          simp [Instr.findNow, this]
    obtain ⟨d, hd, hnb⟩ : ∃ d, P.underlying t = some d ∧ ¬ (d = .bool ∨ (∃ j, d = .int j) ∨ d = .string) := by
      rcases hu with ⟨fs, hu⟩ | ⟨n, e, hu⟩
      · exact ⟨_, hu, by rintro (h | ⟨_, h⟩ | h) <;> cases h⟩
      · exact ⟨_, hu, by rintro (h | ⟨_, h⟩ | h) <;> cases h⟩
    rcases hnow d with h | h | h
    · exact absurd h hnb
    · simp [Instr.findKey, run_underlying hd, h, hn0]
    · subst h
      have : s = none := by
        cases s with
        | none => rfl
        | some p =>
          cases r with
          | none => simp [Found] at hf
          | some q => obtain ⟨i, v, b⟩ := q; simp only [Found] at hf; obtain ⟨_, _, h1, _⟩ := hf; simp at h1
      subst this
      simp [Instr.findKey, run_underlying hd, Instr.findNow]

theorem mapAt_run (hR : Rel P w0 prv β H w) {b : Nat} {es : List (AV × AV × Nat)} {clock : Nat} (h : H.mapAt b = some (es, clock)) :
    ∃ L en, β b = some L ∧ w.heap[L.blk]? = some (.map en clock) ∧ ERels P β es en.toList ∧ (es.map (·.2.2)).Pairwise (· < ·) ∧ (∀ e ∈ es, e.2.2 < clock) ∧ H.get b = some (.map es clock) := by
  unfold Heap.mapAt at h
  split at h
  · rename_i es' c' hg
    injection h with h; injection h with h1 h2; subst h1; subst h2
    obtain ⟨L, hL, hO⟩ := hR.obj b _ hg
    simp only [ORel] at hO
    obtain ⟨en, h1, h2, h3, h4⟩ := hO
    exact ⟨L, en, hL, h1, h2, h3, h4, hg⟩
  · cases h

theorem run_getObj' {r : Nat} {o : Obj} (h : w.heap[r]? = some o) (hc : ∀ c t f, o ≠ .cells c t f) : (getObj r).run P w = .ok o w := by
  cases o <;> first | exact absurd rfl (hc _ _ _) | simp [getObj, Sem.run, h]
theorem run_setObj' {r : Nat} {o o' : Obj} (h : w.heap[r]? = some o) (hc : ∀ c t f, o ≠ .cells c t f) : (setObj r o').run P w = .ok () { w with heap := w.heap.setIfInBounds r o' } := by
  cases o <;> first | exact absurd rfl (hc _ _ _) | simp [setObj, Sem.run, h]

theorem ERels.length : ∀ {es : List (AV × AV × Nat)} {en : List MapEntry}, ERels P β es en → en.length = es.length
  | [], en, h => by simp [ERels] at h; subst h; rfl
  | e :: r, en, h => by simp only [ERels] at h; obtain ⟨x, en', rfl, _, _, _, h⟩ := h; simp [ERels.length h]

theorem ERels.get : ∀ {es : List (AV × AV × Nat)} {en : List MapEntry} {i : Nat} {e : AV × AV × Nat}, ERels P β es en → es[i]? = some e → ∃ x, en[i]? = some x ∧ VRel P β e.1 x.key ∧ VRel P β e.2.1 x.val ∧ x.born = e.2.2
  | [], en, i, e, h, hi => by simp at hi
  | e' :: r, en, i, e, h, hi => by
    simp only [ERels] at h; obtain ⟨x, en', rfl, h1, h2, h3, h⟩ := h
    cases i with
    | zero => simp at hi; subst hi; exact ⟨x, by simp, h1, h2, h3⟩
    | succ i => simpa using ERels.get h (by simpa using hi)

theorem find_born : ∀ {es : List (AV × AV × Nat)} {en : List MapEntry} {s : Nat} {e : AV × AV × Nat}, ERels P β es en → es.find? (fun e => e.2.2 == s) = some e →
    ∃ x, en.find? (fun x => x.born == s) = some x ∧ VRel P β e.1 x.key ∧ VRel P β e.2.1 x.val ∧ x.born = e.2.2
  | [], en, s, e, h, hf => by simp at hf
  | e' :: r, en, s, e, h, hf => by
    simp only [ERels] at h; obtain ⟨x, en', rfl, h1, h2, h3, h⟩ := h
    simp only [List.find?_cons] at hf ⊢
    rw [h3]
    split at hf
    · rename_i hs; injection hf with hf; subst hf; exact ⟨x, rfl, h1, h2, h3⟩
    · rename_i hs
      obtain ⟨y, hy⟩ := find_born h hf
      exact ⟨y, hy.1, hy.2⟩

/-- An operation that reads is the model's. -/
theorem read_sound (hR : Rel P w0 prv β H w) {o : Oper} {iop : IOp} {ys : List Operand} (hc : cOp P o.op = some (iop, ys)) (hk : kd iop = .read) {xs : List AV} (hx : VRels P β xs (ys.map ρ)) {v : AV}
    (hv : readOp iop xs H = some v) : Gives P β (execOp ρ o) v w := by
  obtain ⟨dst, op, type, pos, after, guard⟩ := o
  simp only at hc
  cases op with
  | load t a =>
    simp only [cOp] at hc
    split at hc
    · rename_i k hk'
      injection hc with hc; injection hc with h1 h2; subst h1; subst h2
      simp only [readOp] at hv
      split at hv <;> first | (cases hv; done) | (rename_i h; cases h; done) | skip
      rename_i k' b o heq
      injection heq with heq; subst heq
      obtain ⟨_, he, r1⟩ := hx.one
      simp only [List.map_cons, List.map_nil, List.cons.injEq, and_true] at he; rw [← he] at r1
      simp only [VRel] at r1
      obtain ⟨L, hL, hxv⟩ := r1
      obtain ⟨L', u, hL', hrun, hr⟩ := load_run hR hk' hv
      rw [hL] at hL'; injection hL' with hL'; subst hL'
      exact Gives.of_v ⟨u, by simp [Instr.loadAt, Instr.sureAddr, hxv, hrun], hr⟩
    · cases hc
  | convert s d x =>
    simp only [cOp] at hc
    split at hc
    · injection hc with hc; injection hc with h1 h2; subst h1; simp [kd] at hk
    · injection hc with hc; injection hc with h1 h2; subst h1; simp [kd] at hk
    · rename_i e hs hd
      split at hc
      · rename_i he
        split at hc
        · rename_i hsz
          injection hc with hc; injection hc with h1 h2; subst h1; subst h2
          obtain ⟨_, hee, r1⟩ : ∃ u, ρ x = u ∧ VRels P β xs [u] := ⟨_, rfl, by simpa using hx⟩
          simp only [readOp] at hv
          split at hv <;> first | (cases hv; done) | (rename_i h; cases h; done) | skip
          · injection hv with hv; subst hv
            obtain ⟨_, he', r1⟩ := r1.one
            injection he' with he' _; subst he'; subst hee
            simp only [VRel] at r1
            refine Gives.of_v ⟨.string .empty, ?_, by simp only [VRel]; exact ⟨_, rfl, rfl⟩⟩
            rw [r1]
            simp [run_convert_bytes_string w s d e none 0 0 hs he hd, Conv.bytesToString]
          · rename_i b o n c e' _
            obtain ⟨_, he', r1⟩ := r1.one
            injection he' with he' _; subst he'; subst hee
            simp only [VRel] at r1
            obtain ⟨L, ad, cap, i, hL, _, hxv, hncap, hadr, _⟩ := r1
            split at hv
            · rename_i l hl
              split at hv
              · rename_i str hstr
                simp only [forceL_eq] at hv; injection hv with hv; subst hv
                have key : ∃ ns : List Int, (loadCells ad n).run P w = .ok (ns.map (Value.int .u8)).toArray w ∧ str = ns.map fun n => UInt8.ofNat n.toNat := by
                  split at hl
                  · rename_i hn0
                    injection hl with hl; subst hl; subst hn0
                    simp [toBytes] at hstr; subst hstr
                    exact ⟨[], by simp [loadCells, loadCellsFrom], rfl⟩
                  · rename_i hn0
                    obtain ⟨L', vs, hL', hrun, hvs, _⟩ := read_cells hR hl
                    rw [hL] at hL'; injection hL' with hL'; subst hL'
                    obtain ⟨ns, rfl, hns⟩ := toBytes_ints hstr hvs
                    exact ⟨ns, by rw [hadr (by omega)]; exact hrun, hns⟩
                obtain ⟨ns, hrun, rfl⟩ := key
                refine Gives.of_v ⟨.string (ns.foldl (fun r n => r.push (UInt8.ofNat n.toNat)) ByteArray.empty), ?_, ?_⟩
                · rw [hxv, run_convert_bytes_string w s d e (some ad) n cap hs he hd]
                  exact run_bytesToString w ad n cap ns hrun
                · simp only [VRel]
                  refine ⟨_, rfl, ?_⟩
                  rw [foldl_push]; simp
              · cases hv
            · cases hv
        · cases hc
      · cases hc
    · split at hc
      · split at hc
        · injection hc with hc; injection hc with h1 _; subst h1; simp [kd] at hk
        · cases hc
      · cases hc
    · split at hc
      · split at hc
        · injection hc with hc; injection hc with h1 _; subst h1; simp [kd] at hk
        · cases hc
      · cases hc
    · cases hc
  | lookup t x i ok =>
    simp only [cOp] at hc
    split at hc
    · rename_i kt et hu
      split at hc
      · rename_i kk z hkk hz
        injection hc with hc; injection hc with h1 h2; subst h1; subst h2
        simp only [readOp] at hv
        split at hv <;> first | (cases hv; done) | (rename_i h; cases h; done) | skip
        rename_i kk' z' ok' m k heq
        injection heq with e1 e2 e3; subst e1; subst e2; subst e3
        split at hv
        · rename_i hko
          obtain ⟨_, _, he, r1, r2⟩ := hx.two
          simp only [List.map_cons, List.map_nil, List.cons.injEq, and_true] at he; obtain ⟨e1, e2⟩ := he
          rw [← e1] at r1; rw [← e2] at r2
          obtain ⟨zv, hzr, hzrel⟩ := zeroV_run (β := β) hz w
          split at hv
          · rename_i i' v' b' hlook
            injection hv with hv; subst hv
            cases m <;> first | (simp at hlook; done) | skip
            rename_i b
            simp only at hlook
            split at hlook
            · rename_i es cl hma
              obtain ⟨L, en, hL, hheap, hER, _⟩ := mapAt_run hR hma
              obtain ⟨s, hf, hrun⟩ := findKey_run hkk r2 hER hlook w
              simp only [Found] at hf
              obtain ⟨x', k', f1, f2, f3, f4, f5, f6, rfl⟩ := hf
              simp only [VRel] at r1
              obtain ⟨L', hL', hxv⟩ := r1
              rw [hL] at hL'; injection hL' with hL'; subst hL'
              have hck := keyCheck_run hkk hko r2 en.isEmpty w
              refine Gives.of_v ⟨if ok then .tuple #[x'.val, .bool true] else x'.val, ?_, ?_⟩
              · simp [Instr.lookup, run_underlying hu, hxv, run_getObj' hheap (by rintro _ _ _ h; cases h), hck, hrun]
              · cases ok
                · exact f5
                · simp only [if_true, VRel]
                  refine ⟨_, rfl, ?_⟩
                  simp only [VRels]
                  exact ⟨_, _, rfl, f5, _, _, rfl, by simp only [VRel], rfl⟩
            · cases hlook
          · rename_i hlook
            injection hv with hv; subst hv
            have hfin : ∀ (en : Array MapEntry), (Instr.checkKey en.isEmpty 10000 kt (ρ i)).run P w = .ok () w := fun en => keyCheck_run hkk hko r2 en.isEmpty w
            have hres : VRel P β (if ok then .tup [z, .bool false] else z) (if ok then .tuple #[zv, .bool false] else zv) := by
              cases ok
              · exact hzrel
              · simp only [if_true, VRel]
                refine ⟨_, rfl, ?_⟩
                simp only [VRels]
                exact ⟨_, _, rfl, hzrel, _, _, rfl, by simp only [VRel], rfl⟩
            cases m <;> first | (simp at hlook; done) | skip
            · simp only [VRel] at r1
              have hrun : (Instr.findKey kt (ρ i) []).run P w = .ok none w := by
                obtain ⟨s, hf, hrun⟩ := findKey_run (es := []) (en := []) hkk r2 (by simp [ERels]) (r := none) (by simp [mlook]) w
                simp only [Found] at hf; subst hf; exact hrun
              have hck := hfin #[]
              refine Gives.of_v ⟨_, ?_, hres⟩
              simp at hck
              simp [Instr.lookup, run_underlying hu, r1, hck, hrun, hzr]
            · rename_i b
              simp only at hlook
              split at hlook
              · rename_i es cl hma
                obtain ⟨L, en, hL, hheap, hER, _⟩ := mapAt_run hR hma
                obtain ⟨s, hf, hrun⟩ := findKey_run hkk r2 hER hlook w
                simp only [Found] at hf; subst hf
                simp only [VRel] at r1
                obtain ⟨L', hL', hxv⟩ := r1
                rw [hL] at hL'; injection hL' with hL'; subst hL'
                have hck := hfin en
                refine Gives.of_v ⟨_, ?_, hres⟩
                simp [Instr.lookup, run_underlying hu, hxv, run_getObj' hheap (by rintro _ _ _ h; cases h), hck, hrun, hzr]
              · cases hlook
          · cases hv
        · cases hv
      · cases hc
    · cases hc
  | entry it =>
    simp only [cOp] at hc; injection hc with hc; injection hc with h1 h2; subst h1; subst h2
    simp only [readOp] at hv
    split at hv <;> first | (cases hv; done) | (rename_i h; cases h; done) | skip
    rename_i b _
    split at hv
    · rename_i m clock seen hg
      split at hv
      · rename_i es c' hma
        split at hv
        · rename_i hcc
          split at hv
          · rename_i s hs
            split at hv
            · rename_i k v' b' hfe
              injection hv with hv; subst hv
              obtain ⟨_, he, r1⟩ := hx.one
              simp only [List.map_cons, List.map_nil, List.cons.injEq, and_true] at he; rw [← he] at r1
              simp only [VRel] at r1
              obtain ⟨L, hL, hxv⟩ := r1
              obtain ⟨L', hL', hO⟩ := hR.obj b _ hg
              rw [hL] at hL'; injection hL' with hL'; subst hL'
              simp only [ORel] at hO
              obtain ⟨M, hM, hheap, hoff⟩ := hO
              obtain ⟨M', en, hM', hmheap, hER, _⟩ := mapAt_run hR hma
              rw [hM] at hM'; injection hM' with hM'; subst hM'
              obtain ⟨x', hfx, f1, f2, f3⟩ := find_born hER hfe
              rw [hoff] at hxv
              simp only [Nat.add_zero] at hxv
              subst hcc
              have hback : seen.toArray.back? = some s := by simpa [List.getLast?_eq_getElem?, Array.back?] using hs
              have hfx' : en.find? (fun x => x.born == s) = some x' := by rw [← Array.find?_toList]; exact hfx
              refine Gives.of_v ⟨.tuple #[x'.key, x'.val], ?_, ?_⟩
              · simp [Instr.entry, hxv, run_getObj' hheap (by rintro _ _ _ h; cases h), hback, run_getObj' hmheap (by rintro _ _ _ h; cases h), hfx']
              · simp only [VRel]
                refine ⟨_, rfl, ?_⟩
                simp only [VRels]
                exact ⟨_, _, rfl, f1, _, _, rfl, f2, rfl⟩
            · cases hv
          · cases hv
        · cases hv
      · cases hv
    · cases hv
  | call c =>
    simp only [cOp] at hc
    split at hc
    · injection hc with hc; injection hc with h1 _; subst h1; simp [kd] at hk
    · rename_i b hcal
      obtain ⟨callee, args, argTypes⟩ := c
      simp only at hcal hc; subst hcal
      unfold cBuiltin at hc
      split at hc
      · rename_i t r htys
        have ht0 : argTypes[0]? = some t := by
          have : argTypes.toList[0]? = some t := by rw [htys]; rfl
          simpa using this
        split at hc
        · injection hc with hc; injection hc with h1 _; subst h1; simp [kd] at hk
        · injection hc with hc; injection hc with h1 _; subst h1; simp [kd] at hk
        · rename_i kt et hu
          injection hc with hc; injection hc with h1 h2; subst h1; subst h2
          simp only [readOp] at hv
          split at hv <;> first | (cases hv; done) | (rename_i h; cases h; done) | skip
          rename_i b _
          split at hv
          · rename_i es cl hma
            simp only [mkInt_eq] at hv; injection hv with hv; subst hv
            obtain ⟨_, he, r1⟩ := hx.one
            obtain ⟨x, hargs, hxe⟩ : ∃ x, args = #[x] ∧ ρ x = _ := by
              cases hal : args.toList with
              | nil => rw [hal] at he; simp at he
              | cons x r' =>
                rw [hal] at he
                cases r' with
                | cons y r' => simp at he
                | nil =>
                  simp only [List.map_cons, List.map_nil, List.cons.injEq, and_true] at he
                  exact ⟨x, by apply Array.ext'; rw [hal], he⟩
            subst hargs
            simp only [VRel] at r1
            obtain ⟨L, hL, hxv⟩ := r1
            obtain ⟨L', en, hL', hheap, hER, _⟩ := mapAt_run hR hma
            rw [hL] at hL'; injection hL' with hL'; subst hL'
            refine ⟨goInt en.size, ?_, ?_⟩
            · simp only [execOp, resolve, invoke, builtin, Sem.run_bind, Sem.run_pure, Result.andThen_ok]
              simp [Builtin.len_, ht0, run_underlying hu, hxe, hxv, run_getObj' hheap (by rintro _ _ _ h; cases h)]
            · simp only [VRel, goInt]
              rw [← hER.length]; simp
          · cases hv
        · injection hc with hc; injection hc with h1 _; subst h1; simp [kd] at hk
        · split at hc
          · injection hc with hc; injection hc with h1 _; subst h1; simp [kd] at hk
          · cases hc
        · cases hc
      all_goals
        (repeat' split at hc) <;> first | (cases hc; done) | (injection hc with hc; injection hc with h1 _; subst h1; simp [kd] at hk)
    · cases hc
  | makeMap t r =>
    cases r with
    | none => simp only [cOp] at hc; injection hc with hc; injection hc with h1 _; subst h1; simp [kd] at hk
    | some r => simp [cOp] at hc
  | next it b =>
    cases b with
    | false => simp only [cOp] at hc; injection hc with hc; injection hc with h1 _; subst h1; simp [kd] at hk
    | true => simp [cOp] at hc
  | makeFunc fn first captured =>
    cases fn with
    | func f => simp only [cOp] at hc; injection hc with hc; injection hc with h1 _; subst h1; simp [kd] at hk
    | _ => simp [cOp] at hc
  | binOp op t x y yt =>
    have hno : ∀ neg i, cEq P neg t = some i → kd i ≠ .read := by
      intro neg i hi
      unfold cEq at hi
      (repeat' split at hi) <;> first | (cases hi; done) | (injection hi with hi; subst hi; intro h; cases h)
    cases op with
    | eql =>
      simp only [cOp, two] at hc
      split at hc
      · rename_i i hi; injection hc with hc; injection hc with h1 _; subst h1; exact absurd hk (hno _ _ hi)
      · cases hc
    | neq =>
      simp only [cOp, two] at hc
      split at hc
      · rename_i i hi; injection hc with hc; injection hc with h1 _; subst h1; exact absurd hk (hno _ _ hi)
      · cases hc
    | _ => simp only [cOp] at hc; injection hc with hc; injection hc with h1 _; subst h1; simp [kd] at hk
  | _ =>
    simp only [cOp] at hc
    (repeat' split at hc) <;> first | (cases hc; done) | (injection hc with hc; injection hc with h1 _; subst h1; simp [kd] at hk)

end
end Go.AE
