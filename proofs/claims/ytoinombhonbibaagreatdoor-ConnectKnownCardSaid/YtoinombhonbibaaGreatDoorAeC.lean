/-
  When an abstract state stands for a world.
-/
import Derived.Test.YtoinombhonbibaaGreatDoorAeB
import Derived.Laws.World
import Derived.Laws.Cells
set_option linter.unusedSimpArgs false
set_option linter.unusedVariables false
set_option linter.unusedSectionVars false
namespace Go.AE

structure Loc where
  blk : Nat
  off : Nat
  tot : Nat

abbrev Inj := Nat → Option Loc

mutual
def VRel (P : Program) (β : Inj) : AV → Value → Prop
  | .bool b, v => v = .bool b
  | .int k n, v => v = .int k n
  | .str l, v => ∃ s, v = .string s ∧ s.data.toList = l
  | .nilp, v => v = .pointer none
  | .ptr b o, v => ∃ L, β b = some L ∧ v = .pointer (some ⟨L.blk, L.off + o, none⟩)
  | .nils, v => v = .slice none 0 0
  | .sl b o n c e, v => ∃ L a cap i, β b = some L ∧ P.info? e = some i ∧ v = .slice (some a) n cap ∧ n ≤ cap ∧ (0 < cap → a = ⟨L.blk, L.off + o, none⟩) ∧
      (c = none → L.off + o + cap * i.size = L.tot ∧ 0 < i.size) ∧ (∀ c', c = some c' → cap = c')
  | .nilm, v => v = .map none
  | .map b, v => ∃ L, β b = some L ∧ v = .map (some L.blk)
  | .nilf, v => v = .nilFunc
  | .fn f fs c, v => ∃ us vs, v = .func (.func f) us vs ∧ VRels P β fs us.toList ∧ VRels P β c vs.toList
  | .yield l, v => ∃ L, β l = some L ∧ v = .func (.yield L.blk) #[] #[]
  | .nili, v => v = .nilIface
  | .agg l, v => ∃ vs, v = .agg vs ∧ VRels P β l vs.toList
  | .tup l, v => ∃ vs, v = .tuple vs ∧ VRels P β l vs.toList
def VRels (P : Program) (β : Inj) : List AV → List Value → Prop
  | [], vs => vs = []
  | a :: r, vs => ∃ v vs', vs = v :: vs' ∧ VRel P β a v ∧ VRels P β r vs'
end

/-- β' says what β says, and names besides only numbers from n on. -/
structure Ext (n : Nat) (β β' : Inj) : Prop where
  keep : ∀ b L, β b = some L → β' b = some L
  new : ∀ b L, β' b = some L → β b = some L ∨ n ≤ b

theorem Ext.refl (n : Nat) (β : Inj) : Ext n β β := ⟨fun _ _ h => h, fun _ _ h => .inl h⟩
theorem Ext.trans {n m : Nat} {β β' β'' : Inj} (h : Ext n β β') (h' : Ext m β' β'') (hm : n ≤ m) : Ext n β β'' :=
  ⟨fun b L hb => h'.keep b L (h.keep b L hb), fun b L hb => (h'.new b L hb).elim (fun h1 => h.new b L h1) (fun h1 => .inr (Nat.le_trans hm h1))⟩

section
variable {P : Program} {β β' : Inj}

mutual
theorem VRel.mono (hk : ∀ b L, β b = some L → β' b = some L) : ∀ (a : AV) (v : Value), VRel P β a v → VRel P β' a v
  | .bool _, _, h => by simpa [VRel] using h
  | .int _ _, _, h => by simpa [VRel] using h
  | .str _, _, h => by simpa [VRel] using h
  | .nilp, _, h => by simpa [VRel] using h
  | .ptr b o, v, h => by
    simp only [VRel] at h ⊢
    obtain ⟨L, h1, h2⟩ := h
    exact ⟨L, hk _ _ h1, h2⟩
  | .nils, _, h => by simpa [VRel] using h
  | .sl b o n c e, v, h => by
    simp only [VRel] at h ⊢
    obtain ⟨L, a, cap, i, h1, h2⟩ := h
    exact ⟨L, a, cap, i, hk _ _ h1, h2⟩
  | .nilm, _, h => by simpa [VRel] using h
  | .map b, v, h => by
    simp only [VRel] at h ⊢
    obtain ⟨L, h1, h2⟩ := h
    exact ⟨L, hk _ _ h1, h2⟩
  | .nilf, _, h => by simpa [VRel] using h
  | .fn f fs c, v, h => by
    simp only [VRel] at h ⊢
    obtain ⟨us, vs, h1, h2, h3⟩ := h
    exact ⟨us, vs, h1, VRels.mono hk _ _ h2, VRels.mono hk _ _ h3⟩
  | .yield b, v, h => by
    simp only [VRel] at h ⊢
    obtain ⟨L, h1, h2⟩ := h
    exact ⟨L, hk _ _ h1, h2⟩
  | .nili, _, h => by simpa [VRel] using h
  | .agg l, v, h => by
    simp only [VRel] at h ⊢
    obtain ⟨vs, h1, h2⟩ := h
    exact ⟨vs, h1, VRels.mono hk _ _ h2⟩
  | .tup l, v, h => by
    simp only [VRel] at h ⊢
    obtain ⟨vs, h1, h2⟩ := h
    exact ⟨vs, h1, VRels.mono hk _ _ h2⟩
theorem VRels.mono (hk : ∀ b L, β b = some L → β' b = some L) : ∀ (l : List AV) (vs : List Value), VRels P β l vs → VRels P β' l vs
  | [], _, h => by simpa [VRels] using h
  | a :: r, vs, h => by
    simp only [VRels] at h ⊢
    obtain ⟨v, vs', h1, h2, h3⟩ := h
    exact ⟨v, vs', h1, VRel.mono hk _ _ h2, VRels.mono hk _ _ h3⟩
end

theorem VRels.length {l : List AV} : ∀ {vs : List Value}, VRels P β l vs → vs.length = l.length := by
  induction l with
  | nil => intro vs h; simp [VRels] at h; simp [h]
  | cons a r ih =>
    intro vs h
    simp only [VRels] at h
    obtain ⟨v, vs', rfl, _, h3⟩ := h
    simp [ih h3]

theorem VRels.get {l : List AV} : ∀ {vs : List Value} {i : Nat} {a : AV}, VRels P β l vs → l[i]? = some a → ∃ v, vs[i]? = some v ∧ VRel P β a v := by
  induction l with
  | nil => intro vs i a _ h; simp at h
  | cons x r ih =>
    intro vs i a h hi
    simp only [VRels] at h
    obtain ⟨v, vs', rfl, h2, h3⟩ := h
    cases i with
    | zero => simp at hi; subst hi; exact ⟨v, by simp, h2⟩
    | succ i => simpa using ih h3 (by simpa using hi)

theorem VRels.of_get {l : List AV} : ∀ {vs : List Value}, vs.length = l.length → (∀ (i : Nat) (a : AV), l[i]? = some a → ∃ v, vs[i]? = some v ∧ VRel P β a v) → VRels P β l vs := by
  induction l with
  | nil => intro vs h _; simp only [List.length_nil] at h; simp [VRels, List.length_eq_zero_iff.1 h]
  | cons x r ih =>
    intro vs hl h
    cases vs with
    | nil => simp at hl
    | cons v vs =>
      simp only [VRels]
      obtain ⟨v', hv, hr⟩ := h 0 x (by simp)
      simp at hv; subst hv
      exact ⟨v, vs, rfl, hr, ih (by simpa using hl) (fun i a hi => by simpa using h (i + 1) a (by simpa using hi))⟩

theorem VRels.append {l m : List AV} {vs us : List Value} (h : VRels P β l vs) (h' : VRels P β m us) : VRels P β (l ++ m) (vs ++ us) := by
  induction l generalizing vs with
  | nil => simp [VRels] at h; subst h; simpa using h'
  | cons a r ih =>
    simp only [VRels] at h
    obtain ⟨v, vs', rfl, h2, h3⟩ := h
    simp only [List.cons_append, VRels]
    exact ⟨v, _, rfl, h2, ih h3⟩

theorem VRels.drop {l : List AV} {vs : List Value} (n : Nat) (h : VRels P β l vs) : VRels P β (l.drop n) (vs.drop n) :=
  VRels.of_get (by simp [h.length]) fun i a hi => by
    simp only [List.getElem?_drop] at hi ⊢
    exact h.get hi
theorem VRels.take {l : List AV} {vs : List Value} (n : Nat) (h : VRels P β l vs) : VRels P β (l.take n) (vs.take n) :=
  VRels.of_get (by simp [h.length]) fun i a hi => by
    simp only [List.getElem?_take] at hi ⊢
    split at hi
    · rename_i hlt; obtain ⟨v, hv, hr⟩ := h.get hi; exact ⟨v, by simp [hlt, hv], hr⟩
    · simp at hi

theorem VRels.nil_iff {vs : List Value} : VRels P β [] vs ↔ vs = [] := by simp [VRels]
theorem VRels.one {a : AV} {vs : List Value} (h : VRels P β [a] vs) : ∃ v, vs = [v] ∧ VRel P β a v := by
  simp only [VRels] at h; obtain ⟨v, _, rfl, h2, rfl⟩ := h; exact ⟨v, rfl, h2⟩
theorem VRels.two {a b : AV} {vs : List Value} (h : VRels P β [a, b] vs) : ∃ v u, vs = [v, u] ∧ VRel P β a v ∧ VRel P β b u := by
  simp only [VRels] at h; obtain ⟨v, _, rfl, h2, u, _, rfl, h3, rfl⟩ := h; exact ⟨v, u, rfl, h2, h3⟩
theorem VRels.three {a b c : AV} {vs : List Value} (h : VRels P β [a, b, c] vs) : ∃ v u t, vs = [v, u, t] ∧ VRel P β a v ∧ VRel P β b u ∧ VRel P β c t := by
  simp only [VRels] at h; obtain ⟨v, _, rfl, h2, u, _, rfl, h3, t, _, rfl, h4, rfl⟩ := h; exact ⟨v, u, t, rfl, h2, h3, h4⟩
theorem VRels.cons {a : AV} {l : List AV} {vs : List Value} (h : VRels P β (a :: l) vs) : ∃ v us, vs = v :: us ∧ VRel P β a v ∧ VRels P β l us := by
  simpa only [VRels] using h

/-- A value's cells. -/
theorem VRel.cells {a : AV} {v : Value} (h : VRel P β a v) : VRels P β a.cells v.cells.toList := by
  cases a with
  | agg l => simp only [VRel] at h; obtain ⟨vs, rfl, h⟩ := h; exact h
  | tup l =>
    have h' := h
    simp only [VRel] at h; obtain ⟨vs, rfl, _⟩ := h
    simp only [AV.cells, Value.cells, VRels]
    exact ⟨_, [], rfl, h', rfl⟩
  | _ =>
    have h' := h
    simp only [VRel] at h
    first
      | (subst h; simp only [AV.cells, Value.cells, VRels]; exact ⟨_, [], rfl, h', rfl⟩)
      | (obtain ⟨_, rfl, _⟩ := h; simp only [AV.cells, Value.cells, VRels]; exact ⟨_, [], rfl, h', rfl⟩)
      | (obtain ⟨_, _, rfl⟩ := h; simp only [AV.cells, Value.cells, VRels]; exact ⟨_, [], rfl, h', rfl⟩)
      | (obtain ⟨_, _, _, _, _, _, rfl, _⟩ := h; simp only [AV.cells, Value.cells, VRels]; exact ⟨_, [], rfl, h', rfl⟩)
      | (obtain ⟨_, _, rfl, _⟩ := h; simp only [AV.cells, Value.cells, VRels]; exact ⟨_, [], rfl, h', rfl⟩)

theorem VRel.one_oneCell {a : AV} {v : Value} (h : VRel P β a v) (h1 : a.one = true) : ∀ (vs : Array Value), v ≠ .agg vs ∧ v ≠ .tuple vs := by
  intro vs
  cases a with
  | agg l => simp [AV.one] at h1
  | tup l => simp [AV.one] at h1
  | _ =>
    simp only [VRel] at h
    first
      | (subst h; constructor <;> intro h <;> cases h)
      | (obtain ⟨_, rfl, _⟩ := h; constructor <;> intro h <;> cases h)
      | (obtain ⟨_, _, rfl⟩ := h; constructor <;> intro h <;> cases h)
      | (obtain ⟨_, _, _, _, _, _, rfl, _⟩ := h; constructor <;> intro h <;> cases h)
      | (obtain ⟨_, _, rfl, _⟩ := h; constructor <;> intro h <;> cases h)

/-! ### Constants -/
theorem cCell_sound {v : Value} {a : AV} (h : cCell v = some a) : VRel P β a v := by
  unfold cCell at h
  split at h <;> first
    | (injection h with h; subst h; simp [VRel]; done)
    | (injection h with h; subst h; simp only [VRel]; exact ⟨_, rfl, rfl⟩)
    | cases h

theorem cCells_sound : ∀ {vs : List Value} {l : List AV}, cCells vs = some l → VRels P β l vs
  | [], l, h => by simp [cCells] at h; subst h; simp [VRels]
  | v :: r, l, h => by
    simp only [cCells] at h
    split at h
    · rename_i x hx
      split at h
      · rename_i m hm
        injection h with h; subst h
        simp only [VRels]
        exact ⟨v, r, rfl, cCell_sound hx, cCells_sound hm⟩
      · cases h
    · cases h

theorem cVal_sound {v : Value} {a : AV} (h : cVal v = some a) : VRel P β a v := by
  unfold cVal at h
  split at h
  · split at h
    · rename_i l hl
      injection h with h; subst h
      simp only [VRel]
      exact ⟨_, rfl, cCells_sound hl⟩
    · cases h
  · split at h
    · rename_i l hl
      injection h with h; subst h
      simp only [VRel]
      exact ⟨_, rfl, cCells_sound hl⟩
    · cases h
  · exact cCell_sound h

theorem cCell_one {v : Value} {a : AV} (h : cCell v = some a) : a.one = true := by
  unfold cCell at h
  split at h <;> first
    | (injection h with h; subst h; rfl)
    | cases h

theorem cCells_one : ∀ {vs : List Value} {l : List AV}, cCells vs = some l → l.all AV.one = true
  | [], l, h => by simp [cCells] at h; subst h; rfl
  | v :: r, l, h => by
    simp only [cCells] at h
    split at h
    · rename_i x hx
      split at h
      · rename_i m hm
        injection h with h; subst h
        simp [cCell_one hx]
        simpa using cCells_one hm
      · cases h
    · cases h
end

/-! ### States -/
def EnvRel (P : Program) (β : Inj) (N : Nat) (e : Env) (tmps : Array Value) : Prop :=
  tmps.size = N ∧ ∀ t v, e.get t = some v → VRel P β v (tmps.getD t undef)

def ERels (P : Program) (β : Inj) : List (AV × AV × Nat) → List MapEntry → Prop
  | [], en => en = []
  | e :: r, en => ∃ x en', en = x :: en' ∧ VRel P β e.1 x.key ∧ VRel P β e.2.1 x.val ∧ x.born = e.2.2 ∧ ERels P β r en'

def stRel : LoopSt → LoopState → Prop
  | .ready, s => s = .ready
  | .busy, s => s = .busy
  | .done, s => s = .done

def pendRel : Option Out → Option Code → Prop
  | none, c => c = none
  | some (.exit id), c => c = some (.exit id)
  | some .ret, c => c = some .ret
  | some .normal, _ => False

def ORel (P : Program) (β : Inj) (w : World) (L : Loc) : AObj → Prop
  | .cells wr c => ∃ cs ty fz, w.heap[L.blk]? = some (.cells cs ty fz) ∧ cs.size = L.tot ∧ L.off + c.length ≤ cs.size ∧
      VRels P β c ((cs.toList.drop L.off).take c.length) ∧ c.all AV.one = true ∧ (wr = true → fz.1 = fz.2 ∨ cs.size ≤ fz.1)
  | .map es clock => ∃ en, w.heap[L.blk]? = some (.map en clock) ∧ ERels P β es en.toList ∧ (es.map (·.2.2)).Pairwise (· < ·) ∧ ∀ e ∈ es, e.2.2 < clock
  | .iter m clock seen => ∃ M, β m = some M ∧ w.heap[L.blk]? = some (.mapIter (some M.blk) clock seen.toArray clock) ∧ L.off = 0
  | .loop env ps assign body st pend => ∃ r N A, w.heap[L.blk]? = some (.loop r) ∧ EnvRel P β N env r.tmps ∧ r.params.toList = ps ∧ (∀ p ∈ ps, p < N) ∧
      cCode P N A true r.assign = some assign ∧ cCode P N A true r.body = some body ∧ stRel st r.state ∧ pendRel pend r.pending

structure Rel (P : Program) (w0 : World) (prv : List (Nat × Obj)) (β : Inj) (H : Heap) (w : World) : Prop where
  obj : ∀ b o, H.get b = some o → ∃ L, β b = some L ∧ ORel P β w L o
  new : ∀ b o L, H.get b = some o → β b = some L → o.writable = true → w0.heap.size ≤ L.blk
  inj : ∀ b b' o o' L L', b ≠ b' → H.get b = some o → H.get b' = some o' → β b = some L → β b' = some L' → o.writable = true → L.blk ≠ L'.blk
  dom : ∀ b L, β b = some L → b < H.next
  blk : ∀ b L, β b = some L → L.blk < w.heap.size
  glob : ∀ g, g < P.globals.size → ∃ L, β g = some L ∧ L.blk = g ∧ L.off = 0
  old : ∀ i, i < w0.heap.size → w.heap[i]? = w0.heap[i]?
  size : w0.heap.size ≤ w.heap.size
  same : w.tape = w0.tape ∧ w.os = w0.os ∧ w.output = w0.output
  prvs : ∀ r o, (r, o) ∈ prv → w.heap[r]? = some o
  prvN : ∀ r o b ob L, (r, o) ∈ prv → H.get b = some ob → β b = some L → L.blk ≠ r

/-- How memory may turn: what was not there comes back at new numbers alone. -/
structure Evo (H H' : Heap) : Prop where
  next : H.next ≤ H'.next
  none : ∀ b, b < H.next → H.get b = none → H'.get b = none

theorem Evo.refl (H : Heap) : Evo H H := ⟨Nat.le_refl _, fun _ _ h => h⟩
theorem Evo.trans {H H' H'' : Heap} (h : Evo H H') (h' : Evo H' H'') : Evo H H'' :=
  ⟨Nat.le_trans h.next h'.next, fun b hb hn => h'.none b (Nat.lt_of_lt_of_le hb h.next) (h.none b hb hn)⟩

section
variable {P : Program} {β β' : Inj} {w w' w0 : World} {H : Heap} {prv : List (Nat × Obj)}

theorem EnvRel.mono (hk : ∀ b L, β b = some L → β' b = some L) {N : Nat} {e : Env} {t : Array Value} (h : EnvRel P β N e t) : EnvRel P β' N e t :=
  ⟨h.1, fun n v hn => VRel.mono hk _ _ (h.2 n v hn)⟩

theorem ERels.mono (hk : ∀ b L, β b = some L → β' b = some L) : ∀ {es : List (AV × AV × Nat)} {en : List MapEntry}, ERels P β es en → ERels P β' es en
  | [], en, h => by simpa [ERels] using h
  | e :: r, en, h => by
    simp only [ERels] at h ⊢
    obtain ⟨x, en', h1, h2, h3, h4, h5⟩ := h
    exact ⟨x, en', h1, VRel.mono hk _ _ h2, VRel.mono hk _ _ h3, h4, ERels.mono hk h5⟩

theorem ORel.mono (hk : ∀ b L, β b = some L → β' b = some L) {L : Loc} (hw : w'.heap[L.blk]? = w.heap[L.blk]?) {o : AObj} (h : ORel P β w L o) : ORel P β' w' L o := by
  cases o with
  | cells wr c =>
    simp only [ORel] at h ⊢
    obtain ⟨cs, ty, fz, h1, h2, h3, h4, h5⟩ := h
    exact ⟨cs, ty, fz, hw ▸ h1, h2, h3, VRels.mono hk _ _ h4, h5⟩
  | map es clock =>
    simp only [ORel] at h ⊢
    obtain ⟨en, h1, h2, h3⟩ := h
    exact ⟨en, hw ▸ h1, ERels.mono hk h2, h3⟩
  | iter m clock seen =>
    simp only [ORel] at h ⊢
    obtain ⟨M, h1, h2⟩ := h
    exact ⟨M, hk _ _ h1, hw ▸ h2⟩
  | loop env ps assign body st pend =>
    simp only [ORel] at h ⊢
    obtain ⟨r, N, A, h1, h2, h3⟩ := h
    exact ⟨r, N, A, hw ▸ h1, EnvRel.mono hk h2, h3⟩

theorem ORel.frozen {L : Loc} {o : AObj} (h : ORel P β w L o) : L.blk < w.heap.size := by
  have key : ∀ ob, w.heap[L.blk]? = some ob → L.blk < w.heap.size := fun ob h => by
    rcases Nat.lt_or_ge L.blk w.heap.size with h' | h'
    · exact h'
    · simp [Array.getElem?_eq_none h'] at h
  cases o <;> simp only [ORel] at h
  · obtain ⟨_, _, _, h1, _⟩ := h; exact key _ h1
  · obtain ⟨_, h1, _⟩ := h; exact key _ h1
  · obtain ⟨_, _, h1, _⟩ := h; exact key _ h1
  · obtain ⟨_, _, _, h1, _⟩ := h; exact key _ h1

theorem Rel.none_of_ge (h : Rel P w0 prv β H w) {b : Nat} (hb : H.next ≤ b) : H.get b = none := by
  cases hg : H.get b with
  | none => rfl
  | some o => obtain ⟨L, hL, _⟩ := h.obj b o hg; have := h.dom b L hL; omega

theorem Rel.fresh (h : Rel P w0 prv β H w) : β H.next = none := by
  cases hg : β H.next with
  | none => rfl
  | some L => have := h.dom _ L hg; omega

/-- A draw changes nothing. -/
theorem Rel.drew (h : Rel P w0 prv β H w) (n : Nat) : Rel P w0 prv β H { w with drawn := n } where
  obj := fun b o hb => let ⟨L, h1, h2⟩ := h.obj b o hb; ⟨L, h1, h2.mono (fun _ _ h => h) rfl⟩
  new := h.new
  inj := h.inj
  dom := h.dom
  blk := h.blk
  glob := h.glob
  old := h.old
  size := h.size
  same := h.same
  prvs := h.prvs
  prvN := h.prvN

def Inj.put (β : Inj) (b : Nat) (L : Loc) : Inj := fun k => if k = b then some L else β k
theorem Inj.put_keep {b : Nat} {L : Loc} (hb : β b = none) : ∀ k M, β k = some M → (β.put b L) k = some M := by
  intro k M hk
  unfold Inj.put
  rw [if_neg (by rintro rfl; rw [hb] at hk; cases hk)]
  exact hk
theorem Inj.put_same {b : Nat} {L : Loc} : (β.put b L) b = some L := by simp [Inj.put]

/-- A new block, at a number that had none (below the bound or at it). -/
theorem Rel.alloc (h : Rel P w0 prv β H w) {H' : Heap} {b : Nat} (o : AObj) (x : Obj) (L : Loc) (hb : β b = none) (hn : H.get b = none) (hL : L.blk = w.heap.size)
    (hg : ∀ k, H'.get k = if k = b then some o else H.get k) (hnx : H.next ≤ H'.next) (hbn : b < H'.next)
    (ho : ∀ w', w'.heap[w.heap.size]? = some x → ORel P (β.put b L) w' L o) : Rel P w0 prv (β.put b L) H' { w with heap := w.heap.push x } := by
  have hk := Inj.put_keep (β := β) (L := L) hb
  have hnone : ∀ k M, k ≠ b → (β.put b L) k = some M → β k = some M := fun k M hkb hm => by simpa [Inj.put, hkb] using hm
  have hblk : ∀ k M, k ≠ b → (β.put b L) k = some M → M.blk < w.heap.size := fun k M hkb hm => h.blk k M (hnone k M hkb hm)
  have hpush : ({ w with heap := w.heap.push x } : World).heap[w.heap.size]? = some x := by simp
  have hold : ∀ i, i < w.heap.size → ({ w with heap := w.heap.push x } : World).heap[i]? = w.heap[i]? := fun i hi => by
    simp only [Array.getElem?_push]; rw [if_neg (by omega)]
  constructor
  · intro k ob hk'
    rw [hg] at hk'
    by_cases e : k = b
    · subst e; rw [if_pos rfl] at hk'; injection hk' with hk'; subst hk'
      exact ⟨L, Inj.put_same, ho _ hpush⟩
    · rw [if_neg e] at hk'
      obtain ⟨M, h1, h2⟩ := h.obj k ob hk'
      exact ⟨M, hk k M h1, h2.mono hk (hold _ (h.blk k M h1))⟩
  · intro k ob M hk' hM hw
    rw [hg] at hk'
    by_cases e : k = b
    · subst e; rw [Inj.put_same] at hM; injection hM with hM; subst hM; rw [hL]; exact h.size
    · rw [if_neg e] at hk'; exact h.new k ob M hk' (hnone k M e hM) hw
  · intro k k' ob ob' M M' hne h1 h2 h3 h4 hw
    rw [hg] at h1 h2
    by_cases e : k = b
    · subst e
      rw [Inj.put_same] at h3; injection h3 with h3; subst h3
      have := hblk k' M' (fun h => hne h.symm) h4
      omega
    · rw [if_neg e] at h1
      by_cases e' : k' = b
      · subst e'
        rw [Inj.put_same] at h4; injection h4 with h4; subst h4
        have := hblk k M e h3
        omega
      · rw [if_neg e'] at h2
        exact h.inj k k' ob ob' M M' hne h1 h2 (hnone _ _ e h3) (hnone _ _ e' h4) hw
  · intro k M hM
    by_cases e : k = b
    · subst e; exact hbn
    · exact Nat.lt_of_lt_of_le (h.dom k M (hnone k M e hM)) hnx
  · intro k M hM
    simp only [Array.size_push]
    by_cases e : k = b
    · subst e; rw [Inj.put_same] at hM; injection hM with hM; subst hM; omega
    · exact Nat.lt_succ_of_lt (hblk k M e hM)
  · intro g hg'
    obtain ⟨M, h1, h2⟩ := h.glob g hg'
    exact ⟨M, hk g M h1, h2⟩
  · intro i hi
    rw [hold i (Nat.lt_of_lt_of_le hi h.size)]; exact h.old i hi
  · simp only [Array.size_push]; exact Nat.le_succ_of_le h.size
  · exact h.same
  · intro r ob hr
    have h1 := h.prvs r ob hr
    have hlt : r < w.heap.size := by
      rcases Nat.lt_or_ge r w.heap.size with h' | h'
      · exact h'
      · simp [Array.getElem?_eq_none h'] at h1
    rw [hold r hlt]; exact h1
  · intro r ob k o' M hr hk' hM
    have h1 := h.prvs r ob hr
    have hlt : r < w.heap.size := by
      rcases Nat.lt_or_ge r w.heap.size with h' | h'
      · exact h'
      · simp [Array.getElem?_eq_none h'] at h1
    rw [hg] at hk'
    by_cases e : k = b
    · subst e; rw [Inj.put_same] at hM; injection hM with hM; subst hM; omega
    · rw [if_neg e] at hk'; exact h.prvN r ob k o' M hr hk' (hnone k M e hM)

/-- What a written block becomes. -/
theorem Rel.setObj (h : Rel P w0 prv β H w) {b : Nat} {o o' : AObj} {L : Loc} (hb : H.get b = some o) (hw : o.writable = true) (hL : β b = some L) (x : Obj)
    (ho : ∀ w', w'.heap[L.blk]? = some x → ORel P β w' L o') : Rel P w0 prv β (H.set b o') { w with heap := w.heap.setIfInBounds L.blk x } := by
  have hlt := h.blk b L hL
  have hset : ({ w with heap := w.heap.setIfInBounds L.blk x } : World).heap[L.blk]? = some x := by simp [hlt]
  have hoth : ∀ i, i ≠ L.blk → ({ w with heap := w.heap.setIfInBounds L.blk x } : World).heap[i]? = w.heap[i]? := fun i hi => by
    simp only; rw [Array.getElem?_setIfInBounds_ne (fun e => hi e.symm)]
  constructor
  · intro k ob hk
    rw [Heap.get_set] at hk
    by_cases e : k = b
    · subst e; rw [if_pos rfl] at hk; injection hk with hk; subst hk
      exact ⟨L, hL, ho _ hset⟩
    · rw [if_neg e] at hk
      obtain ⟨M, h1, h2⟩ := h.obj k ob hk
      exact ⟨M, h1, h2.mono (fun _ _ h => h) (hoth _ fun hm => h.inj b k o ob L M (fun h => e h.symm) hb hk hL h1 hw hm.symm)⟩
  · intro k ob M hk hM hwr
    rw [Heap.get_set] at hk
    by_cases e : k = b
    · subst e; exact h.new k o M hb hM hw
    · rw [if_neg e] at hk; exact h.new k ob M hk hM hwr
  · intro k k' ob ob' M M' hne h1 h2 h3 h4 hwr
    rw [Heap.get_set] at h1 h2
    by_cases e : k = b
    · subst e
      rw [if_neg (fun h => hne h.symm)] at h2
      exact h.inj k k' o ob' M M' hne hb h2 h3 h4 hw
    · rw [if_neg e] at h1
      by_cases e' : k' = b
      · subst e'
        exact h.inj k k' ob o M M' hne h1 hb h3 h4 hwr
      · rw [if_neg e'] at h2
        exact h.inj k k' ob ob' M M' hne h1 h2 h3 h4 hwr
  · exact h.dom
  · intro k M hM; simp only [Array.size_setIfInBounds]; exact h.blk k M hM
  · exact h.glob
  · intro i hi
    rw [hoth i (fun e => by have := h.new b o L hb hL hw; omega)]; exact h.old i hi
  · simp only [Array.size_setIfInBounds]; exact h.size
  · exact h.same
  · intro r ob hr
    rw [hoth r (fun e => h.prvN r ob b o L hr hb hL e.symm)]; exact h.prvs r ob hr
  · intro r ob k o'' M hr hk hM
    rw [Heap.get_set] at hk
    by_cases e : k = b
    · subst e; exact h.prvN r ob k o M hr hb hM
    · rw [if_neg e] at hk; exact h.prvN r ob k o'' M hr hk hM

/-- Less is known. -/
theorem Rel.sub (h : Rel P w0 prv β H w) {H' : Heap} (hg : ∀ b o, H'.get b = some o → H.get b = some o) (hn : H.next ≤ H'.next) : Rel P w0 prv β H' w where
  obj := fun b o hb => h.obj b o (hg b o hb)
  new := fun b o L hb => h.new b o L (hg b o hb)
  inj := fun b b' o o' L L' hne h1 h2 => h.inj b b' o o' L L' hne (hg _ _ h1) (hg _ _ h2)
  dom := fun b L hb => Nat.lt_of_lt_of_le (h.dom b L hb) hn
  blk := h.blk
  glob := h.glob
  old := h.old
  size := h.size
  same := h.same
  prvs := h.prvs
  prvN := fun r o b ob L hr hb => h.prvN r o b ob L hr (hg b ob hb)

theorem Rel.kill (h : Rel P w0 prv β H w) (b : Nat) : Rel P w0 prv β (H.kill b) w :=
  h.sub (fun k o hk => by
    rw [Heap.get_kill] at hk
    by_cases e : k = b
    · rw [if_pos e] at hk; cases hk
    · rw [if_neg e] at hk; exact hk) (Nat.le_refl _)

end

end Go.AE
