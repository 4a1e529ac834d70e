/-
  Operations that change memory.
-/
import Derived.Test.YtoinombhonbibaaGreatDoorAeJ
set_option linter.unusedSimpArgs false
set_option linter.unusedVariables false
set_option linter.unusedSectionVars false
namespace Go.AE

section
variable {P : Program} {β : Inj} {w w0 : World} {prv : List (Nat × Obj)} {H H' : Heap} {a : Act}

/-- What an operation leaves. -/
def EffRes (P : Program) (w0 : World) (prv : List (Nat × Obj)) (β : Inj) (H H' : Heap) (v : AV) (r : Result Next) : Prop :=
  ∃ nx u w' β', r = .ok nx w' ∧ (nx = .value u ∨ (nx = .skip ∧ u = undef)) ∧ Ext H.next β β' ∧ Rel P w0 prv β' H' w' ∧ VRel P β' v u ∧ Evo H H'

theorem EffRes.of_v {s : Sem Value} {v : AV} (h : ∃ u w' β', s.run P w = .ok u w' ∧ Ext H.next β β' ∧ Rel P w0 prv β' H' w' ∧ VRel P β' v u ∧ Evo H H') :
    EffRes P w0 prv β H H' v ((do pure (Next.value (← s)) : Sem Next).run P w) := by
  obtain ⟨u, w', β', h1, h2⟩ := h
  exact ⟨_, u, w', β', run_v h1, .inl rfl, h2⟩

theorem vrel_undef : VRel P β (.tup []) undef := by simp only [VRel, undef]; exact ⟨#[], rfl, rfl⟩

theorem EffRes.of_u {s : Sem Unit} (h : ∃ w' β', s.run P w = .ok () w' ∧ Ext H.next β β' ∧ Rel P w0 prv β' H' w' ∧ Evo H H') :
    EffRes P w0 prv β H H' (.tup []) ((do s; pure Next.skip : Sem Next).run P w) := by
  obtain ⟨w', β', h1, h2, h3, h4⟩ := h
  exact ⟨.skip, undef, w', β', by simp [h1], .inr ⟨rfl, rfl⟩, h2, h3, vrel_undef, h4⟩

/-- A new block of cells. -/
theorem push_cells (hR : Rel P w0 prv β H w) {l : List AV} {vs : Array Value} (e : TypeId) (hl : l.length ≤ vs.size) (hv : VRels P β l (vs.toList.take l.length)) (h1 : l.all AV.one = true) :
    Rel P w0 prv (β.put H.next ⟨w.heap.size, 0, vs.size⟩) (H.push (.cells true l)) { w with heap := w.heap.push (.cells vs e) } ∧ Ext H.next β (β.put H.next ⟨w.heap.size, 0, vs.size⟩) ∧ Evo H (H.push (.cells true l)) := by
  have hk := Inj.put_keep (L := ⟨w.heap.size, 0, vs.size⟩) hR.fresh
  refine ⟨hR.alloc (.cells true l) _ ⟨w.heap.size, 0, vs.size⟩ hR.fresh (hR.none_of_ge (Nat.le_refl _)) rfl (fun k => Heap.get_push H k _) (by simp) (by simp) (fun w' hw' => ?_),
    ⟨hk, fun b L hb => ?_⟩, ⟨by simp, fun b hb hn => by rw [Heap.get_push, if_neg (by omega)]; exact hn⟩⟩
  · simp only [ORel]
    refine ⟨vs, e, (0, 0), hw', rfl, by simpa using hl, ?_, h1, fun _ => .inl rfl⟩
    simp only [List.drop_zero]
    exact VRels.mono hk _ _ hv
  · by_cases e : b = H.next
    · exact .inr (by omega)
    · left; simpa [Inj.put, e] using hb

/-- The cells that are read, one by one. -/
theorem read_facts (hR : Rel P w0 prv β H w) {b o n : Nat} {l : List AV} (h : H.read b o n = some l) :
    ∃ L vs, β b = some L ∧ VRels P β l vs ∧ vs.length = n ∧ l.all AV.one = true ∧ ∀ (j : Nat) (v : Value), vs[j]? = some v → w.cell? ⟨L.blk, L.off + o + j, none⟩ = some v := by
  unfold Heap.read at h
  split at h
  · rename_i wr c hg
    obtain ⟨L, hL, hO⟩ := hR.obj b _ hg
    simp only [ORel] at hO
    obtain ⟨cs, ty, fz, h1, h2, h3, h4, h5⟩ := hO
    obtain ⟨rfl, hl⟩ := span_eq h
    have hv := (h4.drop o).take n
    refine ⟨L, _, hL, hv, by rw [hv.length, hl], List.all_eq_true.2 fun x hx => List.all_eq_true.1 h5.1 x (List.mem_of_mem_drop (List.mem_of_mem_take hx)), fun j v hj => ?_⟩
    rw [cell_at h1]
    simp only [List.getElem?_take, List.getElem?_drop] at hj
    split at hj
    · split at hj
      · rw [show L.off + o + j = L.off + (o + j) by omega]; simpa using hj
      · cases hj
    · cases hj
  · cases h

/-- What is appended, or copied. -/
theorem src_run (hR : Rel P w0 prv β H w) {sz : Nat} {x : AV} {vx : Value} (hx : VRel P β x vx) {n : Nat} {l : List AV} (h : srcCells sz H x = some (n, l)) :
    ∃ news, VRels P β l news ∧ news.length = n * sz ∧ l.all AV.one = true ∧ Builtin.lenOf vx = Sem.pure n ∧
      ∀ (W : World), (∀ a, W.cell? a = w.cell? a) → ∀ m, m ≤ n → (Builtin.firstCells sz m vx).run P W = .ok (news.take (m * sz)).toArray W := by
  unfold srcCells at h
  split at h
  · injection h with h; injection h with h1 h2; subst h1; subst h2
    simp only [VRel] at hx; subst hx
    exact ⟨[], by simp [VRels], by simp, rfl, rfl, fun W _ m hm => by simp [Builtin.firstCells]⟩
  · rename_i b o n' c e
    split at h
    · rename_i l' hl
      injection h with h; injection h with h1 h2; subst h1; subst h2
      simp only [VRel] at hx
      obtain ⟨L, ad, cap, i, hL, hi, rfl, hncap, hadr, hrest⟩ := hx
      split at hl
      · rename_i hn0
        injection hl with hl; subst hl; subst hn0
        refine ⟨[], by simp [VRels], by simp, rfl, rfl, fun W _ m hm => ?_⟩
        obtain rfl : m = 0 := by omega
        simp [Builtin.firstCells, loadCells, loadCellsFrom]
      · rename_i hn0
        obtain ⟨L', vs, hL', hvs, hlen, hone, hcell⟩ := read_facts hR hl
        rw [hL] at hL'; injection hL' with hL'; subst hL'
        refine ⟨vs, hvs, hlen, hone, rfl, fun W hW m hm => ?_⟩
        have hml : m * sz ≤ n' * sz := Nat.mul_le_mul_right _ hm
        have := run_loadCells_list (P := P) W ad (vs.take (m * sz)) (fun j v hj => by
          rw [List.getElem?_take] at hj
          split at hj
          · rw [hW, hadr (by omega), add_none]; exact hcell j v hj
          · cases hj)
        rw [List.length_take, hlen, Nat.min_eq_left hml] at this
        simpa [Builtin.firstCells] using this
    · cases h
  · rename_i s
    split at h
    · rename_i hsz
      subst hsz
      injection h with h; injection h with h1 h2; subst h1; subst h2
      simp only [VRel] at hx
      obtain ⟨str, rfl, hs⟩ := hx
      refine ⟨s.map fun b => .int .u8 b.toNat, ?_, by simp, by unfold asInts; simp [AV.one], by rw [← hs]; simp [Builtin.lenOf]; rfl, fun W _ m hm => ?_⟩
      · unfold asInts
        clear hs
        induction s with
        | nil => simp [VRels]
        | cons b r ih => simp only [List.map_cons, VRels]; exact ⟨_, _, rfl, by simp only [VRel], ih⟩
      · simp only [Builtin.firstCells, Sem.run_pure]
        congr 1
        apply Array.ext'
        rw [ByteArray.data_extract]
        simp [← hs, List.extract, List.map_take]
    · cases h
  · cases h

theorem push_ext {n : Nat} {L : Loc} (hf : β n = none) : Ext n β (β.put n L) :=
  ⟨Inj.put_keep hf, fun b M hb => by
    by_cases e : b = n
    · exact .inr (by omega)
    · left; simpa [Inj.put, e] using hb⟩

/-- Appending n elements where there are none to be appended to: a new row. -/
theorem grow_row (hR : Rel P w0 prv β H w) {e : TypeId} {i : TypeInfo} (hi : P.info? e = some i) (hsz : 0 < i.size) (k : Nat) {l : List AV} {olds news rest : List Value} (m cap : Nat)
    (hv : VRels P β l (olds ++ news)) (hl : l.length = m * i.size) (h1 : l.all AV.one = true) (hcap : m ≤ cap) (hrl : rest.length = (cap - m) * i.size) {v : AV} {H1 : Heap} (hg : grown H e m l = some (v, H1)) (vs : Array Value)
    (hvs : vs.toList = olds ++ news ++ rest) :
    ∃ β', Ext H.next β β' ∧ Rel P w0 prv β' H1 { w with drawn := k, heap := w.heap.push (.cells vs e) } ∧ VRel P β' v (.slice (some ⟨w.heap.size, 0, none⟩) m cap) ∧ Evo H H1 := by
  simp only [grown, forceL_eq] at hg
  injection hg with hg; injection hg with hv' hH; subst hv'; subst hH
  have hlen := hv.length
  simp only [List.length_append] at hlen
  have hvsl : vs.size = cap * i.size := by
    have := congrArg List.length hvs
    simp only [Array.length_toList, List.length_append] at this
    rw [this, hrl]
    have : cap * i.size = m * i.size + (cap - m) * i.size := by rw [← Nat.add_mul]; congr 1; omega
    omega
  have hml : m * i.size ≤ cap * i.size := Nat.mul_le_mul_right _ hcap
  obtain ⟨r1, r2, r3⟩ := push_cells (hR.drew k) (l := l) (vs := vs) e (by omega) (by rw [hvs, List.take_append_of_le_length (by simp; omega), List.take_of_length_le (by simp; omega)]; exact hv) h1
  refine ⟨_, r2, r1, ?_, r3⟩
  simp only [VRel]
  exact ⟨_, ⟨w.heap.size, 0, none⟩, cap, i, Inj.put_same, hi, rfl, hcap, fun _ => rfl, fun _ => ⟨by simp [hvsl], hsz⟩, (fun c hc => by cases hc)⟩


theorem firstCells_zero (sz : Nat) (b : Option Addr) (n c : Nat) (W : World) : (Builtin.firstCells sz 0 (.slice b n c)).run P W = .ok #[] W := by
  cases b <;> simp [Builtin.firstCells, loadCells, loadCellsFrom]

theorem append_place {t u ty e : TypeId} {i : TypeInfo} {du : TypeDesc} (ht : P.underlying t = some (.slice e)) (hi : P.info? e = some i) (hu : P.underlying u = some du) (hdu : (∃ e', du = .slice e') ∨ du = .string)
    {base : Option Addr} {m cap n : Nat} {vx : Value} (hlen : Builtin.lenOf vx = Sem.pure n) (hroom : m + n ≤ cap) {news : List Value} (hf : (Builtin.firstCells i.size n vx).run P w = .ok news.toArray w) {w' : World}
    (hs : ∀ ad, base = some ad → (storeCells (ad.add (m * i.size)) news 0).run P w = .ok () w') (hn : base = none → w' = w) :
    (Builtin.append_ #[t, u] ty #[.slice base m cap, vx]).run P w = .ok (.slice base (m + n) cap) w' := by
  have hlen' : (Builtin.lenOf vx).run P w = .ok n w := by rw [hlen]; rfl
  cases base with
  | none =>
    have := hn rfl; subst this
    rcases hdu with ⟨e', rfl⟩ | rfl <;> simp [Builtin.append_, run_underlying ht, run_underlying hu, run_szOf (szOf_info hi), hlen', hroom, hf]
  | some ad =>
    have := hs ad rfl
    rcases hdu with ⟨e', rfl⟩ | rfl <;> simp [Builtin.append_, run_underlying ht, run_underlying hu, run_szOf (szOf_info hi), hlen', hroom, hf, this]

theorem zeroCells_length (z : Array Value) (n : Nat) : (Builtin.zeroCells z n).size = n * z.size := by simp [Builtin.zeroCells]

theorem append_core (hR : Rel P w0 prv β H w) {t u ty e : TypeId} {i : TypeInfo} (hi : P.info? e = some i) {zi : Value} (hzc : zi.cells.size = i.size)
    (hpos : 0 < i.size) (hb0 : i.bytes ≠ 0) {s v : AV} {vs vx : Value} (hs : VRel P β s vs) {n : Nat} {l : List AV} {news : List Value} (hnv : VRels P β l news) (hnl : news.length = n * i.size) (hone : l.all AV.one = true)
    (hplace : ∀ (base : Option Addr) (m cap : Nat) (w' : World), m + n ≤ cap → (∀ ad, base = some ad → (storeCells (ad.add (m * i.size)) news 0).run P w = .ok () w') → (base = none → w' = w) →
      (Builtin.append_ #[t, u] ty #[.slice base m cap, vx]).run P w = .ok (.slice base (m + n) cap) w')
    (hgrow : ∀ (base : Option Addr) (m cap : Nat) (olds : List Value), (Builtin.firstCells i.size m (.slice base m cap)).run P w.drew = .ok olds.toArray w.drew → cap < m + n → ((m + n : Nat) : Int) ≤ 9223372036854775807 → Builtin.nextslicecap (m + n) cap * i.bytes ≤ 281474976710656 →
      (Builtin.append_ #[t, u] ty #[.slice base m cap, vx]).run P w = .ok (.slice (some ⟨w.heap.size, 0, none⟩) (m + n) (grownCap w (m + n) cap e))
        (w.drew.alloc (.cells ((olds ++ news).toArray ++ Builtin.zeroCells zi.cells (grownCap w (m + n) cap e - (m + n))) e)))
    (happ : appendA e i.size i.bytes s n l H = some (v, H')) :
    (∃ r w' β', (Builtin.append_ #[t, u] ty #[vs, vx]).run P w = .ok r w' ∧ Ext H.next β β' ∧ Rel P w0 prv β' H' w' ∧ VRel P β' v r ∧ Evo H H') := by
  -- a new row
  have growing : ∀ (base : Option Addr) (m cap : Nat) (olds : List Value) (ol : List AV) (H0 : Heap), vs = .slice base m cap → VRels P β ol olds → ol.length = m * i.size → ol.all AV.one = true → cap < m + n → (m + n) * i.bytes ≤ 2 ^ 40 →
      (∀ W : World, (∀ a, W.cell? a = w.cell? a) → (Builtin.firstCells i.size m (.slice base m cap)).run P W = .ok olds.toArray W) → grown H0 e (m + n) (ol ++ l) = some (v, H') → H0.next = H.next → (∀ b o, H0.get b = some o → H.get b = some o) →
      Evo H H0 →
      (∃ r w' β', (Builtin.append_ #[t, u] ty #[vs, vx]).run P w = .ok r w' ∧ Ext H.next β β' ∧ Rel P w0 prv β' H' w' ∧ VRel P β' v r ∧ Evo H H') := by
    intro base m cap olds ol H0 hvs hov hol hoo hg hbd hold hgr hnx hsub hevo
    subst hvs
    have hfit : Builtin.nextslicecap (m + n) cap * i.bytes ≤ 281474976710656 := growslice_fits (by omega) (by omega)
    have h63 : ((m + n : Nat) : Int) ≤ 9223372036854775807 := by
      have : m + n ≤ (m + n) * i.bytes := Nat.le_mul_of_pos_right _ (by omega)
      omega
    have hrun := hgrow base m cap olds (hold w.drew fun _ => rfl) hg h63 hfit
    have hge : m + n ≤ grownCap w (m + n) cap e := grownCap_ge w (m + n) cap e
    have hR0 : Rel P w0 prv β H0 w := hR.sub hsub (by rw [hnx]; exact Nat.le_refl _)
    obtain ⟨β', r1, r2, r3, r4⟩ := grow_row hR0 hi hpos (w.drawn + 1) (m := m + n) (cap := grownCap w (m + n) cap e) (l := ol ++ l) (olds := olds) (news := news)
      (rest := (Builtin.zeroCells zi.cells (grownCap w (m + n) cap e - (m + n))).toList) (hov.append hnv)
      (by rw [List.length_append, hol, ← hnv.length, hnl, Nat.add_mul])
      (by simp only [List.all_append, Bool.and_eq_true]; exact ⟨hoo, hone⟩) hge (by rw [Array.length_toList, zeroCells_length, hzc]) hgr
      ((olds ++ news).toArray ++ Builtin.zeroCells zi.cells (grownCap w (m + n) cap e - (m + n))) (by simp)
    exact ⟨_, _, β', hrun, by rw [← hnx]; exact r1, r2, r3, hevo.trans r4⟩
  unfold appendA at happ
  split at happ
  · -- nothing
    rename_i hn0
    subst hn0
    have hnews : news = [] := List.eq_nil_of_length_eq_zero (by simpa using hnl)
    subst hnews
    split at happ
    · injection happ with happ; injection happ with h1 h2; subst h1; subst h2
      simp only [VRel] at hs; subst hs
      have hrun := hplace none 0 0 w (Nat.le_refl _) (by intro ad h; cases h) (fun _ => rfl)
      exact ⟨_, _, β, hrun, Ext.refl _ _, hR, by simp [VRel], Evo.refl _⟩
    · rename_i b o m c e'
      split at happ
      · rename_i hee
        injection happ with happ; injection happ with h1 h2; subst h1; subst h2
        have hs' := hs
        simp only [VRel] at hs
        obtain ⟨L, ad, cap, j, hL, hj, rfl, hncap, hrest⟩ := hs
        have hrun := hplace (some ad) m cap w (by omega) (by intro ad' h; simp [storeCells]) (fun h => by cases h)
        exact ⟨_, _, β, hrun, Ext.refl _ _, hR, by simpa using hs', Evo.refl _⟩
      · cases happ
    · cases happ
  · rename_i hn0
    split at happ
    · -- onto nil
      split at happ
      · rename_i hbd
        simp only [VRel] at hs
        exact growing none 0 0 [] [] H hs (by simp [VRels]) (by simp) rfl (by omega) (by simpa using hbd) (fun W hW => firstCells_zero _ _ _ _ W) (by simpa using happ) rfl (fun _ _ h => h) (Evo.refl _)
      · cases happ
    · rename_i b o m c e'
      split at happ
      · rename_i hcond
        obtain ⟨rfl, hbd⟩ := hcond
        have hs' := hs
        simp only [VRel] at hs
        obtain ⟨L, ad, cap, j, hL, hj, rfl, hncap, hadr, hnone, hsome⟩ := hs
        rw [hi] at hj; injection hj with hj; subst hj
        -- in place
        have placing : ∀ (H1 : Heap), m + n ≤ cap → H.write b (o + m * i.size) l = some H1 → (c = none ∨ ∃ c', c = some c') → v = .sl b o (m + n) c e' → H1 = H' →
            (∃ r w' β', (Builtin.append_ #[t, u] ty #[.slice (some ad) m cap, vx]).run P w = .ok r w' ∧ Ext H.next β β' ∧ Rel P w0 prv β' H' w' ∧ VRel P β' v r ∧ Evo H H') := by
          intro H1 hroom hw _ hv hH
          subst hv; subst hH
          obtain ⟨L', w', hL', hst, hR', hev, _⟩ := write_run hR hw hnv hone
          rw [hL] at hL'; injection hL' with hL'; subst hL'
          have hrun := hplace (some ad) m cap w' hroom (by
            intro ad' h; injection h with h; subst h
            rw [hadr (by omega), add_none, Nat.add_assoc]; exact hst) (fun h => by cases h)
          refine ⟨_, w', β, hrun, Ext.refl _ _, hR', ?_, hev⟩
          simp only [VRel]
          exact ⟨L, ad, cap, i, hL, hi, rfl, hroom, hadr, hnone, hsome⟩
        split at happ
        · rename_i wr cs hget
          obtain ⟨L', hL', hO⟩ := hR.obj b _ hget
          rw [hL] at hL'; injection hL' with hL'; subst hL'
          have hO' := hO
          simp only [ORel] at hO
          obtain ⟨ccs, ty', fz, g1, g2, g3, g4, g5, g6⟩ := hO
          -- the old cells
          have olds : ∀ {old : List AV}, span cs o (m * i.size) = some old → ∃ ovs, VRels P β old ovs ∧ old.length = m * i.size ∧ old.all AV.one = true ∧
              ∀ W : World, (∀ a, W.cell? a = w.cell? a) → (Builtin.firstCells i.size m (.slice (some ad) m cap)).run P W = .ok ovs.toArray W := by
            intro old hold
            have hread : H.read b o (m * i.size) = some old := by simp only [Heap.read, hget, hold]
            obtain ⟨L', ovs, hL', hov, hol, hoo, hcell⟩ := read_facts hR hread
            rw [hL] at hL'; injection hL' with hL'; subst hL'
            refine ⟨ovs, hov, by rw [← hov.length, hol], hoo, fun W hW => ?_⟩
            by_cases hm0 : m = 0
            · subst hm0
              have : ovs = [] := List.eq_nil_of_length_eq_zero (by simpa using hol)
              subst this
              exact firstCells_zero _ _ _ _ W
            · have := run_loadCells_list (P := P) W ad ovs (fun k v hk => by rw [hW, hadr (by omega), add_none]; exact hcell k v hk)
              rw [hol] at this
              simpa [Builtin.firstCells] using this
          split at happ
          · rename_i c'
            split at happ
            · rename_i hle
              split at happ
              · rename_i H1 hw
                injection happ with happ; injection happ with h1 h2
                exact (placing H1 (by rw [hsome c' rfl]; exact hle) hw (.inr ⟨_, rfl⟩) h1.symm h2)
              · cases happ
            · rename_i hle
              split at happ
              · rename_i old hold
                obtain ⟨ovs, q1, q2, q3, q4⟩ := olds hold
                exact growing (some ad) m cap ovs old H rfl q1 q2 q3 (by rw [hsome c' rfl]; omega) hbd q4 happ rfl (fun _ _ h => h) (Evo.refl _)
              · cases happ
          · split at happ
            · rename_i hwr
              subst hwr
              obtain ⟨heq, _⟩ := hnone rfl
              split at happ
              · rename_i hle
                split at happ
                · rename_i H1 hw
                  injection happ with happ; injection happ with h1 h2
                  have hroom : m + n ≤ cap := by
                    have h1' : (m + n) * i.size ≤ cap * i.size := by omega
                    exact Nat.le_of_mul_le_mul_right h1' hpos
                  exact (placing H1 hroom hw (.inl rfl) h1.symm h2)
                · cases happ
              · rename_i hle
                split at happ
                · rename_i old hold
                  obtain ⟨ovs, q1, q2, q3, q4⟩ := olds hold
                  by_cases hroom : m + n ≤ cap
                  · -- there is room: the row itself goes on
                    have hcapc : (m + n) * i.size ≤ cap * i.size := Nat.mul_le_mul_right _ hroom
                    have hnl' : news.length = n * i.size := hnl
                    have hadd : (m + n) * i.size = m * i.size + n * i.size := Nat.add_mul _ _ _
                    have hst := store_row (P := P) news 0 (L.off + o + m * i.size) L.blk ccs ty' fz w g1 (by omega) (g6 rfl) (ones hnv hone)
                    have hrun := hplace (some ad) m cap _ hroom (by
                      intro ad' h; injection h with h; subst h
                      rw [hadr (by omega), add_none]; exact hst) (fun h => by cases h)
                    simp only [grown, forceL_eq] at happ
                    injection happ with happ; injection happ with hv' hH; subst hv'; subst hH
                    -- the new number for the same row
                    have hfr := hR.fresh
                    have hk := Inj.put_keep (L := ⟨L.blk, L.off + o, L.tot⟩) hfr
                    have hsz := splice_size (cs := ccs) (o := L.off + o + m * i.size + 0) (vs := news) (by omega)
                    have hlt := hR.blk b L hL
                    have hnew := hR.new b _ L hget hL rfl
                    have hother : ∀ k ob M, k ≠ b → H.get k = some ob → β k = some M → M.blk ≠ L.blk := fun k ob M hkb h1 h2 h3 => hR.inj b k _ ob L M (fun h => hkb h.symm) hget h1 hL h2 rfl h3.symm
                    have hset : ({ w with heap := w.heap.setIfInBounds L.blk (.cells (splice ccs (L.off + o + m * i.size + 0) news) ty' fz) } : World).heap[L.blk]? = some (.cells (splice ccs (L.off + o + m * i.size + 0) news) ty' fz) := by simp [hlt]
                    have hoth : ∀ k, k ≠ L.blk → ({ w with heap := w.heap.setIfInBounds L.blk (.cells (splice ccs (L.off + o + m * i.size + 0) news) ty' fz) } : World).heap[k]? = w.heap[k]? := fun k hk => by
                      simp only; rw [Array.getElem?_setIfInBounds_ne (fun e => hk e.symm)]
                    refine ⟨_, _, β.put H.next ⟨L.blk, L.off + o, L.tot⟩, hrun, push_ext hfr, ?_, ?_, ?_⟩
                    · have hg' : ∀ k, ((H.kill b).push (.cells true (old ++ l))).get k = if k = H.next then some (.cells true (old ++ l)) else if k = b then none else H.get k := fun k => by
                        rw [Heap.get_push, Heap.get_kill]; rfl
                      have hnn : ∀ k M, k ≠ H.next → (β.put H.next ⟨L.blk, L.off + o, L.tot⟩) k = some M → β k = some M := fun k M hkb hm => by simpa [Inj.put, hkb] using hm
                      have hold' : ∀ {k ob}, k ≠ H.next → ((H.kill b).push (.cells true (old ++ l))).get k = some ob → k ≠ b ∧ H.get k = some ob := by
                        intro k ob hne hk'
                        rw [hg', if_neg hne] at hk'
                        by_cases e : k = b
                        · rw [if_pos e] at hk'; cases hk'
                        · rw [if_neg e] at hk'; exact ⟨e, hk'⟩
                      constructor
                      · intro k ob hk'
                        by_cases e : k = H.next
                        · subst e
                          rw [hg', if_pos rfl] at hk'; injection hk' with hk'; subst hk'
                          refine ⟨_, Inj.put_same, ?_⟩
                          simp only [ORel]
                          have hll : (old ++ l).length = (m + n) * i.size := by rw [List.length_append, q2, ← hnv.length, hnl, hadd]
                          have hol := q1.length
                          refine ⟨_, ty', fz, hset, by rw [hsz]; exact g2, by rw [hsz, hll]; omega, ?_, ?_, fun _ => by rw [hsz]; exact g6 rfl⟩
                          · have e2 : List.take (old ++ l).length (List.drop (L.off + o) (splice ccs (L.off + o + m * i.size + 0) news).toList) = ovs ++ news := by
                              rw [hll]
                              have hread : H.read b o (m * i.size) = some old := by simp only [Heap.read, hget, hold]
                              obtain ⟨L2, ovs2, hL2, hov2, hol2, hoo2, hcell2⟩ := read_facts hR hread
                              rw [hL] at hL2; injection hL2 with hL2; subst hL2
                              have heqo : ovs2 = ovs := by
                                have f1 := q4 w (fun _ => rfl)
                                by_cases hm0 : m = 0
                                · subst hm0
                                  simp at hol2
                                  have : ovs = [] := List.eq_nil_of_length_eq_zero (by rw [hol, q2]; simp)
                                  rw [this]; exact hol2
                                · have f2 := run_loadCells_list (P := P) w ad ovs2 (fun k v hk => by rw [hadr (by omega), add_none]; exact hcell2 k v hk)
                                  rw [hol2] at f2
                                  have f3 : (Builtin.firstCells i.size m (.slice (some ad) m cap)).run P w = .ok ovs2.toArray w := by simpa [Builtin.firstCells] using f2
                                  rw [f1] at f3; injection f3 with f3; simpa using f3.symm
                              apply List.ext_getElem?
                              intro k
                              have hcl : ccs.toList.length = ccs.size := by simp
                              simp only [splice, List.getElem?_append, List.getElem?_take, List.getElem?_drop, List.length_append, List.length_take, List.length_drop]
                              rcases Nat.lt_or_ge k (m * i.size) with q | q
                              · rw [if_pos (by omega), if_pos (by omega), if_pos (by omega), if_pos (by omega), if_pos (by omega)]
                                subst heqo
                                obtain ⟨vk, hvk⟩ : ∃ vk, ovs2[k]? = some vk := ⟨ovs2[k]'(by omega), List.getElem?_eq_getElem (by omega)⟩
                                have := hcell2 k vk hvk
                                rw [cell_at g1] at this
                                rw [hvk]
                                simpa using this
                              · rcases Nat.lt_or_ge k ((m + n) * i.size) with q' | q'
                                · rw [if_pos q', if_pos (by omega), if_neg (by omega), if_neg (by omega)]
                                  congr 1; omega
                                · rw [if_neg (by omega), if_neg (by omega)]
                                  rw [List.getElem?_eq_none (by omega)]
                            rw [e2]
                            exact VRels.mono hk _ _ (q1.append hnv)
                          · simp only [List.all_append, Bool.and_eq_true]; exact ⟨q3, hone⟩
                        · obtain ⟨hkb, hk2⟩ := hold' e hk'
                          obtain ⟨M, h1, h2⟩ := hR.obj k ob hk2
                          exact ⟨M, hk k M h1, h2.mono hk (hoth _ (hother k ob M hkb hk2 h1))⟩
                      · intro k ob M hk' hM hwr
                        by_cases e : k = H.next
                        · subst e; rw [Inj.put_same] at hM; injection hM with hM; subst hM; exact hnew
                        · obtain ⟨hkb, hk2⟩ := hold' e hk'
                          exact hR.new k ob M hk2 (hnn k M e hM) hwr
                      · intro k k' ob ob' M M' hne h1 h2 h3 h4 hwr
                        by_cases e : k = H.next
                        · subst e
                          rw [Inj.put_same] at h3; injection h3 with h3; subst h3
                          obtain ⟨hkb, hk2⟩ := hold' (fun h => hne h.symm) h2
                          exact fun h => hother k' ob' M' hkb hk2 (hnn k' M' (fun h => hne h.symm) h4) h.symm
                        · obtain ⟨hkb, hk2⟩ := hold' e h1
                          by_cases e' : k' = H.next
                          · subst e'
                            rw [Inj.put_same] at h4; injection h4 with h4; subst h4
                            exact hother k ob M hkb hk2 (hnn k M e h3)
                          · obtain ⟨hkb', hk2'⟩ := hold' e' h2
                            exact hR.inj k k' ob ob' M M' hne hk2 hk2' (hnn _ _ e h3) (hnn _ _ e' h4) hwr
                      · intro k M hM
                        by_cases e : k = H.next
                        · subst e; show H.next < H.next + 1; omega
                        · exact Nat.lt_succ_of_lt (hR.dom k M (hnn k M e hM))
                      · intro k M hM
                        simp only [Array.size_setIfInBounds]
                        by_cases e : k = H.next
                        · subst e; rw [Inj.put_same] at hM; injection hM with hM; subst hM; exact hlt
                        · exact hR.blk k M (hnn k M e hM)
                      · intro g hg2
                        obtain ⟨M, h1, h2⟩ := hR.glob g hg2
                        exact ⟨M, hk g M h1, h2⟩
                      · intro k hk2
                        rw [hoth k (by omega)]; exact hR.old k hk2
                      · simp only [Array.size_setIfInBounds]; exact hR.size
                      · exact hR.same
                      · intro r ob hr
                        rw [hoth r (fun e => hR.prvN r ob b _ L hr hget hL e.symm)]; exact hR.prvs r ob hr
                      · intro r ob k o' M hr hk' hM
                        by_cases e : k = H.next
                        · subst e; rw [Inj.put_same] at hM; injection hM with hM; subst hM
                          exact hR.prvN r ob b _ L hr hget hL
                        · obtain ⟨hkb, hk2⟩ := hold' e hk'
                          exact hR.prvN r ob k o' M hr hk2 (hnn k M e hM)
                    · simp only [VRel]
                      refine ⟨_, ad, cap, i, Inj.put_same, hi, rfl, hroom, fun h => by rw [hadr h]; simp, fun _ => ⟨by simpa using heq, hpos⟩, (fun c hc => by cases hc)⟩
                    · refine ⟨by simp, fun k hk' hn => ?_⟩
                      rw [Heap.get_push, if_neg (by simp; omega), Heap.get_kill]
                      split
                      · rfl
                      · exact hn
                  · refine growing (some ad) m cap ovs old (H.kill b) rfl q1 q2 q3 (by omega) hbd q4 happ rfl (fun k ob hk => ?_) ⟨Nat.le_refl _, fun k _ hn => ?_⟩
                    · rw [Heap.get_kill] at hk
                      by_cases e : k = b
                      · rw [if_pos e] at hk; cases hk
                      · rw [if_neg e] at hk; exact hk
                    · rw [Heap.get_kill]; split
                      · rfl
                      · exact hn
                · cases happ
            · cases happ
        · split at happ
          · split at happ
            · rename_i hm0
              subst hm0
              have hcap0 : cap = 0 := hsome 0 rfl
              subst hcap0
              exact growing (some ad) 0 0 [] [] H rfl (by simp [VRels]) (by simp) rfl (by omega) hbd (fun W hW => firstCells_zero _ _ _ _ W) (by simpa using happ) rfl (fun _ _ h => h) (Evo.refl _)
            · cases happ
          · cases happ
      · cases happ
    · cases happ


theorem append_sound (hR : Rel P w0 prv β H w) {t u ty e : TypeId} {i : TypeInfo} {du : TypeDesc} (ht : P.underlying t = some (.slice e)) (hi : P.info? e = some i) {z : List AV} (hz : zeroCs P e = some z) (hzl : z.length = i.size)
    (hs0 : i.size ≠ 0) (hb0 : i.bytes ≠ 0) (hu : P.underlying u = some du) (hdu : (∃ e', du = .slice e') ∨ du = .string) {s x v : AV} {vs vx : Value} (hs : VRel P β s vs) (hx : VRel P β x vx) {n : Nat} {l : List AV}
    (hsrc : srcCells i.size H x = some (n, l)) (happ : appendA e i.size i.bytes s n l H = some (v, H')) :
    (∃ r w' β', (Builtin.append_ #[t, u] ty #[vs, vx]).run P w = .ok r w' ∧ Ext H.next β β' ∧ Rel P w0 prv β' H' w' ∧ VRel P β' v r ∧ Evo H H') := by
  obtain ⟨news, hnv, hnl, hone, hlen, hfc⟩ := src_run hR hx hsrc
  obtain ⟨zi, hzi, hzc⟩ : ∃ zv, i.zero = some zv ∧ zv.cells.size = i.size := by
    unfold zeroCs at hz
    rw [hi] at hz
    simp only at hz
    split at hz
    · rename_i zv hzv
      refine ⟨zv, hzv, ?_⟩
      have := (cCells_sound (P := P) (β := β) hz).length
      simpa [hzl] using this
    · cases hz
  have hSrc : ∀ W : World, (∀ a, W.cell? a = w.cell? a) → (Builtin.firstCells i.size n vx).run P W = .ok news.toArray W := fun W hW => by
    have := hfc W hW n (Nat.le_refl _)
    rwa [← hnl, List.take_length] at this
  have hsrcK : Src P i.size u vx n news w := by
    refine ⟨?_, fun w' => by rw [hlen]; rfl, hSrc w fun _ => rfl, hSrc w.drew fun _ => rfl, hnl, ones hnv hone⟩
    rcases hdu with ⟨e', rfl⟩ | rfl
    · exact .inl ⟨e', hu⟩
    · exact .inr hu
  exact append_core hR hi hzc (by omega) hb0 hs hnv hnl hone
    (fun base m cap w' hroom hst hn => append_place ht hi hu hdu hlen hroom (hSrc w fun _ => rfl) hst hn)
    (fun base m cap olds hold hg h63 hfit => run_append_grow_src w t u ty e i zi ht hi hzi base m cap olds hold vx n news hsrcK hg h63 hfit) happ

/-- Zeros appended: the number of them is told. -/
theorem append_zeros (hR : Rel P w0 prv β H w) {t u ty e : TypeId} {i : TypeInfo} {ku k : IntKind} (ht : P.underlying t = some (.slice e)) (hi : P.info? e = some i) {z : List AV} (hz : zeroCs P e = some z) (hzl : z.length = i.size)
    (hs0 : i.size ≠ 0) (hb0 : i.bytes ≠ 0) (hu : P.underlying u = some (.int ku)) {s v : AV} {vs : Value} (hs : VRel P β s vs) {n : Nat} (hn : n ≤ 2 ^ 40) (hnb : n * i.bytes ≤ 2 ^ 40)
    (happ : appendA e i.size i.bytes s n (zeros z n) H = some (v, H')) :
    (∃ r w' β', (Builtin.append_ #[t, u] ty #[vs, .int k n]).run P w = .ok r w' ∧ Ext H.next β β' ∧ Rel P w0 prv β' H' w' ∧ VRel P β' v r ∧ Evo H H') := by
  obtain ⟨zi, hzi, hzrel⟩ : ∃ zv, i.zero = some zv ∧ VRels P β z zv.cells.toList := by
    unfold zeroCs at hz
    rw [hi] at hz
    simp only at hz
    split at hz
    · rename_i zv hzv; exact ⟨zv, hzv, cCells_sound hz⟩
    · cases hz
  have hone : z.all AV.one = true := (zeroCs_run (β := β) hz w).choose_spec.2.2
  have hzc : zi.cells.size = i.size := by have := hzrel.length; simp only [Array.length_toList] at this; omega
  have hpos : 0 < i.size := by omega
  have hzcl : ∀ q, (Builtin.zeroCells zi.cells q).toList = ((Array.range (q * i.size)).map fun k => zi.cells[k % zi.cells.size]!).toList := by
    intro q; simp [Builtin.zeroCells, hzc]
  have hnv : VRels P β (zeros z n) (Builtin.zeroCells zi.cells n).toList := by rw [hzcl]; exact zeros_rel hzrel hzc hpos _
  have hnl : (Builtin.zeroCells zi.cells n).toList.length = n * i.size := by rw [Array.length_toList, zeroCells_length, hzc]
  have hw : IntKind.i64.wrap (n : Int) = n := by rw [IntKind.wrap_i64]; omega
  have h48i : ¬ (281474976710656 < (n : Int) * (i.bytes : Int)) := by
    rw [← Int.natCast_mul]
    omega
  have hneg : ¬ ((n : Int) < 0) := by omega
  have hz0 : n * i.size = 0 → Builtin.zeroCells zi.cells n = #[] := fun h => by
    apply Array.eq_empty_of_size_eq_zero
    rw [zeroCells_length, hzc, h]
  refine append_core hR hi hzc hpos hb0 hs hnv hnl (zeros_one hone _) ?_ ?_ happ
  · intro base m cap w' hroom hst hnn
    by_cases hns : n * i.size = 0
    · have hz1 := hz0 hns
      rw [hz1] at hst
      cases base with
      | none =>
        have := hnn rfl; subst this
        simp [Builtin.append_, run_underlying ht, run_underlying hu, run_szOf (szOf_info hi), run_typeInfo' hi, asInt, asIntOf, hw, hneg, h48i, hroom, hns]
      | some ad =>
        have := hst ad rfl
        simp [Builtin.append_, run_underlying ht, run_underlying hu, run_szOf (szOf_info hi), run_typeInfo' hi, asInt, asIntOf, hw, hneg, h48i, hroom, hns, this]
    · cases base with
      | none =>
        have := hnn rfl; subst this
        simp [Builtin.append_, run_underlying ht, run_underlying hu, run_szOf (szOf_info hi), run_typeInfo' hi, asInt, asIntOf, hw, hneg, h48i, hroom, hns, zeroValue, typeInfo, hi, hzi]
      | some ad =>
        have := hst ad rfl
        simp [Builtin.append_, run_underlying ht, run_underlying hu, run_szOf (szOf_info hi), run_typeInfo' hi, asInt, asIntOf, hw, hneg, h48i, hroom, hns, zeroValue, typeInfo, hi, hzi, this]
  · intro base m cap olds hold hg h63 hfit
    have hroom : ¬ (m + n ≤ cap) := by omega
    have h63' : ¬ (9223372036854775807 < ((m : Int) + (n : Int))) := by omega
    have h48' : ¬ (281474976710656 < Builtin.nextslicecap (m + n) cap * i.bytes) := by omega
    by_cases hns : n * i.size = 0
    · have hz1 := hz0 hns
      simp [Builtin.append_, run_underlying ht, run_underlying hu, sizeOf, typeInfo, zeroValue, hi, hzi, asInt, asIntOf, hw, hneg, h48i, hroom, hns, h63', h48', Question.forced, hold, newRow, grownCap, hz1]
    · simp [Builtin.append_, run_underlying ht, run_underlying hu, sizeOf, typeInfo, zeroValue, hi, hzi, asInt, asIntOf, hw, hneg, h48i, hroom, hns, h63', h48', Question.forced, hold, newRow, grownCap]
      congr 2
      apply Array.ext'
      simp [List.append_assoc]
end
end Go.AE
