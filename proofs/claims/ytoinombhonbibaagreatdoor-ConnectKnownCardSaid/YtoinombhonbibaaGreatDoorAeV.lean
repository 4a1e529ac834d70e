/-
  Regions that draw their order: they are sound.
-/
import Derived.Test.YtoinombhonbibaaGreatDoorAeU
set_option linter.unusedSimpArgs false
set_option linter.unusedVariables false
set_option linter.unusedSectionVars false
namespace Go.AE

section
variable {P : Program} {β : Inj} {w w0 : World} {prv : List (Nat × Obj)} {H : Heap} {base na N : Nat} {β0 : Inj} {H0 : Heap} {e : FEnv} {t : Array Value} {q : Nat → Option AObj} {cur : Nat} {X : Nat → Option (Nat × Obj)}
  {G : Machine → Prop} {fn : FuncId} {rd : Option Nat} {ds : List Deferred} {k : List Item} {cs : List Frame} {ops : Array Oper}

theorem MS.put (h : MS P w0 prv base na N β0 H0 β H w e t q cur X) {d : Option Nat} (hd : cDst N d = true) {v : AV} {u : Value} (hv : VRel P β v u) (ds : List Deferred) :
    MS P w0 prv base na N β0 H0 β H w (fput e d v) ((Act.mk t ds).put d u).tmps q cur X :=
  { h with env := h.env.put hd hv }

theorem kind_of {d : DOp} (h : match d.k with | .pure => kd d.o.op = .pure | .read _ => kd d.o.op = .read | .alloc _ => kd d.o.op = .alloc | .eff _ _ => True) :
    (d.k = .pure → kd d.o.op = .pure) ∧ (∀ hi, d.k = .read hi → kd d.o.op = .read) ∧ (∀ j, d.k = .alloc j → kd d.o.op = .alloc) := by
  refine ⟨fun hk => ?_, fun hi hk => ?_, fun j hk => ?_⟩ <;> rw [hk] at h <;> exact h

theorem ms_quiet (h : MS P w0 prv base na N β0 H0 β H w e t q cur X) {d : DOp} {o : Oper} (ho : ops[d.idx]? = some o) (hc : cOper P N ops o = some d.o)
    (hkd : match d.k with | .pure => kd d.o.op = .pure | .read _ => kd d.o.op = .read | .alloc _ => kd d.o.op = .alloc | .eff _ _ => True) (hal : ∀ j, d.k = .alloc j → j < na ∧ X j = none)
    {x : QR} (hx : quiet base d e H = some x) (rest : List Nat) :
    ∃ β' w' t' X', MS P w0 prv base na N β0 H0 β' H w' (fput e d.o.dst x.v) t' (qput q x.q) cur X' ∧ (∀ j, X j = none → d.k ≠ .alloc j → X' j = none) ∧
      step P (lone (Fx fn rd t ds (.inRegion ops (d.idx :: rest) :: k)) cs w) = .next (lone (Fx fn rd t' ds (.inRegion ops rest :: k)) cs w') := by
  obtain ⟨ys, h1, h2, h3, h4, h5⟩ := cOper_inv hc
  obtain ⟨k1, k2, k3⟩ := kind_of hkd
  unfold quiet at hx
  split at hx
  · rename_i hg
    injection hx with hx; subst hx
    have hw := fwants_sound h.env h2 hg
    refine ⟨β, w, _, X, h.put (h4 ▸ h3) vrel_undef ds, fun j hj _ => hj, ?_⟩
    rw [st_opSkip (by simp [ho, hw]), Fx_finish ho, h4]
  · rename_i hg
    have hw := fwants_sound h.env h2 hg
    split at hx
    · rename_i xs hxs
      have hxr := fevs_sound h.rel h.env (ds := ds) h5 hxs
      have hgs := stG_op (P := P) (fn := fn) (rd := rd) (ds := ds) (k := k) (cs := cs) (w := w) (rest := rest) ho hw (cOp_noDefer h1)
      have hval : ∀ {u w'}, (execOp (Act.mk t ds).eval o).run P w = .ok (.value u) w' → step P (lone (Fx fn rd t ds (.inRegion ops (d.idx :: rest) :: k)) cs w) = .next (lone (Fx fn rd ((Act.mk t ds).put d.o.dst u).tmps ds (.inRegion ops rest :: k)) cs w') :=
        fun hr => by rw [h4, ← Fx_finish ho]; exact step_lone_go (by rw [hgs]; simp [stepG.apply, hr])
      split at hx
      · rename_i hk
        split at hx
        · rename_i v hv
          injection hx with hx; subst hx
          obtain ⟨u, hr, hrel⟩ := pure_sound (ρ := (Act.mk t ds).eval) h1 (k1 hk) hxr hv w
          exact ⟨β, w, _, X, h.put (h4 ▸ h3) hrel ds, fun j hj _ => hj, hval hr⟩
        · cases hx
      · rename_i hi hk
        split at hx
        · rename_i v hv
          injection hx with hx; subst hx
          obtain ⟨u, hr, hrel⟩ := read_sound (ρ := (Act.mk t ds).eval) h.rel h1 (k2 _ hk) hxr hv
          exact ⟨β, w, _, X, h.put (h4 ▸ h3) hrel ds, fun j hj _ => hj, hval hr⟩
        · cases hx
      · rename_i j hk
        split at hx
        · rename_i f ob hv
          injection hx with hx; subst hx
          obtain ⟨hjn, hXj⟩ := hal j hk
          obtain ⟨ox, u, tot, hr, hwr, hrest⟩ := alloc_sound h1 (k3 _ hk) hxr hv w
          obtain ⟨hb, hn⟩ := h.free j hjn hXj
          obtain ⟨hrel, hO⟩ := hrest (base + j) (β.put (base + j) ⟨w.heap.size, 0, tot⟩) (Inj.put_keep hb) Inj.put_same
          have hkeep := Inj.put_keep (L := ⟨w.heap.size, 0, tot⟩) hb
          have hsz : ∀ p ∈ XS cur na X ++ prv, p.1 < w.heap.size := by
            intro p hp
            have := h.rel.prvs p.1 p.2 hp
            rcases Nat.lt_or_ge p.1 w.heap.size with h' | h'
            · exact h'
            · simp [Array.getElem?_eq_none h'] at this
          refine ⟨β.put (base + j) ⟨w.heap.size, 0, tot⟩, { w with heap := w.heap.push ox }, _, fun m => if m = j then some (w.heap.size, ox) else X m, ?_, ?_, hval hr⟩
          · refine MS.put (?_ : MS P w0 prv base na N β0 H0 _ H _ e t _ cur _) (h4 ▸ h3) hrel ds
            have hnx := h.nx
            constructor
            · refine ((h.rel.pushPrv ox).name (L := ⟨w.heap.size, 0, tot⟩) hb (by omega) (by simp) hn).prvSub ?_
              intro p hp
              rcases List.mem_append.1 hp with hp | hp
              · obtain ⟨m, m1, m2, m3⟩ := mem_XS.1 hp
                by_cases e : m = j
                · rw [if_pos e] at m3; injection m3 with m3; subst m3; simp
                · rw [if_neg e] at m3
                  exact List.mem_cons_of_mem _ (List.mem_append_left _ (mem_XS.2 ⟨m, m1, m2, m3⟩))
              · exact List.mem_cons_of_mem _ (List.mem_append_right _ hp)
            · exact h.env.mono hkeep
            · exact hnx
            · refine ⟨fun b L hbL => hkeep b L (h.ext.keep b L hbL), fun b L hbL => ?_⟩
              by_cases e : b = base + j
              · exact .inr (by omega)
              · exact h.ext.new b L (by simpa [Inj.put, e] using hbL)
            · exact h.evo
            · intro m o' m1 m2 hq
              by_cases e : m = j
              · subst e
                simp only [qput, if_true] at hq
                injection hq with hq; subst hq
                exact ⟨⟨w.heap.size, 0, tot⟩, ox, Inj.put_same, by simp, hO⟩
              · simp only [qput, if_neg e] at hq
                obtain ⟨L, x, g1, g2, g3⟩ := h.pend m o' m1 m2 hq
                exact ⟨L, x, hkeep _ _ g1, by rw [if_neg e]; exact g2, fun w' hw' => (g3 w' hw').mono hkeep rfl⟩
            · exact h.hid
            · intro m m1 m2
              by_cases e : m = j
              · rw [if_pos e] at m2; cases m2
              · rw [if_neg e] at m2
                obtain ⟨g1, g2⟩ := h.free m m1 m2
                exact ⟨by simp only [Inj.put]; rw [if_neg (by omega)]; exact g1, g2⟩
            · intro i' j' r x r' x' a1 a2 a3 a4 hne hi' hj'
              by_cases e1 : i' = j
              · rw [if_pos e1] at hi'; injection hi' with hi'; injection hi' with e3 _
                rw [if_neg (fun h => hne (e1.trans h.symm))] at hj'
                have := hsz (r', x') (List.mem_append_left _ (mem_XS.2 ⟨j', a2, a4, hj'⟩))
                simp only at this
                omega
              · rw [if_neg e1] at hi'
                by_cases e2 : j' = j
                · rw [if_pos e2] at hj'; injection hj' with hj'; injection hj' with e3 _
                  have := hsz (r, x) (List.mem_append_left _ (mem_XS.2 ⟨i', a1, a3, hi'⟩))
                  simp only at this
                  omega
                · rw [if_neg e2] at hj'
                  exact h.inj i' j' r x r' x' a1 a2 a3 a4 hne hi' hj'
            · intro m r x m1 m2 hm
              by_cases e : m = j
              · rw [if_pos e] at hm; injection hm with hm; injection hm with e1 _
                subst e1
                refine ⟨h.rel.size, fun p hp => ?_⟩
                have := hsz p (List.mem_append_right _ hp)
                omega
              · rw [if_neg e] at hm; exact h.out m r x m1 m2 hm
          · intro m hm hne
            have : m ≠ j := by rintro rfl; exact hne hk
            simp only; rw [if_neg this]; exact hm
        · cases hx
      · cases hx
    · cases hx
  · cases hx

theorem ms_eff {ih : Job → Prop} (hC : ∀ j, ih j → JobSound P j) (hG : Closed P G) (h : MS P w0 prv base na N β0 H0 β H w e t q cur X) {d : DOp} {o : Oper} (ho : ops[d.idx]? = some o) (hc : cOper P N ops o = some d.o) {num hi : Nat} (hcur : cur ≤ na) (hhi : hi ≤ na)
    {ws : Nat → Heap → Prop} {next : FEnv → Heap → Nat → Prop} (hx : effStep ih base d num hi e H q ws cur next) (rest : List Nat)
    (cont : ∀ β' H' w' e' t' cur', next e' H' cur' → cur' ≤ na → MS P w0 prv base na N β0 H0 β' H' w' e' t' q cur' X → Fwd P G (lone (Fx fn rd t' ds (.inRegion ops rest :: k)) cs w')) :
    Fwd P G (lone (Fx fn rd t ds (.inRegion ops (d.idx :: rest) :: k)) cs w) := by
  obtain ⟨ys, h1, h2, h3, h4, h5⟩ := cOper_inv hc
  unfold effStep at hx
  split at hx
  · rename_i hg
    have hw := fwants_sound h.env h2 hg
    refine Fwd.to hG (st_opSkip (by simp [ho, hw])) ?_
    rw [Fx_finish ho, ← h4]
    exact Fwd.here (cont _ _ _ _ _ _ hx hcur (h.put (h4 ▸ h3) vrel_undef ds))
  · rename_i hg
    have hw := fwants_sound h.env h2 hg
    split at hx
    · rename_i xs hxs
      have hxr := fevs_sound h.rel h.env (ds := ds) h5 hxs
      obtain ⟨K0, hop, hK⟩ := hx
      have hf := h.flush (hi - cur) (by omega)
      have e1 : cur + (hi - cur) = max cur hi := by omega
      rw [e1] at hf
      refine op_sound hC hG ho hw h1 hxr hf.rel hop ?_
      intro v H' β' w' u hk hext hev hR hv
      obtain ⟨_, hnext⟩ := hK v H' hk
      rw [Fx_finish ho, ← h4]
      have hnx := hf.nx
      have hle := hev.next
      refine Fwd.here (cont β' H' w' _ _ _ hnext (by omega) ?_)
      refine MS.put (?_ : MS P w0 prv base na N β0 H0 _ H' _ e t _ _ _) (h4 ▸ h3) hv ds
      constructor
      · exact hR
      · exact hf.env.mono hext.keep
      · omega
      · exact hf.ext.trans hext (by omega)
      · intro b hb hn; exact hev.none b (by omega) (hf.evo b hb hn)
      · intro j o' m1 m2 hq
        obtain ⟨L, x, g1, g2, g3⟩ := hf.pend j o' m1 m2 hq
        exact ⟨L, x, hext.keep _ _ g1, g2, fun w' hw' => (g3 w' hw').mono hext.keep rfl⟩
      · intro j m1 m2; exact hev.none _ (by omega) (hf.hid j m1 m2)
      · intro j m1 m2
        obtain ⟨g1, g2⟩ := hf.free j m1 m2
        refine ⟨?_, hev.none _ (by omega) g2⟩
        cases hb : β' (base + j) with
        | none => rfl
        | some L =>
          rcases hext.new _ _ hb with g | g
          · rw [g1] at g; cases g
          · omega
      · exact hf.inj
      · exact hf.out
    · exact hx.elim
  · exact hx.elim

theorem depsOk_mem : ∀ {α : List (Nat × DOp)} {x : Nat × DOp} {β : List (Nat × DOp)}, depsOk (α ++ x :: β) = true → ∀ a ∈ α, x.1.testBit a.2.idx = true ∨ indep a.2 x.2 = true
  | [], x, β, _, a, ha => by cases ha
  | b :: α, x, β, h, a, ha => by
    simp only [List.cons_append, depsOk, Bool.and_eq_true] at h
    rcases List.mem_cons.1 ha with rfl | ha
    · have := List.all_eq_true.1 h.1 x (by simp)
      rw [Bool.or_eq_true] at this
      exact this
    · exact depsOk_mem h.2 a ha

theorem depsOk_sub : ∀ {l l' : List (Nat × DOp)}, l'.Sublist l → depsOk l = true → depsOk l' = true
  | _, _, .slnil, h => h
  | _ :: _, _, .cons _ hs, h => by
    simp only [depsOk, Bool.and_eq_true] at h
    exact depsOk_sub hs h.2
  | _ :: _, _ :: _,     .cons_cons _ hs, h => by
    simp only [depsOk, Bool.and_eq_true] at h ⊢
    refine ⟨?_, depsOk_sub hs h.2⟩
    rw [List.all_eq_true] at h ⊢
    exact fun b hb => h.1 b (hs.subset hb)

theorem remove_sub {α : Type} (a : List α) (x : α) (b : List α) : (a ++ b).Sublist (a ++ x :: b) := List.Sublist.append (List.Sublist.refl a) (List.sublist_cons_self x b)

/-- alloc numbers: each but once. -/
def AllocNd (l : List (Nat × DOp)) : Prop := l.Pairwise fun a b => ∀ i j, a.2.k = .alloc i → b.2.k = .alloc j → i ≠ j

theorem numbered_ge : ∀ {l : List (Nat × DOp)} {j na : Nat}, Numbered (l.map (·.2)) j na → ∀ p ∈ l, (∀ i, p.2.k = .alloc i → j ≤ i ∧ i < na) ∧ ∀ n hi, p.2.k = .eff n hi → hi ≤ na
  | [], j, na, h, p, hp => by cases hp
  | d :: r, j, na, h, p, hp => by
    simp only [List.map_cons, Numbered] at h
    split at h
    · rename_i i hk
      have hle := h.2.le
      rcases List.mem_cons.1 hp with rfl | hp
      · refine ⟨fun i' hk' => ?_, fun n hi hk' => ?_⟩
        · rw [hk] at hk'; injection hk' with hk'; omega
        · rw [hk] at hk'; cases hk'
      · obtain ⟨g1, g2⟩ := numbered_ge h.2 p hp
        exact ⟨fun i' hk' => by have := g1 i' hk'; omega, g2⟩
    · rename_i n hi hk
      have hle := h.2.le
      rcases List.mem_cons.1 hp with rfl | hp
      · refine ⟨fun i' hk' => ?_, fun n hi hk' => ?_⟩
        · rw [hk] at hk'; cases hk'
        · rw [hk] at hk'; injection hk' with _ hk'; omega
      · exact numbered_ge h.2 p hp
    · rename_i hk1 hk2
      rcases List.mem_cons.1 hp with rfl | hp
      · exact ⟨fun i' hk' => absurd hk' (hk1 i'), fun n hi hk' => absurd hk' (hk2 n hi)⟩
      · exact numbered_ge h p hp

theorem numbered_nd : ∀ {l : List (Nat × DOp)} {j na : Nat}, Numbered (l.map (·.2)) j na → AllocNd l
  | [], _, _, _ => List.Pairwise.nil
  | d :: r, j, na, h => by
    simp only [List.map_cons, Numbered] at h
    split at h
    · rename_i i hk
      refine List.Pairwise.cons (fun b hb i' j' hi' hj' => ?_) (numbered_nd h.2)
      rw [hk] at hi'; injection hi' with hi'
      have := (numbered_ge h.2 b hb).1 j' hj'
      omega
    · rename_i n hi hk
      exact List.Pairwise.cons (fun b hb i' j' hi' hj' => by rw [hk] at hi'; cases hi') (numbered_nd h.2)
    · rename_i hk1 hk2
      exact List.Pairwise.cons (fun b hb i' j' hi' hj' => absurd hi' (hk1 i')) (numbered_nd h)

theorem nodup_inj {α γ : Type} {f : α → γ} : ∀ {l : List α}, (l.map f).Nodup → ∀ a ∈ l, ∀ b ∈ l, f a = f b → a = b
  | [], _, a, ha, _, _, _ => by cases ha
  | x :: r, h, a, ha, b, hb, e => by
    rw [List.map_cons, List.nodup_cons] at h
    rcases List.mem_cons.1 ha with e1 | ha'
    · rcases List.mem_cons.1 hb with e2 | hb'
      · rw [e1, e2]
      · exact (h.1 (List.mem_map.2 ⟨b, hb', by rw [← e, e1]⟩)).elim
    · rcases List.mem_cons.1 hb with e2 | hb'
      · exact (h.1 (List.mem_map.2 ⟨a, ha', by rw [e, e2]⟩)).elim
      · exact nodup_inj h.2 a ha' b hb' e

/-- What is still to be run. -/
structure Left (P : Program) (N : Nat) (ops : Array Oper) (z : List (Nat × DOp)) (na : Nat) (X : Nat → Option (Nat × Obj)) (listed : Array Bool) (l : List (Nat × DOp)) : Prop where
  sub : ∀ p ∈ l, p ∈ z
  deps : depsOk l = true
  pre : PreOk (fun i => listed.getD i false = true) l
  nd : AllocNd l
  un : ∀ p ∈ l, listed.getD p.2.idx true = false
  all : ∀ i, i < ops.size → listed.getD i false = true ∨ ∃ p ∈ l, p.2.idx = i
  closed : ∀ p ∈ z, listed.getD p.2.idx false = true → ∀ a, p.1.testBit a = true → listed.getD a false = true
  free : ∀ p ∈ l, ∀ j, p.2.k = .alloc j → X j = none
  size : listed.size = ops.size
  idx : (l.map (·.2.idx)).Nodup

theorem draw_run {z : List (Nat × DOp)} (hz : DrawOk P N ops z na) {ih : Job → Prop} (hC : ∀ j, ih j → JobSound P j) (hI : ∀ op xs H K0, opWp ih op xs H K0 → ∃ v H', K0 v H') (hG : Closed P G) {K : FEnv → Heap → Prop}
    (cont : ∀ e' H' β' w' t', K e' H' → Ext base β0 β' → base ≤ H'.next → (∀ b, b < base → H0.get b = none → H'.get b = none) → Rel P w0 prv β' H' w' → FRel P β' N e' t' → Fwd P G (lone (Fx fn rd t' ds k) cs w')) :
    ∀ (fuel tt : Nat) (listed : Array Bool) (l : List (Nat × DOp)) (β : Inj) (H : Heap) (w : World) (e : FEnv) (t : Array Value) (q : Nat → Option AObj) (ws : Nat → Heap → Prop) (cur : Nat) (X : Nat → Option (Nat × Obj)),
      l.length ≤ fuel → Left P N ops z na X listed l → cur ≤ na → MS P w0 prv base na N β0 H0 β H w e t q cur X → sWp ih base na K (l.map (·.2)) e H q ws cur →
      Fwd P G (lone (Fx fn rd t ds (.inRegion ops (Region.linearise.go .any ops fuel tt listed []) :: k)) cs w) := by
  have done : ∀ (listed : Array Bool) (β : Inj) (H : Heap) (w : World) (e : FEnv) (t : Array Value) (q : Nat → Option AObj) (ws : Nat → Heap → Prop) (cur : Nat) (X : Nat → Option (Nat × Obj)),
      Left P N ops z na X listed [] → cur ≤ na → MS P w0 prv base na N β0 H0 β H w e t q cur X → sWp ih base na K [] e H q ws cur → Fwd P G (lone (Fx fn rd t ds (.inRegion ops [] :: k)) cs w) := by
    intro listed β H w e t q ws cur X hL hcur h hs
    refine Fwd.of_step hG st_regEnd ?_
    have hf := h.flush (na - cur) (by omega)
    have e1 : cur + (na - cur) = na := by omega
    rw [e1] at hf
    simp only [sWp] at hs
    have hnx := hf.nx
    exact cont _ _ _ _ _ hs hf.ext (by omega) hf.evo (hf.rel.prvSub (fun p hp => List.mem_append_right _ hp)) hf.env
  intro fuel
  induction fuel with
  | zero =>
    intro tt listed l β H w e t q ws cur X hlen hL hcur h hs
    have : l = [] := List.length_eq_zero_iff.1 (by omega)
    subst this
    simp only [Region.linearise.go, List.reverse_nil]
    exact done listed β H w e t q ws cur X hL hcur h hs
  | succ fuel ihf =>
    intro tt listed l β H w e t q ws cur X hlen hL hcur h hs
    simp only [Region.linearise.go]
    change Fwd P G (lone (Fx fn rd t ds (.inRegion ops (match (Region.ready .any ops listed)[tt % (Region.ready .any ops listed).length]? with
      | some i => Region.linearise.go .any ops fuel (tt / (Region.ready .any ops listed).length) (listed.setIfInBounds i true) [i]
      | none => [].reverse) :: k)) cs w)
    cases hi : (Region.ready .any ops listed)[tt % (Region.ready .any ops listed).length]? with
    | none =>
      have hnil : Region.ready .any ops listed = [] := by
        cases hr : Region.ready .any ops listed with
        | nil => rfl
        | cons x xs =>
          rw [hr] at hi
          have hlt : tt % (x :: xs).length < (x :: xs).length := Nat.mod_lt _ (by simp)
          simp at hi
          simp at hlt
          omega
      have hl : l = [] := by
        cases l with
        | nil => rfl
        | cons p r =>
          exfalso
          obtain ⟨o, ho, hc, hp⟩ := hz.each p (hL.sub p (by simp))
          have hlt : p.2.idx < ops.size := by
            rcases Nat.lt_or_ge p.2.idx ops.size with h' | h'
            · exact h'
            · simp [Array.getElem?_eq_none h'] at ho
          have : p.2.idx ∈ Region.ready .any ops listed := by
            unfold Region.ready
            refine List.mem_filter.2 ⟨List.mem_range.2 hlt, ?_⟩
            rw [hL.un p (by simp), ho]
            simp only [Bool.not_false, Option.map_some, Option.getD_some, Bool.true_and]
            rw [← Array.all_toList, List.all_eq_true]
            intro ed hed
            cases hb : Region.binds .any ed with
            | false => simp
            | true =>
              have hm : ed.on ∈ p.2.pre := by rw [hp]; exact List.mem_map.2 ⟨ed, List.mem_filter.2 ⟨hed, hb⟩, rfl⟩
              have := hL.pre.1 ed.on hm
              simp only [Bool.not_true, Bool.false_or]
              exact this
          rw [hnil] at this; cases this
      subst hl
      simp only [List.reverse_nil]
      exact done listed β H w e t q ws cur X hL hcur h hs
    | some i =>
      simp only
      rw [linearise_go_acc, List.reverse_singleton, List.singleton_append]
      have hmem := List.mem_of_getElem? hi
      unfold Region.ready at hmem
      obtain ⟨hr1, hr2⟩ := List.mem_filter.1 hmem
      have hilt := List.mem_range.1 hr1
      rw [Bool.and_eq_true] at hr2
      obtain ⟨hun, hpre⟩ := hr2
      have hun' : listed.getD i true = false := by simpa using hun
      have hnl : listed.getD i false ≠ true := by
        have hs : i < listed.size := by rw [hL.size]; exact hilt
        simp [hs] at hun' ⊢
        exact hun'
      rcases hL.all i hilt with hx | ⟨p, hp, hpi⟩
      · exact absurd hx hnl
      · obtain ⟨α, γ, hl⟩ := List.append_of_mem hp
        subst hl
        obtain ⟨o, ho, hc, hpp⟩ := hz.each p (hL.sub p hp)
        rw [hpi] at ho
        rw [ho] at hpre
        simp only [Option.map_some, Option.getD_some] at hpre
        have hpreL : ∀ j ∈ p.2.pre, listed.getD j false = true := by
          intro j hj
          rw [hpp] at hj
          obtain ⟨ed, hed, rfl⟩ := List.mem_map.1 hj
          obtain ⟨hed1, hed2⟩ := List.mem_filter.1 hed
          rw [← Array.all_toList, List.all_eq_true] at hpre
          have := hpre ed hed1
          rw [hed2] at this
          simpa using this
        have hancL : ∀ a, p.1.testBit a = true → listed.getD a false = true := by
          intro a ha
          rcases hz.anc p (hL.sub p hp) a ha with h1 | ⟨p', hp', h1, h2⟩
          · exact hpreL a h1
          · exact hL.closed p' hp' (hpreL _ h1) a h2
        have hind : ∀ a ∈ α.map (·.2), indep a p.2 = true := by
          intro a ha
          obtain ⟨b, hb, rfl⟩ := List.mem_map.1 ha
          rcases depsOk_mem hL.deps b hb with h1 | h1
          · exfalso
            have h2 := hancL _ h1
            have h3 := hL.un b (by simp [hb])
            have hs : b.2.idx < listed.size := by
              rcases Nat.lt_or_ge b.2.idx listed.size with h' | h'
              · exact h'
              · simp [Nat.not_lt.2 h'] at h2
            simp [hs] at h2 h3
            rw [h2] at h3; cases h3
          · exact h1
        rw [List.map_append, List.map_cons] at hs
        have hs' := front hI hind hs
        rw [← List.map_append] at hs'
        have hlen' : (α ++ γ).length ≤ fuel := by simp at hlen ⊢; omega
        have hsub := remove_sub α p γ
        have hset : ∀ j, (listed.setIfInBounds i true).getD j false = true ↔ listed.getD j false = true ∨ j = i := by
          intro j
          have hs : i < listed.size := by rw [hL.size]; exact hilt
          by_cases e : i = j
          · subst e; simp [hs]
          · simp [Array.getElem?_setIfInBounds_ne e, Array.getD_eq_getD_getElem?]
            intro h; exact absurd h.symm e
        have hidxne : ∀ b ∈ α ++ γ, b.2.idx ≠ i := by
          intro b hb e
          have hnd := hL.idx
          rw [List.map_append, List.map_cons, List.nodup_append] at hnd
          obtain ⟨_, hn2, hn3⟩ := hnd
          rw [List.nodup_cons] at hn2
          rcases List.mem_append.1 hb with hb | hb
          · exact hn3 b.2.idx (List.mem_map.2 ⟨b, hb, rfl⟩) p.2.idx (by simp) (e.trans hpi.symm)
          · exact hn2.1 (List.mem_map.2 ⟨b, hb, e.trans hpi.symm⟩)
        have hleft : ∀ X', (∀ b ∈ α ++ γ, ∀ j, b.2.k = .alloc j → X' j = none) → Left P N ops z na X' (listed.setIfInBounds i true) (α ++ γ) := by
          intro X' hX'
          refine ⟨fun b hb => hL.sub b (hsub.subset hb), depsOk_sub hsub hL.deps, ?_, hL.nd.sublist hsub, ?_, ?_, ?_, hX', by simpa using hL.size, (hL.idx.sublist (hsub.map _))⟩
          · refine hL.pre.remove.mono (fun j hj => (hset j).2 (hj.imp id (fun e => e.trans hpi)))
          · intro b hb
            have := hL.un b (hsub.subset hb)
            rw [Array.getD_eq_getD_getElem?, Array.getElem?_setIfInBounds_ne (fun e => hidxne b hb e.symm), ← Array.getD_eq_getD_getElem?]
            exact this
          · intro j hj
            rcases hL.all j hj with h1 | ⟨b, hb, e⟩
            · exact .inl ((hset j).2 (.inl h1))
            · by_cases e' : j = i
              · exact .inl ((hset j).2 (.inr e'))
              · refine .inr ⟨b, ?_, e⟩
                rcases List.mem_append.1 hb with hb | hb
                · exact List.mem_append_left _ hb
                · rcases List.mem_cons.1 hb with rfl | hb
                  · exact absurd (e.symm.trans hpi) e'
                  · exact List.mem_append_right _ hb
          · intro b hb hbl a ha
            rcases (hset _).1 hbl with h1 | h1
            · exact (hset a).2 (.inl (hL.closed b hb h1 a ha))
            · have : b = p := by
                have hnd := hz.nodup
                have hp' := hL.sub p hp
                have : b.2.idx = p.2.idx := h1.trans hpi.symm
                exact nodup_inj hnd b hb p hp' this
              subst this
              exact (hset a).2 (.inl (hancL a ha))
        have hgd := hz.kinds p (hL.sub p hp)
        obtain ⟨na1, na2⟩ := numbered_ge hz.num p (hL.sub p hp)
        rw [← hpi] at ho ⊢
        by_cases hq : p.2.k.quiet = true
        · rw [sWp_quiet hq] at hs'
          obtain ⟨x, hx, hs'⟩ := hs'
          obtain ⟨β', w', t', X', hM, hX', hstep⟩ := ms_quiet (fn := fn) (rd := rd) (ds := ds) (k := k) (cs := cs) h ho hc hgd (fun j hj => ⟨(na1 j hj).2, hL.free p hp j hj⟩) hx (Region.linearise.go .any ops fuel (tt / (Region.ready .any ops listed).length) (listed.setIfInBounds p.2.idx true) [])
          refine Fwd.of_step hG hstep ?_
          rw [hpi]
          refine ihf _ _ _ _ _ _ _ _ _ _ _ _ hlen' (hleft X' ?_) hcur hM hs'
          intro b hb j hj
          refine hX' j (hL.free b (hsub.subset hb) j hj) (fun hk => ?_)
          have hnd := hL.nd
          unfold AllocNd at hnd
          rw [List.pairwise_append] at hnd
          obtain ⟨_, hn2, hn3⟩ := hnd
          rcases List.mem_append.1 hb with hb | hb
          · exact hn3 b hb p (by simp) j j hj hk rfl
          · rw [List.pairwise_cons] at hn2
            exact hn2.1 b hb j j hk hj rfl
        · obtain ⟨num, hi', hk⟩ := DK.notQuiet hq
          rw [sWp_eff hk] at hs'
          refine ms_eff hC hG h ho hc hcur (na2 num hi' hk) hs' _ ?_
          intro β' H' w' e' t' cur' hn hc' hM
          rw [hpi]
          exact ihf _ _ _ _ _ _ _ _ _ _ _ _ hlen' (hleft X (fun b hb j hj => hL.free b (hsub.subset hb) j hj)) hc' hM hn
end
end Go.AE
