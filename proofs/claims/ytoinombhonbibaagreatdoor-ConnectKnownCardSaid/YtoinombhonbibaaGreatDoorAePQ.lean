/-
  An operation of a region, whatever it is; regions in the order of their text.
-/
import Derived.Test.YtoinombhonbibaaGreatDoorAeO
set_option linter.unusedSimpArgs false
set_option linter.unusedVariables false
set_option linter.unusedSectionVars false
namespace Go.AE

section
variable {P : Program} {β : Inj} {w w0 : World} {prv : List (Nat × Obj)} {H H' : Heap} {G : Machine → Prop} {fn : FuncId} {rd : Option Nat} {t : Array Value} {ds : List Deferred} {k : List Item} {cs : List Frame}

theorem cOp_noDefer {o : Go.Op} {r : IOp × List Operand} (h : cOp P o = some r) : ∀ c, o ≠ .defer c := by
  rintro c rfl; simp [cOp] at h

theorem kd_call {iop : IOp} (h : kd iop = .call) : iop = .call := by
  cases iop <;> first | rfl | (simp only [kd] at h; done) | (simp only [kd] at h; cases h; done) | (rename_i k; cases k <;> simp [kd] at h)
theorem kd_next {iop : IOp} (h : kd iop = .next) : iop = .next := by
  cases iop <;> first | rfl | (simp only [kd] at h; done) | (simp only [kd] at h; cases h; done) | (rename_i k; cases k <;> simp [kd] at h)

theorem cKey_noCall {α : Type} {o : Option α} {f : α → IOp × List Operand} {r : IOp × List Operand} (h : (match o with | some x => some (f x) | none => none) = some r) : ∃ x, r = f x := by
  cases o with
  | none => cases h
  | some x => injection h with h; exact ⟨x, h.symm⟩

theorem cBuiltin_plain {b : Builtin} {ts : List TypeId} {xs ys : List Operand} {iop : IOp} (h : cBuiltin P b ts xs = some (iop, ys)) : iop ≠ .call ∧ iop ≠ .next := by
  unfold cBuiltin at h
  repeat' split at h
  all_goals first | (cases h; done) | (injection h with h; injection h with h1 h2; subst h1; exact ⟨(by rintro h; cases h), (by rintro h; cases h)⟩)

theorem cOp_callee {o : Go.Op} {ys : List Operand} (h : cOp P o = some (.call, ys)) : ∃ c f, o = .call c ∧ c.callee = .value f ∧ ys = f :: c.args.toList := by
  have tw : ∀ (q : Option IOp) (xs : List Operand), two q xs = some (.call, ys) → q = some .call := by
    intro q xs h
    unfold two at h
    split at h
    · injection h with h; injection h with h1 h2; rw [h1]
    · cases h
  have ce : ∀ (b : Bool) (t : TypeId), cEq P b t ≠ some .call := by
    intro b t h
    unfold cEq at h
    repeat' split at h
    all_goals first | (cases h; done) | (injection h with h; cases h; done) | skip
  cases o with
  | call c =>
    simp only [cOp] at h
    split at h
    · rename_i f hf
      injection h with h; injection h with h1 h2
      exact ⟨c, f, rfl, hf, h2.symm⟩
    · exact absurd rfl (cBuiltin_plain h).1
    · cases h
  | binOp op ty x y z =>
    cases op
    case eql => simp only [cOp] at h; exact absurd (tw _ _ h) (ce _ _)
    case neq => simp only [cOp] at h; exact absurd (tw _ _ h) (ce _ _)
    all_goals (simp only [cOp] at h; injection h with h; injection h with h1 h2; cases h1)
  | makeFunc f a b => cases f <;> simp [cOp] at h
  | makeMap t r => cases r <;> simp [cOp] at h
  | next it s => cases s <;> simp [cOp] at h
  | _ =>
    simp only [cOp] at h
    all_goals (repeat' split at h)
    all_goals first | (cases h; done) | (injection h with h; injection h with h1 h2; cases h1; done)

theorem cOp_iter {o : Go.Op} {ys : List Operand} (h : cOp P o = some (.next, ys)) : ∃ it, o = .next it false ∧ ys = [it] := by
  have tw : ∀ (q : Option IOp) (xs : List Operand), two q xs = some (.next, ys) → q = some .next := by
    intro q xs h
    unfold two at h
    split at h
    · injection h with h; injection h with h1 h2; rw [h1]
    · cases h
  have ce : ∀ (b : Bool) (t : TypeId), cEq P b t ≠ some .next := by
    intro b t h
    unfold cEq at h
    repeat' split at h
    all_goals first | (cases h; done) | (injection h with h; cases h; done) | skip
  cases o with
  | next it s =>
    cases s
    · simp only [cOp] at h
      injection h with h; injection h with h1 h2
      exact ⟨it, rfl, h2.symm⟩
    · simp [cOp] at h
  | call c =>
    simp only [cOp] at h
    split at h
    · injection h with h; injection h with h1 h2; cases h1
    · exact absurd rfl (cBuiltin_plain h).2
    · cases h
  | binOp op ty x y z =>
    cases op
    case eql => simp only [cOp] at h; exact absurd (tw _ _ h) (ce _ _)
    case neq => simp only [cOp] at h; exact absurd (tw _ _ h) (ce _ _)
    all_goals (simp only [cOp] at h; injection h with h; injection h with h1 h2; cases h1)
  | makeFunc f a b => cases f <;> simp [cOp] at h
  | makeMap t r => cases r <;> simp [cOp] at h
  | _ =>
    simp only [cOp] at h
    all_goals (repeat' split at h)
    all_goals first | (cases h; done) | (injection h with h; injection h with h1 h2; cases h1; done)

theorem op_sound {ih : Job → Prop} (hC : ∀ j, ih j → JobSound P j) (hG : Closed P G) {ops : Array Oper} {i : Nat} {rest : List Nat} {o : Oper} (ho : ops[i]? = some o) (hw : Region.wanted o (yielded ops t) = true)
    {iop : IOp} {ys : List Operand} (hc : cOp P o.op = some (iop, ys)) {xs : List AV} (hx : VRels P β xs (ys.map (Act.mk t ds).eval)) (hR : Rel P w0 prv β H w) {K : AV → Heap → Prop} (h : opWp ih iop xs H K)
    (cont : ∀ v H' β' w' u, K v H' → Ext H.next β β' → Evo H H' → Rel P w0 prv β' H' w' → VRel P β' v u → G (lone ((Fx fn rd t ds (.inRegion ops (i :: rest) :: k)).finish u) cs w')) :
    Fwd P G (lone (Fx fn rd t ds (.inRegion ops (i :: rest) :: k)) cs w) := by
  have hg := stG_op (P := P) (fn := fn) (rd := rd) (ds := ds) (k := k) (cs := cs) (w := w) (rest := rest) ho hw (cOp_noDefer hc)
  have hval : ∀ {u w'}, (execOp (Act.mk t ds).eval o).run P w = .ok (.value u) w' → step P (lone (Fx fn rd t ds (.inRegion ops (i :: rest) :: k)) cs w) = .next (lone ((Fx fn rd t ds (.inRegion ops (i :: rest) :: k)).finish u) cs w') :=
    fun hr => step_lone_go (by rw [hg]; simp [stepG.apply, hr])
  unfold opWp at h
  cases hk : kd iop with
  | pure =>
    rw [hk] at h; simp only at h
    split at h
    · rename_i v hv
      obtain ⟨u, hr, hrel⟩ := pure_sound (ρ := (Act.mk t ds).eval) hc hk hx hv w
      exact Fwd.to hG (hval hr) (cont _ _ _ _ _ h (Ext.refl _ _) (Evo.refl _) hR hrel)
    · exact h.elim
  | read =>
    rw [hk] at h; simp only at h
    split at h
    · rename_i v hv
      obtain ⟨u, hr, hrel⟩ := read_sound (ρ := (Act.mk t ds).eval) hR hc hk hx hv
      exact Fwd.to hG (hval hr) (cont _ _ _ _ _ h (Ext.refl _ _) (Evo.refl _) hR hrel)
    · exact h.elim
  | alloc =>
    rw [hk] at h; simp only at h
    split at h
    · rename_i f ob hv
      obtain ⟨x, u, tot, hr, hwr, hrest⟩ := alloc_sound hc hk hx hv w
      have hfr := hR.fresh
      obtain ⟨hrel, ho'⟩ := hrest H.next (β.put H.next ⟨w.heap.size, 0, tot⟩) (Inj.put_keep hfr) Inj.put_same
      refine Fwd.to hG (hval hr) (cont _ _ _ _ _ h (push_ext hfr) ⟨by simp, fun k hk' hn => by rw [Heap.get_push, if_neg (by omega)]; exact hn⟩ ?_ hrel)
      exact hR.alloc ob x ⟨w.heap.size, 0, tot⟩ hfr (hR.none_of_ge (Nat.le_refl _)) rfl (fun k => Heap.get_push H k _) (by simp) (by simp) ho'
    · exact h.elim
  | eff =>
    rw [hk] at h; simp only at h
    split at h
    · rename_i v H' hv
      obtain ⟨nx, u, w', β', hr, hnx, h1, h2, h3, h4⟩ := eff_sound hR hc hk hx hv
      rcases hnx with rfl | ⟨rfl, rfl⟩
      · exact Fwd.to hG (hval hr) (cont _ _ _ _ _ h h1 h4 h2 h3)
      · exact Fwd.to hG (step_lone_go (by rw [hg]; simp [stepG.apply, hr])) (cont _ _ _ _ _ h h1 h4 h2 h3)
    · exact h.elim
  | call =>
    rw [hk] at h; simp only at h
    have := kd_call hk; subst this
    obtain ⟨c, fo, hoc, hcal, rfl⟩ := cOp_callee hc
    split at h
    · rename_i f fs cap args
      have hj := hC _ h
      simp only [JobSound] at hj
      obtain ⟨⟨fnn, hf, hname, hbody⟩, hcall⟩ := hj
      obtain ⟨vf, us, he, r1, r2⟩ := hx.cons
      simp only [List.map_cons, List.cons.injEq] at he
      obtain ⟨he1, he2⟩ := he
      simp only [VRel] at r1
      obtain ⟨a1, a2, hfv, ha1, ha2⟩ := r1
      have hr : (execOp (Act.mk t ds).eval o).run P w = .ok (.enter f (a1 ++ c.args.map (Act.mk t ds).eval ++ a2)) w := by
        unfold execOp
        rw [hoc]
        simp only [resolve, hcal, he1, hfv, Deferred.ofValue, Sem.run_bind, Sem.run_pure, Result.andThen_ok, invoke, callFunc, program]
        have h1 : fnn.name ≠ "runtime.NumGoroutine" := by simpa using hname
        have h2 : fnn.body ≠ none := by rintro hb; rw [hb] at hbody; cases hbody
        simp [Sem.run, hf, h1, h2]
      refine Fwd.to hG (m' := lone (Frame.enter P f (a1 ++ c.args.map (Act.mk t ds).eval ++ a2) .normal) (Fx fn rd t ds (.inRegion ops (i :: rest) :: k) :: cs) w) (step_lone_go (by rw [hg]; simp [stepG.apply, hr, Fx])) ?_
      refine hcall w0 prv β w _ (Fx fn rd t ds (.inRegion ops (i :: rest) :: k) :: cs) G hG hR ?_ ?_
      · rw [Array.toList_append, Array.toList_append, Array.toList_map, he2]
        exact (ha1.append r2).append ha2
      · intro v H' β' w' u fr' hK hx' hev hR' hv hl _
        exact hG _ _ (step_leave_returned hl) (cont _ _ _ _ _ hK hx' hev hR' hv)
    · rename_i l args
      obtain ⟨vf, us, he, r1, r2⟩ := hx.cons
      simp only [List.map_cons, List.cons.injEq] at he
      obtain ⟨he1, he2⟩ := he
      simp only [VRel] at r1
      obtain ⟨L, hL, hfv⟩ := r1
      have hargs : VRels P β args (#[] ++ c.args.map (Act.mk t ds).eval).toList := by simpa [he2] using r2
      obtain ⟨f, tm, as, bd, hy, hgo⟩ := round_sound hC h hR hargs hL hG cont
      refine Fwd.to hG (step_lone_go ?_) hgo
      have hr : (execOp (Act.mk t ds).eval o).run P w = .ok (.round L.blk f tm as bd) w := by
        unfold execOp
        rw [hoc]
        simp only [resolve, hcal, he1, hfv, Deferred.ofValue, Sem.run_bind, Sem.run_pure, Result.andThen_ok, invoke, hy]
      rw [hg]; simp [stepG.apply, hr]
    · exact h.elim
  | next =>
    rw [hk] at h; simp only at h
    have := kd_next hk; subst this
    obtain ⟨it, hoc, rfl⟩ := cOp_iter hc
    split at h
    · rename_i b
      obtain ⟨u0, he, r1⟩ := hx.one
      simp only [List.map_cons, List.map_nil, List.cons.injEq, and_true] at he
      simp only [VRel] at r1
      obtain ⟨L0, hL0, hu0⟩ := r1
      obtain ⟨L, hL, hrun⟩ := next_sound hR h o.type
      rw [hL] at hL0; injection hL0 with hL0; subst hL0
      obtain ⟨v, H', w', u, hK, hr, hev, hR', hv⟩ := hrun none
      have hoff : L.off = 0 := by
        unfold nextWp at h
        split at h
        · rename_i hit
          obtain ⟨LI, hLI, hO⟩ := hR.obj _ _ hit
          simp only [ORel] at hO
          obtain ⟨_, _, _, hoff⟩ := hO
          rw [hL] at hLI; injection hLI with hLI; subst hLI; exact hoff
        · exact h.elim
      have hr' : (execOp (Act.mk t ds).eval o).run P w = .ok (.value u) w' := by
        unfold execOp
        rw [hoc]
        simp only [he, hu0, hoff, Nat.zero_add]
        exact run_v hr
      exact Fwd.to hG (hval hr') (cont _ _ _ _ _ hK (Ext.refl _ _) hev hR' hv)
    · exact h.elim
end
end Go.AE

/-
  Private objects; environments; regions in the order of their text; the rest of the code but for regions that draw.
-/
namespace Go.AE

section
variable {P : Program} {β : Inj} {w w0 : World} {prv : List (Nat × Obj)} {H H' : Heap}

/-- A block of the machine's own. -/
theorem Rel.pushPrv (h : Rel P w0 prv β H w) (x : Obj) : Rel P w0 ((w.heap.size, x) :: prv) β H { w with heap := w.heap.push x } := by
  have hold : ∀ i, i < w.heap.size → ({ w with heap := w.heap.push x } : World).heap[i]? = w.heap[i]? := fun i hi => by
    simp only [Array.getElem?_push]; rw [if_neg (by omega)]
  constructor
  · intro b o hb
    obtain ⟨L, h1, h2⟩ := h.obj b o hb
    exact ⟨L, h1, h2.mono (fun _ _ h => h) (hold _ (h.blk b L h1))⟩
  · exact h.new
  · exact h.inj
  · exact h.dom
  · intro b L hb; simp only [Array.size_push]; exact Nat.lt_succ_of_lt (h.blk b L hb)
  · exact h.glob
  · intro i hi; rw [hold i (Nat.lt_of_lt_of_le hi h.size)]; exact h.old i hi
  · simp only [Array.size_push]; exact Nat.le_succ_of_le h.size
  · exact h.same
  · intro r o hr
    rcases List.mem_cons.1 hr with e | hr
    · injection e with e1 e2; subst e1; subst e2; simp
    · have h1 := h.prvs r o hr
      have hlt : r < w.heap.size := by
        rcases Nat.lt_or_ge r w.heap.size with h' | h'
        · exact h'
        · simp [Array.getElem?_eq_none h'] at h1
      rw [hold r hlt]; exact h1
  · intro r o b ob L hr hb hL
    rcases List.mem_cons.1 hr with e | hr
    · injection e with e1 e2; subst e1
      have := h.blk b L hL; omega
    · exact h.prvN r o b ob L hr hb hL

/-- It goes. -/
theorem Rel.takePrv {r : Nat} {o : Obj} (h : Rel P w0 ((r, o) :: prv) β H w) (hr : ∀ p ∈ prv, p.1 ≠ r) (hold : w0.heap.size ≤ r) (x : Obj) : Rel P w0 prv β H { w with heap := w.heap.setIfInBounds r x } := by
  have hoth : ∀ i, i ≠ r → ({ w with heap := w.heap.setIfInBounds r x } : World).heap[i]? = w.heap[i]? := fun i hi => by
    simp only; rw [Array.getElem?_setIfInBounds_ne (fun e => hi e.symm)]
  constructor
  · intro b ob hb
    obtain ⟨L, h1, h2⟩ := h.obj b ob hb
    exact ⟨L, h1, h2.mono (fun _ _ h => h) (hoth _ (h.prvN r o b ob L (by simp) hb h1))⟩
  · exact h.new
  · exact h.inj
  · exact h.dom
  · intro b L hb; simp only [Array.size_setIfInBounds]; exact h.blk b L hb
  · exact h.glob
  · intro i hi; rw [hoth i (by omega)]; exact h.old i hi
  · simp only [Array.size_setIfInBounds]; exact h.size
  · exact h.same
  · intro r' o' hr'
    rw [hoth r' (hr (r', o') hr')]; exact h.prvs r' o' (by simp [hr'])
  · intro r' o' b ob L hr' hb hL; exact h.prvN r' o' b ob L (by simp [hr']) hb hL

/-- A block is written and left. -/
theorem Rel.killSet (h : Rel P w0 prv β H w) {b : Nat} {o : AObj} {L : Loc} (hb : H.get b = some o) (hw : o.writable = true) (hL : β b = some L) (x : Obj) :
    Rel P w0 prv β (H.kill b) { w with heap := w.heap.setIfInBounds L.blk x } := by
  have hoth : ∀ i, i ≠ L.blk → ({ w with heap := w.heap.setIfInBounds L.blk x } : World).heap[i]? = w.heap[i]? := fun i hi => by
    simp only; rw [Array.getElem?_setIfInBounds_ne (fun e => hi e.symm)]
  have hk : ∀ k ob, (H.kill b).get k = some ob → k ≠ b ∧ H.get k = some ob := by
    intro k ob hk
    rw [Heap.get_kill] at hk
    by_cases e : k = b
    · rw [if_pos e] at hk; cases hk
    · rw [if_neg e] at hk; exact ⟨e, hk⟩
  constructor
  · intro k ob hk'
    obtain ⟨e, hk'⟩ := hk k ob hk'
    obtain ⟨M, h1, h2⟩ := h.obj k ob hk'
    exact ⟨M, h1, h2.mono (fun _ _ h => h) (hoth _ fun hm => h.inj b k o ob L M (fun h => e h.symm) hb hk' hL h1 hw hm.symm)⟩
  · intro k ob M hk' hM hwr; exact h.new k ob M (hk k ob hk').2 hM hwr
  · intro k k' ob ob' M M' hne h1 h2 h3 h4 hwr
    exact h.inj k k' ob ob' M M' hne (hk _ _ h1).2 (hk _ _ h2).2 h3 h4 hwr
  · exact h.dom
  · intro k M hM; simp only [Array.size_setIfInBounds]; exact h.blk k M hM
  · exact h.glob
  · intro i hi
    rw [hoth i (fun e => by have := h.new b o L hb hL hw; omega)]; exact h.old i hi
  · simp only [Array.size_setIfInBounds]; exact h.size
  · exact h.same
  · intro r ob hr
    rw [hoth r (fun e => h.prvN r ob b o L hr hb hL e.symm)]; exact h.prvs r ob hr
  · intro r ob k o'' M hr hk' hM; exact h.prvN r ob k o'' M hr (hk _ _ hk').2 hM

/-! ### Environments -/
theorem cOpd_sound (hR : Rel P w0 prv β H w) {N : Nat} {e : Env} {t : Array Value} (hE : EnvRel P β N e t) {ds : List Deferred} {y : Operand} {o : Opd} (hc : cOpd P y = some o) {v : AV} (hv : ev e o = some v) : VRel P β v ((Act.mk t ds).eval y) := by
  cases y with
  | tmp n => simp only [cOpd] at hc; injection hc with hc; subst hc; exact hE.2 _ _ hv
  | const c =>
    simp only [cOpd] at hc
    split at hc
    · rename_i a ha
      injection hc with hc; subst hc
      simp only [ev] at hv; injection hv with hv; subst hv
      exact cVal_sound ha
    · cases hc
  | global g =>
    simp only [cOpd] at hc
    split at hc
    · rename_i hg
      injection hc with hc; subst hc
      simp only [ev] at hv; injection hv with hv; subst hv
      obtain ⟨L, hL, h1, h2⟩ := hR.glob g hg
      simp only [VRel, Act.eval]
      exact ⟨L, hL, by rw [h1, h2]⟩
    · cases hc
  | func f =>
    simp only [cOpd] at hc; injection hc with hc; subst hc
    simp only [ev] at hv; injection hv with hv; subst hv
    simp only [VRel, Act.eval]
    exact ⟨#[], #[], rfl, by simp [VRels], by simp [VRels]⟩

theorem cOpds_sound (hR : Rel P w0 prv β H w) {N : Nat} {e : Env} {t : Array Value} (hE : EnvRel P β N e t) {ds : List Deferred} : ∀ {ys : List Operand} {os : List Opd} {vs : List AV}, cOpds P ys = some os → evs e os = some vs →
    VRels P β vs (ys.map (Act.mk t ds).eval)
  | [], os, vs, hc, hv => by
    simp only [cOpds] at hc; injection hc with hc; subst hc
    simp only [evs] at hv; injection hv with hv; subst hv
    simp [VRels]
  | y :: ys, os, vs, hc, hv => by
    simp only [cOpds] at hc
    split at hc
    · rename_i a ha
      split at hc
      · rename_i l hl
        injection hc with hc; subst hc
        simp only [evs] at hv
        split at hv
        · rename_i v hv1
          split at hv
          · rename_i vs' hv2
            injection hv with hv; subst hv
            simp only [List.map_cons, VRels]
            exact ⟨_, _, rfl, cOpd_sound hR hE ha hv1, cOpds_sound hR hE hl hv2⟩
          · cases hv
        · cases hv
      · cases hc
    · cases hc

theorem EnvRel.put {N : Nat} {e : Env} {t : Array Value} (hE : EnvRel P β N e t) {d : Option Nat} (hd : cDst N d = true) {ds : List Deferred} {v : AV} {u : Value} (hv : VRel P β v u) : EnvRel P β N (e.putO d v) ((Act.mk t ds).put d u).tmps := by
  cases d with
  | none => exact hE
  | some n =>
    have hn : n < t.size := by rw [hE.1]; simpa [cDst] using hd
    refine ⟨by simpa [Act.put] using hE.1, ?_⟩
    intro m x hm
    simp only [Env.putO, Env.get] at hm
    split at hm
    · rename_i hb
      have := Nat.eq_of_beq_eq_true hb
      subst this
      injection hm with hm; subst hm
      simpa [Act.put, Array.getElem?_setIfInBounds, hn] using hv
    · rename_i hb
      have hne : n ≠ m := fun h => by subst h; simp at hb
      have := hE.2 m x hm
      simpa [Act.put, Array.getD_eq_getD_getElem?, Array.getElem?_setIfInBounds_ne hne] using this

theorem keep_get {e : Env} : ∀ {l : List Nat} {n : Nat} {v : AV}, (e.keep l).get n = some v → e.get n = some v
  | [], n, v, h => by simp [Env.keep, Env.get] at h
  | m :: l, n, v, h => by
    simp only [Env.keep] at h
    split at h
    · rename_i x hx
      simp only [Env.get] at h
      split at h
      · rename_i hb
        have := Nat.eq_of_beq_eq_true hb
        subst this
        rw [hx]; exact h
      · exact keep_get h
    · exact keep_get h

theorem EnvRel.keep {N : Nat} {e : Env} {t : Array Value} (hE : EnvRel P β N e t) (l : List Nat) : EnvRel P β N (e.keep l) t := ⟨hE.1, fun n v hn => hE.2 n v (keep_get hn)⟩

theorem wants_sound {N : Nat} {e : Env} {t : Array Value} (hE : EnvRel P β N e t) {ops : Array Oper} {o : Oper} {g : Option (Nat × Bool)} (hg : cGuard ops o.guard = some g) {b : Bool} (hw : wants e g = some b) : Region.wanted o (yielded ops t) = b := by
  unfold Region.wanted
  cases ho : o.guard with
  | none =>
    rw [ho] at hg; simp only [cGuard] at hg; injection hg with hg; subst hg
    simp only [wants] at hw; injection hw with hw
  | some jb =>
    obtain ⟨j, want⟩ := jb
    rw [ho] at hg; simp only [cGuard] at hg
    split at hg
    · rename_i oj hoj
      split at hg
      · rename_i d hd
        injection hg with hg; subst hg
        simp only [wants] at hw
        have hy1 : ∀ x, t[d]? = some (.bool x) → yielded ops t j = some x := by
          intro x hx; unfold yielded; simp [hoj, hd, hx]
        have hy2 : (∀ x, t[d]? ≠ some (.bool x)) → yielded ops t j = none := by
          intro hx; unfold yielded; simp only [hoj, hd, Option.bind_some]
          try
            split
            · rename_i x h; exact absurd h (hx x)
            · rfl
        simp only
        split at hw
        · rename_i x hx
          have h1 := hE.2 _ _ hx
          simp only [VRel] at h1
          cases ht : t[d]? with
          | none => rw [Array.getD_eq_getD_getElem?, ht] at h1; simp [undef] at h1
          | some u =>
            rw [Array.getD_eq_getD_getElem?, ht] at h1
            simp only [Option.getD_some] at h1; subst h1
            injection hw with hw
            rw [hy1 x ht, ← hw]
            cases x <;> cases want <;> rfl
        · rename_i hx
          have h1 := hE.2 _ _ hx
          simp only [VRel, VRels] at h1
          obtain ⟨vs, h1, h2⟩ := h1
          injection hw with hw; subst hw
          have hn : ∀ x, t[d]? ≠ some (.bool x) := by
            intro x ht
            rw [Array.getD_eq_getD_getElem?, ht] at h1
            simp at h1
          rw [hy2 hn]
          rfl
        · cases hw
      · cases hg
    · cases hg

theorem cOper_inv {N : Nat} {ops : Array Oper} {o : Oper} {io : IOper} (h : cOper P N ops o = some io) : ∃ ys, cOp P o.op = some (io.op, ys) ∧ cGuard ops o.guard = some io.guard ∧ cDst N o.dst = true ∧ io.dst = o.dst ∧ cOpds P ys = some io.xs := by
  unfold cOper at h
  split at h
  · rename_i op xs g h1 h2 h3
    split at h
    · rename_i ys hys
      injection h with h; subst h
      exact ⟨xs, h1, h2, h3, rfl, hys⟩
    · cases h
  · cases h

/-- Regions in the order of their text. -/
theorem reg_sound {ih : Job → Prop} (hC : ∀ j, ih j → JobSound P j) {G : Machine → Prop} (hG : Closed P G) {fn : FuncId} {rd : Option Nat} {ds : List Deferred} {k : List Item} {cs : List Frame} {ops : Array Oper} {N : Nat} :
    ∀ (l : List Oper) (il : List IOper) (j : Nat) (e : Env) (H : Heap) (K : Env → Heap → Prop) (β : Inj) (w : World) (t : Array Value), cOpers P N ops l = some il → (∀ m o, l[m]? = some o → ops[j + m]? = some o) → regWp ih il e H K → Rel P w0 prv β H w → EnvRel P β N e t →
      (∀ e' H' β' w' t', K e' H' → Ext H.next β β' → Evo H H' → Rel P w0 prv β' H' w' → EnvRel P β' N e' t' → Fwd P G (lone (Fx fn rd t' ds k) cs w')) →
      Fwd P G (lone (Fx fn rd t ds (.inRegion ops (List.range' j l.length) :: k)) cs w)
  | [], il, j, e, H, K, β, w, t, hc, hops, h, hR, hE, cont => by
    simp only [cOpers] at hc; injection hc with hc; subst hc
    simp only [regWp] at h
    exact Fwd.of_step hG st_regEnd (cont _ _ _ _ _ h (Ext.refl _ _) (Evo.refl _) hR hE)
  | o :: l, il, j, e, H, K, β, w, t, hc, hops, h, hR, hE, cont => by
    simp only [cOpers] at hc
    split at hc
    · rename_i io hio
      split at hc
      · rename_i il' hil
        injection hc with hc; subst hc
        obtain ⟨ys, h1, h2, h3, h4, h5⟩ := cOper_inv hio
        have ho : ops[j]? = some o := by simpa using hops 0 o (by simp)
        have hops' : ∀ m o', l[m]? = some o' → ops[j + 1 + m]? = some o' := fun m o' hm => by
          have := hops (m + 1) o' (by simpa using hm)
          rwa [show j + 1 + m = j + (m + 1) by omega]
        rw [List.length_cons, List.range'_succ]
        simp only [regWp] at h
        split at h
        · rename_i hw
          have hwant := wants_sound hE h2 hw
          split at h
          · rename_i xs hxs
            refine op_sound hC hG ho hwant h1 (cOpds_sound hR hE h5 hxs) hR h ?_
            intro v H' β' w' u hK hx hev hR' hv
            rw [Fx_finish ho]
            refine Fwd.here (reg_sound hC hG l il' (j + 1) (e.putO io.dst v) H' K β' w' _ hil hops' hK hR' (h4 ▸ (hE.mono hx.keep).put h3 hv) ?_)
            intro e' H'' β'' w'' t' hK' hx' hev' hR'' hE''
            exact cont _ _ _ _ _ hK' (hx.trans hx' hev.next) (hev.trans hev') hR'' hE''
          · exact h.elim
        · rename_i hw
          have hwant := wants_sound hE h2 hw
          refine Fwd.to hG (st_opSkip (by simp [ho, hwant])) ?_
          rw [Fx_finish ho]
          exact Fwd.here (reg_sound hC hG l il' (j + 1) (e.putO io.dst (.tup [])) H K β w _ hil hops' h hR (h4 ▸ hE.put h3 vrel_undef) cont)
        · exact h.elim
      · cases hc
    · cases hc
end
end Go.AE
