/-
  An operation of a region, whatever it is; regions in the order of their text.
-/
import Derived.Test.YtefkjiedgecjpaaGreatDoorAeO
set_option linter.unusedSimpArgs false
set_option linter.unusedVariables false
set_option linter.unusedSectionVars false
namespace Go.AE

section
variable {P : Program} {β : Inj} {w w0 : World} {prv : List (Nat × Obj)} {H H' : Heap} {G : Machine → Prop} {fn : FuncId} {rd : Option Nat} {t : Array Value} {ds : List Deferred} {k : List Item} {cs : List Frame}

theorem cOp_noDefer {o : Go.Op} {r : IOp × List Operand} (h : cOp P o = some r) : ∀ c, o ≠ .defer c := by
  rintro c rfl; simp [cOp] at h

theorem kd_call {iop : IOp} (h : kd iop = .call) : iop = .call := by
  cases iop <;> first | rfl | (simp only [kd] at h; done) | (simp only [kd] at h; cases h; done) | (rename_i k; cases k <;> simp [kd] at h)
theorem kd_next {iop : IOp} (h : kd iop = .next) : iop = .next := by
  cases iop <;> first | rfl | (simp only [kd] at h; done) | (simp only [kd] at h; cases h; done) | (rename_i k; cases k <;> simp [kd] at h)

theorem cKey_noCall {α : Type} {o : Option α} {f : α → IOp × List Operand} {r : IOp × List Operand} (h : (match o with | some x => some (f x) | none => none) = some r) : ∃ x, r = f x := by
  cases o with
  | none => cases h
  | some x => injection h with h; exact ⟨x, h.symm⟩

theorem cBuiltin_plain {b : Builtin} {ts : List TypeId} {xs ys : List Operand} {iop : IOp} (h : cBuiltin P b ts xs = some (iop, ys)) : iop ≠ .call ∧ iop ≠ .next := by
  unfold cBuiltin at h
  repeat' split at h
  all_goals first | (cases h; done) | (injection h with h; injection h with h1 h2; subst h1; exact ⟨(by rintro h; cases h), (by rintro h; cases h)⟩)

theorem cOp_callee {o : Go.Op} {ys : List Operand} (h : cOp P o = some (.call, ys)) : ∃ c f, o = .call c ∧ c.callee = .value f ∧ ys = f :: c.args.toList := by
  have tw : ∀ (q : Option IOp) (xs : List Operand), two q xs = some (.call, ys) → q = some .call := by
    intro q xs h
    unfold two at h
    split at h
    · injection h with h; injection h with h1 h2; rw [h1]
    · cases h
  have ce : ∀ (b : Bool) (t : TypeId), cEq P b t ≠ some .call := by
    intro b t h
    unfold cEq at h
    repeat' split at h
    all_goals first | (cases h; done) | (injection h with h; cases h; done) | skip
  cases o with
  | call c =>
    simp only [cOp] at h
    split at h
    · rename_i f hf
      injection h with h; injection h with h1 h2
      exact ⟨c, f, rfl, hf, h2.symm⟩
    · exact absurd rfl (cBuiltin_plain h).1
    · cases h
  | binOp op ty x y z =>
    cases op
    case eql => simp only [cOp] at h; exact absurd (tw _ _ h) (ce _ _)
    case neq => simp only [cOp] at h; exact absurd (tw _ _ h) (ce _ _)
    all_goals (simp only [cOp] at h; injection h with h; injection h with h1 h2; cases h1)
  | makeFunc f a b => cases f <;> simp [cOp] at h
  | makeMap t r => cases r <;> simp [cOp] at h
  | next it s => cases s <;> simp [cOp] at h
  | _ =>
    simp only [cOp] at h
    all_goals (repeat' split at h)
    all_goals first | (cases h; done) | (injection h with h; injection h with h1 h2; cases h1; done)

theorem cOp_iter {o : Go.Op} {ys : List Operand} (h : cOp P o = some (.next, ys)) : ∃ it, o = .next it false ∧ ys = [it] := by
  have tw : ∀ (q : Option IOp) (xs : List Operand), two q xs = some (.next, ys) → q = some .next := by
    intro q xs h
    unfold two at h
    split at h
    · injection h with h; injection h with h1 h2; rw [h1]
    · cases h
  have ce : ∀ (b : Bool) (t : TypeId), cEq P b t ≠ some .next := by
    intro b t h
    unfold cEq at h
    repeat' split at h
    all_goals first | (cases h; done) | (injection h with h; cases h; done) | skip
  cases o with
  | next it s =>
    cases s
    · simp only [cOp] at h
      injection h with h; injection h with h1 h2
      exact ⟨it, rfl, h2.symm⟩
    · simp [cOp] at h
  | call c =>
    simp only [cOp] at h
    split at h
    · injection h with h; injection h with h1 h2; cases h1
    · exact absurd rfl (cBuiltin_plain h).2
    · cases h
  | binOp op ty x y z =>
    cases op
    case eql => simp only [cOp] at h; exact absurd (tw _ _ h) (ce _ _)
    case neq => simp only [cOp] at h; exact absurd (tw _ _ h) (ce _ _)
    all_goals (simp only [cOp] at h; injection h with h; injection h with h1 h2; cases h1)
  | makeFunc f a b => cases f <;> simp [cOp] at h
  | makeMap t r => cases r <;> simp [cOp] at h
  | _ =>
    simp only [cOp] at h
    all_goals (repeat' split at h)
    all_goals first | (cases h; done) | (injection h with h; injection h with h1 h2; cases h1; done)

theorem op_sound {ih : Job → Prop} (hC : ∀ j, ih j → JobSound P j) (hG : Closed P G) {ops : Array Oper} {i : Nat} {rest : List Nat} {o : Oper} (ho : ops[i]? = some o) (hw : Region.wanted o (yielded ops t) = true)
    {iop : IOp} {ys : List Operand} (hc : cOp P o.op = some (iop, ys)) {xs : List AV} (hx : VRels P β xs (ys.map (Act.mk t ds).eval)) (hR : Rel P w0 prv β H w) {K : AV → Heap → Prop} (h : opWp ih iop xs H K)
    (cont : ∀ v H' β' w' u, K v H' → Ext H.next β β' → Evo H H' → Rel P w0 prv β' H' w' → VRel P β' v u → G (lone ((Fx fn rd t ds (.inRegion ops (i :: rest) :: k)).finish u) cs w')) :
    Fwd P G (lone (Fx fn rd t ds (.inRegion ops (i :: rest) :: k)) cs w) := by
  have hg := stG_op (P := P) (fn := fn) (rd := rd) (ds := ds) (k := k) (cs := cs) (w := w) (rest := rest) ho hw (cOp_noDefer hc)
  have hval : ∀ {u w'}, (execOp (Act.mk t ds).eval o).run P w = .ok (.value u) w' → step P (lone (Fx fn rd t ds (.inRegion ops (i :: rest) :: k)) cs w) = .next (lone ((Fx fn rd t ds (.inRegion ops (i :: rest) :: k)).finish u) cs w') :=
    fun hr => step_lone_go (by rw [hg]; simp [stepG.apply, hr])
  unfold opWp at h
  cases hk : kd iop with
  | pure =>
    rw [hk] at h; simp only at h
    split at h
    · rename_i v hv
      obtain ⟨u, hr, hrel⟩ := pure_sound (ρ := (Act.mk t ds).eval) hc hk hx hv w
      exact Fwd.to hG (hval hr) (cont _ _ _ _ _ h (Ext.refl _ _) (Evo.refl _) hR hrel)
    · exact h.elim
  | read =>
    rw [hk] at h; simp only at h
    split at h
    · rename_i v hv
      obtain ⟨u, hr, hrel⟩ := read_sound (ρ := (Act.mk t ds).eval) hR hc hk hx hv
      exact Fwd.to hG (hval hr) (cont _ _ _ _ _ h (Ext.refl _ _) (Evo.refl _) hR hrel)
    · exact h.elim
  | alloc =>
    rw [hk] at h; simp only at h
    split at h
    · rename_i f ob hv
      obtain ⟨x, u, tot, hr, hwr, hrest⟩ := alloc_sound hc hk hx hv w
      have hfr := hR.fresh
      obtain ⟨hrel, ho'⟩ := hrest H.next (β.put H.next ⟨w.heap.size, 0, tot⟩) (Inj.put_keep hfr) Inj.put_same
      refine Fwd.to hG (hval hr) (cont _ _ _ _ _ h (push_ext hfr) ⟨by simp, fun k hk' hn => by rw [Heap.get_push, if_neg (by omega)]; exact hn⟩ ?_ hrel)
      exact hR.alloc ob x ⟨w.heap.size, 0, tot⟩ hfr (hR.none_of_ge (Nat.le_refl _)) rfl (fun k => Heap.get_push H k _) (by simp) (by simp) ho'
    · exact h.elim
  | eff =>
    rw [hk] at h; simp only at h
    split at h
    · rename_i v H' hv
      obtain ⟨nx, u, w', β', hr, hnx, h1, h2, h3, h4⟩ := eff_sound hR hc hk hx hv
      rcases hnx with rfl | ⟨rfl, rfl⟩
      · exact Fwd.to hG (hval hr) (cont _ _ _ _ _ h h1 h4 h2 h3)
      · exact Fwd.to hG (step_lone_go (by rw [hg]; simp [stepG.apply, hr])) (cont _ _ _ _ _ h h1 h4 h2 h3)
    · exact h.elim
  | call =>
    rw [hk] at h; simp only at h
    have := kd_call hk; subst this
    obtain ⟨c, fo, hoc, hcal, rfl⟩ := cOp_callee hc
    split at h
    · rename_i f fs cap args
      have hj := hC _ h
      simp only [JobSound] at hj
      obtain ⟨⟨fnn, hf, hname, hbody⟩, hcall⟩ := hj
      obtain ⟨vf, us, he, r1, r2⟩ := hx.cons
      simp only [List.map_cons, List.cons.injEq] at he
      obtain ⟨he1, he2⟩ := he
      simp only [VRel] at r1
      obtain ⟨a1, a2, hfv, ha1, ha2⟩ := r1
      have hr : (execOp (Act.mk t ds).eval o).run P w = .ok (.enter f (a1 ++ c.args.map (Act.mk t ds).eval ++ a2)) w := by
        unfold execOp
        rw [hoc]
        simp only [resolve, hcal, he1, hfv, Deferred.ofValue, Sem.run_bind, Sem.run_pure, Result.andThen_ok, invoke, callFunc, program]
        have h1 : fnn.name ≠ "runtime.NumGoroutine" := by simpa using hname
        have h2 : fnn.body ≠ none := by rintro hb; rw [hb] at hbody; cases hbody
        simp [Sem.run, hf, h1, h2]
      refine Fwd.to hG (m' := lone (Frame.enter P f (a1 ++ c.args.map (Act.mk t ds).eval ++ a2) .normal) (Fx fn rd t ds (.inRegion ops (i :: rest) :: k) :: cs) w) (step_lone_go (by rw [hg]; simp [stepG.apply, hr, Fx])) ?_
      refine hcall w0 prv β w _ (Fx fn rd t ds (.inRegion ops (i :: rest) :: k) :: cs) G hG hR ?_ ?_
      · rw [Array.toList_append, Array.toList_append, Array.toList_map, he2]
        exact (ha1.append r2).append ha2
      · intro v H' β' w' u fr' hK hx' hev hR' hv hl _
        exact hG _ _ (step_leave_returned hl) (cont _ _ _ _ _ hK hx' hev hR' hv)
    · rename_i l args
      obtain ⟨vf, us, he, r1, r2⟩ := hx.cons
      simp only [List.map_cons, List.cons.injEq] at he
      obtain ⟨he1, he2⟩ := he
      simp only [VRel] at r1
      obtain ⟨L, hL, hfv⟩ := r1
      have hargs : VRels P β args (#[] ++ c.args.map (Act.mk t ds).eval).toList := by simpa [he2] using r2
      obtain ⟨f, tm, as, bd, hy, hgo⟩ := round_sound hC h hR hargs hL hG cont
      refine Fwd.to hG (step_lone_go ?_) hgo
      have hr : (execOp (Act.mk t ds).eval o).run P w = .ok (.round L.blk f tm as bd) w := by
        unfold execOp
        rw [hoc]
        simp only [resolve, hcal, he1, hfv, Deferred.ofValue, Sem.run_bind, Sem.run_pure, Result.andThen_ok, invoke, hy]
      rw [hg]; simp [stepG.apply, hr]
    · exact h.elim
  | next =>
    rw [hk] at h; simp only at h
    have := kd_next hk; subst this
    obtain ⟨it, hoc, rfl⟩ := cOp_iter hc
    split at h
    · rename_i b
      obtain ⟨u0, he, r1⟩ := hx.one
      simp only [List.map_cons, List.map_nil, List.cons.injEq, and_true] at he
      simp only [VRel] at r1
      obtain ⟨L0, hL0, hu0⟩ := r1
      obtain ⟨L, hL, hrun⟩ := next_sound hR h o.type
      rw [hL] at hL0; injection hL0 with hL0; subst hL0
      obtain ⟨v, H', w', u, hK, hr, hev, hR', hv⟩ := hrun none
      have hoff : L.off = 0 := by
        unfold nextWp at h
        split at h
        · rename_i hit
          obtain ⟨LI, hLI, hO⟩ := hR.obj _ _ hit
          simp only [ORel] at hO
          obtain ⟨_, _, _, hoff⟩ := hO
          rw [hL] at hLI; injection hLI with hLI; subst hLI; exact hoff
        · exact h.elim
      have hr' : (execOp (Act.mk t ds).eval o).run P w = .ok (.value u) w' := by
        unfold execOp
        rw [hoc]
        simp only [he, hu0, hoff, Nat.zero_add]
        exact run_v hr
      exact Fwd.to hG (hval hr') (cont _ _ _ _ _ hK (Ext.refl _ _) hev hR' hv)
    · exact h.elim
end
end Go.AE
