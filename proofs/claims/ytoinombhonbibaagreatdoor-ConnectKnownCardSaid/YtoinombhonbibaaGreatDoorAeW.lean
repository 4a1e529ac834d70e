/-
  What the evaluator says of code, the machine does.
-/
import Derived.Test.YtoinombhonbibaaGreatDoorAeV
set_option linter.unusedSimpArgs false
set_option linter.unusedVariables false
set_option linter.unusedSectionVars false
namespace Go.AE

def Cont (P : Program) (G : Machine → Prop) (w0 : World) (prv : List (Nat × Obj)) (N : Nat) (fn : FuncId) (rd : Option Nat) (k : List Item) (cs : List Frame) (inr : Bool) (Ds : List Nat) (β : Inj) (H : Heap) (Q : Out → Env → Heap → Prop) : Prop :=
  ∀ x e' H' β' w' t' Ds', Q x e' H' → Ext H.next β β' → Evo H H' → DsOk w0 prv Ds' → (inr = true → Ds' = Ds) → Rel P w0 (dprv Ds' prv) β' H' w' → EnvRel P β' N e' t' → Arr P G fn rd k cs x t' (mk Ds') w'

section
variable {P : Program} {G : Machine → Prop} {w0 : World} {prv : List (Nat × Obj)} {N : Nat} {fn : FuncId} {rd : Option Nat} {k : List Item} {cs : List Frame} {inr : Bool} {Ds : List Nat} {β : Inj} {H : Heap}

theorem Cont.weaken {Q : Out → Env → Heap → Prop} (h : Cont P G w0 prv N fn rd k cs inr Ds β H Q) {β1 : Inj} {H1 : Heap} {Ds1 : List Nat} (hx : Ext H.next β β1) (he : Evo H H1) (hd : inr = true → Ds1 = Ds) : Cont P G w0 prv N fn rd k cs inr Ds1 β1 H1 Q :=
  fun x e' H' β' w' t' Ds' hq hx' he' hD hi hR hE => h x e' H' β' w' t' Ds' hq (hx.trans hx' he.next) (he.trans he') hD (fun hr => (hi hr).trans (hd hr)) hR hE

theorem arr_pass {x : Item} (hx : ∀ id, exitTo id (x :: k) = exitTo id k) {o : Out} {t : Array Value} {ds : List Deferred} {w : World} (hn : o ≠ .normal) (h : Arr P G fn rd k cs o t ds w) : Arr P G fn rd (x :: k) cs o t ds w := by
  cases o with
  | normal => exact absurd rfl hn
  | exit id => exact Fwd.of_eq (exit_pass (hx id)) h
  | ret => exact h

theorem dreg_sound (hm : P.follows .mixedOrders = true) {ih : Job → Prop} (hC : ∀ j, ih j → JobSound P j) (hJ : ∀ j, ih j → JobInh j) (hG : Closed P G) {ops : Array Oper} {perm : List Nat} {l : List DOp} {na : Nat} (hc : cDraw P N ops perm = some (l, na)) {e : Env} {live : List Nat} {Q : Env → Heap → Prop} {id : Nat}
    (h : dregWp ih H.next l e ⟨H.next + na, H.mem⟩ [] [] fun e H => Q (e.keep live) H) {w : World} (hR : Rel P w0 prv β H w) {t : Array Value} (hE : EnvRel P β N e t) {ds : List Deferred}
    (cont : ∀ e' H' β' w' t', Q e' H' → Ext H.next β β' → Evo H H' → Rel P w0 prv β' H' w' → EnvRel P β' N e' t' → Fwd P G (lone (Fx fn rd t' ds k) cs w')) :
    Fwd P G (lone (Fx fn rd t ds (.code (.region id ops true) :: k)) cs w) := by
  obtain ⟨z, rfl, hz⟩ := cDraw_ok hc
  refine Fwd.of_step hG st_dreg ?_
  simp only [Region.schedule, hm, Bool.true_or, if_true]
  unfold Region.linearise
  have hs := dreg_s (na := na) (K' := fun e H => Q (fkeep e live) H) (fun e H hq => by rw [fkeep_get]; exact hq) h hz.num (Nat.le_refl 0) (q' := fun _ => none) (ws' := fun _ _ => True) (by simp [flush, flushF]) (fun _ _ => rfl) (fun _ _ _ => trivial)
  have hget : ∀ b, (⟨H.next + na, H.mem⟩ : Heap).get b = H.get b := fun _ => rfl
  refine draw_run (w0 := w0) (prv := prv) hz hC (fun op xs H K0 h => inh_op hJ h) hG (base := H.next) (β0 := β) (H0 := H) (K := fun e H => Q (fkeep e live) H) ?_ ops.size _ _ z β ⟨H.next + na, H.mem⟩ _ e.get t (fun _ => none) (fun _ _ => True) 0 (fun _ => none) (Nat.le_of_eq hz.len) ?_ (Nat.zero_le _) ?_ hs
  · intro e' H' β' w' t' hq hx hn hev hR' hE'
    exact cont _ _ _ _ _ hq hx ⟨hn, fun b hb hg => hev b hb hg⟩ hR' (fkeep_rel hE' live)
  · have hidx : ∀ p ∈ z, p.2.idx < ops.size := by
      intro p hp
      obtain ⟨o, ho, _⟩ := hz.each p hp
      rcases Nat.lt_or_ge p.2.idx ops.size with h' | h'
      · exact h'
      · simp [Array.getElem?_eq_none h'] at ho
    refine ⟨fun p hp => hp, hz.deps, hz.pre.mono (fun _ h => h.elim), numbered_nd hz.num, ?_, fun i hi => .inr (hz.cover i hi), ?_, fun _ _ _ _ => rfl, by simp, hz.nodup⟩
    · intro p hp
      have := hidx p hp
      simp [this]
    · intro p hp hl
      have := hidx p hp
      simp [this] at hl
  · constructor
    · refine ((hR.drew (w.drawn + 1)).sub (H' := ⟨H.next + na, H.mem⟩) (fun b o hb => hb) (Nat.le_add_right _ _)).prvSub ?_
      intro p hp
      rcases List.mem_append.1 hp with hp | hp
      · obtain ⟨j, _, _, h⟩ := mem_XS.1 hp; cases h
      · exact hp
    · exact hE
    · exact Nat.le_refl _
    · exact Ext.refl _ _
    · exact fun _ _ h => h
    · intro j o _ _ hq; cases hq
    · intro j _ _; exact hR.none_of_ge (Nat.le_add_right _ _)
    · intro j _ _
      refine ⟨?_, hR.none_of_ge (Nat.le_add_right _ _)⟩
      cases hb : β (H.next + j) with
      | none => rfl
      | some L => have := hR.dom _ _ hb; omega
    · intro i j r x r' x' _ _ _ _ _ h; cases h
    · intro j r x _ _ h; cases h

theorem codeWp_sound (hm : P.follows .mixedOrders = true) {ih : Job → Prop} (hC : ∀ j, ih j → JobSound P j) (hJ : ∀ j, ih j → JobInh j) {ic : ICode} {e : Env} {H : Heap} {Q : Out → Env → Heap → Prop} (h : codeWp ih ic e H Q) : CodeSound P ic e H Q := by
  intro inr N A c hc w0 prv β w Ds fn rd t k cs G hG hrd hDs hR hE cont
  have cont : Cont P G w0 prv N fn rd k cs inr Ds β H Q := cont
  have sub : ∀ {c : Code} {ic : ICode} {e : Env} {H1 : Heap} {Q1 : Out → Env → Heap → Prop}, cCode P N A inr c = some ic → ih (.code ic e H1 Q1) → ∀ {β1 : Inj} {w1 : World} {Ds1 : List Nat} {t1 : Array Value} {k1 : List Item}, DsOk w0 prv Ds1 → Rel P w0 (dprv Ds1 prv) β1 H1 w1 → EnvRel P β1 N e t1 →
      Cont P G w0 prv N fn rd k1 cs inr Ds1 β1 H1 Q1 → Fwd P G (lone (Fx fn rd t1 (mk Ds1) (.code c :: k1)) cs w1) := by
    intro c ic e H1 Q1 hc hi β1 w1 Ds1 t1 k1 hD hR hE hcont
    have := hC _ hi
    simp only [JobSound] at this
    exact this inr N A c hc w0 prv β1 w1 Ds1 fn rd t1 k1 cs G hG hrd hD hR hE hcont
  cases c with
  | skip =>
    simp only [cCode] at hc; injection hc with hc; subst hc
    simp only [codeWp] at h
    exact Fwd.of_step hG st_skip (cont .normal _ _ _ _ _ Ds h (Ext.refl _ _) (Evo.refl _) hDs (fun _ => rfl) hR hE)
  | region id ops draw =>
    cases draw with
    | false =>
      simp only [cCode] at hc
      split at hc
      · rename_i l hl
        injection hc with hc; subst hc
        simp only [codeWp] at h
        refine Fwd.of_step hG st_reg ?_
        have e1 : List.range ops.size = List.range' 0 ops.toList.length := by rw [List.range_eq_range']; simp
        rw [e1]
        refine reg_sound hC hG ops.toList l 0 e H _ β w t hl (fun m o hm => by simpa using hm) h hR hE ?_
        intro e' H' β' w' t' hq hx hev hR' hE'
        exact cont .normal _ _ _ _ _ Ds hq hx hev hDs (fun _ => rfl) hR' (hE'.keep _)
      · cases hc
    | true =>
      simp only [cCode] at hc
      split at hc
      · rename_i l na hl
        injection hc with hc; subst hc
        simp only [codeWp] at h
        refine dreg_sound (Q := fun e H => Q .normal e H) hm hC hJ hG hl h hR hE ?_
        intro e' H' β' w' t' hq hx hev hR' hE'
        exact cont .normal _ _ _ _ _ Ds hq hx hev hDs (fun _ => rfl) hR' hE'
      · cases hc
  | seq a b =>
    simp only [cCode] at hc
    split at hc
    · rename_i x y hx hy
      injection hc with hc; subst hc
      simp only [codeWp] at h
      refine Fwd.of_step hG st_seq (sub hx h hDs hR hE ?_)
      intro o e' H' β' w' t' Ds' hq hxx hev hD hi hR' hE'
      cases o with
      | normal => exact sub hy hq hD hR' hE' (cont.weaken hxx hev hi)
      | exit id => exact arr_pass (fun _ => rfl) (by simp) (cont _ _ _ _ _ _ _ hq hxx hev hD hi hR' hE')
      | ret => exact arr_pass (fun _ => rfl) (by simp) (cont _ _ _ _ _ _ _ hq hxx hev hD hi hR' hE')
    · cases hc
  | cond c a b =>
    simp only [cCode] at hc
    split at hc
    · rename_i o x y ho hx hy
      injection hc with hc; subst hc
      simp only [codeWp] at h
      split at h
      · rename_i hv
        have hb := cOpd_sound (ds := mk Ds) hR hE ho hv
        refine Fwd.of_step hG (st_cond (b := true) hb) ?_
        exact sub hx h hDs hR hE cont
      · rename_i hv
        have hb := cOpd_sound (ds := mk Ds) hR hE ho hv
        refine Fwd.of_step hG (st_cond (b := false) hb) ?_
        exact sub hy h hDs hR hE cont
      · exact h.elim
    · cases hc
  | block id b =>
    simp only [cCode] at hc
    split at hc
    · rename_i x hx
      injection hc with hc; subst hc
      simp only [codeWp] at h
      refine Fwd.of_step hG st_block (sub hx h hDs hR hE ?_)
      intro o e' H' β' w' t' Ds' hq hxx hev hD hi hR' hE'
      cases o with
      | normal => exact Fwd.of_step hG st_inBlock (cont .normal _ _ _ _ _ _ hq hxx hev hD hi hR' hE')
      | exit j =>
        simp only at hq
        split at hq
        · rename_i hj
          have := Nat.eq_of_beq_eq_true hj
          subst this
          exact Fwd.of_step hG (st_exit (by simp [exitTo])) (cont .normal _ _ _ _ _ _ hq hxx hev hD hi hR' hE')
        · rename_i hj
          have hne : (id == j) = false := by
            cases hb : id == j with
            | false => rfl
            | true =>
              have : id = j := by simpa using hb
              subst this
              rw [Nat.beq_refl] at hj; cases hj
          exact Fwd.of_eq (exit_pass (by simp [exitTo, hne])) (cont (.exit j) _ _ _ _ _ _ hq hxx hev hD hi hR' hE')
      | ret => exact cont .ret _ _ _ _ _ _ hq hxx hev hD hi hR' hE'
    · cases hc
  | loop b =>
    have hc0 := hc
    simp only [cCode] at hc
    split at hc
    · rename_i x hx
      injection hc with hc; subst hc
      simp only [codeWp] at h
      refine Fwd.of_step hG st_loop (sub hx h hDs hR hE ?_)
      intro o e' H' β' w' t' Ds' hq hxx hev hD hi hR' hE'
      cases o with
      | normal => exact Fwd.of_eq (st_inLoop.trans st_loop.symm) (sub hc0 hq hD hR' hE' (cont.weaken hxx hev hi))
      | exit id => exact arr_pass (fun _ => rfl) (by simp) (cont _ _ _ _ _ _ _ hq hxx hev hD hi hR' hE')
      | ret => exact arr_pass (fun _ => rfl) (by simp) (cont _ _ _ _ _ _ _ hq hxx hev hD hi hR' hE')
    · cases hc
  | exit id =>
    simp only [cCode] at hc; injection hc with hc; subst hc
    simp only [codeWp] at h
    exact cont (.exit id) _ _ _ _ _ Ds h (Ext.refl _ _) (Evo.refl _) hDs (fun _ => rfl) hR hE
  | ret =>
    simp only [cCode] at hc; injection hc with hc; subst hc
    simp only [codeWp] at h
    exact cont .ret _ _ _ _ _ Ds h (Ext.refl _ _) (Evo.refl _) hDs (fun _ => rfl) hR hE k
  | rangeFunc f ps as bd =>
    simp only [cCode] at hc
    split at hc
    · cases hc
    · rename_i hinr
      have hinr : inr = false := by simpa using hinr
      have hrd' := hrd hinr
      subst hrd'
      split at hc
      · rename_i o x y ho hx hy hps
        injection hc with hc; subst hc
        simp only [codeWp] at h
        split at h
        · rename_i g fs cap hv
          have hj := hC _ h
          simp only [JobSound] at hj
          obtain ⟨⟨fnn, hf, hname, hbody⟩, hcall⟩ := hj
          have hfv := cOpd_sound (ds := mk Ds) hR hE ho hv
          simp only [VRel] at hfv
          obtain ⟨a1, a2, hfv, ha1, ha2⟩ := hfv
          let r := w.heap.size
          let lp : Loop := { state := .ready, pending := none, fn, tmps := t, params := ps, assign := as, body := bd, defers := r }
          let w1 : World := { w with heap := w.heap.push (.deferred (some [])) }
          let w2 : World := { w1 with heap := w1.heap.push (.loop lp) }
          have hr1 : w1.heap.size = r + 1 := by simp [w1, r]
          have henter : (Instr.enterLoop fn t ps as bd none).run P w = .ok (r + 1, [{ target := .collected r, args := #[] }]) w2 := by
            simp [Instr.enterLoop, newObj, Sem.run, w2, w1, lp, r]
          have hR1 : Rel P w0 (dprv (r :: Ds) prv) β H w1 := hR.pushPrv _
          have hfr := hR1.fresh
          have hkeep := Inj.put_keep (L := ⟨w1.heap.size, 0, 0⟩) hfr
          have hR2 : Rel P w0 (dprv (r :: Ds) prv) (β.put H.next ⟨w1.heap.size, 0, 0⟩) (H.push (.loop e ps.toList x y .ready none)) w2 :=
            hR1.alloc _ _ ⟨w1.heap.size, 0, 0⟩ hfr (hR1.none_of_ge (Nat.le_refl _)) rfl (fun k => Heap.get_push H k _) (by simp) (by simp) (fun w' hw' => by
              simp only [ORel]
              exact ⟨lp, N, A, hw', hE.mono hkeep, rfl, (fun p hp => by simpa using List.all_eq_true.1 hps p hp), hx, hy, rfl, rfl⟩)
          have hD2 : DsOk w0 prv (r :: Ds) := by
            refine ⟨List.nodup_cons.2 ⟨?_, hDs.nd⟩, ?_, ?_⟩
            · intro hm
              have := hR.prvs r _ (List.mem_append_left _ (List.mem_map.2 ⟨r, hm, rfl⟩))
              simp [r] at this
            · intro r' hr'
              rcases List.mem_cons.1 hr' with rfl | hr'
              · exact hR.size
              · exact hDs.old r' hr'
            · intro r' hr' p hp
              rcases List.mem_cons.1 hr' with rfl | hr'
              · intro he
                have := hR.prvs p.1 p.2 (List.mem_append_right _ hp)
                rw [he] at this
                simp [r] at this
              · exact hDs.prv r' hr' p hp
          have hargs : VRels P (β.put H.next ⟨w1.heap.size, 0, 0⟩) (fs ++ [AV.yield H.next] ++ cap) (a1 ++ #[Value.func (.yield (r + 1)) #[] #[]] ++ a2).toList := by
            rw [Array.toList_append, Array.toList_append]
            refine ((VRels.mono hkeep _ _ ha1).append ?_).append (VRels.mono hkeep _ _ ha2)
            simp only [VRels, VRel]
            exact ⟨_, [], rfl, ⟨_, Inj.put_same, by rw [hr1]⟩, rfl⟩
          let c' : Frame := Fx fn none t (mk (r :: Ds)) (.inRangeFunc (r + 1) :: k)
          have hstep : step P (lone (Fx fn none t (mk Ds) (.code (.rangeFunc f ps as bd) :: k)) cs w) = .next (lone (Frame.enter P g (a1 ++ #[Value.func (.yield (r + 1)) #[] #[]] ++ a2) .normal) (c' :: cs) w2) := by
            refine step_lone_go ?_
            have hev := congrFun (Fx_eval fn none t ([{ target := .collected r, args := #[] }] ++ mk Ds) (.inRangeFunc (r + 1) :: k)) f
            have hev0 := hfv
            have he2 : ({ Fx fn none t (mk Ds) (.code (.rangeFunc f ps as bd) :: k) with todo := .inRangeFunc (r + 1) :: k, defers := [{ target := .collected r, args := #[] }] ++ mk Ds } : Frame).eval f = .func (.func g) a1 a2 := by
              have : ∀ dd, (Act.mk t dd).eval f = (Act.mk t (mk Ds)).eval f := by intro dd; cases f <;> rfl
              have h2 := hev.trans (this _)
              rw [hev0] at h2
              exact h2
            have hbn : fnn.body ≠ none := by rintro hb; rw [hb] at hbody; cases hbody
            have hnm : fnn.name ≠ "runtime.NumGoroutine" := by simpa using hname
            simp only [Fx] at he2
            have happ : (do let d ← resolve ({ fn := fn, tmps := t, todo := .inRangeFunc (r + 1) :: k, defers := [{ target := .collected r, args := #[] }] ++ mk Ds, mode := .run, kind := .normal, roundOf := none } : Frame).eval { callee := .value f, args := #[.const (.func (.yield (r + 1)) #[] #[])], argTypes := #[] } 0
                            invoke d.target d.args : Sem Next).run P w2 = .ok (.enter g (a1 ++ #[Value.func (.yield (r + 1)) #[] #[]] ++ a2)) w2 := by
              simp only [resolve, he2, Deferred.ofValue, Sem.run_bind, Sem.run_pure, Result.andThen_ok, invoke, callFunc, program]
              simp [Sem.run, hf, hnm, hbn, Frame.eval]
            simp only [stepG, stepG.exec, Fx, Sem.runT_eq, henter, GStep.bare_after, stepG.apply, if_true]
            rw [happ]
            simp [c', Fx, mk]
          refine Fwd.to hG hstep ?_
          refine hcall w0 (dprv (r :: Ds) prv) _ w2 _ (c' :: cs) G hG hR2 hargs ?_
          intro v H2 β2 w3 u fr' hq hx2 hev2 hR3 hv' hlv _
          refine hG _ _ (step_leave_returned hlv) ?_
          have hfin : c'.finish u = Fx fn none t (mk (r :: Ds)) (.endRangeFunc (r + 1) :: k) := by simp [c', Frame.finish, Fx]
          rw [hfin]
          simp only [Heap.next_push] at hx2
          have hpush : Evo H (H.push (.loop e ps.toList x y .ready none)) := ⟨by simp, fun b hb hn => by rw [Heap.get_push, if_neg (by omega)]; exact hn⟩
          have hx02 : Ext H.next β β2 := (push_ext hfr).trans hx2 (Nat.le_succ _)
          have hev02 : Evo H H2 := hpush.trans hev2
          have fin : ∀ {env ps' as' bd' st pend}, H2.get H.next = some (.loop env ps' as' bd' st pend) → st ≠ .busy → Q (pend.getD .normal) e (H2.kill H.next) → G (lone (Fx fn none t (mk (r :: Ds)) (.endRangeFunc (r + 1) :: k)) cs w3) := by
            intro env ps' as' bd' st pend hl hst hq
            obtain ⟨L, rr, N', A', hL, hrr, _, _, _, _, _, hst', hpd⟩ := loop_get hR3 hl
            rw [hx2.keep _ _ Inj.put_same] at hL; injection hL with hL; subst hL
            simp only [hr1] at hrr
            have hnb : rr.state ≠ .busy := by
              cases st with
              | ready => simp only [stRel] at hst'; rw [hst']; rintro h; cases h
              | busy => exact absurd rfl hst
              | done => simp only [stRel] at hst'; rw [hst']; rintro h; cases h
            have hend : (Instr.endLoop (r + 1)).run P w3 = .ok rr.pending { w3 with heap := w3.heap.setIfInBounds (r + 1) (.loop { rr with state := .exhausted }) } := by
              simp [Instr.endLoop, run_getLoop hrr, run_setObj' hrr (by rintro _ _ _ h; cases h), hnb]
            have hR4 := hR3.killSet hl rfl (hx2.keep _ _ Inj.put_same) (.loop { rr with state := .exhausted })
            simp only [hr1] at hR4
            have hev4 : Evo H (H2.kill H.next) := ⟨hev02.next, fun b hb hn => by
              rw [Heap.get_kill]
              split
              · rfl
              · exact hev02.none b hb hn⟩
            have hE4 : EnvRel P β2 N e t := hE.mono hx02.keep
            have hc4 := cont _ _ _ _ _ _ (r :: Ds) hq hx02 hev4 hD2 (fun h => by rw [hinr] at h; cases h) hR4 hE4
            have hst : step P (lone (Fx fn none t (mk (r :: Ds)) (.endRangeFunc (r + 1) :: k)) cs w3) = .next (lone (Fx fn none t (mk (r :: Ds)) ((rr.pending.map Item.code).toList ++ k)) cs { w3 with heap := w3.heap.setIfInBounds (r + 1) (.loop { rr with state := .exhausted }) }) :=
              step_lone_go (by simp [stepG, stepG.exec, Fx, hend])
            refine hG _ _ hst ?_
            cases pend with
            | none =>
              simp only [pendRel] at hpd
              have e1 : (rr.pending.map Item.code).toList ++ k = k := by rw [hpd]; rfl
              rw [e1]; exact Fwd.here hc4
            | some p =>
              cases p with
              | normal => exact hpd.elim
              | exit id =>
                simp only [pendRel] at hpd
                have e1 : (rr.pending.map Item.code).toList ++ k = .code (.exit id) :: k := by rw [hpd]; rfl
                rw [e1]; exact Fwd.here hc4
              | ret =>
                simp only [pendRel] at hpd
                have e1 : (rr.pending.map Item.code).toList ++ k = .code .ret :: k := by rw [hpd]; rfl
                rw [e1]; exact Fwd.here (hc4 k)
          split at hq
          · exact hq.elim
          · rename_i st pend hnb hl
            exact fin hl (by rintro rfl; exact hnb rfl) hq
          · exact hq.elim
        · exact h.elim
      · cases hc
  | _ => simp [cCode] at hc
end
end Go.AE
