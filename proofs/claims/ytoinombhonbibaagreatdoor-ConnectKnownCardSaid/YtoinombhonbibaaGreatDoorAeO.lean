/-
  What is to be shown of a job; rounds; operations.
-/
import Derived.Test.YtoinombhonbibaaGreatDoorAeMN
set_option linter.unusedSimpArgs false
set_option linter.unusedVariables false
set_option linter.unusedSectionVars false
namespace Go.AE

def Arr (P : Program) (G : Machine → Prop) (fn : FuncId) (rd : Option Nat) (k : List Item) (cs : List Frame) : Out → Array Value → List Deferred → World → Prop
  | .normal, t, ds, w => Fwd P G (lone (Fx fn rd t ds k) cs w)
  | .exit id, t, ds, w => Fwd P G (lone (Fx fn rd t ds (.code (.exit id) :: k)) cs w)
  | .ret, t, ds, w => ∀ k', Fwd P G (lone (Fx fn rd t ds (.code .ret :: k')) cs w)

def mk (Ds : List Nat) : List Deferred := Ds.map fun r => { target := .collected r, args := #[] }
def dprv (Ds : List Nat) (prv : List (Nat × Obj)) : List (Nat × Obj) := Ds.map (fun r => (r, Obj.deferred (some []))) ++ prv
structure DsOk (w0 : World) (prv : List (Nat × Obj)) (Ds : List Nat) : Prop where
  nd : Ds.Nodup
  old : ∀ r ∈ Ds, w0.heap.size ≤ r
  prv : ∀ r ∈ Ds, ∀ p ∈ prv, p.1 ≠ r

def CodeSound (P : Program) (ic : ICode) (e : Env) (H : Heap) (Q : Out → Env → Heap → Prop) : Prop :=
  ∀ inr N A c, cCode P N A inr c = some ic → ∀ w0 prv β w Ds fn rd t k cs G, Closed P G → (inr = false → rd = none) → DsOk w0 prv Ds → Rel P w0 (dprv Ds prv) β H w → EnvRel P β N e t →
    (∀ x e' H' β' w' t' Ds', Q x e' H' → Ext H.next β β' → Evo H H' → DsOk w0 prv Ds' → (inr = true → Ds' = Ds) → Rel P w0 (dprv Ds' prv) β' H' w' → EnvRel P β' N e' t' → Arr P G fn rd k cs x t' (mk Ds') w') →
    Fwd P G (lone (Fx fn rd t (mk Ds) (.code c :: k)) cs w)

def CallSound (P : Program) (f : Nat) (args : List AV) (H : Heap) (K : AV → Heap → Prop) : Prop :=
  (∃ fn, P.funcs[f]? = some fn ∧ (fn.name == "runtime.NumGoroutine") = false ∧ fn.body.isSome = true) ∧
  ∀ w0 prv β w (vargs : Array Value) cs G, Closed P G → Rel P w0 prv β H w → VRels P β args vargs.toList →
    (∀ v H' β' w' u fr', K v H' → Ext H.next β β' → Evo H H' → Rel P w0 prv β' H' w' → VRel P β' v u → fr'.leaving P w' (.returned u) → fr'.fn = f → G (lone fr' cs w')) →
    G (lone (Frame.enter P f vargs .normal) cs w)

def JobSound (P : Program) : Job → Prop
  | .code c e H Q => CodeSound P c e H Q
  | .call f args H K => CallSound P f args H K

section
variable {P : Program} {G : Machine → Prop} {fn : FuncId} {rd : Option Nat} {t : Array Value} {ds : List Deferred} {k : List Item} {cs : List Frame} {w w' : World}

theorem Fwd.to (hG : Closed P G) {m m' : Machine} (h : step P m = .next m') (h' : G m') : Fwd P G m := fun m₁ h₁ => hG m₁ m' (h₁.trans h) h'

theorem st_begin {l : Nat} (h : (Instr.beginRound l).run P w = .ok () w') : step P (lone (Fx fn (some l) t ds (.beginRound :: k)) cs w) = .next (lone (Fx fn (some l) t ds k) cs w') :=
  step_lone_go (by simp [stepG, stepG.exec, Fx, stepG.apply, h, Frame.finish])

theorem st_roundEnd {l : Nat} {c : Frame} {v : Value} (h : (Instr.endRound l none).run P w = .ok v w') : step P (lone (Fx fn (some l) t ds []) (c :: cs) w) = .next (lone (c.finish v) cs w') :=
  step_lone_go (by simp [stepG, stepG.exec, Fx, h, doReturn])
theorem st_roundRet {l : Nat} {c : Frame} {v : Value} (h : (Instr.endRound l (some .ret)).run P w = .ok v w') : step P (lone (Fx fn (some l) t ds (.code .ret :: k)) (c :: cs) w) = .next (lone (c.finish v) cs w') :=
  step_lone_go (by simp [stepG, stepG.exec, Fx, h, doReturn])
theorem st_roundExit {l id : Nat} {c : Frame} {v : Value} (h : (Instr.endRound l (some (.exit id))).run P w = .ok v w') : step P (lone (Fx fn (some l) t ds [.code (.exit id)]) (c :: cs) w) = .next (lone (c.finish v) cs w') :=
  step_lone_go (by simp [stepG, stepG.exec, Fx, h, doReturn, exitTo])
end

section
variable {P : Program} {β : Inj} {w w0 : World} {prv : List (Nat × Obj)} {H H' : Heap}

theorem bind_rel {N : Nat} : ∀ {ps : List Nat} {args : List AV} {vs : List Value} {e : Env} {t : Array Value}, EnvRel P β N e t → VRels P β args vs → args.length = ps.length → (∀ p ∈ ps, p < N) →
    EnvRel P β N (bindPs ps args e) ((ps.zip vs).foldl (fun tmps (x : Nat × Value) => tmps.setIfInBounds x.1 x.2) t)
  | [], args, vs, e, t, hE, ha, hl, hp => by
    cases args with
    | nil => simpa [bindPs] using hE
    | cons a r => simp at hl
  | p :: ps, args, vs, e, t, hE, ha, hl, hp => by
    cases args with
    | nil => simp at hl
    | cons a r =>
      obtain ⟨v, us, rfl, h1, h2⟩ := ha.cons
      simp only [bindPs, List.zip_cons_cons, List.foldl_cons]
      refine bind_rel ⟨by simpa using hE.1, ?_⟩ h2 (by simpa using hl) (fun q hq => hp q (by simp [hq]))
      intro n u hn
      have hpN : p < t.size := by rw [hE.1]; exact hp p (by simp)
      simp only [Env.put, Env.get] at hn
      split at hn
      · rename_i hb
        have : p = n := Nat.eq_of_beq_eq_true hb
        subst this
        injection hn with hn; subst hn
        simpa [Array.getElem?_setIfInBounds, hpN] using h1
      · rename_i hb
        have hne : p ≠ n := fun h => by subst h; simp at hb
        have := hE.2 n u hn
        simpa [Array.getD_eq_getD_getElem?, Array.getElem?_setIfInBounds_ne hne] using this

theorem zip_foldl {α : Type} (ps : Array Nat) (args : Array Value) (f : α → Nat × Value → α) (a : α) : (ps.zip args).foldl f a = (ps.toList.zip args.toList).foldl f a := by
  rw [← Array.foldl_toList, Array.toList_zip]

theorem loop_get (hR : Rel P w0 prv β H w) {l : Nat} {env : Env} {ps : List Nat} {as bd : ICode} {st : LoopSt} {pend : Option Out} (h : H.get l = some (.loop env ps as bd st pend)) :
    ∃ L r N A, β l = some L ∧ w.heap[L.blk]? = some (.loop r) ∧ EnvRel P β N env r.tmps ∧ r.params.toList = ps ∧ (∀ p ∈ ps, p < N) ∧
      cCode P N A true r.assign = some as ∧ cCode P N A true r.body = some bd ∧ stRel st r.state ∧ pendRel pend r.pending := by
  obtain ⟨L, hL, hO⟩ := hR.obj l _ h
  simp only [ORel] at hO
  obtain ⟨r, N, A, h1⟩ := hO
  exact ⟨L, r, N, A, hL, h1⟩

theorem run_getLoop {l : Nat} {r : Loop} (h : w.heap[l]? = some (.loop r)) : (Instr.getLoop l).run P w = .ok r w := by
  simp [Instr.getLoop, run_getObj' h (by rintro _ _ _ h; cases h)]

theorem evo_set {b : Nat} {o o' : AObj} (h : H.get b = some o) : Evo H (H.set b o') :=
  ⟨Nat.le_refl _, fun k _ hk => by rw [Heap.get_set, if_neg (by rintro rfl; rw [h] at hk; cases hk)]; exact hk⟩

theorem round_sound {ih : Job → Prop} (hC : ∀ j, ih j → JobSound P j) {l : Nat} {args : List AV} {K : AV → Heap → Prop} (h : roundWp ih l args H K) (hR : Rel P w0 prv β H w) {vargs : Array Value}
    (ha : VRels P β args vargs.toList) {L : Loc} (hL : β l = some L) {G : Machine → Prop} (hG : Closed P G) {c : Frame} {cs : List Frame}
    (cont : ∀ v H' β' w' u, K v H' → Ext H.next β β' → Evo H H' → Rel P w0 prv β' H' w' → VRel P β' v u → G (lone (c.finish u) cs w')) :
    ∃ f tmps as bd, (Instr.yield L.blk vargs).run P w = .ok (.round L.blk f tmps as bd) w ∧ G (lone (Frame.round L.blk f tmps as bd .normal) (c :: cs) w) := by
  unfold roundWp at h
  split at h
  · rename_i env ps assign body pend0 hl0
    split at h
    · rename_i hlen
      obtain ⟨L', r, N, A, hL', hr, hE, hps, hpN, hca, hcb, hst, hpd⟩ := loop_get hR hl0
      rw [hL] at hL'; injection hL' with hL'; subst hL'
      have hsz : ¬ vargs.size ≠ r.params.size := by
        have := ha.length
        simp only [Array.length_toList] at this
        have h2 : r.params.size = ps.length := by rw [← hps]; simp
        omega
      refine ⟨r.fn, (r.params.zip vargs).foldl (fun tmps (x : Nat × Value) => tmps.setIfInBounds x.1 x.2) r.tmps, r.assign, r.body, ?_, ?_⟩
      · simp only [Instr.yield, Sem.run_bind, run_getLoop hr, Result.andThen_ok]
        rw [if_neg hsz]
        simp
      · have hE1 : EnvRel P β N (bindPs ps args env) ((r.params.zip vargs).foldl (fun tmps (x : Nat × Value) => tmps.setIfInBounds x.1 x.2) r.tmps) := by
          rw [zip_foldl, hps]
          exact bind_rel hE ha hlen hpN
        have h1 := hC _ h
        simp only [JobSound] at h1
        have hds : DsOk w0 prv [] := ⟨List.nodup_nil, by simp, by simp⟩
        refine Fwd.here (h1 true N A r.assign hca w0 prv β w [] r.fn (some L.blk) _ [.beginRound, .code r.body] (c :: cs) G hG (by simp) hds hR hE1 ?_)
        intro x e1 H1 β1 w1 t1 Ds1 hq hx1 ev1 _ hD1 hR1 hE1'
        have hD1' := hD1 rfl; subst hD1'
        cases x with
        | exit id => exact hq.elim
        | ret => exact hq.elim
        | normal =>
          simp only at hq
          split at hq
          · rename_i env1 ps1 as1 bd1 pend1 hl1
            obtain ⟨L1, r1, N1, A1, hL1, hr1, hE1, hps1, hpN1, hca1, hcb1, hst1, hpd1⟩ := loop_get hR1 hl1
            rw [hx1.keep _ _ hL] at hL1; injection hL1 with hL1; subst hL1
            simp only [stRel] at hst1
            have hnl : ∀ (r : Loop) c t f, Obj.loop r ≠ .cells c t f := by rintro _ _ _ _ h; cases h
            have hbeg : (Instr.beginRound L.blk).run P w1 = .ok () { w1 with heap := w1.heap.setIfInBounds L.blk (.loop { r1 with state := .busy }) } := by
              simp [Instr.beginRound, run_getLoop hr1, run_setObj' hr1 (hnl _), hst1]
            have hRb : Rel P w0 (dprv [] prv) β1 (H1.set l (.loop env1 ps1 as1 bd1 .busy pend1)) { w1 with heap := w1.heap.setIfInBounds L.blk (.loop { r1 with state := .busy }) } :=
              hR1.setObj hl1 rfl (hx1.keep _ _ hL) _ (fun w' hw' => by
                simp only [ORel]; exact ⟨_, N1, A1, hw', hE1, hps1, hpN1, hca1, hcb1, rfl, hpd1⟩)
            have h2 := hC _ hq
            simp only [JobSound] at h2
            simp only [Arr]
            refine Fwd.of_step hG (st_begin hbeg) ?_
            refine h2 true N A r.body hcb w0 prv β1 _ [] r.fn (some L.blk) t1 [] (c :: cs) G hG (by simp) hds hRb hE1' ?_
            intro x e2 H2 β2 w2 t2 Ds2 hq2 hx2 ev2 _ hD2 hR2 _
            have hD2' := hD2 rfl; subst hD2'
            simp only [Heap.next_set] at hx2
            split at hq2
            · rename_i env2 ps2 as2 bd2 pend2 hl2
              obtain ⟨L2, r2, N2, A2, hL2, hr2, hE2, hps2, hpN2, hca2, hcb2, hst2, hpd2⟩ := loop_get hR2 hl2
              rw [hx2.keep _ _ (hx1.keep _ _ hL)] at hL2; injection hL2 with hL2; subst hL2
              have hxx : Ext H.next β β2 := hx1.trans hx2 ev1.next
              have hev : Evo H H2 := ev1.trans ((evo_set hl1).trans ev2)
              cases x with
              | normal =>
                simp only at hq2
                have hend : (Instr.endRound L.blk none).run P w2 = .ok (.bool true) { w2 with heap := w2.heap.setIfInBounds L.blk (.loop { r2 with state := .ready, pending := none }) } := by
                  simp [Instr.endRound, run_getLoop hr2, run_setObj' hr2 (hnl _)]
                refine Fwd.to hG (st_roundEnd hend) (cont _ _ _ _ _ hq2 hxx (hev.trans (evo_set hl2)) ?_ rfl)
                exact hR2.setObj hl2 rfl (hx2.keep _ _ (hx1.keep _ _ hL)) _ (fun w' hw' => by
                  simp only [ORel]; exact ⟨_, N2, A2, hw', hE2, hps2, hpN2, hca2, hcb2, rfl, rfl⟩)
              | exit id =>
                simp only at hq2
                have hend : (Instr.endRound L.blk (some (.exit id))).run P w2 = .ok (.bool false) { w2 with heap := w2.heap.setIfInBounds L.blk (.loop { r2 with state := .done, pending := some (.exit id) }) } := by
                  simp [Instr.endRound, run_getLoop hr2, run_setObj' hr2 (hnl _)]
                refine Fwd.to hG (st_roundExit hend) (cont _ _ _ _ _ hq2 hxx (hev.trans (evo_set hl2)) ?_ rfl)
                exact hR2.setObj hl2 rfl (hx2.keep _ _ (hx1.keep _ _ hL)) _ (fun w' hw' => by
                  simp only [ORel]; exact ⟨_, N2, A2, hw', hE2, hps2, hpN2, hca2, hcb2, rfl, rfl⟩)
              | ret =>
                simp only at hq2
                have hend : (Instr.endRound L.blk (some .ret)).run P w2 = .ok (.bool false) { w2 with heap := w2.heap.setIfInBounds L.blk (.loop { r2 with state := .done, pending := some .ret }) } := by
                  simp [Instr.endRound, run_getLoop hr2, run_setObj' hr2 (hnl _)]
                intro k'
                refine Fwd.to hG (st_roundRet hend) (cont _ _ _ _ _ hq2 hxx (hev.trans (evo_set hl2)) ?_ rfl)
                exact hR2.setObj hl2 rfl (hx2.keep _ _ (hx1.keep _ _ hL)) _ (fun w' hw' => by
                  simp only [ORel]; exact ⟨_, N2, A2, hw', hE2, hps2, hpN2, hca2, hcb2, rfl, rfl⟩)
            · exact hq2.elim
          · exact hq.elim
    · exact h.elim
  · exact h.elim
end
end Go.AE
