/-
  Calls: what the evaluator says of a call, the machine does.
-/
import Derived.Test.YtoinombhonbibaaGreatDoorAeW
set_option linter.unusedSimpArgs false
set_option linter.unusedVariables false
set_option linter.unusedSectionVars false
namespace Go.AE

structure TabOk (P : Program) (T : Nat → Option FSpec) : Prop where
  code : ∀ f ifn, T f = some (.code ifn) → ∃ A fn, P.funcs[f]? = some fn ∧ (fn.name == "runtime.NumGoroutine") = false ∧ cFunc P A fn = some ifn
  spec : ∀ f S, T f = some (.spec S) → ∀ args H K, S args H K → CallSound P f args H K ∧ ∃ v H', K v H'

section
variable {P : Program} {w0 : World} {β : Inj} {prv : List (Nat × Obj)} {H : Heap}

theorem unwind_marks {G : Machine → Prop} (hG : Closed P G) {fn : FuncId} {t : Array Value} {k : List Item} {cs : List Frame} : ∀ (Ds : List Nat) (w : World), DsOk w0 prv Ds → Rel P w0 (dprv Ds prv) β H w →
    (∀ w', Rel P w0 prv β H w' → G (lone { Fx fn none t [] k with mode := .returning } cs w')) → G (lone { Fx fn none t (mk Ds) k with mode := .returning } cs w)
  | [], w, _, hR, h => h w hR
  | r :: Ds, w, hD, hR, h => by
    have hr : w.heap[r]? = some (.deferred (some [])) := hR.prvs r _ (by simp [dprv])
    have hnc : ∀ c t f, Obj.deferred (some []) ≠ .cells c t f := by rintro _ _ _ h; cases h
    have hrun : (Instr.takeDeferred r).run P w = .ok [] { w with heap := w.heap.setIfInBounds r (.deferred none) } := by
      simp [Instr.takeDeferred, run_getObj' hr hnc, run_setObj' hr hnc]
    have hnd := List.nodup_cons.1 hD.nd
    have hR' : Rel P w0 (dprv Ds prv) β H { w with heap := w.heap.setIfInBounds r (.deferred none) } := by
      refine Rel.takePrv (o := .deferred (some [])) hR ?_ (hD.old r (by simp)) _
      intro p hp
      rcases List.mem_append.1 hp with hp | hp
      · obtain ⟨r', hr', rfl⟩ := List.mem_map.1 hp
        rintro rfl; exact hnd.1 hr'
      · exact hD.prv r (by simp) p hp
    refine hG _ _ ?_ (unwind_marks hG Ds _ ⟨hnd.2, fun r' hr' => hD.old r' (by simp [hr']), fun r' hr' => hD.prv r' (by simp [hr'])⟩ hR' h)
    refine step_lone_go ?_
    simp only [stepG, Fx, mk, List.map_cons, unwind, Sem.runT_eq, hrun, GStep.bare_after, GStep.bare_go, List.nil_append]

theorem param_rel : ∀ {args : List AV} {vs : List Value} {i : Nat} {t : Array Value}, VRels P β args vs → (∀ m v, vs[m]? = some v → t[i + m]? = some v) → ∀ n a, (paramEnv i args).get n = some a → VRel P β a (t.getD n undef)
  | [], vs, i, t, h, ht, n, a, hn => by simp [paramEnv, Env.get] at hn
  | x :: r, vs, i, t, h, ht, n, a, hn => by
    obtain ⟨v, us, rfl, h1, h2⟩ := h.cons
    simp only [paramEnv, Env.get] at hn
    split at hn
    · rename_i hb
      have := Nat.eq_of_beq_eq_true hb
      subst this
      injection hn with hn; subst hn
      have := ht 0 v (by simp)
      rw [Array.getD_eq_getD_getElem?, show i = i + 0 by omega, this]
      exact h1
    · refine param_rel h2 (fun m u hm => ?_) n a hn
      have := ht (m + 1) u (by simpa using hm)
      rwa [show i + 1 + m = i + (m + 1) by omega]

theorem jobWp_sound (hm : P.follows .mixedOrders = true) {T : Nat → Option FSpec} (hT : TabOk P T) {ih : Job → Prop} (hC : ∀ j, ih j → JobSound P j) (hJ : ∀ j, ih j → JobInh j) (j : Job) (h : jobWp T ih j) : JobSound P j := by
    have h := h
    cases j with
    | code c e H Q => exact codeWp_sound hm hC hJ h
    | call f args H K =>
      simp only [jobWp] at h
      split at h
      · rename_i ifn hf
        obtain ⟨A, fn, hfn, hname, hc⟩ := hT.code f ifn hf
        unfold cFunc at hc
        split at hc
        · rename_i c hbody
          split at hc
          · rename_i b rs hb hrs
            injection hc with hc; subst hc
            split at h
            · rename_i hle
              have hle := Nat.le_of_ble_eq_true hle
              simp only at hle h
              have hcode := hC _ h
              simp only [JobSound] at hcode ⊢
              refine ⟨⟨fn, hfn, hname, by rw [hbody]; rfl⟩, ?_⟩
              intro w0 prv β w vargs cs G hG hR ha cont
              have hlen := ha.length
              simp only [Array.length_toList] at hlen
              have henter : Frame.enter P f vargs .normal = Fx f none (vargs ++ Array.replicate (fn.ntmps - vargs.size) undef) (mk []) [.code c] := by
                simp [Frame.enter, Fx, hfn, hbody, mk]
              have hE : EnvRel P β fn.ntmps (paramEnv 0 args) (vargs ++ Array.replicate (fn.ntmps - vargs.size) undef) := by
                refine ⟨by simp; omega, param_rel ha (fun m v hm => ?_)⟩
                simp only [Array.getElem?_toList] at hm
                have hlt : m < vargs.size := by
                  rcases Nat.lt_or_ge m vargs.size with h' | h'
                  · exact h'
                  · simp [Array.getElem?_eq_none h'] at hm
                rw [Nat.zero_add, Array.getElem?_append, if_pos hlt]; exact hm
              have hds : DsOk w0 prv [] := ⟨List.nodup_nil, by simp, by simp⟩
              rw [henter]
              have leave : ∀ (x : Out) (e' : Env) (H' : Heap) (β' : Inj) (w' : World) (t' : Array Value) (Ds' : List Nat) (k' : List Item), (match resultsA e' H' rs with | some v => K v H' | none => False) → Ext H.next β β' → Evo H H' → DsOk w0 prv Ds' → Rel P w0 (dprv Ds' prv) β' H' w' → EnvRel P β' fn.ntmps e' t' →
                  G (lone { Fx f none t' (mk Ds') k' with mode := .returning } cs w') := by
                intro x e' H' β' w' t' Ds' k' hq hx hev hD hR' hE'
                split at hq
                · rename_i v hv
                  refine unwind_marks hG Ds' w' hD hR' (fun w'' hR'' => ?_)
                  obtain ⟨u, hu, hur⟩ := results_run hR'' hE' hrs hv
                  exact cont v H' β' w'' u _ hq hx hev hR'' hur ⟨rfl, rfl, rfl, fn, hfn, hu⟩ rfl
                · exact hq.elim
              refine Fwd.here (hcode false fn.ntmps A c hb w0 prv β w [] f none _ [] cs G hG (fun _ => rfl) hds hR hE ?_)
              intro x e' H' β' w' t' Ds' hq hx hev hD _ hR' hE'
              cases x with
              | normal => exact Fwd.to hG st_end (leave .normal e' H' β' w' t' Ds' _ hq hx hev hD hR' hE')
              | exit id => exact hq.elim
              | ret => exact fun k' => Fwd.to hG st_ret (leave .normal e' H' β' w' t' Ds' _ hq hx hev hD hR' hE')
            · exact h.elim
          · cases hc
        · cases hc
      · rename_i S hS'
        exact (hT.spec f S hS' args H K h).1
      · exact h.elim

theorem jobWp_inh {T : Nat → Option FSpec} (hT : TabOk P T) {ih : Job → Prop} (hJ : ∀ j, ih j → JobInh j) (j : Job) (h : jobWp T ih j) : JobInh j := by
  cases j with
  | code c e H Q => exact inh_codeWp hJ h
  | call f args H K =>
    simp only [jobWp] at h
    split at h
    · split at h
      · obtain ⟨x, e, H', h⟩ := inh_code hJ h
        split at h
        · exact h.elim
        · split at h
          · exact ⟨_, _, h⟩
          · exact h.elim
      · exact h.elim
    · rename_i S hS'
      exact (hT.spec f S hS' _ _ _ h).2
    · exact h.elim

theorem wp_sound (hm : P.follows .mixedOrders = true) {T : Nat → Option FSpec} (hT : TabOk P T) : ∀ n j, wp T n j → JobSound P j ∧ JobInh j
  | 0, _, h => by rw [wp_zero] at h; exact h.elim
  | n + 1, j, h => by
    rw [wp_succ] at h
    exact ⟨jobWp_sound hm hT (fun j h => (wp_sound hm hT n j h).1) (fun j h => (wp_sound hm hT n j h).2) j h, jobWp_inh hT (fun j h => (wp_sound hm hT n j h).2) j h⟩

/-- A call that the evaluator answers for. -/
theorem calls_of_wp' (hm : P.follows .mixedOrders = true) {T : Nat → Option FSpec} (hT : TabOk P T) {n f : Nat} {args : List AV} {K : AV → Heap → Prop} (h : wp T n (.call f args H K)) {w : World} (hR : Rel P w [] β H w) {vargs : Array Value} (ha : VRels P β args vargs.toList)
    {R : Ending → World → Prop} (hK : ∀ v H' β' w' u, K v H' → Ext H.next β β' → Rel P w [] β' H' w' → VRel P β' v u → R (.returned u) w') : Calls P f vargs w R := by
  intro cs
  have hs := (wp_sound hm hT n _ h).1
  simp only [JobSound] at hs
  refine hs.2 w [] β w vargs cs (fun m => ∃ e w' fr, R e w' ∧ Comes P m (lone fr cs w') e ∧ fr.fn = f ∧ fr.leaving P w' e) ?_ hR ha ?_
  · rintro m m' hst ⟨e, w', fr, h1, h2, h3⟩
    exact ⟨e, w', fr, h1, Comes.of_steps (.one hst) h2, h3⟩
  · intro v H' β' w' u fr' hk hx _ hR' hv hl hf
    exact ⟨.returned u, w', fr', hK v H' β' w' u hk hx hR' hv, Steps.refl _ _, hf, hl⟩
end
end Go.AE

/-
  The lists that a translation is told.
-/
namespace Go.AE
def annLook : List (Nat × List Nat) → Nat → List Nat
  | [], _ => []
  | (k, v) :: r, n => match Nat.beq k n with
    | true => v
    | false => annLook r n

/-- every entry of a table. -/
def PT.All {α : Type} (Q : Nat → α → Prop) : PT α → Nat → Nat → Prop
  | .nil, _, _ => True
  | .node l v r, a, b => (match v with | some x => Q a x | none => True) ∧ PT.All Q l (a + b) (2 * b) ∧ PT.All Q r (a + 2 * b) (2 * b)

theorem PT.all_get {α : Type} {Q : Nat → α → Prop} : ∀ {t : PT α} {a b k : Nat} {x : α}, PT.All Q t a b → t.get k = some x → Q (a + b * k) x
  | .nil, a, b, k, x, _, h => by rw [PT.get_nil] at h; cases h
  | .node l v r, a, b, k, x, hA, h => by
    obtain ⟨h1, h2, h3⟩ := hA
    cases k with
    | zero =>
      simp only [PT.get] at h
      subst h
      simpa using h1
    | succ m =>
      simp only [PT.get] at h
      split at h
      · rename_i hm
        have := PT.all_get h2 h
        have e : a + b + 2 * b * (m / 2) = a + b * (m + 1) := by
          have h4 : m = 2 * (m / 2) := by omega
          rw [Nat.mul_comm 2 b, Nat.mul_assoc, ← h4, Nat.mul_add]; omega
        rwa [e] at this
      · rename_i hm
        have := PT.all_get h3 h
        have e : a + 2 * b + 2 * b * (m / 2) = a + b * (m + 1) := by
          have h4 : m = 2 * (m / 2) + 1 := by
            have : m % 2 ≠ 0 := hm
            omega
          have h5 : b * m = b * (2 * (m / 2)) + b := by rw [← Nat.mul_succ]; exact congrArg (b * ·) h4
          rw [Nat.mul_comm 2 b, Nat.mul_assoc, Nat.mul_add, h5]; omega
        rwa [e] at this

def EntryOk (P : Program) (f : Nat) : FSpec → Prop
  | .code ifn => ∃ A fn, P.funcs[f]? = some fn ∧ (fn.name == "runtime.NumGoroutine") = false ∧ cFunc P A fn = some ifn
  | .spec S => ∀ args H K, S args H K → CallSound P f args H K ∧ ∃ v H', K v H'

theorem tabOk_of {P : Program} {t : PT FSpec} (h : PT.All (EntryOk P) t 0 1) : TabOk P t.get := by
  constructor
  · intro f ifn hf
    have := PT.all_get h hf
    rw [Nat.zero_add, Nat.one_mul] at this
    exact this
  · intro f S hf
    have := PT.all_get h hf
    rw [Nat.zero_add, Nat.one_mul] at this
    exact this
end Go.AE
