/-
  Loops over functions.
-/
import Derived.Test.YtefkjiedgecjpaaGreatDoorAeS3
set_option linter.unusedSimpArgs false
set_option linter.unusedVariables false
set_option linter.unusedSectionVars false
namespace Go.AE
section
variable {T : Nat → Option FSpec} (hT : TMono T)
include hT
theorem Wp.range {f : Opd} {ps : List Nat} {assign body : ICode} {e : Env} {H : Heap} {Q : Out → Env → Heap → Prop} {g : Nat} {fs cap : List AV} (hf : ev e f = some (.fn g fs cap))
    (h : Wp T (.call g (fs ++ [.yield H.next] ++ cap) (H.push (.loop e ps assign body .ready none)) fun _ H2 => ∃ env ps' as' bd' st pend, H2.get H.next = some (.loop env ps' as' bd' st pend) ∧ (st = .ready ∨ st = .done) ∧ Q (pend.getD .normal) e (H2.kill H.next))) :
    Wp T (.code (.rangeFunc f ps assign body) e H Q) := by
  refine Wp.intro hT ?_
  simp only [jobWp, codeWp, hf]
  refine Wp.jmono.call ?_ h
  rintro v H2 ⟨env, ps', as', bd', st, pend, h1, h2, h3⟩
  rw [h1]
  rcases h2 with rfl | rfl <;> exact h3

theorem round_w {l : Nat} {args : List AV} {H : Heap} {K : AV → Heap → Prop} {env : Env} {ps : List Nat} {assign body : ICode} {pend : Option Out} (hl : H.get l = some (.loop env ps assign body .ready pend)) (ha : args.length = ps.length)
    (h : cX (Wp T) assign (bindPs ps args env) H fun x e H1 => outX x (∃ env1 ps1 assign1 body1 pend1, H1.get l = some (.loop env1 ps1 assign1 body1 .ready pend1) ∧
      cX (Wp T) body e (H1.set l (.loop env1 ps1 assign1 body1 .busy pend1)) fun x _ H2 => ∃ env2 ps2 as2 b2 pend2, H2.get l = some (.loop env2 ps2 as2 b2 .busy pend2) ∧
        outX x (K (.bool true) (H2.set l (.loop env2 ps2 as2 b2 .ready none))) (fun j => K (.bool false) (H2.set l (.loop env2 ps2 as2 b2 .done (some (.exit j))))) (K (.bool false) (H2.set l (.loop env2 ps2 as2 b2 .done (some .ret)))))
      (fun _ => False) False) : roundWp (Wp T) l args H K := by
  unfold roundWp
  rw [hl]
  simp only [ha, if_true]
  refine Wp.jmono.code ?_ (Wp.ofCX hT h)
  intro x e H1
  cases x with
  | normal =>
    rw [outX_normal]
    rintro ⟨env1, ps1, assign1, body1, pend1, h1, h2⟩
    simp only [h1]
    refine Wp.jmono.code ?_ (Wp.ofCX hT h2)
    rintro x _ H2 ⟨env2, ps2, as2, b2, pend2, h3, h4⟩
    simp only [h3]
    cases x with
    | normal => rw [outX_normal] at h4; exact h4
    | exit j => rw [outX_exit] at h4; exact h4
    | ret => rw [outX_ret] at h4; exact h4
  | exit j => rw [outX_exit]; exact False.elim
  | ret => rw [outX_ret]; exact False.elim
end
end Go.AE
