/-
  'awake' worked out once; what the closed run takes by contract.
-/
import Derived.Test.YtefkjiedgecjpaaGreatDoorAeR0
import Derived.Test.YtefkjiedgecjpaaGreatDoorAeK1
import Derived.KernelRfl
set_option linter.unusedSimpArgs false
set_option linter.unusedVariables false
set_option linter.unusedSectionVars false
set_option maxRecDepth 100000
namespace Go.AE
open Go.Proofs
def parentB : List AV → Heap → (AV → Heap → Bool) → Bool := fun args H K => match parentV args H with
  | some v => K (.agg v) H
  | none => false
/-- code, but for leaf.Parent. -/
noncomputable def tabB0 (k : Nat) : Option FSpecB := match Nat.beq k 25 with
  | true => some (.spec parentB)
  | false => match PT.getR tab k with
    | some (.code f) => some (.code f)
    | _ => none
def tabP0 : Nat → Option FSpec := over tab.get 25 parentS
theorem tabP0_ok : TabOk Tryz.prog tabP0 := tabOk0.over parentS_ok
theorem tabP0_mono : TMono tabP0 := tab_mono.over parentS_mono
theorem parentB_S {args : List AV} {H : Heap} {K : AV → Heap → Bool} (h : parentB args H K = true) : parentS args H (fun v H => K v H = true) := by
  unfold parentB at h
  unfold parentS
  split at h
  · rename_i hv; simp only [hv]; exact h
  · cases h
theorem tabB0_ok : TabB tabB0 tabP0 where
  code := fun f ifn h => by
    unfold tabB0 at h
    unfold tabP0 over
    split at h
    · injection h with h; cases h
    · rename_i hb
      rw [hb]
      simp only
      split at h
      · rename_i g hg
        rw [PT.getR_eq] at hg
        injection h with h; injection h with h; subst h
        exact hg
      · cases h
  spec := fun f S' h => by
    unfold tabB0 at h
    unfold tabP0 over
    split at h
    · rename_i hb
      rw [hb]
      injection h with h; injection h with h; subst h
      exact ⟨_, rfl, fun _ _ _ h => parentB_S h⟩
    · split at h
      · injection h with h; cases h
      · cases h

def wordsL : List Nat → List AV
  | [] => []
  | x :: r => .int .u64 (.ofNat x) :: wordsL r
theorem wordsL_eq : ∀ l, wordsL l = wordsA l
  | [] => rfl
  | x :: r => by show AV.int .u64 (.ofNat x) :: wordsL r = _; rw [wordsL_eq r]; rfl
def heap0 : Heap := ⟨nat_lit 2, .node (.node .nil (some (.cells false (wordsL shaK))) .nil) (some (.cells false (wordsL shaH))) .nil⟩
theorem heap0_eq : heap0 = heapG := by
  unfold heap0
  rw [wordsL_eq, wordsL_eq]; rfl
def isTB : AV → Heap → Bool := fun v _ => match v with
  | .bool true => true
  | _ => false
theorem isTB_ok {v : AV} {H : Heap} (h : isTB v H = true) : v = .bool true := by
  unfold isTB at h
  split at h
  · rfl
  · cases h
theorem awake_run : wpB tabB0 (nat_lit 1000000) (.call 9 [] heap0 isTB) = true := by kernel_rfl

/-! ### awake as a contract -/
def awakeS : List AV → Heap → (AV → Heap → Prop) → Prop := fun args H K => args = [] ∧ Glob H ∧ K (.bool true) H
def awakeB : List AV → Heap → (AV → Heap → Bool) → Bool := fun args H K => match args with
  | [] => match globB H with
    | true => K (.bool true) H
    | false => false
  | _ => false
theorem awakeS_ok : ∀ args H K, awakeS args H K → CallSound Tryz.prog 9 args H K ∧ ∃ v H', K v H' := by
  rintro args H K ⟨rfl, hG, hk⟩
  refine ⟨?_, _, _, hk⟩
  have h1 : Wp tabP0 (.call 9 [] heap0 fun v H => isTB v H = true) := wpB_ok tabP0_mono tabB0_ok _ _ awake_run
  have h2 : Wp tabP0 (.call 9 [] heap0 fun v _ => AV.under 0 v = true ∧ K v H) := Wp.jmono.call (fun v H' h => by rw [isTB_ok h]; exact ⟨rfl, hk⟩) h1
  rw [heap0_eq] at h2
  refine CallSound.frame (Hs := heapG) (Wp.sound follows_mixed tabP0_ok h2).1 hG.next (by rw [nGlob]; exact Nat.le_refl 2) ?_ rfl
  intro b o hb
  rcases heapG_get b o hb with ⟨rfl, rfl⟩ | ⟨rfl, rfl⟩
  · exact ⟨hG.first, by decide, _, rfl, wordsA_under _ _⟩
  · exact ⟨hG.konst, by decide, _, rfl, wordsA_under _ _⟩
theorem awakeS_mono : ∀ args H (K K' : AV → Heap → Prop), (∀ v H, K v H → K' v H) → awakeS args H K → awakeS args H K' :=
  fun _ _ _ _ hK ⟨h1, h2, h3⟩ => ⟨h1, h2, hK _ _ h3⟩
theorem awakeB_S {args : List AV} {H : Heap} {K : AV → Heap → Bool} (h : awakeB args H K = true) : awakeS args H (fun v H => K v H = true) := by
  unfold awakeB at h
  split at h
  · split at h
    · rename_i hg; exact ⟨rfl, globB_ok hg, h⟩
    · cases h
  · cases h

/-! ### need.Need: whatever order its ways come in -/
/-- what is needed, where the run asks it. -/
def hintV (args : List AV) (H : Heap) : Option (List Nat) := match args with
  | [.int .u64 (.ofNat n), .sl b o m _ _] => match Nat.beq n 4, Nat.beq m 1 with
    | true, true => match H.load none b o with
      | some (.int .u64 (.ofNat t)) => match Nat.beq t 3 with
        | true => some [nat_lit 2, nat_lit 4]
        | false => none
      | _ => none
    | _, _ => none
  | _ => none
def chkB (l : List Nat) : AV → Heap → Bool := fun v H => match v with
  | .tup [.sl b 0 n none e, .int .i64 (.ofNat 0)] => match Nat.beq n l.length, Nat.beq e 23 with
    | true, true => match H.get b with
      | some (.cells true c) => areW c l
      | _ => false
    | _, _ => false
  | _ => false
theorem chkB_ok {l : List Nat} {v : AV} {H : Heap} (h : chkB l v H = true) : ∃ b, v = .tup [.sl b 0 l.length none 23, .int .i64 0] ∧ H.get b = some (.cells true (wordsA l)) := by
  unfold chkB at h
  split at h
  · rename_i b n e
    split at h
    · rename_i h1 h2
      have h1 := Nat.eq_of_beq_eq_true h1
      have h2 := Nat.eq_of_beq_eq_true h2
      subst h1; subst h2
      split at h
      · rename_i c hc
        exact ⟨b, rfl, by rw [hc, areW_eq h]⟩
      · cases h
    · cases h
  · cases h
noncomputable def needB : List AV → Heap → (AV → Heap → Bool) → Bool := fun args H K => match hintV args H with
  | some l => match wpB tabB0 (nat_lit 1000000) (.call 77 args H.frozen (chkB l)) with
    | true => K (.tup [.sl H.next 0 l.length none 23, .int .i64 (.ofNat 0)]) (H.push (.cells true (wordsL l)))
    | false => false
  | none => wpB tabB0 (nat_lit 1000000) (.call 77 args H K)
def needS : List AV → Heap → (AV → Heap → Prop) → Prop := fun args H K => ∃ K' : AV → Heap → Bool, needB args H K' = true ∧ ∀ v H, K' v H = true → K v H
theorem needS_ok : ∀ args H K, needS args H K → CallSound Tryz.prog 77 args H K ∧ ∃ v H', K v H' := by
  rintro args H K ⟨K', h, hK⟩
  unfold needB at h
  split at h
  · rename_i l hl
    split at h
    · rename_i hr
      have hk := hK _ _ h
      refine ⟨?_, _, _, hk⟩
      have h1 : Wp tabP0 (.call 77 args H.frozen fun v H => chkB l v H = true) := wpB_ok tabP0_mono tabB0_ok _ _ hr
      have h2 := (Wp.sound follows_mixed tabP0_ok (Wp.jmono.call (fun v H' h => chkB_ok h) h1)).1
      rw [wordsL_eq] at hk
      exact frame_slice (wordsA_under 0 l) rfl hk h2
    · cases h
  · have h1 : Wp tabP0 (.call 77 args H fun v H => K' v H = true) := wpB_ok tabP0_mono tabB0_ok _ _ h
    exact Wp.sound follows_mixed tabP0_ok (Wp.jmono.call hK h1)
theorem needS_mono : ∀ args H (K K' : AV → Heap → Prop), (∀ v H, K v H → K' v H) → needS args H K → needS args H K' :=
  fun _ _ _ _ hK ⟨k, h1, h2⟩ => ⟨k, h1, fun v H h => hK _ _ (h2 v H h)⟩

/-! ### The table of the closed run -/
noncomputable def tabB1 (k : Nat) : Option FSpecB := match Nat.beq k 9 with
  | true => some (.spec awakeB)
  | false => match Nat.beq k 77 with
    | true => some (.spec needB)
    | false => tabB0 k
def tabP1 : Nat → Option FSpec := over (over tabP0 77 needS) 9 awakeS
theorem tabP1_ok : TabOk Tryz.prog tabP1 := (tabP0_ok.over needS_ok).over awakeS_ok
theorem tabP1_mono : TMono tabP1 := (tabP0_mono.over needS_mono).over awakeS_mono
theorem tabB1_ok : TabB tabB1 tabP1 where
  code := fun f ifn h => by
    unfold tabB1 at h
    unfold tabP1 over
    split at h
    · injection h with h; cases h
    · rename_i hb
      rw [hb]
      simp only
      split at h
      · injection h with h; cases h
      · rename_i hb2
        rw [hb2]
        exact tabB0_ok.code f ifn h
  spec := fun f S' h => by
    unfold tabB1 at h
    unfold tabP1 over
    split at h
    · rename_i hb
      rw [hb]
      injection h with h; injection h with h; subst h
      exact ⟨_, rfl, fun _ _ _ h => awakeB_S h⟩
    · rename_i hb
      rw [hb]
      simp only
      split at h
      · rename_i hb2
        rw [hb2]
        injection h with h; injection h with h; subst h
        exact ⟨_, rfl, fun _ _ _ h => ⟨_, h, fun _ _ h => h⟩⟩
      · rename_i hb2
        rw [hb2]
        exact tabB0_ok.spec f S' h
end Go.AE
