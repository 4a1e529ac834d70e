/-
  Where a law of this seat begins: the three listed tables stand for the evaluator's blocks 0, 1 and 2.
-/
import Derived.Test.YtoinombhonbibaaGreatDoorAeV8
import Derived.Test.YtoinombhonbibaaGreatDoorAeW3
import Derived.Test.YtoinombhonbibaaGreatDoorTie
import Derived.ProofKit
import Derived.LaidMore
import Derived.OpenShut
import Derived.Stop.Joined
import Derived.SevenTiedAt
set_option linter.unusedSimpArgs false
set_option linter.unusedVariables false
set_option linter.unusedSectionVars false
namespace Go.AE
open Go.Proofs Go.ChangeShapes Go.WideShapes Go.ChangeAt Go.WideMaps Go.WideElems Go.RowKit
open Go.Proofs.YtoinombhonbibaaGreatDoor (Rows.laid_spinney_sha512_constants Rows.laid_spinney_sha512_first Rows.laid_spinney_sha_roundNumbers)

abbrev laidL : List (String × DataW Unit) := [("spinney/sha512.constants", Rows.laid_spinney_sha512_constants), ("spinney/sha512.first", Rows.laid_spinney_sha512_first), ("spinney/sha.roundNumbers", Rows.laid_spinney_sha_roundNumbers)]
theorem own : ownKnob Tryz.prog.godebug = none := by kernel_rfl
theorem gFirst : Tryz.prog.globalNamed "spinney/sha512.first" = some 0 := by kernel_rfl
theorem gConst : Tryz.prog.globalNamed "spinney/sha512.constants" = some 1 := by kernel_rfl
theorem gRound : Tryz.prog.globalNamed "spinney/sha.roundNumbers" = some 2 := by kernel_rfl
theorem tFirst : (Tryz.prog.globals[0]?).map (·.type) = some 333 := by kernel_rfl
theorem tConst : (Tryz.prog.globals[1]?).map (·.type) = some 439 := by kernel_rfl
theorem tRound : (Tryz.prog.globals[2]?).map (·.type) = some 477 := by kernel_rfl
theorem nGlob : Tryz.prog.globals.size = 3 := by kernel_rfl

def litsW (l : List Nat) : List (DataW Unit) := l.map fun (n : Nat) => .lit (.int .u64 (n : Int))
def litsH (l : List Nat) : List (DataW Unit) := l.map fun (n : Nat) => .lit (.int .u32 (n : Int))
theorem dConst : (Rows.laid_spinney_sha512_constants : DataW Unit) = .agg (litsW shaK) := rfl
theorem dFirst : (Rows.laid_spinney_sha512_first : DataW Unit) = .agg (litsW shaH) := rfl
theorem dRound : (Rows.laid_spinney_sha_roundNumbers : DataW Unit) = .agg (litsH sha3K) := rfl

theorem arr_words {k : IntKind} {P : Program} {H : Type} {enc : TypeId × Value → H} {w : World} {base : Nat} {sp : Nat → Bool} {hd : Bool} {fuel : Nat} {t e : TypeId} {cs : List Value} {l : List Nat} {ps : List MemPlace}
    (ht : P.underlying t = some (.array l.length e)) (he : P.underlying e = some (.int k)) (ce : P.cellsOf e = 1) (ct : P.cellsOf t = l.length)
    (h : DataW.trod enc P w base sp hd fuel t cs = some (.agg (l.map fun (n : Nat) => .lit (.int k (n : Int))), ps)) : cs = l.map fun (n : Nat) => Value.int k (n : Int) := by
  obtain ⟨xs, m, rfl, hx, hlen, hn, hel⟩ := DataW.trod_array ht h
  simp only [Prod.mk.injEq, DataW.agg.injEq] at hx
  apply List.ext_getElem?
  intro i
  by_cases hi : i < l.length
  · have h1 := hel i hi
    rw [ce, Nat.mul_one] at h1
    have hxi : i < xs.length := by omega
    rw [List.getElem?_eq_getElem hxi] at h1
    obtain ⟨n, e1, e2, _⟩ := DataW.trod_int he h1
    have hci : i < cs.length := by omega
    rw [List.drop_eq_getElem_cons hci, List.take_succ_cons, List.take_zero] at e1
    injection e1 with e1 _
    have h2 := congrArg (fun q => q[i]?) hx.1
    simp only [List.getElem?_map, List.getElem?_eq_getElem hxi, List.getElem?_eq_getElem hi, Option.map_some, Option.some.injEq] at h2
    rw [e2] at h2
    simp only [DataW.lit.injEq, Lit.int.injEq, true_and] at h2
    rw [List.getElem?_eq_getElem hci, List.getElem?_map, List.getElem?_eq_getElem hi, e1, ← h2]
    rfl
  · rw [List.getElem?_eq_none (by omega), List.getElem?_eq_none (by simpa using hi)]

theorem words_rel {P : Program} {β : Inj} : ∀ l : List Nat, VRels P β (wordsA l) (l.map fun (n : Nat) => Value.int .u64 (n : Int))
  | [] => by simp [wordsA, VRels]
  | n :: r => by
    have : wordsA (n :: r) = .int .u64 (n : Int) :: wordsA r := rfl
    rw [this]
    simp only [VRels, List.map_cons]
    exact ⟨_, _, rfl, by simp [VRel], words_rel r⟩

theorem halves_rel {P : Program} {β : Inj} : ∀ l : List Nat, VRels P β (halvesA l) (l.map fun (n : Nat) => Value.int .u32 (n : Int))
  | [] => by simp [halvesA, VRels]
  | n :: r => by
    have : halvesA (n :: r) = .int .u32 (n : Int) :: halvesA r := rfl
    rw [this]
    simp only [VRels, List.map_cons]
    exact ⟨_, _, rfl, by simp [VRel], halves_rel r⟩

/-- memory's first blocks. -/
def heapG : Heap := (((⟨0, .nil⟩ : Heap).push (.cells false (wordsA shaH))).push (.cells false (wordsA shaK))).push (.cells false (halvesA sha3K))
theorem heapG_next : heapG.next = 3 := rfl
theorem heapG_get (b : Nat) (o : AObj) (h : heapG.get b = some o) : (b = 0 ∧ o = .cells false (wordsA shaH)) ∨ (b = 1 ∧ o = .cells false (wordsA shaK)) ∨ (b = 2 ∧ o = .cells false (halvesA sha3K)) := by
  unfold heapG at h
  rw [Heap.get_push, Heap.next_push, Heap.next_push] at h
  split at h
  · rename_i hb; injection h with h; exact .inr (.inr ⟨hb, h.symm⟩)
  rw [Heap.get_push, Heap.next_push] at h
  split at h
  · rename_i hb; injection h with h; exact .inr (.inl ⟨hb, h.symm⟩)
  · rw [Heap.get_push] at h
    split at h
    · rename_i hb; injection h with h; exact .inl ⟨hb, h.symm⟩
    · have : (⟨0, .nil⟩ : Heap).get b = none := PT.get_nil b
      rw [this] at h; cases h

def beta0 : Inj := fun b => if b = 0 then some ⟨0, 0, 8⟩ else if b = 1 then some ⟨1, 0, 80⟩ else if b = 2 then some ⟨2, 0, 64⟩ else none

theorem var_obj {P : Program} {w : World} {n : String} {g : Nat} {cs : Array Value} (hg : P.globalNamed n = some g) (h : w.var? P n = some cs) : ∃ t f, w.heap[g]? = some (.cells cs t f) := by
  unfold World.var? at h
  rw [hg] at h
  simp only [Option.bind_some] at h
  split at h
  · rename_i cs' t f he
    injection h with h; subst h
    exact ⟨t, f, he⟩
  · cases h

theorem init_rel {W : World} (h : laidMetH Tryz.prog laidL W) : Rel Tryz.prog W [] beta0 heapG W := by
  rw [MakeChecks.laidMetH_plain _ _ _ (by kernel_rfl)] at h
  obtain ⟨ps, ⟨g1, t1, cs1, f1, p1, q1, hg1, ht1, hv1, hd1, ⟨g0, t0, cs0, f0, p0, q0, hg0, ht0, hv0, hd0, ⟨g2, t2, cs2, f2, p2, q2, hg2, ht2, hv2, hd2, _, _⟩, _⟩, _⟩, _, _⟩ := h
  obtain rfl := Option.some.inj (gRound.symm.trans hg2)
  obtain rfl := Option.some.inj (gConst.symm.trans hg1)
  obtain rfl := Option.some.inj (gFirst.symm.trans hg0)
  obtain rfl := Option.some.inj (tRound.symm.trans ht2)
  obtain rfl := Option.some.inj (tConst.symm.trans ht1)
  obtain rfl := Option.some.inj (tFirst.symm.trans ht0)
  rw [dRound] at hd2
  rw [dConst] at hd1
  rw [dFirst] at hd0
  have c2 := arr_words (l := sha3K) (show Tryz.prog.underlying 477 = some (.array sha3K.length 22) from Tryz.underlying477) Tryz.underlying22 (by kernel_rfl) (by kernel_rfl) hd2
  have c1 := arr_words (l := shaK) (show Tryz.prog.underlying 439 = some (.array shaK.length 27) from Tryz.underlying439) Tryz.underlying27 (by kernel_rfl) (by kernel_rfl) hd1
  have c0 := arr_words (l := shaH) (show Tryz.prog.underlying 333 = some (.array shaH.length 27) from Tryz.underlying333) Tryz.underlying27 (by kernel_rfl) (by kernel_rfl) hd0
  obtain ⟨ty2, fz2, o2⟩ := var_obj gRound hv2
  obtain ⟨ty1, fz1, o1⟩ := var_obj gConst hv1
  obtain ⟨ty0, fz0, o0⟩ := var_obj gFirst hv0
  have lt : ∀ {i : Nat} {o : Obj}, W.heap[i]? = some o → i < W.heap.size := fun {i o} h => by
    rcases Nat.lt_or_ge i W.heap.size with h' | h'
    · exact h'
    · simp [Array.getElem?_eq_none h'] at h
  have hR : sha3K.length = 64 := rfl
  have hK : shaK.length = 80 := rfl
  have hH : shaH.length = 8 := rfl
  constructor
  · intro b o hb
    rcases heapG_get b o hb with ⟨rfl, rfl⟩ | ⟨rfl, rfl⟩ | ⟨rfl, rfl⟩
    · refine ⟨⟨0, 0, 8⟩, rfl, ?_⟩
      simp only [ORel]
      refine ⟨_, ty0, fz0, o0, ?_, ?_, ?_, wordsA_one _, by simp⟩
      · rw [← Array.length_toList, c0, List.length_map, hH]
      · rw [← Array.length_toList, c0, List.length_map, wordsA_length]; omega
      · rw [c0, List.drop_zero, List.take_of_length_le (by rw [List.length_map, wordsA_length]; omega)]
        exact words_rel _
    · refine ⟨⟨1, 0, 80⟩, rfl, ?_⟩
      simp only [ORel]
      refine ⟨_, ty1, fz1, o1, ?_, ?_, ?_, wordsA_one _, by simp⟩
      · rw [← Array.length_toList, c1, List.length_map, hK]
      · rw [← Array.length_toList, c1, List.length_map, wordsA_length]; omega
      · rw [c1, List.drop_zero, List.take_of_length_le (by rw [List.length_map, wordsA_length]; omega)]
        exact words_rel _
    · refine ⟨⟨2, 0, 64⟩, rfl, ?_⟩
      simp only [ORel]
      refine ⟨_, ty2, fz2, o2, ?_, ?_, ?_, halvesA_one _, by simp⟩
      · rw [← Array.length_toList, c2, List.length_map, hR]
      · rw [← Array.length_toList, c2, List.length_map, halvesA_length]; omega
      · rw [c2, List.drop_zero, List.take_of_length_le (by rw [List.length_map, halvesA_length]; omega)]
        exact halves_rel _
  · intro b o L hb _ hw
    rcases heapG_get b o hb with ⟨rfl, rfl⟩ | ⟨rfl, rfl⟩ | ⟨rfl, rfl⟩ <;> cases hw
  · intro b b' o o' L L' _ hb _ _ _ hw
    rcases heapG_get b o hb with ⟨rfl, rfl⟩ | ⟨rfl, rfl⟩ | ⟨rfl, rfl⟩ <;> cases hw
  · intro b L hb
    rw [heapG_next]
    unfold beta0 at hb
    split at hb
    · omega
    · split at hb
      · omega
      · split at hb
        · omega
        · cases hb
  · intro b L hb
    unfold beta0 at hb
    split at hb
    · injection hb with hb; subst hb; exact lt o0
    · split at hb
      · injection hb with hb; subst hb; exact lt o1
      · split at hb
        · injection hb with hb; subst hb; exact lt o2
        · cases hb
  · intro g hg
    rw [nGlob] at hg
    match g, hg with
    | 0, _ => exact ⟨_, rfl, rfl, rfl⟩
    | 1, _ => exact ⟨_, rfl, rfl, rfl⟩
    | 2, _ => exact ⟨_, rfl, rfl, rfl⟩
  · intro i _; rfl
  · exact Nat.le_refl _
  · exact ⟨rfl, rfl, rfl⟩
  · intro r o hr; cases hr
  · intro r o b ob L hr; cases hr

theorem kept_of_rel {P : Program} {β : Inj} {H : Heap} {W W' : World} (h : Rel P W [] β H W') (may : MemPlace → Prop) : W.keptBut W' may := by
  refine ⟨h.same.2.1, h.same.2.2, fun i hi => ?_⟩
  rw [h.old i hi]
  cases ho : W.heap[i]? with
  | none => trivial
  | some o =>
    cases o <;> simp
end Go.AE
