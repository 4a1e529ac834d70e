/-
  Sum256.
-/
import Derived.Test.YtoinombhonbibaaGreatDoorAeV5
set_option linter.unusedSimpArgs false
set_option linter.unusedVariables false
set_option linter.unusedSectionVars false
set_option maxHeartbeats 4000000
namespace Go.AE
/-- the beginning by contract, too. -/
def tab6 : Nat → Option FSpec := over tab5 189 (low tab5 189)
theorem tab6_mono : TMono tab6 := tab5_mono.over low_mono
theorem call6_words (args : List AV) (H : Heap) (K : AV → Heap → Prop) : callX (Wp tab6) 189 args H K = callX (Wp tab5) 189 args H K := by
  rw [call_spec tab6_mono (f := 189) (S := low tab5 189) rfl, callX_eq]; rfl
theorem call6_digest (args : List AV) (H : Heap) (K : AV → Heap → Prop) : callX (Wp tab6) 188 args H K = callX (Wp tab4) 188 args H K := by
  rw [call_spec tab6_mono (f := 188) (S := low tab4 188) rfl, callX_eq]; rfl

theorem bytesOfN_length {D : List Nat} (h : D.length = 8) : (bytesOfN D).length = 64 := by
  obtain ⟨a, b, c, d, e, f, g, x, rfl⟩ := list8_of h
  rfl
theorem sha256N_length (l : List Nat) : (sha256N l).length = 32 := by
  simp only [sha256N, List.length_take, bytesOfN_length (digestN_length (h := shaBegin) rfl)]; rfl

theorem sum_w {s : AV} {n : Nat} {l : List Nat} {H : Heap} {K : AV → Heap → Prop} (hG : Glob H) (hs : Sl H 5 1 s n (bytesA l)) (hn : n ≤ 2 ^ 39)
    (h : ∀ H', Keep [] H H' → K (.agg (bytesA (sha256N l))) H') : Wp tab6 (.call 104 [s] H K) := by
  refine Wp.fn tab6_mono (show tab6 104 = some (.code ir104) from rfl) rfl ?_
  simp -dsimp only [call6_words, cX_seq, cX_reg, regX_cons, regX_nil, evs, ev, Env.get, evX_some, Env.putO, Env.keep, paramEnv, outX_normal, opX_call, opX_alloc, List.append_nil, Int.ofNat_eq_natCast]
  generalize hZ : (AObj.cells true [AV.int IntKind.u8 ((0 : Nat) : Int), _, _, _, _, _, _, _, _, _, _, _, _, _, _, _, _, _, _, _, _, _, _, _, _, _, _, _, _, _, _, _]) = Z
  have hZ' : ∃ z, Z = .cells true z ∧ z.length = 32 := ⟨_, hZ.symm, rfl⟩
  clear hZ
  obtain ⟨z, rfl, hz⟩ := hZ'
  have hk1 := Keep.push [] H (.cells true z)
  rw [callX_eq]
  refine words_w (hG.keep hk1 (by simp) (by simp)) ?_
  intro H2 hk2
  have hk12 := hk1.trans hk2
  simp -dsimp only [call6_digest, regX_cons, evs, ev, Env.get, evX_some, Env.putO, opX_move, opX_call, List.nil_append, List.append_nil]
  rw [callX_eq]
  refine digest_w (hG.keep hk12 (by simp) (by simp)) rfl (hs.keep hk12 (by simp)) hn ?_
  intro H3 hk3
  have hD : (bytesOfN (digestN shaBegin l)).length = 64 := bytesOfN_length (digestN_length (h := shaBegin) rfl)
  have hS : sha256N l = (bytesOfN (digestN shaBegin l)).take 32 := rfl
  generalize bytesOfN (digestN shaBegin l) = D at *
  simp -dsimp only [regX_cons, evs, ev, Env.get, evX_some, Env.putO, opX_store_agg, opX_alloc, Int.ofNat_eq_natCast]
  generalize hZ : (AObj.cells true [AV.int IntKind.u8 ((0 : Nat) : Int), _, _, _, _, _, _, _, _, _, _, _, _, _, _, _, _, _, _, _, _, _, _, _, _, _, _, _, _, _, _, _, _, _, _, _, _, _, _, _, _, _, _, _, _, _, _, _, _, _, _, _, _, _, _, _, _, _, _, _, _, _, _, _]) = Z64
  have hZ' : ∃ z, Z64 = .cells true z ∧ z.length = 64 := ⟨_, hZ.symm, rfl⟩
  clear hZ
  obtain ⟨z6, rfl, hz6⟩ := hZ'
  have ew : (H3.push (.cells true z6)).write H3.next 0 (bytesA D) = _ := write_whole (get_push_new _ _) (by rw [bytesA_length, hD, hz6])
  have hg := get_set_same (H3.push (.cells true z6)) H3.next (.cells true (bytesA D))
  have el : ((H3.push (.cells true z6)).set H3.next (.cells true (bytesA D))).load (some 32) H3.next 0 = some (.agg (bytesA (sha256N l))) := by
    rw [load_many hg, span_is (by rw [bytesA_length, hD]; omega), List.drop_zero, bytesA_take, hS]; rfl
  have hn2 := hk2.next
  have hn3 := hk3.next
  rw [Heap.next_push] at hn2
  have gz : ((H3.push (.cells true z6)).set H3.next (.cells true (bytesA D))).get H.next = some (.cells true z) := by
    rw [get_set_ne (by omega), get_push_old (by omega), hk3.same _ (by omega) (by simp), hk2.same _ (by simp) (by simp), get_push_new]
  have ew2 : ((H3.push (.cells true z6)).set H3.next (.cells true (bytesA D))).write H.next 0 (bytesA (sha256N l)) = _ := write_whole gz (by rw [bytesA_length, sha256N_length, hz])
  have el2 := load_whole (n := 32) (get_set_same ((H3.push (.cells true z6)).set H3.next (.cells true (bytesA D))) H.next (.cells true (bytesA (sha256N l)))) (by rw [bytesA_length, sha256N_length])
  simp -dsimp only [ew, opX_slice, slice_arr_hi (show 32 ≤ 64 by decide), opX_s2a, el, ew2, el2, cX_seq, cX_reg, cX_ret, regX_cons, regX_nil, evs, ev, Env.get, evX_some, Env.putO, Env.keep, outX_normal, retX_ret, resultsA, resultsL, resultOf, optX_some, opX_load, opX_store_agg, Int.ofNat_eq_natCast]
  refine ⟨⟨by rw [bytesA_length, hD], bytesA_one _⟩, by omega, ⟨by rw [bytesA_length, sha256N_length], bytesA_one _⟩, h _ ?_⟩
  exact (((hk12.trans hk3).trans (Keep.push _ _ _)).trans' (Keep.set (S := [H3.next]) _ (.inr (by simp))) (by simp; omega)).trans' (Keep.set (S := [H.next]) _ (.inr (by simp))) (by simp)

end Go.AE

/-
  What the kernel reads and compares.
-/
set_option maxHeartbeats 4000000
namespace Go.AE
open Go.Proofs
theorem follows_mixed : Tryz.prog.follows .mixedOrders = true := by kernel_rfl
theorem tabOk0 : TabOk Tryz.prog tab.get := tabOk_of tab_ok
theorem tabOk1 : TabOk Tryz.prog tab1 := (tabOk0.over (low_ok follows_mixed tabOk0)).over fun args H K h => Wp.sound follows_mixed tabOk0 (rightS_ok args H K h)
theorem tabOk2 : TabOk Tryz.prog tab2 := tabOk1.over (low_ok follows_mixed tabOk1)
theorem tabOk3 : TabOk Tryz.prog tab3 := (tabOk2.over (low_ok follows_mixed tabOk0)).over (low_ok follows_mixed tabOk2)
theorem tabOk4 : TabOk Tryz.prog tab4 := tabOk3.over (low_ok follows_mixed tabOk3)
theorem tabOk5 : TabOk Tryz.prog tab5 := tabOk4.over (low_ok follows_mixed tabOk4)
theorem tabOk6 : TabOk Tryz.prog tab6 := tabOk5.over (low_ok follows_mixed tabOk5)

/-! ### Read and compared by the kernel -/
/-- the numbers of bytes' cells. -/
def numsB : List AV → Option (List Nat)
  | [] => some []
  | .int .u8 (.ofNat n) :: r => match numsB r with
    | some l => some (n :: l)
    | none => none
  | _ => none
theorem numsB_eq : ∀ {l : List AV} {m : List Nat}, numsB l = some m → l = bytesA m
  | [], m, h => by simp only [numsB, Option.some.injEq] at h; subst h; rfl
  | a :: r, m, h => by
    unfold numsB at h
    split at h
    · cases ‹_ :: _ = []›
    · rename_i n r' he
      injection he with h1 h2
      subst h1; subst h2
      split at h
      · rename_i l hl
        injection h with h; subst h
        rw [numsB_eq hl]; rfl
      · cases h
    · cases h
/-- are these the words' cells? -/
def areW : List AV → List Nat → Bool
  | [], [] => true
  | .int .u64 (.ofNat n) :: r, m :: t => match Nat.beq n m with
    | true => areW r t
    | false => false
  | _, _ => false
theorem areW_eq : ∀ {l : List AV} {m : List Nat}, areW l m = true → l = wordsA m
  | [], [], _ => rfl
  | [], _ :: _, h => by simp [areW] at h
  | a :: r, m, h => by
    unfold areW at h
    split at h
    · cases ‹_ :: _ = []›
    · rename_i n r' k t he
      injection he with h1 h2
      subst h1; subst h2
      split at h
      · rename_i hb
        rw [areW_eq h, Nat.eq_of_beq_eq_true hb]; rfl
      · cases h
    · cases h
def globB (H : Heap) : Bool := match H.get 0, H.get 1 with
  | some (.cells false a), some (.cells false b) => match Nat.ble 2 H.next with
    | true => match areW a shaH with
      | true => areW b shaK
      | false => false
    | false => false
  | _, _ => false
theorem globB_ok {H : Heap} (h : globB H = true) : Glob H := by
  unfold globB at h
  split at h
  · rename_i a b h0 h1
    split at h
    · rename_i hn
      split at h
      · rename_i ha
        exact ⟨by rw [h0, areW_eq ha], by rw [h1, areW_eq h], Nat.le_of_ble_eq_true hn⟩
      · cases h
    · cases h
  · cases h
def forceB {α : Type} (l : List Nat) (k : List AV → α) : α := match l with
  | [] => k []
  | x :: r => forceN x fun x => forceB r fun r => k (.int .u8 (.ofNat x) :: r)
theorem forceB_eq {α : Type} : ∀ (l : List Nat) (k : List AV → α), forceB l k = k (bytesA l)
  | [], k => rfl
  | x :: r, k => by simp only [forceB, forceN_eq, forceB_eq r]; rfl

end Go.AE
