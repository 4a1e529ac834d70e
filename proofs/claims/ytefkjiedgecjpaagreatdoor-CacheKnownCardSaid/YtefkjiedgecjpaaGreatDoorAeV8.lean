/-
  A pair's text, and its hash.
-/
import Derived.Test.YtefkjiedgecjpaaGreatDoorAeV7
set_option linter.unusedSimpArgs false
set_option linter.unusedVariables false
set_option linter.unusedSectionVars false
set_option maxHeartbeats 4000000
namespace Go.AE
theorem alloc_buildSlice {e len : Nat} {z : List AV} {pl : List (Nat × Nat)} {vs c : List AV} (h : fillA (zeros z len) pl vs = some c) : allocOp (.buildSlice e len z pl) vs = some (fun b => .sl b 0 len (some len) e, .cells true c) := by
  simp only [allocOp, h, forceL_eq]
theorem keep_mk (H : Heap) (n : Nat) : Keep [] H ⟨H.next + n, H.mem⟩ := ⟨Nat.le_add_right _ _, fun _ _ _ => rfl⟩
theorem unders_append {n : Nat} : ∀ {l m : List AV}, AV.unders n l = true → AV.unders n m = true → AV.unders n (l ++ m) = true
  | [], _, _, h => h
  | a :: r, m, h, h' => by
    simp only [AV.unders, Bool.and_eq_true, List.cons_append] at h ⊢
    exact ⟨h.1, unders_append h.2 h'⟩

theorem pair_w {l r : List Nat} (hl : l.length = 32) (hr : r.length = 32) {H : Heap} {K : AV → Heap → Prop} (h : ∀ s' H', Acc 5 1 .nils H H' s' 65 (bytesA (1 :: (l ++ r))) → K s' H') : Wp tab5 (.call 79 [.agg (bytesA l), .agg (bytesA r)] H K) := by
  refine Wp.fn tab5_mono (show tab5 79 = some (.code ir79) from rfl) rfl ?_
  have a1 : allocOp (.buildSlice 5 1 [.int .u8 ((0 : Nat) : Int)] [(0, 1)]) [.int .u8 ((1 : Nat) : Int)] = some (fun b => .sl b 0 1 (some 1) 5, .cells true (bytesA [1])) := rfl
  have a3 : ∀ b1 b2 b3 : Nat, allocOp (.buildSlice 58 3 [.nils] [(0, 1), (1, 1), (2, 1)]) [.sl b1 0 1 (some 1) 5, .sl b2 0 32 (some 32) 5, .sl b3 0 32 (some 32) 5] = some (fun b => .sl b 0 3 (some 3) 58, .cells true [.sl b1 0 1 (some 1) 5, .sl b2 0 32 (some 32) 5, .sl b3 0 32 (some 32) 5]) := fun _ _ _ => rfl
  simp -dsimp only [opX_slice, slice_arr, a1, a3, cX_seq, cX_reg, cX_dreg, regX_cons, regX_nil, dregX_pure (kd_slice _ _ _ _), dregX_alloc, dregX_eff, flush, evs, ev, Env.get, evX_some, Env.putO, Env.keep, paramEnv, outX_normal, optX_some, opX_move, opX_call, opX_box_agg, List.nil_append, List.append_nil, Int.ofNat_eq_natCast, Nat.add_zero, Nat.zero_add, Heap.next_push]
  refine ⟨bytesA_one _, bytesA_one _, ?_⟩
  generalize hH1 : (H.push (.cells true (bytesA l))).push (.cells true (bytesA r)) = H1
  have hk1 : Keep [] H H1 := by rw [← hH1]; exact (Keep.push _ _ _).trans (Keep.push _ _ _)
  have hn1 : H1.next = H.next + 2 := by rw [← hH1]; simp
  have gl : H1.get H.next = some (.cells true (bytesA l)) := by rw [← hH1, get_push_old (by simp), get_push_new]
  have gr : H1.get (H.next + 1) = some (.cells true (bytesA r)) := by rw [← hH1]; exact get_push_at rfl
  rw [show H.next + 1 + 1 = H1.next by omega]
  generalize hH2 : Heap.set (Heap.set ⟨H1.next + 2, H1.mem⟩ H1.next (.cells true (bytesA [1]))) (H1.next + 1) (.cells true [.sl H1.next 0 1 (some 1) 5, .sl H.next 0 32 (some 32) 5, .sl (H.next + 1) 0 32 (some 32) 5]) = H2
  have hk2 : Keep [] H1 H2 := by
    rw [← hH2]; exact ((keep_mk H1 2).trans' (Keep.set (S := [H1.next]) _ (.inr (by simp))) (by simp)).trans' (Keep.set (S := [H1.next + 1]) _ (.inr (by simp))) (by simp)
  have hn2 : H2.next = H1.next + 2 := by rw [← hH2]; simp
  have g0 : H2.get H1.next = some (.cells true (bytesA [1])) := by rw [← hH2, get_set_ne (by omega), get_set_same]
  have g1 : H2.get (H1.next + 1) = some (.cells true [.sl H1.next 0 1 (some 1) 5, .sl H.next 0 32 (some 32) 5, .sl (H.next + 1) 0 32 (some 32) 5]) := by rw [← hH2, get_set_same]
  rw [callX_eq]
  refine concat_w tab5_mono (show tab5 158 = some (.code (concatF 213 5 1 1 [.int .u8 0])) from rfl) (show tab5 213 = some (.code (growF 5 1 1 [.int .u8 0])) from rfl) rfl (by decide) (ps := [(.sl H1.next 0 1 (some 1) 5, 1, bytesA [1]), (.sl H.next 0 32 (some 32) 5, 32, bytesA l), (.sl (H.next + 1) 0 32 (some 32) 5, 32, bytesA r)]) g1 (by omega) ?_ rfl ?_ (by simp [Parts.many]) (by simp [Parts.many]) (by omega) ?_
  · intro i hi
    simp at hi
    match i, hi with
    | 0, _ => exact cell1_zero _ _
    | 1, _ => exact (cell1_succ _ _ _).trans (cell1_zero _ _)
    | 2, _ => exact (cell1_succ _ _ _).trans ((cell1_succ _ _ _).trans (cell1_zero _ _))
  · intro p hp
    simp at hp
    rcases hp with rfl | rfl | rfl
    · exact ⟨.some _ _ _ _ true _ _ g0 (by simp) rfl (by omega), by simp [sblk]; omega⟩
    · exact ⟨.some _ _ _ _ true _ _ (hk2.get (by omega) (by simp) gl) (by simp [hl]) (by rw [List.drop_zero, List.take_of_length_le (by simp [hl])]) (by omega), by simp [sblk]; omega⟩
    · exact ⟨.some _ _ _ _ true _ _ (hk2.get (by omega) (by simp) gr) (by simp [hr]) (by rw [List.drop_zero, List.take_of_length_le (by simp [hr])]) (by omega), by simp [sblk]; omega⟩
  · intro s' H3 ha
    have e1 : Parts.all [(.sl H1.next 0 1 (some 1) 5, 1, bytesA [1]), (.sl H.next 0 32 (some 32) 5, 32, bytesA l), (.sl (H.next + 1) 0 32 (some 32) 5, 32, bytesA r)] = bytesA (1 :: (l ++ r)) := by
      simp [Parts.all, bytesA]
    rw [e1] at ha
    simp -dsimp only [cX_ret, dregX_nil, dregX_pure kd_move, flush, watched_nil, evs, ev, Env.get, evX_some, Env.putO, Env.keep, outX_normal, retX_ret, resultsA, resultsL, resultOf, optX_some, opX_move, true_and]
    exact h _ _ (Acc.ahead (hk1.trans hk2) ha)

/-- the beginning and a pair's text by contract, too. -/
def tab6 : Nat → Option FSpec := over (over tab5 157 (low tab5 157)) 79 (low tab5 79)
theorem tab6_mono : TMono tab6 := (tab5_mono.over low_mono).over low_mono
theorem call6_words (args : List AV) (H : Heap) (K : AV → Heap → Prop) : callX (Wp tab6) 157 args H K = callX (Wp tab5) 157 args H K := by
  rw [call_spec tab6_mono (f := 157) (S := low tab5 157) rfl, callX_eq]; rfl
theorem call6_pair (args : List AV) (H : Heap) (K : AV → Heap → Prop) : callX (Wp tab6) 79 args H K = callX (Wp tab5) 79 args H K := by
  rw [call_spec tab6_mono (f := 79) (S := low tab5 79) rfl, callX_eq]; rfl
theorem call6_digest (args : List AV) (H : Heap) (K : AV → Heap → Prop) : callX (Wp tab6) 156 args H K = callX (Wp tab4) 156 args H K := by
  rw [call_spec tab6_mono (f := 156) (S := low tab4 156) rfl, callX_eq]; rfl

theorem bytesOfN_length {D : List Nat} (h : D.length = 8) : (bytesOfN D).length = 64 := by
  obtain ⟨a, b, c, d, e, f, g, x, rfl⟩ := list8_of h
  rfl
theorem sha256N_length (l : List Nat) : (sha256N l).length = 32 := by
  simp only [sha256N, List.length_take, bytesOfN_length (digestN_length (h := shaBegin) rfl)]; rfl

theorem sum_w {s : AV} {n : Nat} {l : List Nat} {H : Heap} {K : AV → Heap → Prop} (hG : Glob H) (hs : Sl H 5 1 s n (bytesA l)) (hn : n ≤ 2 ^ 39)
    (h : ∀ H', Keep [] H H' → K (.agg (bytesA (sha256N l))) H') : Wp tab6 (.call 78 [s] H K) := by
  refine Wp.fn tab6_mono (show tab6 78 = some (.code ir78) from rfl) rfl ?_
  simp -dsimp only [call6_words, cX_seq, cX_reg, regX_cons, regX_nil, evs, ev, Env.get, evX_some, Env.putO, Env.keep, paramEnv, outX_normal, opX_call, opX_alloc, List.append_nil, Int.ofNat_eq_natCast]
  generalize hZ : (AObj.cells true [AV.int IntKind.u8 ((0 : Nat) : Int), _, _, _, _, _, _, _, _, _, _, _, _, _, _, _, _, _, _, _, _, _, _, _, _, _, _, _, _, _, _, _]) = Z
  have hZ' : ∃ z, Z = .cells true z ∧ z.length = 32 := ⟨_, hZ.symm, rfl⟩
  clear hZ
  obtain ⟨z, rfl, hz⟩ := hZ'
  have hk1 := Keep.push [] H (.cells true z)
  rw [callX_eq]
  refine words_w (hG.keep hk1 (by simp) (by simp)) ?_
  intro H2 hk2
  have hk12 := hk1.trans hk2
  simp -dsimp only [call6_digest, regX_cons, evs, ev, Env.get, evX_some, Env.putO, opX_move, opX_call, List.nil_append, List.append_nil]
  rw [callX_eq]
  refine digest_w (hG.keep hk12 (by simp) (by simp)) rfl (hs.keep hk12 (by simp)) hn ?_
  intro H3 hk3
  have hD : (bytesOfN (digestN shaBegin l)).length = 64 := bytesOfN_length (digestN_length (h := shaBegin) rfl)
  have hS : sha256N l = (bytesOfN (digestN shaBegin l)).take 32 := rfl
  generalize bytesOfN (digestN shaBegin l) = D at *
  simp -dsimp only [regX_cons, evs, ev, Env.get, evX_some, Env.putO, opX_store_agg, opX_alloc, Int.ofNat_eq_natCast]
  generalize hZ : (AObj.cells true [AV.int IntKind.u8 ((0 : Nat) : Int), _, _, _, _, _, _, _, _, _, _, _, _, _, _, _, _, _, _, _, _, _, _, _, _, _, _, _, _, _, _, _, _, _, _, _, _, _, _, _, _, _, _, _, _, _, _, _, _, _, _, _, _, _, _, _, _, _, _, _, _, _, _, _]) = Z64
  have hZ' : ∃ z, Z64 = .cells true z ∧ z.length = 64 := ⟨_, hZ.symm, rfl⟩
  clear hZ
  obtain ⟨z6, rfl, hz6⟩ := hZ'
  have ew : (H3.push (.cells true z6)).write H3.next 0 (bytesA D) = _ := write_whole (get_push_new _ _) (by rw [bytesA_length, hD, hz6])
  have hg := get_set_same (H3.push (.cells true z6)) H3.next (.cells true (bytesA D))
  have el : ((H3.push (.cells true z6)).set H3.next (.cells true (bytesA D))).load (some 32) H3.next 0 = some (.agg (bytesA (sha256N l))) := by
    rw [load_many hg, span_is (by rw [bytesA_length, hD]; omega), List.drop_zero, bytesA_take, hS]; rfl
  have hn2 := hk2.next
  have hn3 := hk3.next
  rw [Heap.next_push] at hn2
  have gz : ((H3.push (.cells true z6)).set H3.next (.cells true (bytesA D))).get H.next = some (.cells true z) := by
    rw [get_set_ne (by omega), get_push_old (by omega), hk3.same _ (by omega) (by simp), hk2.same _ (by simp) (by simp), get_push_new]
  have ew2 : ((H3.push (.cells true z6)).set H3.next (.cells true (bytesA D))).write H.next 0 (bytesA (sha256N l)) = _ := write_whole gz (by rw [bytesA_length, sha256N_length, hz])
  have el2 := load_whole (n := 32) (get_set_same ((H3.push (.cells true z6)).set H3.next (.cells true (bytesA D))) H.next (.cells true (bytesA (sha256N l)))) (by rw [bytesA_length, sha256N_length])
  simp -dsimp only [ew, opX_slice, slice_arr_hi (show 32 ≤ 64 by decide), opX_s2a, el, ew2, el2, cX_seq, cX_reg, cX_ret, regX_cons, regX_nil, evs, ev, Env.get, evX_some, Env.putO, Env.keep, outX_normal, retX_ret, resultsA, resultsL, resultOf, optX_some, opX_load, opX_store_agg, Int.ofNat_eq_natCast]
  refine ⟨⟨by rw [bytesA_length, hD], bytesA_one _⟩, by omega, ⟨by rw [bytesA_length, sha256N_length], bytesA_one _⟩, h _ ?_⟩
  exact (((hk12.trans hk3).trans (Keep.push _ _ _)).trans' (Keep.set (S := [H3.next]) _ (.inr (by simp))) (by simp; omega)).trans' (Keep.set (S := [H.next]) _ (.inr (by simp))) (by simp)

/-- two hashes' parent. -/
def parentN (l r : List Nat) : List Nat := sha256N (1 :: (l ++ r))

def tab7 : Nat → Option FSpec := over tab6 78 (low tab6 78)
theorem tab7_mono : TMono tab7 := tab6_mono.over low_mono
theorem call7_sum (args : List AV) (H : Heap) (K : AV → Heap → Prop) : callX (Wp tab7) 78 args H K = callX (Wp tab6) 78 args H K := by
  rw [call_spec tab7_mono (f := 78) (S := low tab6 78) rfl, callX_eq]; rfl
theorem call7_pair (args : List AV) (H : Heap) (K : AV → Heap → Prop) : callX (Wp tab7) 79 args H K = callX (Wp tab5) 79 args H K := by
  rw [call_spec tab7_mono (f := 79) (S := low tab5 79) rfl, callX_eq]; rfl

theorem parent_w {l r : List Nat} (hl : l.length = 32) (hr : r.length = 32) {H : Heap} {K : AV → Heap → Prop} (hG : Glob H) (h : ∀ H', Keep [] H H' → K (.agg (bytesA (parentN l r))) H') : Wp tab7 (.call 25 [.agg (bytesA l), .agg (bytesA r)] H K) := by
  refine Wp.fn tab7_mono (show tab7 25 = some (.code ir25) from rfl) rfl ?_
  have el : ∀ o, Heap.load (((H.push (.cells true (bytesA l))).push (.cells true (bytesA r))).push o) (some 32) H.next 0 = some (.agg (bytesA l)) := fun o =>
    load_whole (by rw [get_push_old (by simp; omega), get_push_old (by simp), get_push_new]) (by rw [bytesA_length, hl])
  have er : ∀ o, Heap.load (((H.push (.cells true (bytesA l))).push (.cells true (bytesA r))).push o) (some 32) (H.next + 1) 0 = some (.agg (bytesA r)) := fun o =>
    load_whole (by rw [get_push_old (by simp)]; exact get_push_at rfl) (by rw [bytesA_length, hr])
  simp -dsimp only [el, er, call7_pair, cX_seq, cX_reg, regX_cons, regX_nil, evs, ev, Env.get, evX_some, Env.putO, Env.keep, paramEnv, outX_normal, optX_some, opX_call, opX_load, opX_alloc, opX_box_agg, List.nil_append, List.append_nil, Int.ofNat_eq_natCast, Nat.zero_add, Heap.next_push]
  refine ⟨bytesA_one _, bytesA_one _, ?_⟩
  generalize hZ : (AObj.cells true [AV.int IntKind.u8 ((0 : Nat) : Int), _, _, _, _, _, _, _, _, _, _, _, _, _, _, _, _, _, _, _, _, _, _, _, _, _, _, _, _, _, _, _]) = Z
  have hZ' : ∃ z, Z = .cells true z ∧ z.length = 32 := ⟨_, hZ.symm, rfl⟩
  clear hZ
  obtain ⟨z, rfl, hz⟩ := hZ'
  generalize hH1 : ((H.push (.cells true (bytesA l))).push (.cells true (bytesA r))).push (.cells true z) = H1
  have hk1 : Keep [] H H1 := by rw [← hH1]; exact ((Keep.push _ _ _).trans (Keep.push _ _ _)).trans (Keep.push _ _ _)
  have gz : H1.get (H.next + 1 + 1) = some (.cells true z) := by rw [← hH1]; exact get_push_at rfl
  have hn1 : H1.next = H.next + 3 := by rw [← hH1]; simp
  rw [callX_eq]
  refine pair_w hl hr ?_
  intro s' H2 ha
  simp -dsimp only [call7_sum, regX_cons, evs, ev, Env.get, evX_some, Env.putO, opX_call, List.nil_append, List.append_nil]
  rw [callX_eq]
  have hk2 : Keep [] H1 H2 := ha.keep
  refine sum_w (hG.keep (hk1.trans hk2) (by simp) (by simp)) ha.ex.sl (by omega) ?_
  intro H3 hk3
  have hn2 := hk2.next
  have gz3 : H3.get (H.next + 1 + 1) = some (.cells true z) := by
    rw [hk3.same _ (by omega) (by simp), hk2.same _ (by omega) (by simp), gz]
  have hPl : (sha256N (1 :: (l ++ r))).length = 32 := sha256N_length _
  have h' : ∀ H', Keep [] H H' → K (.agg (bytesA (sha256N (1 :: (l ++ r))))) H' := h
  clear h
  generalize sha256N (1 :: (l ++ r)) = P at *
  have ew : H3.write (H.next + 1 + 1) 0 (bytesA P) = _ := write_whole gz3 (by rw [bytesA_length, hPl, hz])
  have el3 := load_whole (n := 32) (get_set_same H3 (H.next + 1 + 1) (.cells true (bytesA P))) (by rw [bytesA_length, hPl])
  simp -dsimp only [ew, el3, cX_ret, regX_cons, regX_nil, evs, ev, Env.get, evX_some, Env.putO, Env.keep, outX_normal, retX_ret, resultsA, resultsL, resultOf, optX_some, opX_store_agg]
  refine ⟨⟨by rw [bytesA_length, hPl], bytesA_one _⟩, h' _ ?_⟩
  exact ((hk1.trans hk2).trans hk3).trans' (Keep.set (S := [H.next + 1 + 1]) _ (.inr (by simp))) (by simp; omega)
end Go.AE
