/-
  SHA-512/256.
-/
import Derived.Test.YtefkjiedgecjpaaGreatDoorAeV5
import Derived.KernelRfl
set_option linter.unusedSimpArgs false
set_option linter.unusedVariables false
set_option linter.unusedSectionVars false
set_option maxHeartbeats 4000000
namespace Go.AE
set_option maxRecDepth 100000 in
theorem shaFirst_eq : shaFirst = shaBegin := by kernel_rfl

/-- texts' digests by contract, too. -/
def tab5 : Nat → Option FSpec := over tab4 156 (low tab4 156)
theorem tab5_mono : TMono tab5 := tab4_mono.over low_mono
theorem call5_digest (args : List AV) (H : Heap) (K : AV → Heap → Prop) : callX (Wp tab5) 156 args H K = callX (Wp tab4) 156 args H K := by
  rw [call_spec tab5_mono (f := 156) (S := low tab4 156) rfl, callX_eq]; rfl
theorem call5_word (args : List AV) (H : Heap) (K : AV → Heap → Prop) : callX (Wp tab5) 212 args H K = callX (Wp tab.get) 212 args H K := by
  rw [call_spec tab5_mono (f := 212) (S := low tab.get 212) rfl, callX_eq]; rfl

def xorTo (i : Nat) : List Nat := (shaH.take i).map (fun w => bxor w 11936128518282651045) ++ shaH.drop i
theorem xorTo_length (i : Nat) : (xorTo i).length = 8 := by
  have : shaH.length = 8 := rfl
  simp [xorTo]; omega

theorem words_w {H : Heap} {K : AV → Heap → Prop} (hG : Glob H) (h : ∀ H', Keep [] H H' → K (.agg (wordsA shaBegin)) H') : Wp tab5 (.call 157 [] H K) := by
  refine Wp.fn tab5_mono (show tab5 157 = some (.code ir157) from rfl) rfl ?_
  have h0 := hG.next
  have el0 : ∀ o, (H.push o).load (some 8) 0 0 = some (.agg (wordsA shaH)) := fun o => load_whole (by rw [get_push_old (by omega)]; exact hG.first) rfl
  simp -dsimp only [el0, cX_seq, cX_reg, regX_cons, regX_nil, evs, ev, Env.get, evX_some, Env.putO, Env.keep, paramEnv, outX_normal, optX_some, opX_load, opX_store_agg, opX_alloc, Int.ofNat_eq_natCast, Heap.next_push]
  generalize hz : [AV.int IntKind.u64 ((0 : Nat) : Int), AV.int IntKind.u64 ((0 : Nat) : Int), AV.int IntKind.u64 ((0 : Nat) : Int), AV.int IntKind.u64 ((0 : Nat) : Int), AV.int IntKind.u64 ((0 : Nat) : Int), AV.int IntKind.u64 ((0 : Nat) : Int), AV.int IntKind.u64 ((0 : Nat) : Int), AV.int IntKind.u64 ((0 : Nat) : Int)] = Z
  have hzl : Z.length = 8 := by rw [← hz]; rfl
  have hll : shaH.length = 8 := rfl
  have ew0 : ((H.push (.cells true Z)).push (.cells true Z)).write (H.next + 1) 0 (wordsA shaH) = _ := write_whole (get_push_at (H := H.push _) (by simp)) (by rw [hzl, wordsA_length, hll])
  simp -dsimp only [ew0, cX_seq, cX_reg, cX_block, cX_loop, regX_cons, regX_nil, evs, ev, Env.get, evX_some, Env.putO, Env.keep, outX_normal, optX_some, opX_move, Int.ofNat_eq_natCast]
  refine ⟨⟨by rw [wordsA_length, hll], wordsA_one _⟩, ?_⟩
  generalize hH1 : ((H.push (.cells true Z)).push (.cells true Z)).set (H.next + 1) (.cells true (wordsA shaH)) = H1
  have hk1 : Keep [] H H1 := by
    rw [← hH1]; exact ((Keep.push _ _ _).trans (Keep.push _ _ _)).trans' (Keep.set (S := [H.next + 1]) _ (.inr (by simp))) (by simp)
  have hn1 : H1.next = H.next + 2 := by rw [← hH1]; simp
  have g0 : H1.get H.next = some (.cells true Z) := by rw [← hH1, get_set_ne (by omega), get_push_old (by simp), get_push_new]
  have g1 : H1.get (H.next + 1) = some (.cells true (wordsA shaH)) := by rw [← hH1]; exact get_set_same _ _ _
  rw [loopX_eq]
  refine Wp.loop tab5_mono (fun m e' H' => ∃ i, i ≤ 8 ∧ m = 8 - i ∧ Keep [H.next + 1] H1 H' ∧ H'.get (H.next + 1) = some (.cells true (wordsA (xorTo i))) ∧ e' = [(0, .ptr H.next 0), (1, .ptr (H.next + 1) 0), (6, .int .i64 i)]) ?_ 8 _ _ ⟨0, by omega, rfl, Keep.refl _ _, g1, rfl⟩
  rintro m e' H2 ⟨i, hi, rfl, hk2, hg2, rfl⟩
  simp -dsimp only [cX_seq, cX_reg, cX_cond, cX_block, cX_exit, cX_skip, regX_cons, regX_nil, evs, ev, Env.get, evX_some, Env.putO, Env.keep, outX_normal, outX_exit, optX_some, opX_move, opX_bin, opX_load, opX_idxArr, bin_lss, brX_decide, Int.ofNat_eq_natCast, Int.toNat_natCast, Nat.mul_one, Nat.zero_add]
  refine ⟨fun hi8 => ?_, fun hge => ?_⟩
  · have ei : IntKind.i64.wrap ((i : Int) + ((1 : Nat) : Int)) = ((i + 1 : Nat) : Int) := by rw [wrap_i64 (by omega) (by omega)]; omega
    have el : H2.load none (H.next + 1) i = some (.int .u64 ((xorTo i).getD i 0 : Nat)) := by rw [load_one hg2, words_at (by rw [xorTo_length]; omega)]
    have ew : ∀ w : Nat, H2.write (H.next + 1) i [.int .u64 (w : Int)] = some (H2.set (H.next + 1) (.cells true (wordsA ((xorTo i).set i w)))) := fun w => by
      rw [write_one hg2 (by rw [wordsA_length, xorTo_length]; omega), wordsA_set]
    simp -dsimp only [ei, el, ew, cX_reg, regX_cons, regX_nil, evs, ev, Env.get, evX_some, Env.putO, Env.keep, outX_normal, optX_some, opX_move, opX_bin, opX_store_int, opX_idxArr, bin_add_i64, bin_xor_u64, Int.ofNat_eq_natCast, Int.toNat_natCast, Nat.mul_one, Nat.zero_add]
    refine ⟨by omega, by omega, 8 - (i + 1), by omega, i + 1, by omega, rfl, hk2.trans (Keep.set _ (.inr (by simp))), ?_, rfl⟩
    rw [get_set_same]
    have : (xorTo i).set i (bxor ((xorTo i).getD i 0) 11936128518282651045) = xorTo (i + 1) := by
      have h8 : i < 8 := by omega
      match i, h8 with
      | 0, _ => rfl
      | 1, _ => rfl
      | 2, _ => rfl
      | 3, _ => rfl
      | 4, _ => rfl
      | 5, _ => rfl
      | 6, _ => rfl
      | 7, _ => rfl
    rw [this]
  · have hi8 : i = 8 := by omega
    subst hi8
    have el := load_whole (n := 8) hg2 (by rw [wordsA_length, xorTo_length])
    have hfill : ∀ H' : Heap, fillA (zeros [.int .u8 ((0 : Nat) : Int)] 11) [(0, 1), (1, 1), (2, 1), (3, 1), (4, 1), (5, 1), (6, 1), (7, 1), (8, 1), (9, 1), (10, 1)] [.int .u8 ((83 : Nat) : Int), .int .u8 ((72 : Nat) : Int), .int .u8 ((65 : Nat) : Int), .int .u8 ((45 : Nat) : Int), .int .u8 ((53 : Nat) : Int), .int .u8 ((49 : Nat) : Int), .int .u8 ((50 : Nat) : Int), .int .u8 ((47 : Nat) : Int), .int .u8 ((50 : Nat) : Int), .int .u8 ((53 : Nat) : Int), .int .u8 ((54 : Nat) : Int)] = some (bytesA [83, 72, 65, 45, 53, 49, 50, 47, 50, 53, 54]) := fun _ => rfl
    have ecv : ∀ K' : AV → Heap → Prop, opX (Wp tab5) (.cvSS 5) [.sl H2.next 0 11 (some 11) 5] (H2.push (.cells true (bytesA [83, 72, 65, 45, 53, 49, 50, 47, 50, 53, 54]))) K' = K' (.sl H2.next 0 11 (some 11) 5) (H2.push (.cells true (bytesA [83, 72, 65, 45, 53, 49, 50, 47, 50, 53, 54]))) := fun K' => by
      rw [opX_eff rfl]
      simp only [effOp, get_push_new]
      exact optX_some _ _
    simp -dsimp only [el, opX_buildSlice, hfill H2, ecv, call5_digest, regX_cons, evs, ev, Env.get, evX_some, Env.putO, optX_some, opX_call, List.nil_append, List.append_nil, Int.ofNat_eq_natCast]
    rw [callX_eq]
    have hk3 := Keep.push [] H2 (.cells true (bytesA [83, 72, 65, 45, 53, 49, 50, 47, 50, 53, 54]))
    have hkA : Keep [] H (H2.push (.cells true (bytesA [83, 72, 65, 45, 53, 49, 50, 47, 50, 53, 54]))) := (hk1.trans' hk2 (by simp)).trans hk3
    refine digest_w (l := [83, 72, 65, 45, 53, 49, 50, 47, 50, 53, 54]) (hG.keep hkA (by simp) (by simp)) (xorTo_length 8) (.some _ _ _ _ true _ _ (get_push_new _ _) (by simp) rfl (by simp)) (by omega) ?_
    intro H4 hk4
    have hD : (bytesOfN (digestN (xorTo 8) [83, 72, 65, 45, 53, 49, 50, 47, 50, 53, 54])).length = 64 := by
      have := digestN_length (h := xorTo 8) (b := [83, 72, 65, 45, 53, 49, 50, 47, 50, 53, 54]) (xorTo_length 8)
      obtain ⟨a, b, c, d, e, f, g, x, hx⟩ := list8_of this
      rw [hx]; rfl
    have hW8 : wordsOf 8 (bytesOfN (digestN (xorTo 8) [83, 72, 65, 45, 53, 49, 50, 47, 50, 53, 54])) = shaBegin := shaFirst_eq
    generalize bytesOfN (digestN (xorTo 8) [83, 72, 65, 45, 53, 49, 50, 47, 50, 53, 54]) = D at *
    simp -dsimp only [regX_cons, evs, ev, Env.get, evX_some, Env.putO, opX_store_agg, opX_alloc, Int.ofNat_eq_natCast]
    generalize hZ : (AObj.cells true [AV.int IntKind.u8 ((0 : Nat) : Int), _, _, _, _, _, _, _, _, _, _, _, _, _, _, _, _, _, _, _, _, _, _, _, _, _, _, _, _, _, _, _, _, _, _, _, _, _, _, _, _, _, _, _, _, _, _, _, _, _, _, _, _, _, _, _, _, _, _, _, _, _, _, _]) = Z64
    have hZ' : ∃ z, Z64 = .cells true z ∧ z.length = 64 := ⟨_, hZ.symm, rfl⟩
    clear hZ
    obtain ⟨z, rfl, hz64⟩ := hZ'
    have ew : (H4.push (.cells true z)).write H4.next 0 (bytesA D) = _ := write_whole (get_push_new _ _) (by rw [bytesA_length, hD, hz64])
    simp -dsimp only [ew, cX_seq, cX_reg, cX_block, cX_loop, regX_cons, regX_nil, evs, ev, Env.get, evX_some, Env.putO, Env.keep, outX_normal, optX_some, opX_move, Int.ofNat_eq_natCast]
    refine ⟨⟨by rw [bytesA_length, hD], bytesA_one _⟩, ?_⟩
    rw [loopX_eq]
    generalize hH5 : (H4.push (.cells true z)).set H4.next (.cells true (bytesA D)) = H5
    have hk5 : Keep [] H4 H5 := by rw [← hH5]; exact (Keep.push _ _ _).trans' (Keep.set (S := [H4.next]) _ (.inr (by simp))) (by simp)
    have hn5 : H5.next = H4.next + 1 := by rw [← hH5]; simp
    have hgD : H5.get H4.next = some (.cells true (bytesA D)) := by rw [← hH5]; exact get_set_same _ _ _
    have hn2 := hk2.next
    have hn4 := hk4.next
    rw [Heap.next_push] at hn4
    have hg5 : H5.get (H.next + 1) = some (.cells true (wordsA (xorTo 8))) := by
      rw [hk5.same _ (by omega) (by simp), hk4.same _ (by simp; omega) (by simp), get_push_old (by omega), hg2]
    have hl5 : ∀ i, i ≤ 8 → ((wordsOf 8 D).take i ++ (xorTo 8).drop i).length = 8 := by
      intro i hi; simp [wordsOf_length, xorTo_length]; omega
    refine Wp.loop tab5_mono (fun m e' H' => ∃ i, i ≤ 8 ∧ m = 8 - i ∧ Keep [H.next + 1] H5 H' ∧ H'.get (H.next + 1) = some (.cells true (wordsA ((wordsOf 8 D).take i ++ (xorTo 8).drop i))) ∧ e' = [(0, .ptr H.next 0), (1, .ptr (H.next + 1) 0), (3, .ptr H4.next 0), (19, .int .i64 i)]) ?_ 8 _ _ ⟨0, by omega, rfl, Keep.refl _ _, hg5, rfl⟩
    rintro m e' H6 ⟨i, hi, rfl, hk6, hg6, rfl⟩
    simp -dsimp only [cX_seq, cX_reg, cX_cond, cX_block, cX_exit, cX_skip, regX_cons, regX_nil, evs, ev, Env.get, evX_some, Env.putO, Env.keep, outX_normal, outX_exit, optX_some, opX_move, opX_bin, opX_load, bin_mul_i64, bin_lss, brX_decide, Int.ofNat_eq_natCast]
    refine ⟨fun hi8 => ?_, fun hge => ?_⟩
    · have ei : IntKind.i64.wrap ((i : Int) + ((1 : Nat) : Int)) = ((i + 1 : Nat) : Int) := by rw [wrap_i64 (by omega) (by omega)]; omega
      have em : IntKind.i64.wrap (((8 : Nat) : Int) * (i : Int)) = ((8 * i : Nat) : Int) := by rw [wrap_i64 (by omega) (by omega)]; omega
      simp -dsimp only [em, opX_slice, slice_arr_lo (show 8 * i ≤ 64 by omega), call5_word, regX_cons, evs, ev, Env.get, evX_some, Env.putO, optX_some, opX_call, List.nil_append, List.append_nil, Nat.mul_one, Nat.zero_add]
      rw [callX_eq]
      refine word_w (l := (D.drop (8 * i)).take 8) (hk6.get (by omega) (by simp; omega) hgD) (by omega) rfl (by omega) ?_
      have ewi : ∀ w : Nat, H6.write (H.next + 1) i [.int .u64 (w : Int)] = some (H6.set (H.next + 1) (.cells true (wordsA (((wordsOf 8 D).take i ++ (xorTo 8).drop i).set i w)))) := fun w => by
        rw [write_one hg6 (by rw [wordsA_length, hl5 i (by omega)]; omega), wordsA_set]
      simp -dsimp only [ei, ewi, cX_reg, regX_cons, regX_nil, evs, ev, Env.get, evX_some, Env.putO, Env.keep, outX_normal, optX_some, opX_move, opX_bin, opX_store_int, opX_idxArr, bin_add_i64, Int.ofNat_eq_natCast, Int.toNat_natCast, Nat.mul_one, Nat.zero_add]
      refine ⟨by omega, 8 - (i + 1), by omega, i + 1, by omega, rfl, hk6.trans (Keep.set _ (.inr (by simp))), ?_, rfl⟩
      rw [get_set_same]
      have h1 : ((wordsOf 8 D).take i).length = i := by simp [wordsOf_length]; omega
      have h2 : i < (wordsOf 8 D).length := by rw [wordsOf_length]; omega
      have h3 : i < (xorTo 8).length := by rw [xorTo_length]; omega
      rw [List.set_append_right _ _ (by omega), h1, Nat.sub_self, List.drop_eq_getElem_cons h3, List.set_cons_zero, take_snoc h2, List.append_assoc, wordsOf_get]
      rfl
    · have hi8 : i = 8 := by omega
      subst hi8
      have hW : (wordsOf 8 D).take 8 ++ (xorTo 8).drop 8 = shaBegin := by
        rw [List.take_of_length_le (by rw [wordsOf_length]; omega), List.drop_of_length_le (by rw [xorTo_length]; omega), List.append_nil, hW8]
      rw [hW] at hg6
      have hb8 : shaBegin.length = 8 := rfl
      have el6 := load_whole (n := 8) hg6 (by rw [wordsA_length, hb8])
      have hz6 : H6.get H.next = some (.cells true Z) := by
        rw [hk6.same _ (by omega) (by simp), hk5.same _ (by omega) (by simp), hk4.same _ (by simp; omega) (by simp), get_push_old (by omega), hk2.same _ (by omega) (by simp), g0]
      have ew6 : H6.write H.next 0 (wordsA shaBegin) = _ := write_whole hz6 (by rw [wordsA_length, hb8, hzl])
      have el7 := load_whole (n := 8) (get_set_same H6 H.next (.cells true (wordsA shaBegin))) (by rw [wordsA_length, hb8])
      simp -dsimp only [el6, ew6, el7, cX_ret, regX_cons, regX_nil, evs, ev, Env.get, evX_some, Env.putO, Env.keep, outX_normal, retX_ret, resultsA, resultsL, resultOf, optX_some, opX_store_agg]
      refine ⟨⟨by rw [wordsA_length, hb8], wordsA_one _⟩, h _ ?_⟩
      exact (((hkA.trans hk4).trans hk5).trans' hk6 (by simp)).trans' (Keep.set (S := [H.next]) _ (.inr (by simp))) (by simp)
end Go.AE
