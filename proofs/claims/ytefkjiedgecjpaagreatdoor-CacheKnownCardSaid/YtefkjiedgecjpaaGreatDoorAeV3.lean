/-
  A block taken in.
-/
import Derived.Test.YtefkjiedgecjpaaGreatDoorAeV2
set_option linter.unusedSimpArgs false
set_option linter.unusedVariables false
set_option linter.unusedSectionVars false
set_option maxHeartbeats 4000000
namespace Go.AE
/-- the tables' cells. -/
structure Glob (H : Heap) : Prop where
  first : H.get 0 = some (.cells false (wordsA shaH))
  konst : H.get 1 = some (.cells false (wordsA shaK))
  next : 2 ≤ H.next
theorem Glob.keep {S : List Nat} {H H' : Heap} (h : Glob H) (hk : Keep S H H') (h0 : 0 ∉ S) (h1 : 1 ∉ S) : Glob H' :=
  ⟨(hk.same 0 (by have := h.next; omega) h0).trans h.first, (hk.same 1 (by have := h.next; omega) h1).trans h.konst, Nat.le_trans h.next hk.next⟩

/-- the block's words by contract, too. -/
def tab2 : Nat → Option FSpec := over tab1 241 (low tab1 241)
theorem tab2_mono : TMono tab2 := tab1_mono.over low_mono
theorem call2_right (x n : Nat) (H : Heap) (K : AV → Heap → Prop) : callX (Wp tab2) 242 [.int .u64 x, .int .i64 n] H K = ((0 < n ∧ n < 64) ∧ K (.int .u64 (rotr x n : Nat)) H) := by
  rw [call_spec tab2_mono (f := 242) (S := rightS) rfl]; rfl
theorem call2_spread (args : List AV) (H : Heap) (K : AV → Heap → Prop) : callX (Wp tab2) 241 args H K = Wp tab1 (.call 241 args H K) := by
  rw [call_spec tab2_mono (f := 241) (S := low tab1 241) rfl]; rfl

def list8 (v : List Nat) : Prop := ∃ a b c d e f g h, v = [a, b, c, d, e, f, g, h]
theorem list8_of {v : List Nat} (h : v.length = 8) : list8 v := by
  match v, h with
  | [a, b, c, d, e, f, g, h], _ => exact ⟨a, b, c, d, e, f, g, h, rfl⟩

theorem roundsN_step (k w : Nat) (ks ws : List Nat) (a b c d e f g h : Nat) : roundsN (k :: ks) (w :: ws) a b c d e f g h =
    (let t1 := badd (badd (badd (badd h (bigE e)) (chN e f g)) k) w
     roundsN ks ws (badd t1 (badd (bigA a) (majN a b c))) a b c (badd d t1) e f g) := by simp only [roundsN, forceN_eq]
theorem spreadN_length (l : List Nat) : (spreadN l).length = 80 := by
  simp [spreadN, sched_length, wordsOf_length]
theorem shaK_length : shaK.length = 80 := rfl
theorem drop_getD {l : List Nat} {t : Nat} (h : t < l.length) : l.drop t = l.getD t 0 :: l.drop (t + 1) := by
  rw [List.drop_eq_getElem_cons h, List.getD_eq_getElem?_getD, List.getElem?_eq_getElem h]; rfl

/-- so many words added. -/
def sumTo (hv v : List Nat) (i : Nat) : List Nat := (List.zipWith badd hv v).take i ++ hv.drop i
theorem sumTo_zero (hv v : List Nat) : sumTo hv v 0 = hv := by simp [sumTo]
theorem sumTo_length {hv v : List Nat} {i : Nat} (h : hv.length = v.length) (hi : i ≤ hv.length) : (sumTo hv v i).length = hv.length := by simp [sumTo]; omega
theorem sumTo_all {hv v : List Nat} {i : Nat} (h : hv.length = v.length) (hi : hv.length ≤ i) : sumTo hv v i = List.zipWith badd hv v := by
  rw [sumTo, List.drop_of_length_le hi, List.append_nil, List.take_of_length_le (by simp; omega)]
theorem sumTo_getD {hv v : List Nat} {i : Nat} (h : hv.length = v.length) (hi : i < hv.length) : (sumTo hv v i).getD i 0 = hv.getD i 0 := by
  have h1 : ((List.zipWith badd hv v).take i).length = i := by simp; omega
  rw [sumTo, List.getD_eq_getElem?_getD, List.getElem?_append_right (by omega), h1, List.getElem?_drop, List.getD_eq_getElem?_getD]
  simp
theorem sumTo_set {hv v : List Nat} {i : Nat} (h : hv.length = v.length) (hi : i < hv.length) : (sumTo hv v i).set i (badd (hv.getD i 0) (v.getD i 0)) = sumTo hv v (i + 1) := by
  have h1 : ((List.zipWith badd hv v).take i).length = i := by simp; omega
  have h2 : i < (List.zipWith badd hv v).length := by simp; omega
  rw [sumTo, sumTo, List.set_append_right _ _ (by omega), h1, Nat.sub_self, List.drop_eq_getElem_cons hi, List.set_cons_zero, take_snoc h2, List.append_assoc]
  congr 1
  simp [hi, h ▸ hi]

theorem take_w {hv : List Nat} {b o n : Nat} {c : Option Nat} {w : Bool} {cs l : List Nat} {H : Heap} {K : AV → Heap → Prop} (hG : Glob H) (hh : hv.length = 8) (hb : H.get b = some (.cells w (bytesA cs))) (hb' : b < H.next) (hn : n = 128) (hl : (cs.drop o).take 128 = l) (hlen : o + 128 ≤ cs.length)
    (h : ∀ H', Keep [] H H' → K (.agg (wordsA (takeN hv l))) H') : Wp tab2 (.call 210 [.agg (wordsA hv), .sl b o n c 5] H K) := by
  refine Wp.fn tab2_mono (show tab2 210 = some (.code ir210) from rfl) rfl ?_
  have e1 : ∀ z, ((H.push (.cells true (wordsA hv))).push z).load (some 8) H.next 0 = some (.agg (wordsA hv)) := fun z =>
    load_whole (by rw [get_push_old (by simp), get_push_new]) (by simpa using hh)
  have e2 : ∀ z z' : List AV, z'.length = 8 → (((H.push (.cells true (wordsA hv))).push (.cells true z)).push (.cells true z')).write (H.next + 1 + 1) 0 (wordsA hv) = _ := fun z z' hz =>
    write_whole (get_push_new ((H.push (.cells true (wordsA hv))).push (.cells true z)) (.cells true z')) (by rw [hz]; simpa using hh)
  simp -dsimp only [e1, cX_seq, cX_reg, regX_cons, regX_nil, evs, ev, Env.get, evX_some, Env.putO, Env.keep, paramEnv, outX_normal, optX_some, opX_load, opX_store_agg, opX_alloc, opX_box_agg, Int.ofNat_eq_natCast, Nat.zero_add, Heap.next_push]
  generalize hz : [AV.int IntKind.u64 ((0 : Nat) : Int), AV.int IntKind.u64 ((0 : Nat) : Int), AV.int IntKind.u64 ((0 : Nat) : Int), AV.int IntKind.u64 ((0 : Nat) : Int), AV.int IntKind.u64 ((0 : Nat) : Int), AV.int IntKind.u64 ((0 : Nat) : Int), AV.int IntKind.u64 ((0 : Nat) : Int), AV.int IntKind.u64 ((0 : Nat) : Int)] = Z
  have hzl : Z.length = 8 := by rw [← hz]; rfl
  simp -dsimp only [e2 Z Z hzl, call2_spread, cX_seq, cX_reg, cX_block, cX_loop, regX_cons, regX_nil, evs, ev, Env.get, evX_some, Env.putO, Env.keep, outX_normal, optX_some, opX_move, opX_call, List.nil_append, List.append_nil, Int.ofNat_eq_natCast]
  refine ⟨wordsA_one _, ⟨by simpa using hh, wordsA_one _⟩, ?_⟩
  generalize hH1 : (((H.push (.cells true (wordsA hv))).push (.cells true Z)).push (.cells true Z)).set (H.next + 1 + 1) (.cells true (wordsA hv)) = H1
  have hk1 : Keep [] H H1 := by
    rw [← hH1]
    exact (((Keep.push _ _ _).trans (Keep.push _ _ _)).trans (Keep.push _ _ _)).trans' (Keep.set (S := [H.next + 1 + 1]) _ (.inr (by simp))) (by simp; omega)
  have hnx : H1.next = H.next + 3 := by rw [← hH1]; simp
  have hv0 : H1.get H.next = some (.cells true (wordsA hv)) := by
    rw [← hH1, get_set_ne (by omega), get_push_old (by simp; omega), get_push_old (by simp), get_push_new]
  have hz1 : H1.get (H.next + 1) = some (.cells true Z) := by
    rw [← hH1, get_set_ne (by omega), get_push_old (by simp)]; exact get_push_new (H.push _) _
  have hv2 : H1.get (H.next + 2) = some (.cells true (wordsA hv)) := by
    rw [← hH1]; exact get_set_same _ _ _
  refine spread_w (l := l) (hk1.get hb' (by simp) hb) (by omega) hn hl hlen ?_
  intro H2 hk2
  rw [loopX_eq]
  have hW : (spreadN l).length = 80 := spreadN_length l
  generalize hWW : spreadN l = W at *
  have hk12 : Keep [] H H2 := hk1.trans hk2
  have hn2 : H.next + 3 ≤ H2.next := by rw [← hnx]; exact hk2.next
  refine Wp.loop tab2_mono (fun m e' H' => ∃ t v, t ≤ 80 ∧ m = 80 - t ∧ Keep [H.next + 2] H2 H' ∧ H'.get (H.next + 2) = some (.cells true (wordsA v)) ∧ v.length = 8 ∧ rounds8 (shaK.drop t) (W.drop t) v = rounds8 shaK W hv ∧ e' = [(2, .ptr H.next 0), (4, .ptr (H.next + 1) 0), (5, .ptr (H.next + 2) 0), (17, .agg (wordsA W)), (18, .int .i64 t)]) ?_ 80 _ _ ⟨0, hv, by omega, rfl, Keep.refl _ _, hk2.get (by omega) (by simp) hv2, hh, by simp, rfl⟩
  rintro m e' H3 ⟨t, v, ht, rfl, hk3, hg3, hv8, hr, rfl⟩
  simp -dsimp only [cX_seq, cX_reg, cX_cond, cX_block, cX_exit, cX_skip, cX_loop, regX_cons, regX_nil, evs, ev, Env.get, evX_some, Env.putO, Env.keep, outX_normal, outX_exit, optX_some, opX_move, opX_bin, opX_idxVal, bin_lss, brX_decide, Int.ofNat_eq_natCast, Int.toNat_natCast, Nat.mul_one]
  refine ⟨fun ht80 => ?_, fun hge => ?_⟩
  · obtain ⟨xa, xb, xc, xd, xe, xf, xg, xh, rfl⟩ := list8_of hv8
    have h0n := hG.next
    have ekc : ∀ H', Keep [H.next + 2] H2 H' → H'.load none 1 t = some (.int .u64 (shaK.getD t 0 : Nat)) := by
      intro H' hk'
      have hG' := (hG.keep hk12 (by simp) (by simp)).keep hk' (by simp) (by simp)
      rw [load_one hG'.konst]
      exact words_at (by rw [shaK_length]; omega)
    have ew : cell1 (wordsA W) t = some (.int .u64 (W.getD t 0 : Nat)) := words_at (by omega)
    have e0 : IntKind.i64.wrap ((t : Int) + ((1 : Nat) : Int)) = ((t + 1 : Nat) : Int) := by rw [wrap_i64 (by omega) (by omega)]; omega
    have hl : ∀ o, H3.load none (H.next + 2) o = cell1 (wordsA [xa, xb, xc, xd, xe, xf, xg, xh]) o := fun o => load_one hg3
    have ecp : srcCells 1 H3 (.sl (H.next + 2) 0 7 (some 8) 23) = some (7, wordsA [xa, xb, xc, xd, xe, xf, xg]) := by
      rw [src_sl hg3 (by simp)]; rfl
    have ecw : H3.write (H.next + 2) 1 (wordsA [xa, xb, xc, xd, xe, xf, xg]) = some (H3.set (H.next + 2) (.cells true (wordsA [xa, xa, xb, xc, xd, xe, xf, xg]))) := by
      rw [write_at hg3 (by simp)]; rfl
    have emin : (Nat.min 7 (8 - 1) = 0) = False := by decide
    have etk : (wordsA [xa, xb, xc, xd, xe, xf, xg]).take (Nat.min 7 (8 - 1)) = wordsA [xa, xb, xc, xd, xe, xf, xg] := rfl
    have ew4 : ∀ w : Nat, (H3.set (H.next + 2) (.cells true (wordsA [xa, xa, xb, xc, xd, xe, xf, xg]))).write (H.next + 2) 4 [.int .u64 (w : Int)] = some (H3.set (H.next + 2) (.cells true (wordsA [xa, xa, xb, xc, w, xe, xf, xg]))) := fun w => words_write w (by simp)
    have ew0 : ∀ w w' : Nat, (H3.set (H.next + 2) (.cells true (wordsA [xa, xa, xb, xc, w, xe, xf, xg]))).write (H.next + 2) 0 [.int .u64 (w' : Int)] = some (H3.set (H.next + 2) (.cells true (wordsA [w', xa, xb, xc, w, xe, xf, xg]))) := fun w w' => words_write w' (by simp)
    simp -dsimp only [ew, e0, hl, words_zero, words_succ, emin, etk, if_false, ew4, ew0, ekc _ hk3, call2_right, opX_slice, slice_arr_lo (show 1 ≤ 8 by decide), slice_arr_hi (show 7 ≤ 8 by decide), opX_copy, ecp, ecw, load_set, cX_seq, cX_reg, cX_dreg, regX_cons, regX_nil, dregX_nil, dregX_pure kd_move, dregX_pure (kd_bin _), dregX_pure (kd_un _), dregX_pure (kd_slice _ _ _ _), dregX_pure (kd_idxArr _ _), dregX_read (kd_load _), dregX_eff, flush, watched_nil, evs, ev, Env.get, evX_some, Env.putO, Env.keep, outX_normal, optX_some, opX_move, opX_bin, opX_un, opX_call, opX_load, opX_store_int, opX_idxArr, bin_add_u64, bin_add_i64, bin_and_u64, bin_xor_u64, un_xor_u64, List.nil_append, List.append_nil, Int.ofNat_eq_natCast, Int.toNat_natCast, Nat.mul_one, Nat.add_zero, Nat.zero_add, heap_eta, true_and]
    refine ⟨by omega, by omega, by omega, by omega, by omega, by omega, by omega, by omega, by omega, by omega, by omega, by omega, by omega, by omega, by omega, by omega, by omega, by omega, by omega, by omega, 80 - (t + 1), by omega, t + 1, _, by omega, rfl, hk3.trans (Keep.set _ (.inr (by simp))), get_set_same _ _ _, rfl, ?_, rfl⟩
    rw [← hr, drop_getD (l := shaK) (t := t) (by rw [shaK_length]; omega), drop_getD (l := W) (t := t) (by omega)]
    simp only [rounds8, roundsN_step]
    rfl
  · have ht80 : t = 80 := by omega
    subst ht80
    have hvr : v = rounds8 shaK W hv := by
      rw [← hr, List.drop_of_length_le (by rw [shaK_length]; omega)]
      obtain ⟨xa, xb, xc, xd, xe, xf, xg, xh, rfl⟩ := list8_of hv8
      rfl
    rw [loopX_eq]
    have hvl : hv.length = v.length := by omega
    have hv0' : H3.get H.next = some (.cells true (wordsA hv)) := by
      rw [hk3.same _ (by omega) (by simp), hk2.same _ (by omega) (by simp), hv0]
    refine Wp.loop tab2_mono (fun m e' H' => ∃ i, i ≤ 8 ∧ m = 8 - i ∧ Keep [H.next] H3 H' ∧ H'.get H.next = some (.cells true (wordsA (sumTo hv v i))) ∧ e' = [(2, .ptr H.next 0), (4, .ptr (H.next + 1) 0), (5, .ptr (H.next + 2) 0), (93, .int .i64 i)]) ?_ 8 _ _ ⟨0, by omega, rfl, Keep.refl _ _, by rw [sumTo_zero]; exact hv0', rfl⟩
    rintro m e' H4 ⟨i, hi, rfl, hk4, hg4, rfl⟩
    simp -dsimp only [cX_seq, cX_reg, cX_dreg, cX_cond, cX_block, cX_exit, cX_skip, regX_cons, regX_nil, dregX_pure kd_move, dregX_pure (kd_idxArr _ _), dregX_read (kd_load _), evs, ev, Env.get, evX_some, Env.putO, Env.keep, outX_normal, outX_exit, optX_some, opX_move, opX_bin, opX_load, opX_idxArr, bin_lss, brX_decide, Int.ofNat_eq_natCast, Int.toNat_natCast, Nat.mul_one, Nat.add_zero, Nat.zero_add, heap_eta]
    have hn3 : H2.next ≤ H3.next := hk3.next
    refine ⟨fun hi8 => ?_, fun hge4 => ?_⟩
    · have el1 : H4.load none H.next i = some (.int .u64 (hv.getD i 0 : Nat)) := by
        rw [load_one hg4, words_at (by rw [sumTo_length hvl (by omega)]; omega), sumTo_getD hvl (by omega)]
      have el2 : H4.load none (H.next + 2) i = some (.int .u64 (v.getD i 0 : Nat)) := by
        rw [load_one (hk4.get (by omega) (by simp) hg3), words_at (by omega)]
      have ew1 : H4.write H.next i [.int .u64 (badd (hv.getD i 0) (v.getD i 0) : Nat)] = some (H4.set H.next (.cells true (wordsA (sumTo hv v (i + 1))))) := by
        rw [write_one hg4 (by rw [wordsA_length, sumTo_length hvl (by omega)]; omega), wordsA_set, sumTo_set hvl (by omega)]
      have e0 : IntKind.i64.wrap ((i : Int) + ((1 : Nat) : Int)) = ((i + 1 : Nat) : Int) := by rw [wrap_i64 (by omega) (by omega)]; omega
      simp -dsimp only [el1, el2, ew1, e0, cX_reg, regX_cons, regX_nil, dregX_nil, dregX_pure kd_move, dregX_pure (kd_bin _), dregX_pure (kd_idxArr _ _), dregX_read (kd_load _), dregX_eff, flush, watched_nil, watched_1_0, evs, ev, Env.get, evX_some, Env.putO, Env.keep, outX_normal, optX_some, opX_move, opX_bin, opX_load, opX_store_int, opX_idxArr, bin_add_u64, bin_add_i64, Int.ofNat_eq_natCast, Int.toNat_natCast, Nat.mul_one, Nat.zero_add, true_and]
      exact ⟨by omega, by omega, by omega, 8 - (i + 1), by omega, i + 1, by omega, rfl, hk4.trans (Keep.set _ (.inr (by simp))), get_set_same _ _ _, rfl⟩
    · have hi8 : i = 8 := by omega
      subst hi8
      rw [sumTo_all hvl (by omega)] at hg4
      have hzl' : (List.zipWith badd hv v).length = 8 := by simp; omega
      have el := load_whole (n := 8) hg4 (by rw [wordsA_length, hzl'])
      have hz4 : H4.get (H.next + 1) = some (.cells true Z) := by
        rw [hk4.same _ (by omega) (by simp), hk3.same _ (by omega) (by simp), hk2.same _ (by omega) (by simp), hz1]
      have ew : H4.write (H.next + 1) 0 (wordsA (List.zipWith badd hv v)) = _ := write_whole hz4 (by rw [wordsA_length, hzl', hzl])
      have el2 := load_whole (n := 8) (get_set_same H4 (H.next + 1) (.cells true (wordsA (List.zipWith badd hv v)))) (by rw [wordsA_length, hzl'])
      simp -dsimp only [el, ew, el2, cX_ret, regX_cons, regX_nil, evs, ev, Env.get, evX_some, Env.putO, Env.keep, outX_normal, retX_ret, resultsA, resultsL, resultOf, optX_some, opX_store_agg]
      refine ⟨⟨by rw [wordsA_length, hzl'], wordsA_one _⟩, ?_⟩
      have et : takeN hv l = List.zipWith badd hv v := by
        simp only [takeN, forceL_eq, hWW]
        rw [← hvr]
      rw [← et]
      refine h _ (((hk12.trans' hk3 (by simp)).trans' hk4 (by simp)).trans' (Keep.set (S := [H.next + 1]) _ (.inr (by simp))) (by simp))
end Go.AE
