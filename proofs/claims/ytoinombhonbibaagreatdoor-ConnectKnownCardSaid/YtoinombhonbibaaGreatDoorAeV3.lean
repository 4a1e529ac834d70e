/-
  A block taken in.
-/
import Derived.Test.YtoinombhonbibaaGreatDoorAeV1
set_option linter.unusedSimpArgs false
set_option linter.unusedVariables false
set_option linter.unusedSectionVars false
set_option maxHeartbeats 4000000
namespace Go.AE
/-- the tables' cells. -/
structure Glob (H : Heap) : Prop where
  first : H.get 0 = some (.cells false (wordsA shaH))
  konst : H.get 1 = some (.cells false (wordsA shaK))
  next : 2 ≤ H.next
theorem Glob.keep {S : List Nat} {H H' : Heap} (h : Glob H) (hk : Keep S H H') (h0 : 0 ∉ S) (h1 : 1 ∉ S) : Glob H' :=
  ⟨(hk.same 0 (by have := h.next; omega) h0).trans h.first, (hk.same 1 (by have := h.next; omega) h1).trans h.konst, Nat.le_trans h.next hk.next⟩

/-- the block's words by contract, too. -/
def tab2 : Nat → Option FSpec := over tab1 315 (low tab1 315)
theorem tab2_mono : TMono tab2 := tab1_mono.over low_mono
theorem call2_right (x n : Nat) (H : Heap) (K : AV → Heap → Prop) : callX (Wp tab2) 316 [.int .u64 x, .int .i64 n] H K = ((0 < n ∧ n < 64) ∧ K (.int .u64 (rotr x n : Nat)) H) := by
  rw [call_spec tab2_mono (f := 316) (S := rightS) rfl]; rfl
theorem call2_spread (args : List AV) (H : Heap) (K : AV → Heap → Prop) : callX (Wp tab2) 315 args H K = Wp tab1 (.call 315 args H K) := by
  rw [call_spec tab2_mono (f := 315) (S := low tab1 315) rfl]; rfl

def list8 (v : List Nat) : Prop := ∃ a b c d e f g h, v = [a, b, c, d, e, f, g, h]
theorem list8_of {v : List Nat} (h : v.length = 8) : list8 v := by
  match v, h with
  | [a, b, c, d, e, f, g, h], _ => exact ⟨a, b, c, d, e, f, g, h, rfl⟩

theorem roundsN_step (k w : Nat) (ks ws : List Nat) (a b c d e f g h : Nat) : roundsN (k :: ks) (w :: ws) a b c d e f g h =
    (let t1 := badd (badd (badd (badd h (bigE e)) (chN e f g)) k) w
     roundsN ks ws (badd t1 (badd (bigA a) (majN a b c))) a b c (badd d t1) e f g) := by simp only [roundsN, forceN_eq]
theorem spreadN_length (l : List Nat) : (spreadN l).length = 80 := by
  simp [spreadN, sched_length, wordsOf_length]
theorem shaK_length : shaK.length = 80 := rfl
theorem drop_getD {l : List Nat} {t : Nat} (h : t < l.length) : l.drop t = l.getD t 0 :: l.drop (t + 1) := by
  rw [List.drop_eq_getElem_cons h, List.getD_eq_getElem?_getD, List.getElem?_eq_getElem h]; rfl

/-- so many words added. -/
def sumTo (hv v : List Nat) (i : Nat) : List Nat := (List.zipWith badd hv v).take i ++ hv.drop i
theorem sumTo_zero (hv v : List Nat) : sumTo hv v 0 = hv := by simp [sumTo]
theorem sumTo_length {hv v : List Nat} {i : Nat} (h : hv.length = v.length) (hi : i ≤ hv.length) : (sumTo hv v i).length = hv.length := by simp [sumTo]; omega
theorem sumTo_all {hv v : List Nat} {i : Nat} (h : hv.length = v.length) (hi : hv.length ≤ i) : sumTo hv v i = List.zipWith badd hv v := by
  rw [sumTo, List.drop_of_length_le hi, List.append_nil, List.take_of_length_le (by simp; omega)]
theorem sumTo_getD {hv v : List Nat} {i : Nat} (h : hv.length = v.length) (hi : i < hv.length) : (sumTo hv v i).getD i 0 = hv.getD i 0 := by
  have h1 : ((List.zipWith badd hv v).take i).length = i := by simp; omega
  rw [sumTo, List.getD_eq_getElem?_getD, List.getElem?_append_right (by omega), h1, List.getElem?_drop, List.getD_eq_getElem?_getD]
  simp
theorem sumTo_set {hv v : List Nat} {i : Nat} (h : hv.length = v.length) (hi : i < hv.length) : (sumTo hv v i).set i (badd (hv.getD i 0) (v.getD i 0)) = sumTo hv v (i + 1) := by
  have h1 : ((List.zipWith badd hv v).take i).length = i := by simp; omega
  have h2 : i < (List.zipWith badd hv v).length := by simp; omega
  rw [sumTo, sumTo, List.set_append_right _ _ (by omega), h1, Nat.sub_self, List.drop_eq_getElem_cons hi, List.set_cons_zero, take_snoc h2, List.append_assoc]
  congr 1
  simp [hi, h ▸ hi]

theorem take_w {hv : List Nat} {b o n : Nat} {c : Option Nat} {w : Bool} {cs l : List Nat} {H : Heap} {K : AV → Heap → Prop} (hG : Glob H) (hh : hv.length = 8) (hb : H.get b = some (.cells w (bytesA cs))) (hb' : b < H.next) (hn : n = 128) (hl : (cs.drop o).take 128 = l) (hlen : o + 128 ≤ cs.length)
    (h : ∀ H', Keep [] H H' → K (.agg (wordsA (takeN hv l))) H') : Wp tab2 (.call 260 [.agg (wordsA hv), .sl b o n c 5] H K) := by
  refine Wp.fn tab2_mono (show tab2 260 = some (.code ir260) from rfl) rfl ?_
  have e1 : ∀ z, ((H.push (.cells true (wordsA hv))).push z).load (some 8) H.next 0 = some (.agg (wordsA hv)) := fun z =>
    load_whole (by rw [get_push_old (by simp), get_push_new]) (by simpa using hh)
  have e2 : ∀ z z' : List AV, z'.length = 8 → (((H.push (.cells true (wordsA hv))).push (.cells true z)).push (.cells true z')).write (H.next + 1 + 1) 0 (wordsA hv) = _ := fun z z' hz =>
    write_whole (get_push_new ((H.push (.cells true (wordsA hv))).push (.cells true z)) (.cells true z')) (by rw [hz]; simpa using hh)
  simp -dsimp only [e1, cX_seq, cX_reg, regX_cons, regX_nil, evs, ev, Env.get, evX_some, Env.putO, Env.keep, paramEnv, outX_normal, optX_some, opX_load, opX_store_agg, opX_alloc, opX_box_agg, Int.ofNat_eq_natCast, Nat.zero_add, Heap.next_push]
  generalize hz : [AV.int IntKind.u64 ((0 : Nat) : Int), AV.int IntKind.u64 ((0 : Nat) : Int), AV.int IntKind.u64 ((0 : Nat) : Int), AV.int IntKind.u64 ((0 : Nat) : Int), AV.int IntKind.u64 ((0 : Nat) : Int), AV.int IntKind.u64 ((0 : Nat) : Int), AV.int IntKind.u64 ((0 : Nat) : Int), AV.int IntKind.u64 ((0 : Nat) : Int)] = Z
  have hzl : Z.length = 8 := by rw [← hz]; rfl
  simp -dsimp only [e2 Z Z hzl, call2_spread, cX_seq, cX_reg, cX_block, cX_loop, regX_cons, regX_nil, evs, ev, Env.get, evX_some, Env.putO, Env.keep, outX_normal, optX_some, opX_move, opX_call, List.nil_append, List.append_nil, Int.ofNat_eq_natCast]
  refine ⟨wordsA_one _, ⟨by simpa using hh, wordsA_one _⟩, ?_⟩
  generalize hH1 : (((H.push (.cells true (wordsA hv))).push (.cells true Z)).push (.cells true Z)).set (H.next + 1 + 1) (.cells true (wordsA hv)) = H1
  have hk1 : Keep [] H H1 := by
    rw [← hH1]
    exact (((Keep.push _ _ _).trans (Keep.push _ _ _)).trans (Keep.push _ _ _)).trans' (Keep.set (S := [H.next + 1 + 1]) _ (.inr (by simp))) (by simp; omega)
  have hnx : H1.next = H.next + 3 := by rw [← hH1]; simp
  have hv0 : H1.get H.next = some (.cells true (wordsA hv)) := by
    rw [← hH1, get_set_ne (by omega), get_push_old (by simp; omega), get_push_old (by simp), get_push_new]
  have hz1 : H1.get (H.next + 1) = some (.cells true Z) := by
    rw [← hH1, get_set_ne (by omega), get_push_old (by simp)]; exact get_push_new (H.push _) _
  have hv2 : H1.get (H.next + 2) = some (.cells true (wordsA hv)) := by
    rw [← hH1]; exact get_set_same _ _ _
  refine spread_w (l := l) (hk1.get hb' (by simp) hb) (by omega) hn hl hlen ?_
  intro H2 hk2
  rw [loopX_eq]
  have hW : (spreadN l).length = 80 := spreadN_length l
  generalize hWW : spreadN l = W at *
  have hk12 : Keep [] H H2 := hk1.trans hk2
  have hn2 : H.next + 3 ≤ H2.next := by rw [← hnx]; exact hk2.next
  refine Wp.loop tab2_mono (fun m e' H' => ∃ t v, t ≤ 80 ∧ m = 80 - t ∧ Keep [H.next + 2] H2 H' ∧ H'.get (H.next + 2) = some (.cells true (wordsA v)) ∧ v.length = 8 ∧ rounds8 (shaK.drop t) (W.drop t) v = rounds8 shaK W hv ∧ e' = [(2, .ptr H.next 0), (4, .ptr (H.next + 1) 0), (5, .ptr (H.next + 2) 0), (17, .agg (wordsA W)), (18, .int .i64 t)]) ?_ 80 _ _ ⟨0, hv, by omega, rfl, Keep.refl _ _, hk2.get (by omega) (by simp) hv2, hh, by simp, rfl⟩
  rintro m e' H3 ⟨t, v, ht, rfl, hk3, hg3, hv8, hr, rfl⟩
  simp -dsimp only [cX_seq, cX_reg, cX_cond, cX_block, cX_exit, cX_skip, cX_loop, regX_cons, regX_nil, evs, ev, Env.get, evX_some, Env.putO, Env.keep, outX_normal, outX_exit, optX_some, opX_move, opX_bin, opX_idxVal, bin_lss, brX_decide, Int.ofNat_eq_natCast, Int.toNat_natCast, Nat.mul_one]
  refine ⟨fun ht80 => ?_, fun hge => ?_⟩
  · obtain ⟨xa, xb, xc, xd, xe, xf, xg, xh, rfl⟩ := list8_of hv8
    have h0n := hG.next
    have ekc : ∀ H', Keep [H.next + 2] H2 H' → H'.load none 1 t = some (.int .u64 (shaK.getD t 0 : Nat)) := by
      intro H' hk'
      have hG' := (hG.keep hk12 (by simp) (by simp)).keep hk' (by simp) (by simp)
      rw [load_one hG'.konst]
      exact words_at (by rw [shaK_length]; omega)
    have ew : cell1 (wordsA W) t = some (.int .u64 (W.getD t 0 : Nat)) := words_at (by omega)
    have e0 : IntKind.i64.wrap ((t : Int) + ((1 : Nat) : Int)) = ((t + 1 : Nat) : Int) := by rw [wrap_i64 (by omega) (by omega)]; omega
    have hl : ∀ o, H3.load none (H.next + 2) o = cell1 (wordsA [xa, xb, xc, xd, xe, xf, xg, xh]) o := fun o => load_one hg3
    have ecp : srcCells 1 H3 (.sl (H.next + 2) 0 7 (some 8) 27) = some (7, wordsA [xa, xb, xc, xd, xe, xf, xg]) := by
      rw [src_sl hg3 (by simp)]; rfl
    have ecw : H3.write (H.next + 2) 1 (wordsA [xa, xb, xc, xd, xe, xf, xg]) = some (H3.set (H.next + 2) (.cells true (wordsA [xa, xa, xb, xc, xd, xe, xf, xg]))) := by
      rw [write_at hg3 (by simp)]; rfl
    have emin : (Nat.min 7 (8 - 1) = 0) = False := by decide
    have etk : (wordsA [xa, xb, xc, xd, xe, xf, xg]).take (Nat.min 7 (8 - 1)) = wordsA [xa, xb, xc, xd, xe, xf, xg] := rfl
    have ew4 : ∀ w : Nat, (H3.set (H.next + 2) (.cells true (wordsA [xa, xa, xb, xc, xd, xe, xf, xg]))).write (H.next + 2) 4 [.int .u64 (w : Int)] = some (H3.set (H.next + 2) (.cells true (wordsA [xa, xa, xb, xc, w, xe, xf, xg]))) := fun w => words_write w (by simp)
    have ew0 : ∀ w w' : Nat, (H3.set (H.next + 2) (.cells true (wordsA [xa, xa, xb, xc, w, xe, xf, xg]))).write (H.next + 2) 0 [.int .u64 (w' : Int)] = some (H3.set (H.next + 2) (.cells true (wordsA [w', xa, xb, xc, w, xe, xf, xg]))) := fun w w' => words_write w' (by simp)
    simp -dsimp only [ew, e0, hl, words_zero, words_succ, emin, etk, if_false, ew4, ew0, ekc _ hk3, call2_right, opX_slice, slice_arr_lo (show 1 ≤ 8 by decide), slice_arr_hi (show 7 ≤ 8 by decide), opX_copy, ecp, ecw, load_set, cX_seq, cX_reg, cX_dreg, regX_cons, regX_nil, dregX_nil, dregX_pure kd_move, dregX_pure (kd_bin _), dregX_pure (kd_un _), dregX_pure (kd_slice _ _ _ _), dregX_pure (kd_idxArr _ _), dregX_read (kd_load _), dregX_eff, flush, watched_nil, evs, ev, Env.get, evX_some, Env.putO, Env.keep, outX_normal, optX_some, opX_move, opX_bin, opX_un, opX_call, opX_load, opX_store_int, opX_idxArr, bin_add_u64, bin_add_i64, bin_and_u64, bin_xor_u64, un_xor_u64, List.nil_append, List.append_nil, Int.ofNat_eq_natCast, Int.toNat_natCast, Nat.mul_one, Nat.add_zero, Nat.zero_add, heap_eta, true_and]
    refine ⟨by omega, by omega, by omega, by omega, by omega, by omega, by omega, by omega, by omega, by omega, by omega, by omega, by omega, by omega, by omega, by omega, by omega, by omega, by omega, by omega, 80 - (t + 1), by omega, t + 1, _, by omega, rfl, hk3.trans (Keep.set _ (.inr (by simp))), get_set_same _ _ _, rfl, ?_, rfl⟩
    rw [← hr, drop_getD (l := shaK) (t := t) (by rw [shaK_length]; omega), drop_getD (l := W) (t := t) (by omega)]
    simp only [rounds8, roundsN_step]
    rfl
  · have ht80 : t = 80 := by omega
    subst ht80
    have hvr : v = rounds8 shaK W hv := by
      rw [← hr, List.drop_of_length_le (by rw [shaK_length]; omega)]
      obtain ⟨xa, xb, xc, xd, xe, xf, xg, xh, rfl⟩ := list8_of hv8
      rfl
    rw [loopX_eq]
    have hvl : hv.length = v.length := by omega
    have hv0' : H3.get H.next = some (.cells true (wordsA hv)) := by
      rw [hk3.same _ (by omega) (by simp), hk2.same _ (by omega) (by simp), hv0]
    refine Wp.loop tab2_mono (fun m e' H' => ∃ i, i ≤ 8 ∧ m = 8 - i ∧ Keep [H.next] H3 H' ∧ H'.get H.next = some (.cells true (wordsA (sumTo hv v i))) ∧ e' = [(2, .ptr H.next 0), (4, .ptr (H.next + 1) 0), (5, .ptr (H.next + 2) 0), (93, .int .i64 i)]) ?_ 8 _ _ ⟨0, by omega, rfl, Keep.refl _ _, by rw [sumTo_zero]; exact hv0', rfl⟩
    rintro m e' H4 ⟨i, hi, rfl, hk4, hg4, rfl⟩
    simp -dsimp only [cX_seq, cX_reg, cX_dreg, cX_cond, cX_block, cX_exit, cX_skip, regX_cons, regX_nil, dregX_pure kd_move, dregX_pure (kd_idxArr _ _), dregX_read (kd_load _), evs, ev, Env.get, evX_some, Env.putO, Env.keep, outX_normal, outX_exit, optX_some, opX_move, opX_bin, opX_load, opX_idxArr, bin_lss, brX_decide, Int.ofNat_eq_natCast, Int.toNat_natCast, Nat.mul_one, Nat.add_zero, Nat.zero_add, heap_eta]
    have hn3 : H2.next ≤ H3.next := hk3.next
    refine ⟨fun hi8 => ?_, fun hge4 => ?_⟩
    · have el1 : H4.load none H.next i = some (.int .u64 (hv.getD i 0 : Nat)) := by
        rw [load_one hg4, words_at (by rw [sumTo_length hvl (by omega)]; omega), sumTo_getD hvl (by omega)]
      have el2 : H4.load none (H.next + 2) i = some (.int .u64 (v.getD i 0 : Nat)) := by
        rw [load_one (hk4.get (by omega) (by simp) hg3), words_at (by omega)]
      have ew1 : H4.write H.next i [.int .u64 (badd (hv.getD i 0) (v.getD i 0) : Nat)] = some (H4.set H.next (.cells true (wordsA (sumTo hv v (i + 1))))) := by
        rw [write_one hg4 (by rw [wordsA_length, sumTo_length hvl (by omega)]; omega), wordsA_set, sumTo_set hvl (by omega)]
      have e0 : IntKind.i64.wrap ((i : Int) + ((1 : Nat) : Int)) = ((i + 1 : Nat) : Int) := by rw [wrap_i64 (by omega) (by omega)]; omega
      simp -dsimp only [el1, el2, ew1, e0, cX_reg, regX_cons, regX_nil, dregX_nil, dregX_pure kd_move, dregX_pure (kd_bin _), dregX_pure (kd_idxArr _ _), dregX_read (kd_load _), dregX_eff, flush, watched_nil, watched_1_0, evs, ev, Env.get, evX_some, Env.putO, Env.keep, outX_normal, optX_some, opX_move, opX_bin, opX_load, opX_store_int, opX_idxArr, bin_add_u64, bin_add_i64, Int.ofNat_eq_natCast, Int.toNat_natCast, Nat.mul_one, Nat.zero_add, true_and]
      exact ⟨by omega, by omega, by omega, 8 - (i + 1), by omega, i + 1, by omega, rfl, hk4.trans (Keep.set _ (.inr (by simp))), get_set_same _ _ _, rfl⟩
    · have hi8 : i = 8 := by omega
      subst hi8
      rw [sumTo_all hvl (by omega)] at hg4
      have hzl' : (List.zipWith badd hv v).length = 8 := by simp; omega
      have el := load_whole (n := 8) hg4 (by rw [wordsA_length, hzl'])
      have hz4 : H4.get (H.next + 1) = some (.cells true Z) := by
        rw [hk4.same _ (by omega) (by simp), hk3.same _ (by omega) (by simp), hk2.same _ (by omega) (by simp), hz1]
      have ew : H4.write (H.next + 1) 0 (wordsA (List.zipWith badd hv v)) = _ := write_whole hz4 (by rw [wordsA_length, hzl', hzl])
      have el2 := load_whole (n := 8) (get_set_same H4 (H.next + 1) (.cells true (wordsA (List.zipWith badd hv v)))) (by rw [wordsA_length, hzl'])
      simp -dsimp only [el, ew, el2, cX_ret, regX_cons, regX_nil, evs, ev, Env.get, evX_some, Env.putO, Env.keep, outX_normal, retX_ret, resultsA, resultsL, resultOf, optX_some, opX_store_agg]
      refine ⟨⟨by rw [wordsA_length, hzl'], wordsA_one _⟩, ?_⟩
      have et : takeN hv l = List.zipWith badd hv v := by
        simp only [takeN, forceL_eq, hWW]
        rw [← hvr]
      rw [← et]
      refine h _ (((hk12.trans' hk3 (by simp)).trans' hk4 (by simp)).trans' (Keep.set (S := [H.next + 1]) _ (.inr (by simp))) (by simp))
end Go.AE

/-
  Copies of slices; a text filled up.
-/
set_option maxHeartbeats 4000000
namespace Go.AE
/-- slices.Clone. -/
def cloneF (e sz y : Nat) (z : List AV) : IFunc := ⟨8, [.t 2], (.seq (.reg [⟨(some 2), .move, [.c .nils], none⟩] [0])
  (.seq (.seq (.reg [⟨(some 3), .move, [.t 0], none⟩, ⟨(some 4), (.eq false .slice), [.t 3, .c .nils], none⟩] [0, 4])
  (.cond (.t 4) (.seq (.reg [⟨(some 2), .move, [.c .nils], none⟩] [2])
  .ret) .skip))
  (.seq (.reg [⟨(some 5), (.buildSlice e 0 z []), [], none⟩, ⟨(some 6), .move, [.t 0], none⟩, ⟨(some 7), (.append e sz y z false), [.t 5, .t 6], none⟩, ⟨(some 2), .move, [.t 7], none⟩] [2])
  .ret)))⟩
theorem clone_139 : ir139 = cloneF 5 1 1 [.int .u8 0] := rfl

theorem clone_w {T : Nat → Option FSpec} (hT : TMono T) {f e sz y : Nat} {z : List AV} (hf : T f = some (.code (cloneF e sz y z))) (hsz : 0 < sz) {s : AV} {n : Nat} {l : List AV} {H : Heap} {K : AV → Heap → Prop} (hs : Sl H e sz s n l) (hn : n * y ≤ 2 ^ 40)
    (h : ∀ s' H', Acc e sz .nils H H' s' n l → (s = .nils ∧ s' = .nils ∨ ∃ b o n' c, s' = .sl b o n' c e) → K s' H') : Wp T (.call f [s] H K) := by
  refine Wp.fn hT hf rfl ?_
  simp -dsimp only [cX_seq, cX_reg, regX_cons, regX_nil, evs, ev, Env.get, evX_some, Env.putO, Env.keep, paramEnv, outX_normal, opX_move, opX_eqv]
  rcases hs.isNil with ⟨rfl, he⟩ | ⟨⟨b, o, c, rfl⟩, he⟩
  · have hnl : n = 0 ∧ l = [] := by cases hs; exact ⟨rfl, rfl⟩
    obtain ⟨rfl, rfl⟩ := hnl
    simp -dsimp only [he, cX_seq, cX_reg, cX_cond, cX_ret, regX_cons, regX_nil, evs, ev, Env.get, evX_some, Env.putO, Env.keep, outX_normal, outX_ret, retX_ret, resultsA, resultsL, resultOf, optX_some, opX_move, brX_true]
    exact h _ _ (Acc.refl .nils) (.inl ⟨rfl, rfl⟩)
  · have hk := Keep.push [] H (.cells true [])
    have hs' := hs.keep hk (by simp)
    have hx : Ex (H.push (.cells true [])) e sz (.sl H.next 0 0 (some 0) e) 0 [] := .empty _ (get_push_new _ _) (by simp)
    have hf : fillA (zeros z 0) [] [] = some [] := rfl
    simp -dsimp only [he, opX_buildSlice, opX_append, hf, hs'.src, cX_seq, cX_reg, cX_cond, cX_skip, regX_cons, regX_nil, evs, ev, Env.get, evX_some, Env.putO, Env.keep, outX_normal, optX_some, opX_move, brX_false]
    have hacc : Acc e sz .nils H (H.push (.cells true [])) (.sl H.next 0 0 (some 0) e) 0 [] := ⟨hx, Keep.push _ _ _, by simp [sblk]⟩
    by_cases hn0 : n = 0
    · subst hn0
      have hl : l = [] := by have := hs.length; simpa using this
      subst hl
      have ha : appendA e sz y (.sl H.next 0 0 (some 0) e) 0 [] (H.push (.cells true [])) = some (.sl H.next 0 0 (some 0) e, H.push (.cells true [])) := by simp [appendA]
      simp -dsimp only [ha, cX_ret, regX_cons, regX_nil, evs, ev, Env.get, evX_some, Env.putO, Env.keep, outX_normal, retX_ret, resultsA, resultsL, resultOf, optX_some, opX_move]
      exact h _ _ hacc (.inr ⟨_, _, _, _, rfl⟩)
    · obtain ⟨s2, H2, h1, h2, h3, h4⟩ := hacc.app (y := y) (k := n) (x := l) (by omega) hs.length hsz (by rw [Nat.zero_add]; exact hn)
      simp -dsimp only [h1, cX_ret, regX_cons, regX_nil, evs, ev, Env.get, evX_some, Env.putO, Env.keep, outX_normal, retX_ret, resultsA, resultsL, resultOf, optX_some, opX_move]
      rw [Nat.zero_add, List.nil_append] at h2
      refine h _ _ h2 (.inr ?_)
      cases h2.ex with
      | nils => omega
      | own b n l _ _ _ => exact ⟨_, _, _, _, rfl⟩
      | empty => exact ⟨_, _, _, _, rfl⟩

/-- layings by contract, too. -/
def tab3 : Nat → Option FSpec := over (over tab2 261 (low tab.get 261)) 260 (low tab2 260)
theorem tab3_mono : TMono tab3 := (tab2_mono.over low_mono).over low_mono
theorem call3_lay (args : List AV) (H : Heap) (K : AV → Heap → Prop) : callX (Wp tab3) 261 args H K = callX (Wp tab.get) 261 args H K := by
  rw [call_spec tab3_mono (f := 261) (S := low tab.get 261) rfl, callX_eq]; rfl
theorem call3_take (args : List AV) (H : Heap) (K : AV → Heap → Prop) : callX (Wp tab3) 260 args H K = callX (Wp tab2) 260 args H K := by
  rw [call_spec tab3_mono (f := 260) (S := low tab2 260) rfl, callX_eq]; rfl

theorem rem_nat (n m : Nat) (h : m ≠ 0) : binA .rem (.int .i64 (n : Int)) (.int .i64 (m : Int)) = some (.int .i64 ((n % m : Nat) : Int)) := by
  have : ¬ ((m : Int) = 0) := by omega
  simp only [bin_rem, this, if_false, Int.ofNat_tmod]

theorem fillZ_eq {n k : Nat} (h : k ≤ fillZ n) : ((n + 1 + k) % 128 = 112) ↔ k = fillZ n := by
  unfold fillZ at *
  omega

theorem filled_w {s : AV} {n : Nat} {l : List Nat} {H : Heap} {K : AV → Heap → Prop} (hs : Sl H 5 1 s n (bytesA l)) (hn : n ≤ 2 ^ 39)
    (h : ∀ s' H' n', Acc 5 1 .nils H H' s' n' (bytesA (filledN l)) → K s' H') : Wp tab3 (.call 259 [s] H K) := by
  refine Wp.fn tab3_mono (show tab3 259 = some (.code ir259) from rfl) rfl ?_
  simp -dsimp only [cX_seq, cX_reg, regX_cons, regX_nil, evs, ev, Env.get, evX_some, Env.putO, Env.keep, paramEnv, outX_normal, opX_move, opX_call, List.nil_append, List.append_nil]
  have hll : l.length = n := by have := hs.length; simpa using this
  have hnl := Ex.nils (H := H) (e := 5) (sz := 1)
  rw [callX_eq]
  refine clone_w tab3_mono (show tab3 139 = some (.code (cloneF 5 1 1 [.int .u8 0])) from rfl) (by decide) hs (by omega) ?_
  intro s1 H1 h1 hs1
  have hf : fillA (zeros [.int .u8 ((0 : Nat) : Int)] 1) [(0, 1)] [.int .u8 ((128 : Nat) : Int)] = some [.int .u8 ((128 : Nat) : Int)] := rfl
  simp -dsimp only [opX_buildSlice, opX_append, fill_int, src_one, regX_cons, evs, ev, Env.get, evX_some, Env.putO, optX_some, Int.ofNat_eq_natCast]
  obtain ⟨s2, H2, g1, g2, g3⟩ := h1.app1 (y := 1) (.int .u8 ((128 : Nat) : Int)) (.cells true [.int .u8 ((128 : Nat) : Int)]) (by omega)
  simp -dsimp only [g1, cX_seq, cX_block, cX_loop, regX_cons, regX_nil, evs, ev, Env.get, evX_some, Env.putO, Env.keep, outX_normal, optX_some, opX_move]
  rw [loopX_eq]
  have hsl : ∀ H', Keep [] H H' → Sl H' 5 1 s n (bytesA l) := fun H' hk => hs.keep hk (by simp)
  refine Wp.loop tab3_mono (fun m e' H' => ∃ k s', k ≤ fillZ n ∧ m = fillZ n - k ∧ Acc 5 1 .nils H H' s' (n + 1 + k) (bytesA (l ++ 128 :: List.replicate k 0)) ∧ e' = [(0, s), (3, s')]) ?_ (fillZ n) _ _ ⟨0, s2, by omega, rfl, by simpa [bytesA] using g2, rfl⟩
  rintro m e' H3 ⟨k, s3, hk, rfl, ha, rfl⟩
  have hz : fillZ n < 128 := by unfold fillZ; omega
  simp -dsimp only [ha.ex.sl.len, rem_nat _ 128 (by decide), cX_seq, cX_reg, cX_cond, cX_block, cX_exit, cX_skip, regX_cons, regX_nil, evs, ev, Env.get, evX_some, Env.putO, Env.keep, outX_normal, outX_exit, optX_some, opX_move, opX_bin, bin_neq, brX_ndecide, Int.ofNat_eq_natCast]
  refine ⟨fun hne => ?_, fun heq => ?_⟩
  · have hk' : k = fillZ n := (fillZ_eq hk).1 (by omega)
    subst hk'
    have em : n % 18446744073709551616 = n := Nat.mod_eq_of_lt (by omega)
    have e1 : Nat.min 61 IntKind.u64.bits = 61 := rfl
    have e2 : Nat.min 3 64 = 3 := rfl
    simp -dsimp only [hs.len, em, e1, call3_lay, regX_cons, evs, ev, Env.get, evX_some, Env.putO, optX_some, opX_bin, opX_call, bin_shr_nat, opX_cvU64, List.nil_append, List.append_nil, Int.ofNat_eq_natCast]
    rw [callX_eq]
    refine lay_w ha.ex (by omega) ?_
    intro s4 H4 h4
    simp -dsimp only [hs.len, em, e2, call3_lay, regX_cons, evs, ev, Env.get, evX_some, Env.putO, optX_some, opX_move, opX_bin, opX_call, bin_shl_u64, opX_cvU64, List.nil_append, List.append_nil, Int.ofNat_eq_natCast]
    rw [callX_eq]
    refine lay_w h4.ex (by omega) ?_
    intro s5 H5 h5
    simp -dsimp only [cX_ret, regX_cons, regX_nil, evs, ev, Env.get, evX_some, Env.putO, Env.keep, outX_normal, retX_ret, resultsA, resultsL, resultOf, optX_some, opX_move]
    have := (ha.trans h4).trans h5
    refine h _ _ _ (?_ : Acc 5 1 .nils H H5 s5 (n + 1 + fillZ n + 8 + 8) (bytesA (filledN l)))
    have e : filledN l = l ++ 128 :: List.replicate (fillZ n) 0 ++ layN (n / 2 ^ 61) ++ layN (n * 2 ^ 3 % 18446744073709551616) := by
      simp [filledN, hll]
    rw [e]; exact this
  · have hk' : k < fillZ n := by
      have := fillZ_eq hk
      have : k ≠ fillZ n := fun e => heq (by have := this.2 e; omega)
      omega
    obtain ⟨s4, H4, k1, k2, k3⟩ := ha.app1 (y := 1) (.int .u8 ((0 : Nat) : Int)) (.cells true [.int .u8 ((0 : Nat) : Int)]) (by omega)
    have hf0 : fillA (zeros [.int .u8 ((0 : Nat) : Int)] 1) [(0, 1)] [.int .u8 ((0 : Nat) : Int)] = some [.int .u8 ((0 : Nat) : Int)] := rfl
    simp -dsimp only [opX_buildSlice, opX_append, hf0, src_one, k1, regX_cons, regX_nil, evs, ev, Env.get, evX_some, Env.putO, Env.keep, outX_normal, optX_some, opX_move, Int.ofNat_eq_natCast]
    refine ⟨fillZ n - (k + 1), by omega, k + 1, s4, by omega, rfl, ?_, rfl⟩
    rw [List.replicate_succ', ← List.cons_append, ← List.append_assoc, bytesA_append]
    exact k2
end Go.AE
