/-
  A text, block by block.
-/
import Derived.Test.YtoinombhonbibaaGreatDoorAeV3
import Derived.Test.YtoinombhonbibaaGreatDoorAeS1
import Derived.KernelRfl
set_option linter.unusedSimpArgs false
set_option linter.unusedVariables false
set_option linter.unusedSectionVars false
set_option maxHeartbeats 4000000
namespace Go.AE
theorem chunk_w {T : Nat → Option FSpec} (hT : TMono T) (hf : T 314 = some (.code ir314)) (J : Nat → Heap → Prop) {l B B1 b o n q : Nat} {K : AV → Heap → Prop} (hn : n = 128 * q) (hn2 : n < 2 ^ 60)
    (hB : ∀ j H', J j H' → ∃ w w', H'.get B = some (.cells w [.sl b o n none 5]) ∧ H'.get B1 = some (.cells w' [.int .i64 ((128 : Nat) : Int)]))
    (hJ : ∀ j H' (K' : AV → Heap → Prop), j < q → J j H' → (∀ H'', J (j + 1) H'' → K' (.bool true) H'') → roundWp (Wp T) l [.sl b (o + 128 * j) 128 (some 128) 5] H' K')
    {H : Heap} (h0 : J 0 H) (h : ∀ H', J q H' → K (.tup []) H') : Wp T (.call 314 [.yield l, .ptr B 0, .ptr B1 0] H K) := by
  refine Wp.fn hT (hf : T 314 = some (.code ir314)) rfl ?_
  simp -dsimp only [cX_seq, cX_reg, cX_block, cX_loop, regX_cons, regX_nil, evs, ev, Env.get, evX_some, Env.putO, Env.keep, paramEnv, outX_normal, opX_move, Int.ofNat_eq_natCast, Nat.zero_add]
  rw [loopX_eq]
  refine Wp.loop hT (fun m e' H' => ∃ j, j ≤ q ∧ m = q - j ∧ J j H' ∧ e' = [(0, .yield l), (1, .ptr B 0), (2, .ptr B1 0), (4, .int .i64 ((128 * j : Nat) : Int))]) ?_ q _ _ ⟨0, by omega, rfl, h0, rfl⟩
  rintro m e' H1 ⟨j, hj, rfl, hJ1, rfl⟩
  obtain ⟨w, w', g1, g2⟩ := hB _ _ hJ1
  have e1 : H1.load none B 0 = some (.sl b o n none 5) := by rw [load_one g1, cell1_zero]
  have e2 : H1.load none B1 0 = some (.int .i64 ((128 : Nat) : Int)) := by rw [load_one g2, cell1_zero]
  simp -dsimp only [e1, e2, cX_seq, cX_reg, cX_dreg, cX_cond, cX_block, cX_exit, cX_skip, regX_cons, regX_nil, dregX_pure kd_move, dregX_pure (kd_slice _ _ _ _), dregX_read (kd_load _), evs, ev, Env.get, evX_some, Env.putO, Env.keep, outX_normal, outX_exit, retX_normal, resultsA, resultsL, optX_some, opX_move, opX_bin, opX_load, opX_len_sl, bin_lss, brX_decide, Nat.add_zero, heap_eta]
  refine ⟨fun hlt => ?_, fun hge => ?_⟩
  · have hjq : j < q := by omega
    have es : sliceA (.sl 1 5) true false false (.sl b o n none 5) [.int .i64 ((128 * j : Nat) : Int)] = some (.sl b (o + 128 * j * 1) (n - 128 * j) none 5) := slice_lo (by omega)
    have em : (if ((n - 128 * j : Nat) : Int) < ((128 : Nat) : Int) then ((n - 128 * j : Nat) : Int) else ((128 : Nat) : Int)) = ((128 : Nat) : Int) := by
      rw [if_neg (by omega)]
    have ea : IntKind.i64.wrap (((128 * j : Nat) : Int) + ((128 : Nat) : Int)) = ((128 * j + 128 : Nat) : Int) := by rw [wrap_i64 (by omega) (by omega)]; omega
    have em2 : sliceA (.sl 1 5) true true true (.sl b o n none 5) [.int .i64 ((128 * j : Nat) : Int), .int .i64 ((128 * j + 128 : Nat) : Int), .int .i64 ((128 * j + 128 : Nat) : Int)] = some (.sl b (o + 128 * j * 1) (128 * j + 128 - 128 * j) (some (128 * j + 128 - 128 * j)) 5) :=
      slice_max (by omega) (by omega) (by simp; omega)
    have e3 : 128 * j + 128 - 128 * j = 128 := by omega
    simp -dsimp only [e1, opX_slice, es, opX_min, em, ea, em2, e3, opX_yield, cX_seq, cX_reg, regX_cons, dregX_nil, dregX_pure kd_move, dregX_pure kd_lenSl, dregX_pure kd_min, flush, evs, ev, Env.get, evX_some, Env.putO, Env.keep, outX_normal, optX_some, opX_move, opX_bin, opX_un, opX_load, opX_len_sl, bin_add_i64, Nat.mul_one]
    refine hJ j H1 _ hjq hJ1 ?_
    intro H2 hJ2
    obtain ⟨w2, w2', k1, k2⟩ := hB _ _ hJ2
    have e4 : H2.load none B1 0 = some (.int .i64 ((128 : Nat) : Int)) := by rw [load_one k2, cell1_zero]
    have bt : (!true) = false := rfl
    simp -dsimp only [e4, ea, bt, cX_reg, cX_cond, cX_skip, regX_cons, regX_nil, evs, ev, Env.get, evX_some, Env.putO, Env.keep, outX_normal, optX_some, opX_move, opX_bin, opX_load, bin_add_i64, un_not, brX_false]
    exact ⟨q - (j + 1), by omega, j + 1, by omega, rfl, hJ2, by rw [Nat.mul_succ]⟩
  · have hjq : j = q := by omega
    subst hjq
    exact h H1 hJ1

theorem filledN_length (l : List Nat) : ∃ q, (filledN l).length = 128 * q ∧ q ≤ l.length / 128 + 2 := by
  refine ⟨(l.length + 17 + fillZ l.length) / 128, ?_, ?_⟩
  · simp [filledN, layN_length, fillZ]; omega
  · simp only [fillZ]; omega
theorem blocksN_nil (n : Nat) (h : List Nat) : blocksN n h [] = h := by cases n <;> rfl
theorem blocksN_step {n : Nat} {h b : List Nat} (hb : b ≠ []) : blocksN (n + 1) h b = blocksN n (takeN h (b.take 128)) (b.drop 128) := by
  cases b with
  | nil => exact absurd rfl hb
  | cons x r => simp only [blocksN, forceL_eq]
theorem takeN_length {h b : List Nat} (hh : h.length = 8) : (takeN h b).length = 8 := by
  simp only [takeN, forceL_eq, List.length_zipWith, hh]
  have : ∀ (ks ws : List Nat) (a b c d e f g h : Nat), (roundsN ks ws a b c d e f g h).length = 8 := by
    intro ks
    induction ks with
    | nil => intro ws a b c d e f g h; cases ws <;> rfl
    | cons k ks ih =>
      intro ws a b c d e f g h
      cases ws with
      | nil => rfl
      | cons w ws => rw [roundsN_step]; exact ih _ _ _ _ _ _ _ _ _
  obtain ⟨xa, xb, xc, xd, xe, xf, xg, xh, rfl⟩ := list8_of hh
  simp only [rounds8, this, Nat.min_self]
/-- the state behind so many blocks. -/
def stateN (h b : List Nat) (j : Nat) : List Nat := blocksN j h (b.take (128 * j))
theorem blocksN_snoc : ∀ (j : Nat) (h b : List Nat), b.length = 128 * (j + 1) → blocksN (j + 1) h b = takeN (blocksN j h (b.take (128 * j))) (b.drop (128 * j))
  | 0, h, b, hb => by
    have hne : b ≠ [] := by rintro rfl; simp at hb
    rw [blocksN_step hne]
    simp only [Nat.mul_zero, List.take_zero, List.drop_zero, blocksN_nil]
    rw [List.drop_of_length_le (by omega), blocksN_nil, List.take_of_length_le (by omega)]
  | j + 1, h, b, hb => by
    have hne : b ≠ [] := by rintro rfl; simp at hb
    rw [blocksN_step hne, blocksN_snoc j _ _ (by simp; omega)]
    have hne2 : b.take (128 * (j + 1)) ≠ [] := by
      intro he; have := congrArg List.length he; rw [List.length_take, List.length_nil] at this; omega
    have e1 : (b.take (128 * (j + 1))).take 128 = b.take 128 := by rw [List.take_take, Nat.min_eq_left (by omega)]
    have e2 : (b.take (128 * (j + 1))).drop 128 = (b.drop 128).take (128 * j) := by
      rw [List.drop_take, show 128 * (j + 1) - 128 = 128 * j by omega]
    have e3 : (b.drop 128).drop (128 * j) = b.drop (128 * (j + 1)) := by
      rw [List.drop_drop, show 128 + 128 * j = 128 * (j + 1) by omega]
    rw [blocksN_step hne2, e1, e2, e3]
theorem blocksN_more : ∀ (n m : Nat) (h b : List Nat), b.length ≤ 128 * n → n ≤ m → blocksN m h b = blocksN n h b
  | 0, m, h, b, hb, _ => by
    have : b = [] := List.length_eq_zero_iff.1 (by omega)
    subst this
    rw [blocksN_nil, blocksN_nil]
  | n + 1, m, h, b, hb, hm => by
    obtain ⟨m', rfl⟩ : ∃ m', m = m' + 1 := ⟨m - 1, by omega⟩
    by_cases hne : b = []
    · subst hne; rw [blocksN_nil, blocksN_nil]
    · rw [blocksN_step hne, blocksN_step hne]
      exact blocksN_more n m' _ _ (by simp; omega) (by omega)
theorem blocksN_length : ∀ (n : Nat) {h : List Nat} (b : List Nat), h.length = 8 → (blocksN n h b).length = 8
  | 0, h, b, hh => hh
  | n + 1, h, b, hh => by
    by_cases hne : b = []
    · subst hne; rw [blocksN_nil]; exact hh
    · rw [blocksN_step hne]; exact blocksN_length n _ (takeN_length hh)
theorem stateN_succ {h b : List Nat} {j : Nat} (hb : 128 * (j + 1) ≤ b.length) : stateN h b (j + 1) = takeN (stateN h b j) ((b.drop (128 * j)).take 128) := by
  unfold stateN
  rw [blocksN_snoc j h _ (by simp; omega), List.take_take, Nat.min_eq_left (by omega), List.drop_take, show 128 * (j + 1) - 128 * j = 128 by omega]
theorem digestN_length {h b : List Nat} (hh : h.length = 8) : (digestN h b).length = 8 := blocksN_length _ _ hh

/-- texts filled up by contract, too. -/
def tab4 : Nat → Option FSpec := over tab3 259 (low tab3 259)
theorem tab4_mono : TMono tab4 := tab3_mono.over low_mono
theorem call4_filled (args : List AV) (H : Heap) (K : AV → Heap → Prop) : callX (Wp tab4) 259 args H K = callX (Wp tab3) 259 args H K := by
  rw [call_spec tab4_mono (f := 259) (S := low tab3 259) rfl, callX_eq]; rfl
theorem call4_lay (args : List AV) (H : Heap) (K : AV → Heap → Prop) : callX (Wp tab4) 261 args H K = callX (Wp tab.get) 261 args H K := by
  rw [call_spec tab4_mono (f := 261) (S := low tab.get 261) rfl, callX_eq]; rfl
theorem call4_take (args : List AV) (H : Heap) (K : AV → Heap → Prop) : callX (Wp tab4) 260 args H K = callX (Wp tab2) 260 args H K := by
  rw [call_spec tab4_mono (f := 260) (S := low tab2 260) rfl, callX_eq]; rfl

theorem mkChunk_w {b o n e : Nat} {H : Heap} {K : AV → Heap → Prop} (h : K (.fn 314 [] [.ptr H.next 0, .ptr (H.next + 1) 0]) ((H.push (.cells true [.sl b o n none e])).push (.cells true [.int .i64 ((128 : Nat) : Int)]))) :
    Wp tab4 (.call 258 [.sl b o n none e, .int .i64 ((128 : Nat) : Int)] H K) := by
  refine Wp.fn tab4_mono (show tab4 258 = some (.code ir258) from rfl) rfl ?_
  have e1 : ((H.push (.cells true [.sl b o n none e])).push (.cells true [.int .i64 ((128 : Nat) : Int)])).load none (H.next + 1) 0 = some (.int .i64 ((128 : Nat) : Int)) := by
    rw [load_one (get_push_at (H := H.push _) (by simp)), cell1_zero]
  simp -dsimp only [e1, cX_seq, cX_reg, cX_cond, cX_ret, cX_skip, regX_cons, regX_nil, evs, ev, Env.get, evX_some, Env.putO, Env.keep, paramEnv, outX_normal, retX_ret, resultsA, resultsL, resultOf, optX_some, opX_move, opX_bin, opX_load, opX_box_int, opX_box_sl, opX_mkFunc, bin_lss, brX_decide, Int.ofNat_eq_natCast, Nat.zero_add, Heap.next_push]
  refine ⟨fun h => by omega, fun _ => ?_⟩
  exact h

theorem digest_w {hv : List Nat} {s : AV} {n : Nat} {l : List Nat} {H : Heap} {K : AV → Heap → Prop} (hG : Glob H) (hh : hv.length = 8) (hs : Sl H 5 1 s n (bytesA l)) (hn : n ≤ 2 ^ 39)
    (h : ∀ H', Keep [] H H' → K (.agg (bytesA (bytesOfN (digestN hv l)))) H') : Wp tab4 (.call 188 [.agg (wordsA hv), s] H K) := by
  refine Wp.fn tab4_mono (show tab4 188 = some (.code ir188) from rfl) rfl ?_
  simp -dsimp only [call4_filled, cX_seq, cX_reg, regX_cons, regX_nil, evs, ev, Env.get, evX_some, Env.putO, Env.keep, paramEnv, outX_normal, opX_move, opX_call, opX_alloc, opX_box_agg, List.nil_append, List.append_nil, Int.ofNat_eq_natCast, Nat.zero_add, Heap.next_push]
  refine ⟨wordsA_one _, ?_⟩
  have hll : l.length = n := by have := hs.length; simpa using this
  generalize hZ : (AObj.cells true [AV.int IntKind.u8 ((0 : Nat) : Int), _, _, _, _, _, _, _, _, _, _, _, _, _, _, _, _, _, _, _, _, _, _, _, _, _, _, _, _, _, _, _, _, _, _, _, _, _, _, _, _, _, _, _, _, _, _, _, _, _, _, _, _, _, _, _, _, _, _, _, _, _, _, _]) = Z
  have hZ' : ∃ z, Z = .cells true z ∧ z.length = 64 := ⟨_, hZ.symm, rfl⟩
  clear hZ
  obtain ⟨z, rfl, hz⟩ := hZ'
  generalize hH1 : (H.push (.cells true (wordsA hv))).push (.cells true z) = H1
  have hk1 : Keep [] H H1 := by rw [← hH1]; exact (Keep.push _ _ _).trans (Keep.push _ _ _)
  have hn1 : H1.next = H.next + 2 := by rw [← hH1]; simp
  have g1 : H1.get H.next = some (.cells true (wordsA hv)) := by rw [← hH1, get_push_old (by simp), get_push_new]
  have g2 : H1.get (H.next + 1) = some (.cells true z) := by rw [← hH1]; exact get_push_at rfl
  rw [callX_eq]
  refine filled_w (hs.keep hk1 (by simp)) hn ?_
  intro s1 H2 n' ha
  have hne : filledN l ≠ [] := by simp [filledN]
  obtain ⟨q, hq, hq2⟩ := filledN_length l
  have hlen := ha.ex.length
  rw [bytesA_length] at hlen
  obtain ⟨b, rfl, gb, gl, gn⟩ := ha.ex.is_own (by rw [bytesA_length]; exact fun e => hne (List.length_eq_zero_iff.1 e))
  simp -dsimp only [regX_cons, evs, ev, Env.get, evX_some, Env.putO, opX_call, List.nil_append, List.append_nil, Int.ofNat_eq_natCast]
  rw [callX_eq]
  refine mkChunk_w ?_
  simp -dsimp only [cX_block, cX_rangeFunc, regX_nil, Env.get, Env.putO, Env.keep, outX_normal]
  have hb1 : H1.next ≤ b := by have := ha.fresh b (by simp [sblk]); simpa [sblk] using this
  have hk2 : Keep [] H1 H2 := ha.keep
  generalize hF : filledN l = F at *
  rw [loopX_eq]
  refine Wp.range tab4_mono rfl ?_
  generalize hH3 : (H2.push (AObj.cells true [AV.sl b 0 n' none 5])).push (AObj.cells true [AV.int IntKind.i64 ((128 : Nat) : Int)]) = H3
  have hk3 : Keep [] H2 H3 := by rw [← hH3]; exact (Keep.push _ _ _).trans (Keep.push _ _ _)
  have hn3 : H3.next = H2.next + 2 := by rw [← hH3]; simp
  have gB : H3.get H2.next = some (.cells true [.sl b 0 n' none 5]) := by rw [← hH3, get_push_old (by simp), get_push_new]
  have gB1 : H3.get (H2.next + 1) = some (.cells true [.int .i64 ((128 : Nat) : Int)]) := by rw [← hH3]; exact get_push_at rfl
  generalize hLP : (AObj.loop [(2, AV.ptr H.next 0), (4, AV.ptr (H.next + 1) 0), (11, AV.fn 314 [] [AV.ptr H2.next 0, AV.ptr (H2.next + 1) 0])] [12] _ _ LoopSt.ready none) = LP
  have hn2 := hk2.next
  have hF128 : F.length = 128 * q := hq
  have hn'q : n' = 128 * q := by omega
  refine chunk_w tab4_mono (show tab4 314 = some (.code ir314) from rfl) (fun j H' => Keep [H.next, H3.next] (H3.push LP) H' ∧ H'.get H.next = some (.cells true (wordsA (stateN hv F j))) ∧ H'.get H3.next = some LP) (b := b) (o := 0) (n := n') (q := q) hn'q (by omega) ?_ ?_ ?_ ?_
  · rintro j H' ⟨hk, _⟩
    exact ⟨true, true, hk.get (by simp; omega) (by simp; omega) ((get_push_old (by omega)).trans gB), hk.get (by simp; omega) (by simp; omega) ((get_push_old (by omega)).trans gB1)⟩
  · rintro j H' K' hj ⟨hk, hst, hlp⟩ hK'
    rw [← hLP] at hlp
    refine round_w tab4_mono hlp rfl ?_
    simp -dsimp only [cX_reg, cX_block, regX_cons, regX_nil, evs, ev, Env.get, evX_some, Env.putO, Env.keep, bindPs, Env.put, outX_normal, opX_move, opX_load, Nat.zero_add]
    refine ⟨_, _, _, _, _, hlp, ?_⟩
    have hsl : (stateN hv F j).length = 8 := blocksN_length _ _ hh
    have hst1 : ∀ o, (H'.set H3.next o).get H.next = some (.cells true (wordsA (stateN hv F j))) := fun o => by rw [get_set_ne (by omega)]; exact hst
    have el : ∀ o, (H'.set H3.next o).load (some 8) H.next 0 = some (.agg (wordsA (stateN hv F j))) := fun o => load_whole (hst1 o) (by rw [wordsA_length, hsl])
    simp -dsimp only [el, call4_take, regX_cons, evs, ev, Env.get, evX_some, Env.putO, optX_some, opX_move, opX_call, List.nil_append, List.append_nil]
    have h0n := hG.next
    have hG' : ∀ o, Glob (H'.set H3.next o) := fun o =>
      ((((((hG.keep hk1 (by simp) (by simp)).keep hk2 (by simp) (by simp)).keep hk3 (by simp) (by simp)).keep (Keep.push [] H3 LP) (by simp) (by simp)).keep hk (by simp; omega) (by simp; omega)).keep (Keep.set (S := [H3.next]) o (.inr (by simp))) (by simp; omega) (by simp; omega))
    have hb' : ∀ o, (H'.set H3.next o).get b = some (.cells true (bytesA F)) := fun o => by
      rw [get_set_ne (by omega), hk.same b (by simp; omega) (by simp; omega), get_push_old (by omega), hk3.same b gn (by simp)]; exact gb
    have hnx := hk.next
    rw [Heap.next_push] at hnx
    rw [callX_eq]
    refine take_w (hG' _) hsl (hb' _) (by simp; omega) rfl rfl (by omega) ?_
    intro H5 hk5
    have hP5 : H5.get H.next = some (.cells true (wordsA (stateN hv F j))) := hk5.get (by simp; omega) (by simp) (hst1 _)
    rw [← stateN_succ (by omega)]
    have hsl2 : (stateN hv F (j + 1)).length = 8 := blocksN_length _ _ hh
    have ew : H5.write H.next 0 (wordsA (stateN hv F (j + 1))) = _ := write_whole hP5 (by rw [wordsA_length, wordsA_length, hsl, hsl2])
    simp -dsimp only [ew, regX_cons, regX_nil, evs, ev, Env.get, evX_some, Env.putO, outX_normal, optX_some, opX_store_agg]
    refine ⟨⟨by rw [wordsA_length, hsl2], wordsA_one _⟩, _, _, _, _, _, (get_set_ne (by omega)).trans (hk5.get (by simp; omega) (by simp) (get_set_same _ _ _)), hK' _ ⟨?_, ?_, ?_⟩⟩
    · exact (((hk.trans (Keep.set _ (.inr (by simp)))).trans' hk5 (by simp)).trans (Keep.set _ (.inr (by simp)))).trans (Keep.set _ (.inr (by simp)))
    · rw [get_set_ne (by omega), get_set_same]
    · rw [get_set_same, ← hLP]
  · refine ⟨Keep.refl _ _, ?_, get_push_new _ _⟩
    rw [get_push_old (by omega), hk3.same _ (by omega) (by simp), hk2.same _ (by omega) (by simp), g1]
    simp [stateN, blocksN_nil]
  · rintro H' ⟨hk, hst, hlp⟩
    rw [← hLP] at hlp
    refine ⟨_, _, _, _, _, _, hlp, .inl rfl, ?_⟩
    have hD : stateN hv F q = digestN hv l := by
      unfold stateN digestN
      rw [hF, List.take_of_length_le (by omega), blocksN_more q (l.length / 128 + 2) _ _ (by omega) hq2]
    rw [hD] at hst
    have hsl : (digestN hv l).length = 8 := digestN_length hh
    generalize hDD : digestN hv l = D at *
    have e0 : (none : Option Out).getD .normal = .normal := rfl
    have hst' : (H'.kill H3.next).get H.next = some (.cells true (wordsA D)) := by rw [get_kill_ne (by omega)]; exact hst
    have el := load_whole (n := 8) hst' (by rw [wordsA_length, hsl])
    simp -dsimp only [e0, el, cX_seq, cX_reg, cX_block, cX_loop, regX_cons, regX_nil, evs, ev, Env.get, evX_some, Env.putO, Env.keep, outX_normal, optX_some, opX_move, opX_load, Int.ofNat_eq_natCast]
    rw [loopX_eq]
    have hnx := hk.next
    rw [Heap.next_push] at hnx
    refine Wp.loop tab4_mono (fun m e' H5 => ∃ i s5, i ≤ 8 ∧ m = 8 - i ∧ Acc 5 1 .nils (H'.kill H3.next) H5 s5 (8 * i) (bytesA (bytesOfN (D.take i))) ∧ e' = [(4, .ptr (H.next + 1) 0), (6, s5), (16, .agg (wordsA D)), (17, .int .i64 i)]) ?_ 8 _ _ ⟨0, .nils, by omega, rfl, Acc.refl .nils, rfl⟩
    rintro m e' H5 ⟨i, s5, hi, rfl, ha5, rfl⟩
    simp -dsimp only [cX_seq, cX_reg, cX_cond, cX_block, cX_exit, cX_skip, regX_cons, regX_nil, evs, ev, Env.get, evX_some, Env.putO, Env.keep, outX_normal, outX_exit, optX_some, opX_move, opX_bin, opX_idxVal, bin_lss, brX_decide, Int.ofNat_eq_natCast, Int.toNat_natCast, Nat.mul_one]
    refine ⟨fun hi8 => ?_, fun hge => ?_⟩
    · have ec : cell1 (wordsA D) i = some (.int .u64 (D.getD i 0 : Nat)) := words_at (by omega)
      simp -dsimp only [ec, call4_lay, cX_reg, regX_cons, regX_nil, evs, ev, Env.get, evX_some, Env.putO, Env.keep, outX_normal, optX_some, opX_move, opX_call, List.nil_append, List.append_nil]
      refine ⟨⟨by omega, by omega⟩, ?_⟩
      rw [callX_eq]
      refine lay_w ha5.ex (by omega) ?_
      intro s6 H6 ha6
      have ei : IntKind.i64.wrap ((i : Int) + ((1 : Nat) : Int)) = ((i + 1 : Nat) : Int) := by rw [wrap_i64 (by omega) (by omega)]; omega
      simp -dsimp only [ei, cX_reg, regX_cons, regX_nil, evs, ev, Env.get, evX_some, Env.putO, Env.keep, outX_normal, optX_some, opX_move, opX_bin, bin_add_i64, Int.ofNat_eq_natCast]
      refine ⟨8 - (i + 1), by omega, i + 1, s6, by omega, rfl, ?_, rfl⟩
      have ed : bytesOfN (D.take (i + 1)) = bytesOfN (D.take i) ++ layN (D.getD i 0) := by
        have hil : i < D.length := by omega
        rw [take_snoc hil, bytesOfN, bytesOfN, List.map_append, List.flatten_append, List.getD_eq_getElem?_getD, List.getElem?_eq_getElem hil]
        simp
      rw [ed]
      exact ha5.trans ha6
    · have hi8 : i = 8 := by omega
      subst hi8
      rw [List.take_of_length_le (by omega)] at ha5
      have hbl : (bytesOfN D).length = 64 := by
        have := ha5.ex.length
        simpa using this
      obtain ⟨b5, rfl, gb5, _, gn5⟩ := ha5.ex.is_own (by rw [bytesA_length]; omega)
      have el5 := load_whole (n := 64) gb5 (by rw [bytesA_length, hbl])
      have hz5 : H5.get (H.next + 1) = some (.cells true z) := by
        rw [ha5.keep.same _ (by simp; omega) (by simp [sblk]), get_kill_ne (by omega), hk.same _ (by simp; omega) (by simp; omega), get_push_old (by omega), hk3.same _ (by omega) (by simp), hk2.same _ (by omega) (by simp), g2]
      have ew5 : H5.write (H.next + 1) 0 (bytesA (bytesOfN D)) = _ := write_whole hz5 (by rw [bytesA_length, hbl, hz])
      have el6 := load_whole (n := 64) (get_set_same H5 (H.next + 1) (.cells true (bytesA (bytesOfN D)))) (by rw [bytesA_length, hbl])
      simp -dsimp only [opX_s2a, el5, ew5, el6, cX_ret, regX_cons, regX_nil, evs, ev, Env.get, evX_some, Env.putO, Env.keep, outX_normal, retX_ret, resultsA, resultsL, resultOf, optX_some, opX_load, opX_store_agg]
      refine ⟨by omega, ⟨by rw [bytesA_length, hbl], bytesA_one _⟩, h _ ?_⟩
      have k1 := (((hk1.trans hk2).trans hk3).trans (Keep.push [] H3 LP)).trans' hk (by simp; omega)
      have k2 : Keep [] H (H'.kill H3.next) := k1.trans' (Keep.kill (S := [H3.next]) (.inr (by simp))) (by simp; omega)
      exact (k2.trans ha5.keep).trans' (Keep.set (S := [H.next + 1]) _ (.inr (by simp))) (by simp)
end Go.AE

/-
  SHA-512/256.
-/
set_option maxHeartbeats 4000000
namespace Go.AE
set_option maxRecDepth 100000 in
theorem shaFirst_eq : shaFirst = shaBegin := by kernel_rfl

/-- texts' digests by contract, too. -/
def tab5 : Nat → Option FSpec := over tab4 188 (low tab4 188)
theorem tab5_mono : TMono tab5 := tab4_mono.over low_mono
theorem call5_digest (args : List AV) (H : Heap) (K : AV → Heap → Prop) : callX (Wp tab5) 188 args H K = callX (Wp tab4) 188 args H K := by
  rw [call_spec tab5_mono (f := 188) (S := low tab4 188) rfl, callX_eq]; rfl
theorem call5_word (args : List AV) (H : Heap) (K : AV → Heap → Prop) : callX (Wp tab5) 262 args H K = callX (Wp tab.get) 262 args H K := by
  rw [call_spec tab5_mono (f := 262) (S := low tab.get 262) rfl, callX_eq]; rfl

def xorTo (i : Nat) : List Nat := (shaH.take i).map (fun w => bxor w 11936128518282651045) ++ shaH.drop i
theorem xorTo_length (i : Nat) : (xorTo i).length = 8 := by
  have : shaH.length = 8 := rfl
  simp [xorTo]; omega

theorem words_w {H : Heap} {K : AV → Heap → Prop} (hG : Glob H) (h : ∀ H', Keep [] H H' → K (.agg (wordsA shaBegin)) H') : Wp tab5 (.call 189 [] H K) := by
  refine Wp.fn tab5_mono (show tab5 189 = some (.code ir189) from rfl) rfl ?_
  have h0 := hG.next
  have el0 : ∀ o, (H.push o).load (some 8) 0 0 = some (.agg (wordsA shaH)) := fun o => load_whole (by rw [get_push_old (by omega)]; exact hG.first) rfl
  simp -dsimp only [el0, cX_seq, cX_reg, regX_cons, regX_nil, evs, ev, Env.get, evX_some, Env.putO, Env.keep, paramEnv, outX_normal, optX_some, opX_load, opX_store_agg, opX_alloc, Int.ofNat_eq_natCast, Heap.next_push]
  generalize hz : [AV.int IntKind.u64 ((0 : Nat) : Int), AV.int IntKind.u64 ((0 : Nat) : Int), AV.int IntKind.u64 ((0 : Nat) : Int), AV.int IntKind.u64 ((0 : Nat) : Int), AV.int IntKind.u64 ((0 : Nat) : Int), AV.int IntKind.u64 ((0 : Nat) : Int), AV.int IntKind.u64 ((0 : Nat) : Int), AV.int IntKind.u64 ((0 : Nat) : Int)] = Z
  have hzl : Z.length = 8 := by rw [← hz]; rfl
  have hll : shaH.length = 8 := rfl
  have ew0 : ((H.push (.cells true Z)).push (.cells true Z)).write (H.next + 1) 0 (wordsA shaH) = _ := write_whole (get_push_at (H := H.push _) (by simp)) (by rw [hzl, wordsA_length, hll])
  simp -dsimp only [ew0, cX_seq, cX_reg, cX_block, cX_loop, regX_cons, regX_nil, evs, ev, Env.get, evX_some, Env.putO, Env.keep, outX_normal, optX_some, opX_move, Int.ofNat_eq_natCast]
  refine ⟨⟨by rw [wordsA_length, hll], wordsA_one _⟩, ?_⟩
  generalize hH1 : ((H.push (.cells true Z)).push (.cells true Z)).set (H.next + 1) (.cells true (wordsA shaH)) = H1
  have hk1 : Keep [] H H1 := by
    rw [← hH1]; exact ((Keep.push _ _ _).trans (Keep.push _ _ _)).trans' (Keep.set (S := [H.next + 1]) _ (.inr (by simp))) (by simp)
  have hn1 : H1.next = H.next + 2 := by rw [← hH1]; simp
  have g0 : H1.get H.next = some (.cells true Z) := by rw [← hH1, get_set_ne (by omega), get_push_old (by simp), get_push_new]
  have g1 : H1.get (H.next + 1) = some (.cells true (wordsA shaH)) := by rw [← hH1]; exact get_set_same _ _ _
  rw [loopX_eq]
  refine Wp.loop tab5_mono (fun m e' H' => ∃ i, i ≤ 8 ∧ m = 8 - i ∧ Keep [H.next + 1] H1 H' ∧ H'.get (H.next + 1) = some (.cells true (wordsA (xorTo i))) ∧ e' = [(0, .ptr H.next 0), (1, .ptr (H.next + 1) 0), (6, .int .i64 i)]) ?_ 8 _ _ ⟨0, by omega, rfl, Keep.refl _ _, g1, rfl⟩
  rintro m e' H2 ⟨i, hi, rfl, hk2, hg2, rfl⟩
  simp -dsimp only [cX_seq, cX_reg, cX_cond, cX_block, cX_exit, cX_skip, regX_cons, regX_nil, evs, ev, Env.get, evX_some, Env.putO, Env.keep, outX_normal, outX_exit, optX_some, opX_move, opX_bin, opX_load, opX_idxArr, bin_lss, brX_decide, Int.ofNat_eq_natCast, Int.toNat_natCast, Nat.mul_one, Nat.zero_add]
  refine ⟨fun hi8 => ?_, fun hge => ?_⟩
  · have ei : IntKind.i64.wrap ((i : Int) + ((1 : Nat) : Int)) = ((i + 1 : Nat) : Int) := by rw [wrap_i64 (by omega) (by omega)]; omega
    have el : H2.load none (H.next + 1) i = some (.int .u64 ((xorTo i).getD i 0 : Nat)) := by rw [load_one hg2, words_at (by rw [xorTo_length]; omega)]
    have ew : ∀ w : Nat, H2.write (H.next + 1) i [.int .u64 (w : Int)] = some (H2.set (H.next + 1) (.cells true (wordsA ((xorTo i).set i w)))) := fun w => by
      rw [write_one hg2 (by rw [wordsA_length, xorTo_length]; omega), wordsA_set]
    simp -dsimp only [ei, el, ew, cX_reg, regX_cons, regX_nil, evs, ev, Env.get, evX_some, Env.putO, Env.keep, outX_normal, optX_some, opX_move, opX_bin, opX_store_int, opX_idxArr, bin_add_i64, bin_xor_u64, Int.ofNat_eq_natCast, Int.toNat_natCast, Nat.mul_one, Nat.zero_add]
    refine ⟨by omega, by omega, 8 - (i + 1), by omega, i + 1, by omega, rfl, hk2.trans (Keep.set _ (.inr (by simp))), ?_, rfl⟩
    rw [get_set_same]
    have : (xorTo i).set i (bxor ((xorTo i).getD i 0) 11936128518282651045) = xorTo (i + 1) := by
      have h8 : i < 8 := by omega
      match i, h8 with
      | 0, _ => rfl
      | 1, _ => rfl
      | 2, _ => rfl
      | 3, _ => rfl
      | 4, _ => rfl
      | 5, _ => rfl
      | 6, _ => rfl
      | 7, _ => rfl
    rw [this]
  · have hi8 : i = 8 := by omega
    subst hi8
    have el := load_whole (n := 8) hg2 (by rw [wordsA_length, xorTo_length])
    have hfill : ∀ H' : Heap, fillA (zeros [.int .u8 ((0 : Nat) : Int)] 11) [(0, 1), (1, 1), (2, 1), (3, 1), (4, 1), (5, 1), (6, 1), (7, 1), (8, 1), (9, 1), (10, 1)] [.int .u8 ((83 : Nat) : Int), .int .u8 ((72 : Nat) : Int), .int .u8 ((65 : Nat) : Int), .int .u8 ((45 : Nat) : Int), .int .u8 ((53 : Nat) : Int), .int .u8 ((49 : Nat) : Int), .int .u8 ((50 : Nat) : Int), .int .u8 ((47 : Nat) : Int), .int .u8 ((50 : Nat) : Int), .int .u8 ((53 : Nat) : Int), .int .u8 ((54 : Nat) : Int)] = some (bytesA [83, 72, 65, 45, 53, 49, 50, 47, 50, 53, 54]) := fun _ => rfl
    have ecv : ∀ K' : AV → Heap → Prop, opX (Wp tab5) (.cvSS 5) [.sl H2.next 0 11 (some 11) 5] (H2.push (.cells true (bytesA [83, 72, 65, 45, 53, 49, 50, 47, 50, 53, 54]))) K' = K' (.sl H2.next 0 11 (some 11) 5) (H2.push (.cells true (bytesA [83, 72, 65, 45, 53, 49, 50, 47, 50, 53, 54]))) := fun K' => by
      rw [opX_eff rfl]
      simp only [effOp, get_push_new]
      exact optX_some _ _
    simp -dsimp only [el, opX_buildSlice, hfill H2, ecv, call5_digest, regX_cons, evs, ev, Env.get, evX_some, Env.putO, optX_some, opX_call, List.nil_append, List.append_nil, Int.ofNat_eq_natCast]
    rw [callX_eq]
    have hk3 := Keep.push [] H2 (.cells true (bytesA [83, 72, 65, 45, 53, 49, 50, 47, 50, 53, 54]))
    have hkA : Keep [] H (H2.push (.cells true (bytesA [83, 72, 65, 45, 53, 49, 50, 47, 50, 53, 54]))) := (hk1.trans' hk2 (by simp)).trans hk3
    refine digest_w (l := [83, 72, 65, 45, 53, 49, 50, 47, 50, 53, 54]) (hG.keep hkA (by simp) (by simp)) (xorTo_length 8) (.some _ _ _ _ true _ _ (get_push_new _ _) (by simp) rfl (by simp)) (by omega) ?_
    intro H4 hk4
    have hD : (bytesOfN (digestN (xorTo 8) [83, 72, 65, 45, 53, 49, 50, 47, 50, 53, 54])).length = 64 := by
      have := digestN_length (h := xorTo 8) (b := [83, 72, 65, 45, 53, 49, 50, 47, 50, 53, 54]) (xorTo_length 8)
      obtain ⟨a, b, c, d, e, f, g, x, hx⟩ := list8_of this
      rw [hx]; rfl
    have hW8 : wordsOf 8 (bytesOfN (digestN (xorTo 8) [83, 72, 65, 45, 53, 49, 50, 47, 50, 53, 54])) = shaBegin := shaFirst_eq
    generalize bytesOfN (digestN (xorTo 8) [83, 72, 65, 45, 53, 49, 50, 47, 50, 53, 54]) = D at *
    simp -dsimp only [regX_cons, evs, ev, Env.get, evX_some, Env.putO, opX_store_agg, opX_alloc, Int.ofNat_eq_natCast]
    generalize hZ : (AObj.cells true [AV.int IntKind.u8 ((0 : Nat) : Int), _, _, _, _, _, _, _, _, _, _, _, _, _, _, _, _, _, _, _, _, _, _, _, _, _, _, _, _, _, _, _, _, _, _, _, _, _, _, _, _, _, _, _, _, _, _, _, _, _, _, _, _, _, _, _, _, _, _, _, _, _, _, _]) = Z64
    have hZ' : ∃ z, Z64 = .cells true z ∧ z.length = 64 := ⟨_, hZ.symm, rfl⟩
    clear hZ
    obtain ⟨z, rfl, hz64⟩ := hZ'
    have ew : (H4.push (.cells true z)).write H4.next 0 (bytesA D) = _ := write_whole (get_push_new _ _) (by rw [bytesA_length, hD, hz64])
    simp -dsimp only [ew, cX_seq, cX_reg, cX_block, cX_loop, regX_cons, regX_nil, evs, ev, Env.get, evX_some, Env.putO, Env.keep, outX_normal, optX_some, opX_move, Int.ofNat_eq_natCast]
    refine ⟨⟨by rw [bytesA_length, hD], bytesA_one _⟩, ?_⟩
    rw [loopX_eq]
    generalize hH5 : (H4.push (.cells true z)).set H4.next (.cells true (bytesA D)) = H5
    have hk5 : Keep [] H4 H5 := by rw [← hH5]; exact (Keep.push _ _ _).trans' (Keep.set (S := [H4.next]) _ (.inr (by simp))) (by simp)
    have hn5 : H5.next = H4.next + 1 := by rw [← hH5]; simp
    have hgD : H5.get H4.next = some (.cells true (bytesA D)) := by rw [← hH5]; exact get_set_same _ _ _
    have hn2 := hk2.next
    have hn4 := hk4.next
    rw [Heap.next_push] at hn4
    have hg5 : H5.get (H.next + 1) = some (.cells true (wordsA (xorTo 8))) := by
      rw [hk5.same _ (by omega) (by simp), hk4.same _ (by simp; omega) (by simp), get_push_old (by omega), hg2]
    have hl5 : ∀ i, i ≤ 8 → ((wordsOf 8 D).take i ++ (xorTo 8).drop i).length = 8 := by
      intro i hi; simp [wordsOf_length, xorTo_length]; omega
    refine Wp.loop tab5_mono (fun m e' H' => ∃ i, i ≤ 8 ∧ m = 8 - i ∧ Keep [H.next + 1] H5 H' ∧ H'.get (H.next + 1) = some (.cells true (wordsA ((wordsOf 8 D).take i ++ (xorTo 8).drop i))) ∧ e' = [(0, .ptr H.next 0), (1, .ptr (H.next + 1) 0), (3, .ptr H4.next 0), (19, .int .i64 i)]) ?_ 8 _ _ ⟨0, by omega, rfl, Keep.refl _ _, hg5, rfl⟩
    rintro m e' H6 ⟨i, hi, rfl, hk6, hg6, rfl⟩
    simp -dsimp only [cX_seq, cX_reg, cX_cond, cX_block, cX_exit, cX_skip, regX_cons, regX_nil, evs, ev, Env.get, evX_some, Env.putO, Env.keep, outX_normal, outX_exit, optX_some, opX_move, opX_bin, opX_load, bin_mul_i64, bin_lss, brX_decide, Int.ofNat_eq_natCast]
    refine ⟨fun hi8 => ?_, fun hge => ?_⟩
    · have ei : IntKind.i64.wrap ((i : Int) + ((1 : Nat) : Int)) = ((i + 1 : Nat) : Int) := by rw [wrap_i64 (by omega) (by omega)]; omega
      have em : IntKind.i64.wrap (((8 : Nat) : Int) * (i : Int)) = ((8 * i : Nat) : Int) := by rw [wrap_i64 (by omega) (by omega)]; omega
      simp -dsimp only [em, opX_slice, slice_arr_lo (show 8 * i ≤ 64 by omega), call5_word, regX_cons, evs, ev, Env.get, evX_some, Env.putO, optX_some, opX_call, List.nil_append, List.append_nil, Nat.mul_one, Nat.zero_add]
      rw [callX_eq]
      refine word_w (l := (D.drop (8 * i)).take 8) (hk6.get (by omega) (by simp; omega) hgD) (by omega) rfl (by omega) ?_
      have ewi : ∀ w : Nat, H6.write (H.next + 1) i [.int .u64 (w : Int)] = some (H6.set (H.next + 1) (.cells true (wordsA (((wordsOf 8 D).take i ++ (xorTo 8).drop i).set i w)))) := fun w => by
        rw [write_one hg6 (by rw [wordsA_length, hl5 i (by omega)]; omega), wordsA_set]
      simp -dsimp only [ei, ewi, cX_reg, regX_cons, regX_nil, evs, ev, Env.get, evX_some, Env.putO, Env.keep, outX_normal, optX_some, opX_move, opX_bin, opX_store_int, opX_idxArr, bin_add_i64, Int.ofNat_eq_natCast, Int.toNat_natCast, Nat.mul_one, Nat.zero_add]
      refine ⟨by omega, 8 - (i + 1), by omega, i + 1, by omega, rfl, hk6.trans (Keep.set _ (.inr (by simp))), ?_, rfl⟩
      rw [get_set_same]
      have h1 : ((wordsOf 8 D).take i).length = i := by simp [wordsOf_length]; omega
      have h2 : i < (wordsOf 8 D).length := by rw [wordsOf_length]; omega
      have h3 : i < (xorTo 8).length := by rw [xorTo_length]; omega
      rw [List.set_append_right _ _ (by omega), h1, Nat.sub_self, List.drop_eq_getElem_cons h3, List.set_cons_zero, take_snoc h2, List.append_assoc, wordsOf_get]
      rfl
    · have hi8 : i = 8 := by omega
      subst hi8
      have hW : (wordsOf 8 D).take 8 ++ (xorTo 8).drop 8 = shaBegin := by
        rw [List.take_of_length_le (by rw [wordsOf_length]; omega), List.drop_of_length_le (by rw [xorTo_length]; omega), List.append_nil, hW8]
      rw [hW] at hg6
      have hb8 : shaBegin.length = 8 := rfl
      have el6 := load_whole (n := 8) hg6 (by rw [wordsA_length, hb8])
      have hz6 : H6.get H.next = some (.cells true Z) := by
        rw [hk6.same _ (by omega) (by simp), hk5.same _ (by omega) (by simp), hk4.same _ (by simp; omega) (by simp), get_push_old (by omega), hk2.same _ (by omega) (by simp), g0]
      have ew6 : H6.write H.next 0 (wordsA shaBegin) = _ := write_whole hz6 (by rw [wordsA_length, hb8, hzl])
      have el7 := load_whole (n := 8) (get_set_same H6 H.next (.cells true (wordsA shaBegin))) (by rw [wordsA_length, hb8])
      simp -dsimp only [el6, ew6, el7, cX_ret, regX_cons, regX_nil, evs, ev, Env.get, evX_some, Env.putO, Env.keep, outX_normal, retX_ret, resultsA, resultsL, resultOf, optX_some, opX_store_agg]
      refine ⟨⟨by rw [wordsA_length, hb8], wordsA_one _⟩, h _ ?_⟩
      exact (((hkA.trans hk4).trans hk5).trans' hk6 (by simp)).trans' (Keep.set (S := [H.next]) _ (.inr (by simp))) (by simp)
end Go.AE
